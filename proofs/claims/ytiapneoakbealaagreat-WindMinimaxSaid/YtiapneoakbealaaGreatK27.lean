/- Lemmas for the claim (contracts of the functions that it reaches, and what they compute), without conditions. -/
import Derived.Test.YtiapneoakbealaaGreatK26
import Derived.Test.YtiapneoakbealaaGreatProg
import Derived.KernelRfl
set_option linter.unusedVariables false
set_option linter.unusedSimpArgs false
set_option maxRecDepth 10000
set_option maxHeartbeats 2000000
namespace GoAbs
open Go Go.Proofs
end GoAbs
namespace GoAbs
open Go Go.Proofs
def Ygy:List IOp := [oI 2 (.mv (.c .nils)) 0]
def Ygn:List IOp := [oI 5 (.bsl (some 4) 0 [.bool false,.nils,.bool false,.nils] []) 0,mI 3 5 1]
def Ye3:List IOp := [oI 4 (.mv (cI 0)) 0]
def Z6d:List IOp := [mI 6 4 0,mI 7 0 0,oI 8 (.len (.t 7)) 0,oI 9 (.bin .lss (.t 6) (.t 8)) 0]
def Yfq:List IOp := [mI 12 3 0,mI 13 0 0,mI 14 4 0,xI 15 1 13 14 0,lI 16 15 0,oI 17 (.call 21 [.t 16]) 0,oI 18 (.bsl (some 4) 1 [.bool false,.nils,.bool false,.nils] [(0,.t 17)]) 0,oI 19 (.app (some 4) 64 (.t 12) (.t 18)) 1,mI 3 19 2]
def Yfm:List IOp := [mI 10 4 0,oI 11 (.bin .add (.t 10) (cI 1)) 0,mI 4 11 0]
def Z5m:CC := .seq (.seq (.rg false Z6d) (.cond (.t 9) .skip (.exit 0))) (.seq (.block 1 (.rg false Yfq)) (.rg false Yfm))
def Yf4:List IOp := [mI 20 3 0,mI 2 20 0]
def Yzi:CC := .seq (.rg false Ygy) (.seq (.rg false Ygn) (.seq (.seq (.rg false Ye3) (.block 0 (.loop Z5m))) (.seq (.rg false Yf4) .ret)))
abbrev Y3m:Nat:=27
theorem Y1c:fnOk Tryz.prog 27=some (21,Yzi,[.tmp 2]):=by kernel_rfl
end GoAbs
namespace GoAbs
open Go
def ic (l:List Nat):List AV:=l.map fun (x:Nat)=>AV.int .i64 (x:Int)
theorem Yqr:ic [] = []:=rfl
theorem Yn3 {x:Nat}{l:List Nat}:ic (x::l) = .int .i64 x::ic l:=rfl
theorem Zao (l:List Nat):(ic l).length=l.length:=by simp [ic]
theorem Zn5 {l:List Nat}{i x:Nat}(h:l[i]? = some x):(ic l)[i]? = some (.int .i64 x):=by simp [ic,h]
theorem Z2o {l:List Nat}:∀ y,y∈ic l→y.cells.length=1:=by intro y hy; simp [ic] at hy; obtain ⟨a,_,rfl⟩:=hy; rfl
theorem Y0d {l:List Nat}{n:Nat}:(ic l).take n=ic (l.take n):=by simp [ic]
theorem Ybq {l r:List Nat}:ic (l++r)=ic l++ic r:=by simp [ic]
theorem Y6n {n:Nat}:(List.replicate n [AV.int .i64 0]).flatten=ic (List.replicate n 0):=by
 induction n with
 | zero=>rfl
 | succ n ih=>simp [List.replicate_succ,ih,ic]
theorem Yo7 {l:List Nat}:(ic l).flatMap AV.cells=ic l:=by
 induction l with
 | nil=>rfl
 | cons x l ih=>simp [Yn3,AV.cells,ih]
theorem Y7a {l:List Nat}{i x:Nat}:(ic l).set i (.int .i64 x)=ic (l.set i x):=by simp [ic,List.map_set]
theorem Ylq {H:Heap}{ids:List Nat}{b off len:Nat}{l:List AV}{r:List Nat}(hb:H[b]? = some (.cells l)) (hi:b∈ids) (hr:r.length=len) (hl:(l.drop off).take len=ic r) :
  BV H ids (.osl none b off len) (.sl (ic r)):=Yw3 (α:=Nat) (f:=fun (x:Nat)=>(x:Int)) hb hi hr hl
def vd:List Nat→Nat
 | []=>0
 | x::r=>x+10000*vd r
theorem Zk4 (l r:List Nat):vd (l++r)=vd l+10000 ^ l.length*vd r:=by
 induction l with
 | nil=>simp [vd]
 | cons x l ih =>
  simp only [List.cons_append,vd,ih,List.length_cons,Nat.pow_succ]
  rw [Nat.mul_add,Nat.add_assoc,Nat.mul_comm (10000 ^ l.length) 10000,Nat.mul_assoc]
theorem Yqw (n:Nat):vd (List.replicate n 0)=0:=by
 induction n with
 | zero=>rfl
 | succ n ih=>simp [List.replicate_succ,vd,ih]
def Od (l:List Nat):Prop:=∀ x,x∈l→x<10000
theorem Od.get {l:List Nat}(h:Od l) {i x:Nat}(hx:l[i]? = some x):x<10000:=h x (List.mem_of_getElem? hx)
theorem Od.take {l:List Nat}(h:Od l) {n:Nat}:Od (l.take n):=fun x hx=>h x (List.mem_of_mem_take hx)
theorem Od.append {l r:List Nat}(h:Od l) (h':Od r):Od (l++r):=fun x hx=>(List.mem_append.1 hx).elim (h x) (h' x)
theorem Od.rep {n:Nat}:Od (List.replicate n 0):=fun x hx=>by have:=(List.mem_replicate.1 hx).2; omega
theorem Ylr {l:List Nat}(h:Od l):vd l<10000 ^ l.length:=by
 induction l with
 | nil=>simp [vd]
 | cons x l ih =>
  have h1:=h x (by simp)
  have h2:=ih (fun y hy=>h y (by simp [hy]))
  have h3:10000*(vd l+1)≤10000*10000 ^ l.length:=Nat.mul_le_mul_left _ h2
  simp only [vd,List.length_cons,Nat.pow_succ]
  omega
def dg (n:Nat):List Nat:=if h:n=0 then [] else n % 10000::dg (n / 10000)
 termination_by n
 decreasing_by omega
theorem Zcg:dg 0 = []:=by unfold dg; simp
theorem Zz1 {n:Nat}(h:n≠0):dg n=n % 10000::dg (n / 10000):=by rw [dg]; simp [h]
theorem Yby {n:Nat}:dg n = []↔n=0:=by
 by_cases h:n=0
 ·simp [h,Zcg]
 ·simp [Zz1 h,h]
theorem Zn9 (n:Nat):vd (dg n)=n:=by
 induction n using Nat.strongRecOn with
 | _ n ih =>
  by_cases h:n=0
  ·subst h; simp [Zcg,vd]
  ·rw [Zz1 h,vd,ih (n / 10000) (by omega)]; omega
theorem Zum (n:Nat):Od (dg n):=by
 induction n using Nat.strongRecOn with
 | _ n ih =>
  by_cases h:n=0
  ·subst h; rw [Zcg]; intro x hx; simp at hx
  ·rw [Zz1 h]
   intro x hx
   rcases List.mem_cons.1 hx with rfl | hx
   ·omega
   ·exact ih (n / 10000) (by omega) x hx
theorem Y9e {n:Nat}(h:n≠0):∃ x,(dg n).getLast? = some x∧x≠0:=by
 induction n using Nat.strongRecOn with
 | _ n ih =>
  rw [Zz1 h]
  by_cases h2:n / 10000=0
  ·rw [h2,Zcg]; exact ⟨n % 10000,rfl,by omega⟩
  ·obtain ⟨x,h3,h4⟩:=ih _ (by omega) h2
   refine ⟨x,?_,h4⟩
   rw [Zz1 h2] at h3 ⊢
   rw [List.getLast?_cons_cons]; exact h3
theorem Xga {l:List Nat}(h:Od l):dg (vd l)=trimL l:=by
 have cons:∀ (x:Nat) (l:List Nat),x<10000→trimL (x::l)=if trimL l = [] then (if x=0 then [] else [x]) else x::trimL l:=by
  intro x l _
  unfold trimL
  rw [List.reverse_cons,List.dropWhile_append]
  by_cases h:(l.reverse.dropWhile (· == 0)) = []
  ·simp [h,List.dropWhile_cons]; split <;> simp_all
  ·simp [h]
 induction l with
 | nil=>simp [vd,Zcg,Z4x]
 | cons x l ih =>
  have hx:=h x (by simp)
  have ih:=ih (fun y hy=>h y (by simp [hy]))
  rw [cons x l hx, ← ih,vd]
  by_cases h0:vd l=0
  ·rw [h0,Zcg]
   by_cases hx0:x=0
   ·subst hx0; simp [Zcg]
   ·rw [Zz1 (by omega)]
    have h1:(x+10000*0) / 10000=0:=by omega
    rw [h1,Zcg]
    simp [hx0]; omega
  ·rw [Zz1 (by omega),if_neg (by rw [Yby]; exact h0)]
   congr 1
   ·omega
   ·congr 1; omega
theorem Zvk {l:List Nat}{n x:Nat}(h:l[n]? = some x):vd (l.take (n+1))=vd (l.take n)+10000 ^ n*x:=by
 have hn:n<l.length:=(List.getElem?_eq_some_iff.1 h).1
 have h2:l.take (n+1)=l.take n ++ [x]:=by rw [List.take_add_one,h]; rfl
 rw [h2,Zk4,List.length_take,Nat.min_eq_left (by omega)]
 simp [vd]
theorem Zc4 {l:List Nat}{n:Nat}(h:l.length≤n):vd (l.take n)=vd l:=by rw [List.take_of_length_le h]
theorem Y7h:∀ {l:List Nat}{i x v:Nat},l[i]? = some x→vd (l.set i v)+10000 ^ i*x=vd l+10000 ^ i*v
 | [],i,x,v,h=>by simp at h
 | y::l,0,x,v,h=>by
  simp at h; subst h
  simp only [List.set_cons_zero,vd,Nat.pow_zero,Nat.one_mul]; omega
 | y::l,i+1,x,v,h=>by
  have ih:=Y7h (l:=l) (i:=i) (x:=x) (v:=v) (by simpa using h)
  simp only [List.set_cons_succ,vd,Nat.pow_succ]
  rw [Nat.mul_comm (10000 ^ i) 10000,Nat.mul_assoc,Nat.mul_assoc]
  omega
theorem Od.set {l:List Nat}(h:Od l) {i v:Nat}(hv:v<10000):Od (l.set i v):=fun x hx=>by
 rcases List.mem_or_eq_of_mem_set hx with h1 | rfl
 ·exact h x h1
 ·exact hv
def lenD (n:Nat):Nat:=(dg n).length
theorem Ylv {a b:List Nat}(ha:Od a) (hb:Od b):∀ n,n≤a.length→n≤b.length →
  cmpTop n a b=if vd (a.take n)<vd (b.take n) then -1 else if vd (b.take n)<vd (a.take n) then 1 else 0
 | 0,_,_=>by simp [cmpTop,vd]
 | n+1,h1,h2=>by
  have ga:=getElem?_getD (show n<a.length by omega)
  have gb:=getElem?_getD (show n<b.length by omega)
  have la:vd (a.take n)<10000 ^ n:=by have:=Ylr (ha.take (n:=n)); rwa [List.length_take,Nat.min_eq_left (by omega)] at this
  have lb:vd (b.take n)<10000 ^ n:=by have:=Ylr (hb.take (n:=n)); rwa [List.length_take,Nat.min_eq_left (by omega)] at this
  rw [Zvk ga,Zvk gb,cmpTop,Ylv ha hb n (by omega) (by omega)]
  generalize a.getD n 0=x
  generalize b.getD n 0=y
  generalize vd (a.take n)=X at la ⊢
  generalize vd (b.take n)=Y at lb ⊢
  generalize 10000 ^ n=p at la lb ⊢
  by_cases hxy:x<y
  ·rw [if_pos hxy,if_pos (Z3e la hxy)]
  ·rw [if_neg hxy]
   by_cases hyx:y<x
   ·have:=Z3e (X:=Y) (Y:=X) lb hyx
    rw [if_pos hyx,if_neg (by omega),if_pos this]
   ·have:x=y:=by omega
    subst this
    rw [if_neg hyx]
    by_cases h3:X<Y
    ·have h5:X+p*x<Y+p*x:=by omega
     rw [if_pos h3,if_pos h5]
    ·have h5:¬ X+p*x<Y+p*x:=by omega
     rw [if_neg h3,if_neg h5]
     by_cases h4:Y<X
     ·have h6:Y+p*x<X+p*x:=by omega
      rw [if_pos h4,if_pos h6]
     ·have h6:¬ Y+p*x<X+p*x:=by omega
      rw [if_neg h4,if_neg h6]
theorem Za7 {m n:Nat}(h:m≤n):lenD m≤lenD n:=by
 unfold lenD
 induction n using Nat.strongRecOn generalizing m with
 | _ n ih =>
  by_cases hm:m=0
  ·subst hm; simp [Zcg]
  ·rw [Zz1 hm,Zz1 (show n≠0 by omega),List.length_cons,List.length_cons]
   have := @ih (n / 10000) (by omega) (m / 10000) (Nat.div_le_div_right h)
   omega
theorem Y92 (m n:Nat):cmpL (dg m) (dg n)=if m<n then -1 else if n<m then 1 else 0:=by
 unfold cmpL
 by_cases h1:(dg m).length<(dg n).length
 ·have:m<n:=by
   rcases Nat.lt_or_ge m n with h | h
   ·exact h
   ·have:=Za7 h; unfold lenD at this; omega
  rw [if_pos h1,if_pos this]
 ·rw [if_neg h1]
  by_cases h2:(dg n).length<(dg m).length
  ·have:n<m:=by
    rcases Nat.lt_or_ge n m with h | h
    ·exact h
    ·have:=Za7 h; unfold lenD at this; omega
   rw [if_pos h2,if_neg (by omega),if_pos this]
  ·have h3:(dg m).length=(dg n).length:=by omega
   rw [if_neg h2,Ylv (Zum m) (Zum n) _ (Nat.le_refl _) (by omega),List.take_length,h3,List.take_length,Zn9,Zn9]
theorem Zpy {x k:Nat}(h:x<10000 ^ k):lenD x≤k:=by
 by_cases h0:x=0
 ·subst h0; simp [lenD,Zcg]
 ·obtain ⟨t,h1,h2⟩:=Y9e h0
  obtain ⟨ys,hy⟩:=List.getLast?_eq_some_iff.1 h1
  have hv:=Zn9 x
  rw [hy,Zk4] at hv
  simp only [vd,Nat.mul_zero,Nat.add_zero] at hv
  unfold lenD
  rw [hy,List.length_append,List.length_singleton]
  rcases Nat.lt_or_ge ys.length k with h3 | h3
  ·omega
  ·exfalso
   have h4:10000 ^ k≤10000 ^ ys.length:=Nat.pow_le_pow_right (by omega) h3
   have h5:10000 ^ ys.length*1≤10000 ^ ys.length*t:=Nat.mul_le_mul_left _ (by omega)
   generalize 10000 ^ ys.length=Z at *
   generalize 10000 ^ k=Y at *
   omega
theorem Zky (x:Nat):x<10000 ^ lenD x:=by
 have:=Ylr (Zum x)
 rwa [Zn9] at this
theorem Y7u {x k:Nat}(h:10000 ^ k≤x):k<lenD x:=by
 have h1:=Zky x
 exact (Nat.pow_lt_pow_iff_right (by omega:1<10000)).1 (Nat.lt_of_le_of_lt h h1)
end GoAbs
namespace GoAbs
open Go Go.Proofs
def Z7i:List IOp := [oI 1 (.box (.t 0)) 0,oI 2 (.alloc [.bool false,.nils]) 1]
def Z87:List IOp := [fI 4 1 1 0,lI 5 4 0,oI 6 (.len (.t 5)) 0,mI 3 6 0]
def Zlw:List IOp := [mI 7 3 0,oI 8 (.bin .gtr (.t 7) (cI 0)) 0,mI 9 8 0,gI 10 (.fa 1 (.t 1)) 0 9 true,gI 11 (.ld none (.t 10)) 0 9 true,gI 12 (.mv (.t 3)) 0 9 true,gI 13 (.bin .sub (.t 12) (cI 1)) 0 9 true,gI 14 (.idx 1 (.t 11) (.t 13)) 0 9 true,gI 15 (.ld none (.t 14)) 0 9 true,gI 16 (.bin .eql (.t 15) (cI 0)) 0 9 true,oI 17 (.pick (.t 9) (.t 16) (.c (.bool false))) 0]
def Z7f:List IOp := [mI 18 3 0,oI 19 (.bin .sub (.t 18) (cI 1)) 0,mI 3 19 0]
def Zuk:CC := .seq (.seq (.rg false Zlw) (.cond (.t 17) .skip (.exit 0))) (.block 1 (.rg false Z7f))
def Zub:List IOp := [oI 20 (.bsl none 0 [.int .i64 0] []) 0,fI 21 1 1 1,lI 22 21 1,mI 23 3 1,oI 24 (.slc 1 (.t 22) none (some (.t 23))) 1,oI 25 (.app none 8 (.t 20) (.t 24)) 1,fI 26 1 1 2,⟨none,.st 1 (.t 26) (.t 25),2,[],[],none⟩]
def Ztt:List IOp := [fI 27 0 1 0,lI 28 27 0,mI 29 28 0,gI 30 (.mv (.t 3)) 0 29 true,gI 31 (.bin .gtr (.t 30) (cI 0)) 0 29 true,oI 32 (.pick (.t 29) (.t 31) (.c (.bool false))) 0,fI 33 0 1 0,⟨none,.st 1 (.t 33) (.t 32),0,[],[],none⟩]
def Zvm:List IOp := [lJ 34 2 1 0,⟨none,.st 2 (.t 2) (.t 34),0,[],[],none⟩]
def Ymu:CC := .seq (.rg false Z7i) (.seq (.rg false Z87) (.seq (.block 0 (.loop Zuk)) (.seq (.rg false Zub) (.seq (.rg false Ztt) (.seq (.rg false Zvm) .ret)))))
abbrev Yfy:Nat:=90
theorem Yoi:fnOk Tryz.prog 90=some (35,Ymu,[.cell 2 (some 2)]):=by kernel_rfl
def Yd4:List IOp := [oI 2 (.alloc [.bool false,.nils]) 0]
def Yci:List IOp := [mI 5 0 0,oI 6 (.bin .lss (.t 5) (cI 0)) 0,oI 7 (.build [.bool false,.nils] [(0,1,.t 6)]) 0,oI 3 (.alloc [.bool false,.nils]) 0,⟨none,.st 2 (.t 3) (.t 7),1,[],[],none⟩]
def Zp7:List IOp := [mI 8 0 0,oI 9 (.bin .neq (.t 8) (cI 0)) 0]
def Z0r:List IOp := [mI 10 0 0,oI 11 (.bin .rem (.t 10) (cI 10000)) 0,mI 4 11 0]
def Z0o:List IOp := [mI 12 4 0,oI 13 (.bin .lss (.t 12) (cI 0)) 0]
def Ycw:List IOp := [mI 14 4 0,oI 15 (.un .neg (.t 14)) 0,mI 4 15 0]
def Z08:List IOp := [fI 16 1 3 0,lI 17 16 0,mI 18 4 0,oI 19 (.bsl none 1 [.int .i64 0] [(0,.t 18)]) 0,oI 20 (.app none 8 (.t 17) (.t 19)) 1,fI 21 1 3 2,⟨none,.st 1 (.t 21) (.t 20),2,[],[],none⟩]
def Z0t:List IOp := [mI 22 0 0,oI 23 (.bin .quo (.t 22) (cI 10000)) 0,mI 0 23 0]
def Zpd:CC := .seq (.seq (.rg false Zp7) (.cond (.t 9) .skip (.exit 0))) (.block 1 (.seq (.rg false Z0r) (.seq (.seq (.rg false Z0o) (.cond (.t 13) (.rg false Ycw) .skip)) (.seq (.rg false Z08) (.rg false Z0t)))))
def Z04:List IOp := [lJ 24 2 3 0,⟨none,.st 2 (.t 2) (.t 24),0,[],[],none⟩]
def Yqz:CC := .seq (.rg false Yd4) (.seq (.rg false Yci) (.seq (.block 0 (.loop Zpd)) (.seq (.rg false Z04) .ret)))
abbrev Ydr:Nat:=64
theorem Yuf:fnOk Tryz.prog 64=some (25,Yqz,[.cell 2 (some 2)]):=by kernel_rfl
def Z22:List IOp := [oI 4 (.mv (cI 0)) 0]
def Z3f:List IOp := [mI 6 0 0,oI 7 (.len (.t 6)) 0,mI 8 1 0,oI 9 (.len (.t 8)) 0,oI 10 (.bin .neq (.t 7) (.t 9)) 0]
def Z2c:List IOp := [mI 11 0 0,oI 12 (.len (.t 11)) 0,mI 13 1 0,oI 14 (.len (.t 13)) 0,oI 15 (.bin .lss (.t 12) (.t 14)) 0]
def Z4p:List IOp := [oI 4 (.mv (cI (-1))) 0]
def Z4r:List IOp := [oI 4 (.mv (cI 1)) 0]
def Z2p:List IOp := [mI 16 0 0,oI 17 (.len (.t 16)) 0,oI 18 (.bin .sub (.t 17) (cI 1)) 0,mI 5 18 0]
def Zp0:List IOp := [mI 19 5 0,oI 20 (.bin .geq (.t 19) (cI 0)) 0]
def Zqy:List IOp := [mI 23 0 0,mI 24 5 0,xI 25 1 23 24 0,lI 26 25 0,mI 27 1 0,mI 28 5 0,xI 29 1 27 28 0,lI 30 29 0,oI 31 (.bin .lss (.t 26) (.t 30)) 0]
@[go_sem ↓] theorem Ybs : autoK Zqy = (0, 0) := by kernel_rfl
@[go_sem] theorem Yv8 : autoK [mI 23 0 0, mI 24 5 0, xI 25 1 23 24 0, lI 26 25 0, mI 27 1 0, mI 28 5 0, xI 29 1 27 28 0, lI 30 29 0, oI 31 (.bin .lss (.t 26) (.t 30)) 0] = (0, 0) := Ybs
def Z3c:List IOp := [oI 4 (.mv (cI (-1))) 0]
def Zmw:List IOp := [mI 32 0 0,mI 33 5 0,xI 34 1 32 33 0,lI 35 34 0,mI 36 1 0,mI 37 5 0,xI 38 1 36 37 0,lI 39 38 0,oI 40 (.bin .gtr (.t 35) (.t 39)) 0]
@[go_sem ↓] theorem Z9j : autoK Zmw = (0, 0) := by kernel_rfl
@[go_sem] theorem Yvb : autoK [mI 32 0 0, mI 33 5 0, xI 34 1 32 33 0, lI 35 34 0, mI 36 1 0, mI 37 5 0, xI 38 1 36 37 0, lI 39 38 0, oI 40 (.bin .gtr (.t 35) (.t 39)) 0] = (0, 0) := Z9j
def Zxi:List IOp := [oI 4 (.mv (cI 1)) 0]
def Zyb:List IOp := [mI 21 5 0,oI 22 (.bin .sub (.t 21) (cI 1)) 0,mI 5 22 0]
def Zqq:CC := .seq (.seq (.rg false Zp0) (.cond (.t 20) .skip (.exit 0))) (.seq (.block 1 (.seq (.seq (.rg true Zqy) (.cond (.t 31) (.seq (.rg false Z3c) .ret) .skip)) (.seq (.rg true Zmw) (.cond (.t 40) (.seq (.rg false Zxi) .ret) .skip)))) (.rg false Zyb))
def Zx1:List IOp := [oI 4 (.mv (cI 0)) 0]
def Ygi:CC := .seq (.rg false Z22) (.seq (.seq (.rg false Z3f) (.cond (.t 10) (.seq (.seq (.rg false Z2c) (.cond (.t 15) (.seq (.rg false Z4p) .ret) .skip)) (.seq (.rg false Z4r) .ret)) .skip)) (.seq (.seq (.rg false Z2p) (.block 0 (.loop Zqq))) (.seq (.rg false Zx1) .ret)))
abbrev Yb4:Nat:=94
theorem Yjv:fnOk Tryz.prog 94=some (41,Ygi,[.tmp 4]):=by kernel_rfl
def Z67:List IOp := [oI 4 (.mv (.c .nils)) 0]
def Z8h:List IOp := [oI 9 (.bsl none 0 [.int .i64 0] []) 0,mI 5 9 1,oI 6 (.mv (cI 0)) 1]
def Z70:List IOp := [oI 7 (.mv (cI 0)) 0]
def Zfi:List IOp := [mI 10 7 0,mI 11 0 0,oI 12 (.len (.t 11)) 0,oI 13 (.bin .lss (.t 10) (.t 12)) 0,mI 14 13 0,gI 15 (.mv (.t 7)) 0 14 false,gI 16 (.mv (.t 1)) 0 14 false,gI 17 (.len (.t 16)) 0 14 false,gI 18 (.bin .lss (.t 15) (.t 17)) 0 14 false,oI 19 (.pick (.t 14) (.c (.bool true)) (.t 18)) 0,mI 20 19 0,gI 21 (.mv (.t 6)) 0 20 false,gI 22 (.bin .gtr (.t 21) (cI 0)) 0 20 false,oI 23 (.pick (.t 20) (.c (.bool true)) (.t 22)) 0]
def Zhv:List IOp := [mI 26 6 0,mI 8 26 0]
def Zh4:List IOp := [mI 27 7 0,mI 28 0 0,oI 29 (.len (.t 28)) 0,oI 30 (.bin .lss (.t 27) (.t 29)) 0]
def Zvi:List IOp := [mI 31 8 0,mI 32 0 0,mI 33 7 0,xI 34 1 32 33 0,lI 35 34 0,oI 36 (.bin .add (.t 31) (.t 35)) 0,mI 8 36 0]
def Zh5:List IOp := [mI 37 7 0,mI 38 1 0,oI 39 (.len (.t 38)) 0,oI 40 (.bin .lss (.t 37) (.t 39)) 0]
def Zte:List IOp := [mI 41 8 0,mI 42 1 0,mI 43 7 0,xI 44 1 42 43 0,lI 45 44 0,oI 46 (.bin .add (.t 41) (.t 45)) 0,mI 8 46 0]
def Zgk:List IOp := [mI 47 5 0,mI 48 8 0,oI 49 (.bin .rem (.t 48) (cI 10000)) 0,oI 50 (.bsl none 1 [.int .i64 0] [(0,.t 49)]) 0,oI 51 (.app none 8 (.t 47) (.t 50)) 1,mI 52 8 2,oI 53 (.bin .quo (.t 52) (cI 10000)) 2,mI 5 51 2,mI 6 53 2]
def Zgj:List IOp := [mI 24 7 0,oI 25 (.bin .add (.t 24) (cI 1)) 0,mI 7 25 0]
def Zwb:CC := .seq (.seq (.rg false Zfi) (.cond (.t 23) .skip (.exit 0))) (.seq (.block 1 (.seq (.rg false Zhv) (.seq (.seq (.rg false Zh4) (.cond (.t 30) (.rg false Zvi) .skip)) (.seq (.seq (.rg false Zh5) (.cond (.t 40) (.rg false Zte) .skip)) (.rg false Zgk))))) (.rg false Zgj))
def Z2g:List IOp := [mI 54 5 0,mI 4 54 0]
def Yk7:CC := .seq (.rg false Z67) (.seq (.rg false Z8h) (.seq (.seq (.rg false Z70) (.block 0 (.loop Zwb))) (.seq (.rg false Z2g) .ret)))
abbrev Yvn:Nat:=93
theorem Yox:fnOk Tryz.prog 93=some (55,Yk7,[.tmp 4]):=by kernel_rfl
def Z7d:List IOp := [oI 4 (.mv (.c .nils)) 0]
def Z9f:List IOp := [oI 9 (.bsl none 0 [.int .i64 0] []) 0,mI 5 9 1,oI 6 (.mv (cI 0)) 1]
def Z6p:List IOp := [oI 7 (.mv (cI 0)) 0]
def Zfm:List IOp := [mI 10 7 0,mI 11 0 0,oI 12 (.len (.t 11)) 0,oI 13 (.bin .lss (.t 10) (.t 12)) 0]
def Zia:List IOp := [mI 16 0 0,mI 17 7 0,xI 18 1 16 17 0,lI 19 18 0,mI 20 6 0,oI 21 (.bin .sub (.t 19) (.t 20)) 0,mI 8 21 0]
def Zib:List IOp := [mI 22 7 0,mI 23 1 0,oI 24 (.len (.t 23)) 0,oI 25 (.bin .lss (.t 22) (.t 24)) 0]
def Zuh:List IOp := [mI 26 8 0,mI 27 1 0,mI 28 7 0,xI 29 1 27 28 0,lI 30 29 0,oI 31 (.bin .sub (.t 26) (.t 30)) 0,mI 8 31 0]
def Zhy:List IOp := [oI 6 (.mv (cI 0)) 0]
def Zhz:List IOp := [mI 32 8 0,oI 33 (.bin .lss (.t 32) (cI 0)) 0]
def Zqb:List IOp := [mI 34 8 0,oI 35 (.bin .add (.t 34) (cI 10000)) 0,mI 8 35 0,oI 6 (.mv (cI 1)) 0]
def Zgn:List IOp := [mI 36 5 0,mI 37 8 0,oI 38 (.bsl none 1 [.int .i64 0] [(0,.t 37)]) 0,oI 39 (.app none 8 (.t 36) (.t 38)) 1,mI 5 39 2]
def Zf5:List IOp := [mI 14 7 0,oI 15 (.bin .add (.t 14) (cI 1)) 0,mI 7 15 0]
def Zwp:CC := .seq (.seq (.rg false Zfm) (.cond (.t 13) .skip (.exit 0))) (.seq (.block 1 (.seq (.rg false Zia) (.seq (.seq (.rg false Zib) (.cond (.t 25) (.rg false Zuh) .skip)) (.seq (.rg false Zhy) (.seq (.seq (.rg false Zhz) (.cond (.t 33) (.rg false Zqb) .skip)) (.rg false Zgn)))))) (.rg false Zf5))
def Z2d:List IOp := [mI 40 5 0,mI 4 40 0]
def Yj6:CC := .seq (.rg false Z7d) (.seq (.rg false Z9f) (.seq (.seq (.rg false Z6p) (.block 0 (.loop Zwp))) (.seq (.rg false Z2d) .ret)))
abbrev Yu9:Nat:=95
theorem Ynx:fnOk Tryz.prog 95=some (41,Yj6,[.tmp 4]):=by kernel_rfl
def Zpw:List IOp := [oI 1 (.box (.t 0)) 0,oI 2 (.alloc [.bool false,.nils]) 1]
def Zoc:List IOp := [fI 3 0 1 0,lI 4 3 0,oI 5 (.un .not (.t 4)) 0,mI 6 5 0,gI 7 (.fa 1 (.t 1)) 0 6 true,gI 8 (.ld none (.t 7)) 0 6 true,gI 9 (.len (.t 8)) 0 6 true,gI 10 (.bin .gtr (.t 9) (cI 0)) 0 6 true,oI 11 (.pick (.t 6) (.t 10) (.c (.bool false))) 0,fI 12 0 1 0,⟨none,.st 1 (.t 12) (.t 11),0,[],[],none⟩]
def Zon:List IOp := [lJ 13 2 1 0,⟨none,.st 2 (.t 2) (.t 13),0,[],[],none⟩]
def Yp1:CC := .seq (.rg false Zpw) (.seq (.rg false Zoc) (.seq (.rg false Zon) .ret))
abbrev Yzd:Nat:=88
theorem Yu7:fnOk Tryz.prog 88=some (14,Yp1,[.cell 2 (some 2)]):=by kernel_rfl
def Ybi:List IOp := [oI 1 (.box (.t 0)) 0,oI 2 (.alloc [.bool false,.nils]) 1]
def Yb3:List IOp := [fI 3 0 1 0,⟨none,.st 1 (.t 3) (.c (.bool false)),0,[],[],none⟩]
def Ybo:List IOp := [lJ 4 2 1 0,⟨none,.st 2 (.t 2) (.t 4),0,[],[],none⟩]
def Ypz:CC := .seq (.rg false Ybi) (.seq (.rg false Yb3) (.seq (.rg false Ybo) .ret))
abbrev Yxk:Nat:=92
theorem Yth:fnOk Tryz.prog 92=some (5,Ypz,[.cell 2 (some 2)]):=by kernel_rfl
def Zos:List IOp := [oI 2 (.box (.t 0)) 0,oI 3 (.box (.t 1)) 1,oI 4 (.alloc [.bool false,.nils]) 2]
def Zqg:List IOp := [fI 5 0 2 0,lI 6 5 0,fI 7 0 3 0,lI 8 7 0,oI 9 (.beq false (.t 6) (.t 8)) 0]
def Z02:List IOp := [fI 10 0 2 0,lI 11 10 0,fI 12 1 2 0,lI 13 12 0,fI 14 1 3 0,lI 15 14 0,oI 16 (.call 93 [.t 13,.t 15]) 0,oI 17 (.build [.bool false,.nils] [(0,1,.t 11),(1,1,.t 16)]) 0,oI 18 (.callw 90 [.t 17]) 0,⟨none,.st 2 (.t 4) (.t 18),0,[],[],none⟩]
@[go_sem ↓] theorem Yhf : autoK Z02 = (0, 1) := by kernel_rfl
@[go_sem] theorem Y16 : autoK [fI 10 0 2 0, lI 11 10 0, fI 12 1 2 0, lI 13 12 0, fI 14 1 3 0, lI 15 14 0, oI 16 (.call 93 [.t 13, .t 15]) 0, oI 17 (.build [.bool false, .nils] [(0, 1, .t 11), (1, 1, .t 16)]) 0, oI 18 (.callw 90 [.t 17]) 0, ⟨none, .st 2 (.t 4) (.t 18), 0, [], [], none⟩] = (0, 1) := Yhf
def Z0j:List IOp := [fI 19 1 2 0,lI 20 19 0,fI 21 1 3 0,lI 22 21 0,oI 23 (.call 94 [.t 20,.t 22]) 0,oI 24 (.bin .geq (.t 23) (cI 0)) 0]
def Z0k:List IOp := [fI 25 0 2 0,lI 26 25 0,fI 27 1 2 0,lI 28 27 0,fI 29 1 3 0,lI 30 29 0,oI 31 (.call 95 [.t 28,.t 30]) 0,oI 32 (.build [.bool false,.nils] [(0,1,.t 26),(1,1,.t 31)]) 0,oI 33 (.callw 90 [.t 32]) 0,⟨none,.st 2 (.t 4) (.t 33),0,[],[],none⟩]
@[go_sem ↓] theorem Yhg : autoK Z0k = (0, 1) := by kernel_rfl
@[go_sem] theorem Y1r : autoK [fI 25 0 2 0, lI 26 25 0, fI 27 1 2 0, lI 28 27 0, fI 29 1 3 0, lI 30 29 0, oI 31 (.call 95 [.t 28, .t 30]) 0, oI 32 (.build [.bool false, .nils] [(0, 1, .t 26), (1, 1, .t 31)]) 0, oI 33 (.callw 90 [.t 32]) 0, ⟨none, .st 2 (.t 4) (.t 33), 0, [], [], none⟩] = (0, 1) := Yhg
def Z1i:List IOp := [fI 34 0 3 0,lI 35 34 0,fI 36 1 3 0,lI 37 36 0,fI 38 1 2 0,lI 39 38 0,oI 40 (.call 95 [.t 37,.t 39]) 0,oI 41 (.build [.bool false,.nils] [(0,1,.t 35),(1,1,.t 40)]) 0,oI 42 (.callw 90 [.t 41]) 0,⟨none,.st 2 (.t 4) (.t 42),0,[],[],none⟩]
@[go_sem ↓] theorem Yiw : autoK Z1i = (0, 1) := by kernel_rfl
@[go_sem] theorem Y1u : autoK [fI 34 0 3 0, lI 35 34 0, fI 36 1 3 0, lI 37 36 0, fI 38 1 2 0, lI 39 38 0, oI 40 (.call 95 [.t 37, .t 39]) 0, oI 41 (.build [.bool false, .nils] [(0, 1, .t 35), (1, 1, .t 40)]) 0, oI 42 (.callw 90 [.t 41]) 0, ⟨none, .st 2 (.t 4) (.t 42), 0, [], [], none⟩] = (0, 1) := Yiw
def Yqo:CC := .seq (.rg false Zos) (.seq (.seq (.rg false Zqg) (.cond (.t 9) (.seq (.rg true Z02) .ret) .skip)) (.seq (.seq (.rg false Z0j) (.cond (.t 24) (.seq (.rg true Z0k) .ret) .skip)) (.seq (.rg true Z1i) .ret)))
abbrev Y0e:Nat:=65
theorem Ytt:fnOk Tryz.prog 65=some (43,Yqo,[.cell 4 (some 2)]):=by kernel_rfl
def Yc0:List IOp := [oI 2 (.box (.t 0)) 0,oI 3 (.box (.t 1)) 1,oI 4 (.alloc [.bool false,.nils]) 2]
def Z0n:List IOp := [lJ 5 2 2 0,lJ 6 2 3 0,oI 7 (.call 88 [.t 6]) 0,oI 8 (.callw 65 [.t 5,.t 7]) 0,⟨none,.st 2 (.t 4) (.t 8),0,[],[],none⟩]
@[go_sem ↓] theorem Yie : autoK Z0n = (0, 1) := by kernel_rfl
@[go_sem] theorem Y1x : autoK [lJ 5 2 2 0, lJ 6 2 3 0, oI 7 (.call 88 [.t 6]) 0, oI 8 (.callw 65 [.t 5, .t 7]) 0, ⟨none, .st 2 (.t 4) (.t 8), 0, [], [], none⟩] = (0, 1) := Yie
def Yqa:CC := .seq (.rg false Yc0) (.seq (.rg true Z0n) .ret)
abbrev Yzl:Nat:=67
theorem Yvs:fnOk Tryz.prog 67=some (9,Yqa,[.cell 4 (some 2)]):=by kernel_rfl
def Ydp:List IOp := [oI 2 (.box (.t 0)) 0,oI 3 (.box (.t 1)) 1,oI 4 (.alloc [.bool false,.nils]) 2]
def Yd9:List IOp := [fI 10 1 2 0,lI 11 10 0,oI 12 (.len (.t 11)) 0,fI 13 1 3 0,lI 14 13 0,oI 15 (.len (.t 14)) 0,oI 16 (.bin .add (.t 12) (.t 15)) 0,oI 17 (.bin .add (.t 16) (cI 1)) 0,oI 18 (.mks none 8 [.int .i64 0] (.t 17) (.t 17)) 0,mI 5 18 1]
def Ycq:List IOp := [oI 6 (.mv (cI 0)) 0]
def Z1b:List IOp := [mI 19 6 0,fI 20 1 2 0,lI 21 20 0,oI 22 (.len (.t 21)) 0,oI 23 (.bin .lss (.t 19) (.t 22)) 0]
def Yd8:List IOp := [oI 7 (.mv (cI 0)) 0]
def Ya0:List IOp := [oI 8 (.mv (cI 0)) 0]
def Zoh:List IOp := [mI 26 8 0,fI 27 1 3 0,lI 28 27 0,oI 29 (.len (.t 28)) 0,oI 30 (.bin .lss (.t 26) (.t 29)) 0,mI 31 30 0,gI 32 (.mv (.t 7)) 0 31 false,gI 33 (.bin .gtr (.t 32) (cI 0)) 0 31 false,oI 34 (.pick (.t 31) (.c (.bool true)) (.t 33)) 0]
def Zz6:List IOp := [mI 37 5 0,mI 38 6 0,mI 39 8 0,oI 40 (.bin .add (.t 38) (.t 39)) 0,xI 41 1 37 40 0,lI 42 41 0,mI 43 7 0,oI 44 (.bin .add (.t 42) (.t 43)) 0,mI 9 44 0]
def Z0p:List IOp := [mI 45 8 0,fI 46 1 3 0,lI 47 46 0,oI 48 (.len (.t 47)) 0,oI 49 (.bin .lss (.t 45) (.t 48)) 0]
def Zwc:List IOp := [mI 50 9 0,fI 51 1 2 0,lI 52 51 0,mI 53 6 0,xI 54 1 52 53 0,lI 55 54 0,fI 56 1 3 0,lI 57 56 0,mI 58 8 0,xI 59 1 57 58 0,lI 60 59 0,oI 61 (.bin .mul (.t 55) (.t 60)) 0,oI 62 (.bin .add (.t 50) (.t 61)) 0,mI 9 62 0]
@[go_sem ↓] theorem Yel : autoK Zwc = (0, 0) := by kernel_rfl
@[go_sem] theorem Y0t : autoK [mI 50 9 0, fI 51 1 2 0, lI 52 51 0, mI 53 6 0, xI 54 1 52 53 0, lI 55 54 0, fI 56 1 3 0, lI 57 56 0, mI 58 8 0, xI 59 1 57 58 0, lI 60 59 0, oI 61 (.bin .mul (.t 55) (.t 60)) 0, oI 62 (.bin .add (.t 50) (.t 61)) 0, mI 9 62 0] = (0, 0) := Yel
def Zwr:List IOp := [mI 63 5 0,mI 64 6 0,mI 65 8 0,oI 66 (.bin .add (.t 64) (.t 65)) 0,mI 67 9 0,oI 68 (.bin .rem (.t 67) (cI 10000)) 0,mI 69 9 0,oI 70 (.bin .quo (.t 69) (cI 10000)) 0,xI 71 1 63 66 0,⟨none,.st 1 (.t 71) (.t 68),0,[],[],none⟩,mI 7 70 0]
def Zvh:List IOp := [mI 35 8 0,oI 36 (.bin .add (.t 35) (cI 1)) 0,mI 8 36 0]
def Z1k:CC := .seq (.seq (.rg false Zoh) (.cond (.t 34) .skip (.exit 2))) (.seq (.block 3 (.seq (.rg false Zz6) (.seq (.seq (.rg false Z0p) (.cond (.t 49) (.rg true Zwc) .skip)) (.rg false Zwr)))) (.rg false Zvh))
def Z7c:List IOp := [mI 24 6 0,oI 25 (.bin .add (.t 24) (cI 1)) 0,mI 6 25 0]
def Zz4:CC := .seq (.seq (.rg false Z1b) (.cond (.t 23) .skip (.exit 0))) (.seq (.block 1 (.seq (.rg false Yd8) (.seq (.rg false Ya0) (.block 2 (.loop Z1k))))) (.rg false Z7c))
def Z8o:List IOp := [fI 72 0 2 0,lI 73 72 0,fI 74 0 3 0,lI 75 74 0,oI 76 (.beq true (.t 73) (.t 75)) 0,mI 77 5 0,oI 78 (.build [.bool false,.nils] [(0,1,.t 76),(1,1,.t 77)]) 0,oI 79 (.call 90 [.t 78]) 0,⟨none,.st 2 (.t 4) (.t 79),0,[],[],none⟩]
def Yqc:CC := .seq (.rg false Ydp) (.seq (.rg false Yd9) (.seq (.seq (.rg false Ycq) (.block 0 (.loop Zz4))) (.seq (.rg false Z8o) .ret)))
abbrev Y0a:Nat:=62
theorem Yt0:fnOk Tryz.prog 62=some (80,Yqc,[.cell 4 (some 2)]):=by kernel_rfl
def Zlz:List IOp := [oI 1 (.box (.t 0)) 0,oI 2 (.mv (cI 0)) 1]
def Zlp:List IOp := [fI 3 1 1 0,lI 4 3 0,oI 5 (.len (.t 4)) 0,oI 6 (.bin .eql (.t 5) (cI 0)) 0]
def Z7z:List IOp := [oI 2 (.mv (cI 0)) 0]
def Zvp:List IOp := [fI 7 0 1 0,lI 8 7 0]
def Z7l:List IOp := [oI 2 (.mv (cI (-1))) 0]
def Z61:List IOp := [oI 2 (.mv (cI 1)) 0]
def Yms:CC := .seq (.rg false Zlz) (.seq (.seq (.rg false Zlp) (.cond (.t 6) (.seq (.rg false Z7z) .ret) .skip)) (.seq (.seq (.rg false Zvp) (.cond (.t 8) (.seq (.rg false Z7l) .ret) .skip)) (.seq (.rg false Z61) .ret)))
abbrev Yuv:Nat:=54
theorem Ym6:fnOk Tryz.prog 54=some (9,Yms,[.tmp 2]):=by kernel_rfl
def Ydb:List IOp := [oI 2 (.box (.t 0)) 0,oI 3 (.box (.t 1)) 1,oI 4 (.mv (cI 0)) 2]
def Yaq:List IOp := [lJ 5 2 2 0,lJ 6 2 3 0,oI 7 (.call 67 [.t 5,.t 6]) 0,oI 8 (.call 54 [.t 7]) 0,mI 4 8 0]
def Yru:CC := .seq (.rg false Ydb) (.seq (.rg false Yaq) .ret)
abbrev Yyv:Nat:=61
theorem Yso:fnOk Tryz.prog 61=some (9,Yru,[.tmp 4]):=by kernel_rfl
def Z2x:List IOp := [oI 4 (.mv (.c .nils)) 0]
def Z1s:List IOp := [mI 5 0 0,oI 6 (.build [.bool false,.nils] [(1,1,.t 5)]) 0,mI 7 1 0,oI 8 (.call 64 [.t 7]) 0,oI 9 (.call 62 [.t 6,.t 8]) 0,oI 10 (.call 90 [.t 9]) 0,oI 11 (.fld none 1 (.t 10)) 0,mI 4 11 0]
def Yfk:CC := .seq (.rg false Z2x) (.seq (.rg false Z1s) .ret)
abbrev Ynh:Nat:=129
theorem Yj7:fnOk Tryz.prog 129=some (12,Yfk,[.tmp 4]):=by kernel_rfl
def Zzy:List IOp := [oI 2 (.box (.t 0)) 0,oI 3 (.box (.t 1)) 1,oI 4 (.alloc [.bool false,.nils]) 2,oI 5 (.alloc [.bool false,.nils]) 3]
def Zzk:List IOp := [fI 14 1 2 0,lI 15 14 0,oI 16 (.len (.t 15)) 0,oI 17 (.mks none 8 [.int .i64 0] (.t 16) (.t 16)) 0,oI 18 (.bsl none 0 [.int .i64 0] []) 1,mI 6 17 2,mI 7 18 2]
def Zxy:List IOp := [fI 19 1 2 0,lI 20 19 0,oI 21 (.len (.t 20)) 0,oI 22 (.bin .sub (.t 21) (cI 1)) 0,mI 8 22 0]
def Zm5:List IOp := [mI 23 8 0,oI 24 (.bin .geq (.t 23) (cI 0)) 0]
def Zym:List IOp := [fI 27 1 2 0,lI 28 27 0,mI 29 8 0,xI 30 1 28 29 0,lI 31 30 0,oI 32 (.bsl none 1 [.int .i64 0] [(0,.t 31)]) 0,mI 33 7 1,oI 34 (.app none 8 (.t 32) (.t 33)) 1,oI 35 (.build [.bool false,.nils] [(1,1,.t 34)]) 2,oI 36 (.call 90 [.t 35]) 2,oI 37 (.fld none 1 (.t 36)) 2,mI 7 37 2]
def Zxc:List IOp := [oI 9 (.mv (cI 0)) 0,oI 10 (.mv (cI 10000)) 0]
def Zmd:List IOp := [mI 38 10 0,mI 39 9 0,oI 40 (.bin .sub (.t 38) (.t 39)) 0,oI 41 (.bin .gtr (.t 40) (cI 1)) 0]
def Zx4:List IOp := [mI 42 9 0,mI 43 10 0,oI 44 (.bin .add (.t 42) (.t 43)) 0,oI 45 (.bin .quo (.t 44) (cI 2)) 0,mI 11 45 0]
def Zxj:List IOp := [fI 46 1 3 0,lI 47 46 0,mI 48 11 0,oI 49 (.call 129 [.t 47,.t 48]) 0,mI 50 7 0,oI 51 (.call 94 [.t 49,.t 50]) 0,oI 52 (.bin .leq (.t 51) (cI 0)) 0]
def Zu0:List IOp := [mI 53 11 0,mI 9 53 0]
def Zwg:List IOp := [mI 54 11 0,mI 10 54 0]
def Znh:CC := .seq (.seq (.rg false Zmd) (.cond (.t 41) .skip (.exit 2))) (.block 3 (.seq (.rg false Zx4) (.seq (.rg false Zxj) (.cond (.t 52) (.rg false Zu0) (.rg false Zwg)))))
def Zs3:List IOp := [mI 55 6 0,mI 56 8 0,mI 57 9 0,xI 58 1 55 56 0,⟨none,.st 1 (.t 58) (.t 57),0,[],[],none⟩]
def Zs1:List IOp := [mI 59 7 0,fI 60 1 3 0,lI 61 60 0,mI 62 9 0,oI 63 (.call 129 [.t 61,.t 62]) 0,oI 64 (.call 95 [.t 59,.t 63]) 0,oI 65 (.build [.bool false,.nils] [(1,1,.t 64)]) 0,oI 66 (.call 90 [.t 65]) 0,oI 67 (.fld none 1 (.t 66)) 0,mI 7 67 0]
def Ztp:List IOp := [mI 25 8 0,oI 26 (.bin .sub (.t 25) (cI 1)) 0,mI 8 26 0]
def Zm7:CC := .seq (.seq (.rg false Zm5) (.cond (.t 24) .skip (.exit 0))) (.seq (.block 1 (.seq (.rg false Zym) (.seq (.rg false Zxc) (.seq (.block 2 (.loop Znh)) (.seq (.rg false Zs3) (.rg false Zs1)))))) (.rg false Ztp))
def Zvq:List IOp := [fI 68 0 2 0,lI 69 68 0,mI 70 6 0,oI 71 (.build [.bool false,.nils] [(0,1,.t 69),(1,1,.t 70)]) 0,oI 72 (.call 90 [.t 71]) 0,mI 73 7 0,oI 74 (.build [.bool false,.nils] [(1,1,.t 73)]) 0,oI 75 (.call 90 [.t 74]) 0,oI 12 (.alloc [.bool false,.nils]) 0,oI 13 (.alloc [.bool false,.nils]) 1,⟨none,.st 2 (.t 12) (.t 72),2,[],[],none⟩,⟨none,.st 2 (.t 13) (.t 75),2,[],[],none⟩]
def Zf7:List IOp := [fI 76 0 2 0,lI 77 76 0,mI 78 77 0,gI 79 (.fa 1 (.t 13)) 0 78 true,gI 80 (.ld none (.t 79)) 0 78 true,gI 81 (.len (.t 80)) 0 78 true,gI 82 (.bin .gtr (.t 81) (cI 0)) 0 78 true,oI 83 (.pick (.t 78) (.t 82) (.c (.bool false))) 0]
def Zkg:List IOp := [lJ 84 2 12 0,oI 85 (.call 64 [cI 1]) 0,oI 86 (.call 67 [.t 84,.t 85]) 0,lJ 87 2 3 0,lJ 88 2 13 0,oI 89 (.callw 67 [.t 87,.t 88]) 0,⟨none,.st 2 (.t 4) (.t 86),0,[],[],none⟩,⟨none,.st 2 (.t 5) (.t 89),0,[],[],none⟩]
@[go_sem ↓] theorem Z5y : autoK Zkg = (0, 1) := by kernel_rfl
@[go_sem] theorem Yql : autoK [lJ 84 2 12 0, oI 85 (.call 64 [cI 1]) 0, oI 86 (.call 67 [.t 84, .t 85]) 0, lJ 87 2 3 0, lJ 88 2 13 0, oI 89 (.callw 67 [.t 87, .t 88]) 0, ⟨none, .st 2 (.t 4) (.t 86), 0, [], [], none⟩, ⟨none, .st 2 (.t 5) (.t 89), 0, [], [], none⟩] = (0, 1) := Z5y
def Zgo:List IOp := [lJ 90 2 12 0,⟨some 91,.ld (some 2) (.t 13),0,[],[0],none⟩,⟨none,.st 2 (.t 4) (.t 90),0,[],[],none⟩,⟨none,.st 2 (.t 5) (.t 91),0,[],[],none⟩]
@[go_sem ↓] theorem Z54 : autoK Zgo = (0, 2) := by kernel_rfl
@[go_sem] theorem Yq7 : autoK [lJ 90 2 12 0, ⟨some 91, .ld (some 2) (.t 13), 0, [], [0], none⟩, ⟨none, .st 2 (.t 4) (.t 90), 0, [], [], none⟩, ⟨none, .st 2 (.t 5) (.t 91), 0, [], [], none⟩] = (0, 2) := Z54
def Ycd:CC := .seq (.rg false Zzy) (.seq (.rg false Zzk) (.seq (.seq (.rg false Zxy) (.block 0 (.loop Zm7))) (.seq (.rg false Zvq) (.seq (.seq (.rg false Zf7) (.cond (.t 83) (.seq (.rg true Zkg) .ret) .skip)) (.seq (.rg true Zgo) .ret)))))
abbrev Ylz:Nat:=108
theorem Yhi:fnOk Tryz.prog 108=some (92,Ycd,[.cell 4 (some 2),.cell 5 (some 2)]):=by kernel_rfl
def Ybg:List IOp := [oI 2 (.box (.t 0)) 0,oI 3 (.box (.t 1)) 1,oI 4 (.alloc [.bool false,.nils]) 2]
def Z0s:List IOp := [lJ 7 2 2 0,oI 8 (.call 92 [.t 7]) 0,lJ 9 2 3 0,oI 10 (.callw 92 [.t 9]) 0,⟨none,.st 2 (.t 2) (.t 8),0,[],[],none⟩,⟨none,.st 2 (.t 3) (.t 10),0,[],[],none⟩]
@[go_sem ↓] theorem Yif : autoK Z0s = (0, 1) := by kernel_rfl
@[go_sem] theorem Y1z : autoK [lJ 7 2 2 0, oI 8 (.call 92 [.t 7]) 0, lJ 9 2 3 0, oI 10 (.callw 92 [.t 9]) 0, ⟨none, .st 2 (.t 2) (.t 8), 0, [], [], none⟩, ⟨none, .st 2 (.t 3) (.t 10), 0, [], [], none⟩] = (0, 1) := Yif
def Z1j:List IOp := [fI 11 1 3 0,lI 12 11 0,oI 13 (.len (.t 12)) 0,oI 14 (.bin .gtr (.t 13) (cI 0)) 0]
def Ya7:List IOp := [lJ 16 2 2 0,lJ 17 2 3 0,oI 18 (.call 108 [.t 16,.t 17]) 0,mI 15 18 0,eI 19 0 15 0,eI 20 1 15 0,oI 5 (.alloc [.bool false,.nils]) 0,oI 6 (.alloc [.bool false,.nils]) 1,⟨none,.st 2 (.t 5) (.t 19),2,[],[],none⟩,⟨none,.st 2 (.t 6) (.t 20),2,[],[],none⟩]
def Z09:List IOp := [lJ 21 2 3 0,⟨some 22,.ld (some 2) (.t 6),0,[],[0],none⟩,⟨none,.st 2 (.t 2) (.t 21),0,[],[],none⟩,⟨none,.st 2 (.t 3) (.t 22),0,[],[],none⟩]
@[go_sem ↓] theorem Yi7 : autoK Z09 = (0, 2) := by kernel_rfl
@[go_sem] theorem Y10 : autoK [lJ 21 2 3 0, ⟨some 22, .ld (some 2) (.t 6), 0, [], [0], none⟩, ⟨none, .st 2 (.t 2) (.t 21), 0, [], [], none⟩, ⟨none, .st 2 (.t 3) (.t 22), 0, [], [], none⟩] = (0, 2) := Yi7
def Z0a:CC := .seq (.seq (.rg false Z1j) (.cond (.t 14) .skip (.exit 0))) (.block 1 (.seq (.rg false Ya7) (.rg true Z09)))
def Yc8:List IOp := [lJ 23 2 2 0,⟨none,.st 2 (.t 4) (.t 23),0,[],[],none⟩]
def Yq5:CC := .seq (.rg false Ybg) (.seq (.rg true Z0s) (.seq (.block 0 (.loop Z0a)) (.seq (.rg false Yc8) .ret)))
abbrev Yzm:Nat:=87
theorem Yvk:fnOk Tryz.prog 87=some (24,Yq5,[.cell 4 (some 2)]):=by kernel_rfl
def Ztj:List IOp := [oI 2 (.box (.t 0)) 0,oI 3 (.box (.t 1)) 1,oI 4 (.alloc [.bool false,.nils,.bool false,.nils]) 2]
def Zs0:List IOp := [fI 5 0 3 0,lI 6 5 0]
def Ztr:List IOp := [lJ 7 2 2 0,oI 8 (.call 88 [.t 7]) 0,lJ 9 2 3 0,oI 10 (.callw 88 [.t 9]) 0,⟨none,.st 2 (.t 2) (.t 8),0,[],[],none⟩,⟨none,.st 2 (.t 3) (.t 10),0,[],[],none⟩]
@[go_sem ↓] theorem Yek : autoK Ztr = (0, 1) := by kernel_rfl
@[go_sem] theorem Yxd : autoK [lJ 7 2 2 0, oI 8 (.call 88 [.t 7]) 0, lJ 9 2 3 0, oI 10 (.callw 88 [.t 9]) 0, ⟨none, .st 2 (.t 2) (.t 8), 0, [], [], none⟩, ⟨none, .st 2 (.t 3) (.t 10), 0, [], [], none⟩] = (0, 1) := Yek
def Zuj:List IOp := [lJ 11 2 2 0,lJ 12 2 3 0,oI 13 (.build [.bool false,.nils,.bool false,.nils] [(0,2,.t 11),(2,2,.t 12)]) 0,⟨none,.st 4 (.t 4) (.t 13),0,[],[],none⟩]
def Yle:CC := .seq (.rg false Ztj) (.seq (.seq (.rg false Zs0) (.cond (.t 6) (.rg true Ztr) .skip)) (.seq (.rg false Zuj) .ret))
abbrev Yt4:Nat:=66
theorem Ypj:fnOk Tryz.prog 66=some (14,Yle,[.cell 4 (some 4)]):=by kernel_rfl
def Z8r:List IOp := [oI 2 (.box (.t 0)) 0,oI 3 (.box (.t 1)) 1,oI 4 (.alloc [.bool false,.nils,.bool false,.nils]) 2]
def Zuw:List IOp := [fI 5 0 2 0,lJ 6 2 5 0,fI 7 2 3 0,lJ 8 2 7 0,oI 9 (.call 62 [.t 6,.t 8]) 0,fI 10 0 3 0,lJ 11 2 10 0,fI 12 2 2 0,lJ 13 2 12 0,oI 14 (.call 62 [.t 11,.t 13]) 0,oI 15 (.call 67 [.t 9,.t 14]) 0,fI 16 2 2 0,lJ 17 2 16 0,fI 18 2 3 0,lJ 19 2 18 0,oI 20 (.callw 62 [.t 17,.t 19]) 0,oI 21 (.build [.bool false,.nils,.bool false,.nils] [(0,2,.t 15),(2,2,.t 20)]) 0,⟨none,.st 4 (.t 4) (.t 21),0,[],[],none⟩]
@[go_sem ↓] theorem Yew : autoK Zuw = (0, 1) := by kernel_rfl
@[go_sem] theorem Yx2 : autoK [fI 5 0 2 0, lJ 6 2 5 0, fI 7 2 3 0, lJ 8 2 7 0, oI 9 (.call 62 [.t 6, .t 8]) 0, fI 10 0 3 0, lJ 11 2 10 0, fI 12 2 2 0, lJ 13 2 12 0, oI 14 (.call 62 [.t 11, .t 13]) 0, oI 15 (.call 67 [.t 9, .t 14]) 0, fI 16 2 2 0, lJ 17 2 16 0, fI 18 2 3 0, lJ 19 2 18 0, oI 20 (.callw 62 [.t 17, .t 19]) 0, oI 21 (.build [.bool false, .nils, .bool false, .nils] [(0, 2, .t 15), (2, 2, .t 20)]) 0, ⟨none, .st 4 (.t 4) (.t 21), 0, [], [], none⟩] = (0, 1) := Yew
def Yls:CC := .seq (.rg false Z8r) (.seq (.rg true Zuw) .ret)
abbrev Yvg:Nat:=34
theorem Ypg:fnOk Tryz.prog 34=some (22,Yls,[.cell 4 (some 4)]):=by kernel_rfl
def Z80:List IOp := [oI 2 (.box (.t 0)) 0,oI 3 (.box (.t 1)) 1,oI 4 (.mv (cI 0)) 2]
def Zuz:List IOp := [fI 5 0 2 0,lJ 6 2 5 0,fI 7 2 3 0,lJ 8 2 7 0,oI 9 (.call 62 [.t 6,.t 8]) 0,fI 10 0 3 0,lJ 11 2 10 0,fI 12 2 2 0,lJ 13 2 12 0,oI 14 (.callw 62 [.t 11,.t 13]) 0,oI 15 (.callw 61 [.t 9,.t 14]) 0,mI 4 15 0]
@[go_sem ↓] theorem Yes : autoK Zuz = (0, 0) := by kernel_rfl
@[go_sem] theorem Yxy : autoK [fI 5 0 2 0, lJ 6 2 5 0, fI 7 2 3 0, lJ 8 2 7 0, oI 9 (.call 62 [.t 6, .t 8]) 0, fI 10 0 3 0, lJ 11 2 10 0, fI 12 2 2 0, lJ 13 2 12 0, oI 14 (.callw 62 [.t 11, .t 13]) 0, oI 15 (.callw 61 [.t 9, .t 14]) 0, mI 4 15 0] = (0, 0) := Yes
def Ykd:CC := .seq (.rg false Z80) (.seq (.rg true Zuz) .ret)
abbrev Yfj:Nat:=25
theorem Ype:fnOk Tryz.prog 25=some (16,Ykd,[.tmp 4]):=by kernel_rfl
def Zyq:List IOp := [oI 1 (.box (.t 0)) 0,oI 2 (.alloc [.bool false,.nils,.bool false,.nils]) 1]
def Zzj:List IOp := [fI 8 0 1 0,lJ 9 2 8 0,fI 10 2 1 0,lJ 11 2 10 0,oI 12 (.call 87 [.t 9,.t 11]) 0,oI 3 (.alloc [.bool false,.nils]) 0,⟨none,.st 2 (.t 3) (.t 12),1,[],[],none⟩]
def Zyl:List IOp := [fI 14 0 1 0,lJ 15 2 14 0,lJ 16 2 3 0,oI 17 (.call 108 [.t 15,.t 16]) 0,mI 13 17 0,eI 18 0 13 0,eI 19 1 13 0,oI 4 (.alloc [.bool false,.nils]) 0,oI 5 (.alloc [.bool false,.nils]) 1,⟨none,.st 2 (.t 4) (.t 18),2,[],[],none⟩,⟨none,.st 2 (.t 5) (.t 19),2,[],[],none⟩]
def Zyo:List IOp := [fI 21 2 1 0,lJ 22 2 21 0,lJ 23 2 3 0,oI 24 (.call 108 [.t 22,.t 23]) 0,mI 20 24 0,eI 25 0 20 0,eI 26 1 20 0,oI 6 (.alloc [.bool false,.nils]) 0,oI 7 (.alloc [.bool false,.nils]) 1,⟨none,.st 2 (.t 6) (.t 25),2,[],[],none⟩,⟨none,.st 2 (.t 7) (.t 26),2,[],[],none⟩]
def Zyv:List IOp := [lJ 27 2 4 0,lJ 28 2 6 0,oI 29 (.build [.bool false,.nils,.bool false,.nils] [(0,2,.t 27),(2,2,.t 28)]) 0,⟨none,.st 4 (.t 2) (.t 29),0,[],[],none⟩]
def Ybk:CC := .seq (.rg false Zyq) (.seq (.rg false Zzj) (.seq (.rg false Zyl) (.seq (.rg false Zyo) (.seq (.rg false Zyv) .ret))))
abbrev Ykp:Nat:=73
theorem Yir:fnOk Tryz.prog 73=some (30,Ybk,[.cell 2 (some 4)]):=by kernel_rfl
def Z2t:List IOp := [oI 2 (.alloc [.bool false,.nils,.bool false,.nils]) 0]
def Z5b:List IOp := [mI 3 0 0,oI 4 (.call 64 [.t 3]) 0,oI 5 (.call 64 [cI 1]) 0,oI 6 (.build [.bool false,.nils,.bool false,.nils] [(0,2,.t 4),(2,2,.t 5)]) 0,⟨none,.st 4 (.t 2) (.t 6),0,[],[],none⟩]
def Ygf:CC := .seq (.rg false Z2t) (.seq (.rg false Z5b) .ret)
abbrev Zpt:Nat:=31
theorem Ylp:fnOk Tryz.prog 31=some (7,Ygf,[.cell 2 (some 4)]):=by kernel_rfl
end GoAbs
namespace GoAbs
open Go Go.Proofs
def zc (z:Int):List AV := [.bool (decide (z<0)),.sl (ic (dg z.natAbs))]
def avZ (z:Int):AV := .agg (zc z)
theorem Y2p {m:Bool}{l:List Nat}{n0:Nat}(hl:l.length≤1000000000) {K:Ex→St→Prop}
  (hK:∀ (e:Nat→AV),e 1 = .ptr 0 0→e 2 = .ptr 1 0→e 3 = .int .i64 ((trimL l).length:Int)→trimL l=l.take (trimL l).length→(trimL l).length≤l.length→K (.exit 0) ⟨e,[.cells [.bool m,.sl (ic l)],.cells [.bool false,.nils]]⟩) :
  T Tryz.prog 35 n0 (.loop Zuk) ⟨envL [(1,.ptr 0 0),(2,.ptr 1 0),(3,.int .i64 (l.length:Int))],[.cells [.bool m,.sl (ic l)],.cells [.bool false,.nils]]⟩ K:=by
 refine Zaf (fun n:Nat=>⟨envL [(1,.ptr 0 0),(2,.ptr 1 0),(3,.int .i64 (n:Int))],[.cells [.bool m,.sl (ic l)],.cells [.bool false,.nils]]⟩)
  (fun n=>n≤l.length∧trimL (l.take n)=trimL l) id l.length ⟨Nat.le_refl _,by simp⟩ (Zab _ (by simp only [go_sem])) (fun n hI N hN=>?_)
 obtain ⟨h1,h2⟩:=hI
 unfold Zuk
 have fin:∀ e:Nat→AV,l.take n=trimL l→e 1 = .ptr 0 0→e 2 = .ptr 1 0→e 3 = .int .i64 (n:Int)→K (.exit 0) ⟨e,[.cells [.bool m,.sl (ic l)],.cells [.bool false,.nils]]⟩:=fun e he e1 e2 e3=>by
  have hn:(trimL l).length=n:=by rw [← he,List.length_take,Nat.min_eq_left h1]
  exact hK e e1 e2 (by rw [e3,hn]) (by rw [hn,he]) (by omega)
 cases n with
 | zero =>
  have q0:¬ (0:Int)<((0:Nat):Int):=by omega
  simp only [go_sem,Zlw,q0]
  refine fin _ ?_ (by simp only [go_sem]) (by simp only [go_sem]) (by simp only [go_sem])
  rw [← h2]; simp [Z4x]
 | succ k =>
  have e2:IntKind.i64.wrap (((k+1:Nat):Int) - 1)=(k:Int):=by rw [Zac (by omega) (by omega)]; omega
  have hk:l[k]? = some (l.getD k 0):=getElem?_getD (by omega)
  have hpos:(0:Int)<((k+1:Nat):Int):=by omega
  have hnn:(0:Int)≤(k:Int):=by omega
  have e4:l.take (k+1)=l.take k ++ [l.getD k 0]:=by rw [List.take_add_one,hk]; rfl
  by_cases h0:l.getD k 0=0
  ·have z0:((l.getD k 0:Nat):Int)=0:=by omega
   simp only [go_sem,Zlw,Z7f,hpos,hnn,e2,Zn5 hk,z0]
   refine hN k _ ⟨by omega,?_⟩ (by show k<k+1; omega) (Zab _ (by simp only [go_sem]))
   rw [← h2,e4,Z5x,if_pos h0]
  ·have z0:¬ ((l.getD k 0:Nat):Int)=0:=by omega
   simp only [go_sem,Zlw,hpos,hnn,e2,Zn5 hk,z0]
   refine fin _ ?_ (by simp only [go_sem]) (by simp only [go_sem]) (by simp only [go_sem])
   rw [← h2,e4,Z5x,if_neg h0]
theorem Yuj {m:Bool}{l:List Nat}(hl:l.length≤1000000000):SpecV Tryz.prog Yfy [.agg [.bool m,.sl (ic l)]] (.agg [.bool (m && decide (trimL l ≠ [])),.sl (ic (trimL l))]):=by
 refine Zad Yoi (by simp) ?_
 unfold Ymu
 simp only [go_sem,Z7i,Z87,Zao]
 refine Zar [(1,.ptr 0 0),(2,.ptr 1 0),(3,.int .i64 (l.length:Int))] (by simp only [go_sem]) (Y2p hl (fun e e1 e2 e3 ht hle=>?_))
 have q0:(0:Int)≤((trimL l).length:Int):=by omega
 have b1:(trimL l).length*8≤1099511627776:=by omega
 have hlt:(ic (trimL l)).length=(trimL l).length:=Zao _
 have bvR:∀ (H:Heap) (off:Nat),H[2]? = some (.cells (ic (trimL l)))→BV H (allOf H) (.osl none 2 0 (trimL l).length) (.sl (ic (trimL l))):=fun H _ hH =>
  Ylq hH (List.mem_range.2 (List.getElem?_eq_some_iff.1 hH).1) rfl (by rw [List.drop_zero,List.take_of_length_le (by rw [Zao]; exact Nat.le_refl _)])
 by_cases ht0:trimL l = []
 ·have q1:¬ (0:Int)<((trimL l).length:Int):=by rw [ht0]; simp
  have hd:decide (trimL l ≠ [])=false:=by simp [ht0]
  cases m <;> simp only [go_sem,Zub,Ztt,Zvm,e1,e2,e3,q0,q1,hle,Zao,Y0d, ← ht,Yo7,b1,hd,Nat.zero_le]
  ·exact ⟨Z2o,Z2o,rfl,bvR _ 0 rfl⟩
  ·exact ⟨Z2o,Z2o,rfl,bvR _ 0 rfl⟩
 ·have q1:(0:Int)<((trimL l).length:Int):=by have:=List.length_pos_iff.2 ht0; omega
  have hd:decide (trimL l ≠ [])=true:=by simp [ht0]
  cases m <;> simp only [go_sem,Zub,Ztt,Zvm,e1,e2,e3,q0,q1,hle,Zao,Y0d, ← ht,Yo7,b1,hd,Nat.zero_le]
  ·exact ⟨Z2o,Z2o,rfl,bvR _ 0 rfl⟩
  ·exact ⟨Z2o,Z2o,rfl,bvR _ 0 rfl⟩
end GoAbs
namespace GoAbs
open Go Go.Proofs
theorem Zmg {m:Bool}{l:List Nat}(h:Od l) (hl:l.length≤1000000000):SpecV Tryz.prog Yfy [.agg [.bool m,.sl (ic l)]] (avZ (if m then -(vd l:Int) else vd l)):=by
 have:=Yuj (m:=m) (l:=l) hl
 rw [← Xga h] at this
 have e1:(if m then -(vd l:Int) else vd l).natAbs=vd l:=by cases m <;> simp
 have e2:decide ((if m then -(vd l:Int) else vd l)<0)=(m && decide (dg (vd l) ≠ [])):=by
  have hne:(dg (vd l) ≠ [])↔vd l≠0:=by rw [ne_eq,Yby]
  cases m with
  | false=>simp
  | true=>simp only [if_true,Bool.true_and]; apply decide_eq_decide.2; rw [hne]; omega
 unfold avZ zc
 rw [e1,e2]
 exact this
theorem Ynu (a b:List Nat) (ha:a.length≤1099511627776) (hb:b.length≤1099511627776):SpecV Tryz.prog Yb4 [.sl (ic a),.sl (ic b)] (.int .i64 (cmpL a b)):=by
 refine Zad Yjv (by simp) ?_
 unfold Ygi
 simp only [go_sem,Z22,Z3f,Z2c,Z4p,Z4r,Z2p,Zao]
 refine ⟨fun h=>⟨fun h1=>(by unfold cmpL; rw [if_pos (by omega)]),fun h1=>(by unfold cmpL; rw [if_neg (by omega),if_pos (by omega)])⟩,fun h=>?_⟩
 have hab:a.length=b.length:=by omega
 refine Ykm (fun n:Nat=>⟨envL [(0,.sl (ic a)),(1,.sl (ic b)),(5,.int .i64 ((n:Int) - 1))],[]⟩) (fun n=>n≤a.length∧cmpTop n a b=cmpL a b) id a.length
  ⟨Nat.le_refl _,by unfold cmpL; rw [if_neg (by omega),if_neg (by omega)]⟩ (Zab _ (by simp only [go_sem]; rw [Zac (by omega) (by omega)])) (fun n hn=>T_W ?_)
 obtain ⟨h1,h2⟩:=hn
 cases n with
 | zero =>
  unfold Zqq
  simp only [go_sem,Zp0,Zx1]
  refine ⟨fun h=>by omega,fun _=>?_⟩
  rw [← h2]; rfl
 | succ m =>
  have e0:(((m+1:Nat):Int) - 1)=(m:Int):=by omega
  have e2:IntKind.i64.wrap ((m:Int) - 1)=(m:Int) - 1:=Zac (by omega) (by omega)
  have hnn:(0:Int)≤(m:Int):=by omega
  have ga:a[m]? = some (a.getD m 0):=getElem?_getD (by omega)
  have gb:b[m]? = some (b.getD m 0):=getElem?_getD (by omega)
  unfold Zqq
  simp only [go_sem,Zp0,Zqy,Z3c,Zmw,Zxi,Zyb,e0,e2,hnn,Zn5 ga,Zn5 gb]
  unfold cmpTop at h2
  refine ⟨fun h3=>?_,fun h3=>⟨fun h4=>?_,fun h4=>⟨m,⟨by omega,?_⟩,by simp,Zab _ (by simp [go_sem])⟩⟩⟩
  ·rw [← h2,if_pos (by omega)]
  ·rw [← h2,if_neg (by omega),if_pos (by omega)]
  ·rw [← h2,if_neg (by omega),if_neg (by omega)]
def Zs (n:Nat):Prop:=lenD n≤100000000
theorem Zs.mono {m n:Nat}(h:Zs n) (hm:m≤n):Zs m:=Nat.le_trans (Za7 hm) h
theorem Zs.len {n:Nat}(h:Zs n):(dg n).length≤100000000:=h
theorem Z59 {m n:Nat}(hm:Zs m) (hn:Zs n):SpecV Tryz.prog Yb4 [.sl (ic (dg m)),.sl (ic (dg n))] (.int .i64 (if m<n then -1 else if n<m then 1 else 0)):=by
 have:=Ynu (dg m) (dg n) (Nat.le_trans hm (by omega)) (Nat.le_trans hn (by omega))
 rw [Y92] at this; exact this
theorem Zfk {l:List Nat}{n:Nat}:vd (l.take (n+1))=vd (l.take n)+10000 ^ n*l.getD n 0:=by
 by_cases h:n<l.length
 ·exact Zvk (getElem?_getD h)
 ·rw [Zc4 (by omega),Zc4 (by omega),List.getD_eq_getElem?_getD,List.getElem?_eq_none (by omega)]; simp
theorem Od.getD {l:List Nat}(h:Od l) (n:Nat):l.getD n 0<10000:=by
 by_cases hn:n<l.length
 ·exact h.get (getElem?_getD hn)
 ·rw [List.getD_eq_getElem?_getD,List.getElem?_eq_none (by omega)]; simp
theorem Y3f {f:Nat→Option Nat}{l:List Nat}:gcL f (ic l)=ic l:=by
 rw [Zax]; unfold ic; rw [List.map_map]; rfl
theorem Y6u {nt:Nat}{e:Nat→AV}{s:List Nat}{d:Nat}{bl:Blk}(l:List (Nat×AV)) (hl:Has e ((5,.osl none 2 0 (s.length+1))::l)) (hg:(l.map fun p=>(p.1,p.2.gc (pos [2])))=l) :
  Le nt 0 ⟨e,[.dead,bl,.cells (ic s ++ [.int .i64 (d:Int)])]⟩ ⟨envL ((5,.osl none 0 0 (s ++ [d]).length)::l),[.cells (ic (s ++ [d]))]⟩:=by
 refine Zbz (Zgb [2] (by simp) (fun i hi=>by omega) ((5,.osl none 2 0 (s.length+1))::l) hl) ?_
 have h1:ic s ++ [AV.int .i64 (d:Int)]=ic (s ++ [d]):=by rw [Ybq]; rfl
 rw [List.map_cons,hg]
 simp only [List.map_cons,List.map_nil,List.getD_cons_succ,List.getD_cons_zero,Blk.gc,h1,Y3f,AV.gc,List.length_append,List.length_singleton]
 rfl
theorem Y97 {s:List Nat}{A B c x y p t:Nat}(hv:vd s+p*c=A+B) (hp:p=10000 ^ s.length) (ht:t=c+x+y):vd (s ++ [t % 10000])+10000 ^ (s ++ [t % 10000]).length*(t / 10000)=(A+p*x)+(B+p*y):=by
 rw [Zk4,List.length_append,List.length_singleton,Nat.pow_succ, ← hp]
 have h1:vd [t % 10000]=t % 10000:=by simp [vd]
 rw [h1]
 have h2:p*(t % 10000)+p*10000*(t / 10000)=p*t:=by
  rw [Nat.mul_assoc, ← Nat.mul_add,Nat.mod_add_div]
 have h3:p*t=p*c+p*x+p*y:=by rw [ht,Nat.mul_add,Nat.mul_add]
 omega
theorem Y3v {a b:List Nat}(ha:Od a) (hb:Od b) (hla:a.length≤1000000000) (hlb:b.length≤1000000000) {K:Ex→St→Prop}
  (hK:∀ (e:Nat→AV) (s:List Nat),Od s→vd s=vd a+vd b→(s.length=max a.length b.length∨(s.length=max a.length b.length+1∧10000 ^ max a.length b.length≤vd s))→e 5 = .osl none 0 0 s.length→K (.exit 0) ⟨e,[.cells (ic s)]⟩) :
  T Tryz.prog 55 0 (.loop Zwb) ⟨envL [(5,.osl none 0 0 0),(0,.sl (ic a)),(1,.sl (ic b)),(6,.int .i64 0),(7,.int .i64 0)],[.cells []]⟩ K:=by
 refine Zaf (fun z:List Nat×Nat=>⟨envL [(5,.osl none 0 0 z.1.length),(0,.sl (ic a)),(1,.sl (ic b)),(6,.int .i64 (z.2:Int)),(7,.int .i64 (z.1.length:Int))],[.cells (ic z.1)]⟩)
  (fun z=>Od z.1∧z.2≤1∧z.1.length+z.2≤max a.length b.length+1∧vd z.1+10000 ^ z.1.length*z.2=vd (a.take z.1.length)+vd (b.take z.1.length)∧(z.1.length≤max a.length b.length∨(z.1.length=max a.length b.length+1∧10000 ^ max a.length b.length≤vd z.1))) (fun z=>2*(max a.length b.length - z.1.length)+z.2) ([],0)
  ⟨fun x hx=>by simp at hx,by simp,by simp,by simp [vd],.inl (by simp)⟩ (Zab _ (by simp only [go_sem]; simp)) (fun z hI N hN=>?_)
 obtain ⟨s,c⟩:=z
 obtain ⟨h1,h2,h3,h4,h6⟩:=hI
 simp only at h1 h2 h3 h4 h6 ⊢
 unfold Zwb
 have hx:=ha.getD s.length
 have hy:=hb.getD s.length
 have hga:s.length<a.length→(ic a)[s.length]? = some (.int .i64 ((a.getD s.length 0:Nat):Int)):=fun h=>Zn5 (getElem?_getD h)
 have hgb:s.length<b.length→(ic b)[s.length]? = some (.int .i64 ((b.getD s.length 0:Nat):Int)):=fun h=>Zn5 (getElem?_getD h)
 have hza:¬ s.length<a.length→a.getD s.length 0=0:=fun h=>by rw [List.getD_eq_getElem?_getD,List.getElem?_eq_none (by omega)]; rfl
 have hzb:¬ s.length<b.length→b.getD s.length 0=0:=fun h=>by rw [List.getD_eq_getElem?_getD,List.getElem?_eq_none (by omega)]; rfl
 have hta:=Zfk (l:=a) (n:=s.length)
 have htb:=Zfk (l:=b) (n:=s.length)
 generalize a.getD s.length 0=x at *
 generalize b.getD s.length 0=y at *
 have q0:(0:Int)≤(s.length:Int):=by omega
 have e1:IntKind.i64.wrap ((c:Int)+(x:Int))=((c+x:Nat):Int):=by rw [Zac (by omega) (by omega)]; omega
 have e2:IntKind.i64.wrap (((c+x:Nat):Int)+(y:Int))=((c+x+y:Nat):Int):=by rw [Zac (by omega) (by omega)]; omega
 have e3:IntKind.i64.wrap ((c:Int)+(y:Int))=((c+y:Nat):Int):=by rw [Zac (by omega) (by omega)]; omega
 have e4:IntKind.i64.wrap ((s.length:Int)+1)=((s.length+1:Nat):Int):=by rw [Zac (by omega) (by omega)]; omega
 have p10:¬ (10000:Int)=0:=by omega
 have em:∀ t:Nat,((t:Nat):Int).tmod 10000=((t % 10000:Nat):Int):=fun t=>Zww (b:=10000)
 have ed:∀ t:Nat,t<30000→IntKind.i64.wrap (((t:Nat):Int).tdiv 10000)=((t / 10000:Nat):Int):=fun t ht=>by
  have:((t:Nat):Int).tdiv 10000=((t / 10000:Nat):Int):=(Int.ofNat_tdiv t 10000).symm
  rw [this,Zac (by omega) (by omega)]
 have hsz:(s.length+1)*8≤1099511627776:=by omega
 have hfit:s.length≤(ic s).length:=by rw [Zao]; omega
 have htake:(ic s).take s.length=ic s:=List.take_of_length_le (by rw [Zao]; omega)
 have done:∀ (t:Nat) (e:Nat→AV) (bl:Blk),t=c+x+y→(s.length<max a.length b.length∨c=1)→e 5 = .osl none 2 0 (s.length+1)→e 0 = .sl (ic a)→e 1 = .sl (ic b)→e 6 = .int .i64 ((t / 10000:Nat):Int)→e 7 = .int .i64 ((s.length+1:Nat):Int) →
   N ⟨e,[.dead,bl,.cells (ic s ++ [.int .i64 ((t % 10000:Nat):Int)])]⟩:=fun t e bl ht hor k5 k0 k1 k6 k7=>by
  have hxz:¬ s.length<max a.length b.length→x=0∧y=0:=fun h=>⟨hza (by omega),hzb (by omega)⟩
  refine hN (s ++ [t % 10000],t / 10000) _ ⟨h1.append (fun z hz=>by simp at hz; omega),?_,?_,?_,?_⟩ ?_ ?_
  ·show t / 10000≤1; omega
  ·show (s ++ [t % 10000]).length+t / 10000≤_
   rw [List.length_append,List.length_singleton]
   by_cases hm:s.length<max a.length b.length
   ·omega
   ·have:=hxz hm; omega
  ·show vd (s ++ [t % 10000])+10000 ^ (s ++ [t % 10000]).length*(t / 10000)=vd (a.take (s ++ [t % 10000]).length)+vd (b.take (s ++ [t % 10000]).length)
   rw [Y97 (x:=x) (y:=y) h4 rfl ht,List.length_append,List.length_singleton,hta,htb]
  ·show (s ++ [t % 10000]).length≤_∨((s ++ [t % 10000]).length=_∧_≤vd (s ++ [t % 10000]))
   rw [List.length_append,List.length_singleton]
   by_cases hm:s.length<max a.length b.length
   ·exact .inl (by omega)
   ·have hxy:=hxz hm
    have hsl:s.length=max a.length b.length:=by omega
    have ht1:t % 10000=1:=by omega
    refine .inr ⟨by omega,?_⟩
    rw [ht1,Zk4, ← hsl]
    simp [vd]
  ·show 2*(max a.length b.length - (s ++ [t % 10000]).length)+t / 10000<2*(max a.length b.length - s.length)+c
   rw [List.length_append,List.length_singleton]
   by_cases hm:s.length<max a.length b.length
   ·omega
   ·have:=hxz hm; omega
  ·show Le 55 0 _ ⟨envL [(5,.osl none 0 0 (s ++ [t % 10000]).length),(0,.sl (ic a)),(1,.sl (ic b)),(6,.int .i64 ((t / 10000:Nat):Int)),(7,.int .i64 ((s ++ [t % 10000]).length:Int))],_⟩
   have hlen:((s ++ [t % 10000]).length:Int)=((s.length+1:Nat):Int):=by simp
   rw [hlen]
   exact Y6u _ ⟨k5,k0,k1,k6,k7,trivial⟩ rfl
 by_cases hA:s.length<a.length
 ·have a1:(s.length:Int)<(a.length:Int):=by omega
  by_cases hB:s.length<b.length
  ·have b1:(s.length:Int)<(b.length:Int):=by omega
   simp only [go_sem,Zfi,Zhv,Zh4,Zvi,Zh5,Zte,Zgk,Zgj,Zao,a1,b1,q0,hga hA,hgb hB,e1,e2,p10,em,ed _ (show c+x+y<30000 by omega),e4,hsz,hfit,htake]
   exact ⟨Nat.le_refl _,done (c+x+y) _ _ rfl (.inl (by omega)) (by simp only [go_sem]) (by simp only [go_sem]) (by simp only [go_sem]) (by simp only [go_sem]) (by simp only [go_sem])⟩
  ·have b1:¬ (s.length:Int)<(b.length:Int):=by omega
   have hy0:=hzb hB
   simp only [go_sem,Zfi,Zhv,Zh4,Zvi,Zh5,Zgk,Zgj,Zao,a1,b1,q0,hga hA,e1,p10,em,ed _ (show c+x<30000 by omega),e4,hsz,hfit,htake]
   exact ⟨Nat.le_refl _,done (c+x) _ _ (by omega) (.inl (by omega)) (by simp only [go_sem]) (by simp only [go_sem]) (by simp only [go_sem]) (by simp only [go_sem]) (by simp only [go_sem])⟩
 ·have a1:¬ (s.length:Int)<(a.length:Int):=by omega
  have hx0:=hza hA
  by_cases hB:s.length<b.length
  ·have b1:(s.length:Int)<(b.length:Int):=by omega
   simp only [go_sem,Zfi,Zhv,Zh4,Zh5,Zte,Zgk,Zgj,Zao,a1,b1,q0,hgb hB,e3,p10,em,ed _ (show c+y<30000 by omega),e4,hsz,hfit,htake]
   exact ⟨Nat.le_refl _,done (c+y) _ _ (by omega) (.inl (by omega)) (by simp only [go_sem]) (by simp only [go_sem]) (by simp only [go_sem]) (by simp only [go_sem]) (by simp only [go_sem])⟩
  ·have b1:¬ (s.length:Int)<(b.length:Int):=by omega
   have hy0:=hzb hB
   by_cases hc:c=0
   ·subst hc
    have c1:¬ (0:Int)<((0:Nat):Int):=by omega
    simp only [go_sem,Zfi,Zao,a1,b1,c1]
    refine hK _ s h1 ?_ ?_ (by simp only [go_sem])
    rotate_left
    ·rcases h6 with h6 | h6
     ·exact .inl (by omega)
     ·exact .inr h6
    rw [Nat.mul_zero,Nat.add_zero,Zc4 (by omega),Zc4 (by omega)] at h4
    exact h4
   ·have c1:(0:Int)<(c:Int):=by omega
    simp only [go_sem,Zfi,Zhv,Zh4,Zh5,Zgk,Zgj,Zao,a1,b1,c1,q0,p10,em,ed _ (show c<30000 by omega),e4,hsz,hfit,htake]
    exact ⟨Nat.le_refl _,done c _ _ (by omega) (.inr (by omega)) (by simp only [go_sem]) (by simp only [go_sem]) (by simp only [go_sem]) (by simp only [go_sem]) (by simp only [go_sem])⟩
theorem Ya5:∀ {s t:List Nat},Od s→Od t→s.length=t.length→vd s=vd t→s=t
 | [],[],_,_,_,_=>rfl
 | [],y::t,_,_,h,_=>by simp at h
 | x::s,[],_,_,h,_=>by simp at h
 | x::s,y::t,hs,ht,hl,hv=>by
  have hx:=hs x (by simp)
  have hy:=ht y (by simp)
  simp only [vd] at hv
  have h1:x=y:=by omega
  have h2:s=t:=Ya5 (fun z hz=>hs z (by simp [hz])) (fun z hz=>ht z (by simp [hz])) (by simpa using hl) (by omega)
  rw [h1,h2]
theorem Xgg {s:List Nat}(h:Od s) (hl:s.length=lenD (vd s)):s=dg (vd s):=Ya5 h (Zum _) hl (Zn9 _).symm
theorem Yxe {m n:Nat}(hm:Zs m) (hn:Zs n):SpecV Tryz.prog Yvn [.sl (ic (dg m)),.sl (ic (dg n))] (.sl (ic (dg (m+n)))):=by
 refine Zad Yox (by simp) ?_
 unfold Yk7
 have lm:=hm.len
 have ln:=hn.len
 simp only [go_sem,Z67,Z8h,Z70]
 refine T_le (Zkb 5 none (by simp only [go_sem]) [(0,.sl (ic (dg m))),(1,.sl (ic (dg n))),(6,.int .i64 0),(7,.int .i64 0)] (by simp only [go_sem])) ?_
 refine Y3v (Zum m) (Zum n) (by omega) (by omega) (fun e s h1 h2 h3 h5=>?_)
 rw [Zn9,Zn9] at h2
 have hs:s=dg (m+n):=by
  rw [← h2]
  refine Xgg h1 ?_
  have g1:lenD (vd s)≤s.length:=Zpy (Ylr h1)
  rcases h3 with h3 | ⟨h3,h4⟩
  ·have g2:=Za7 (show m≤vd s by omega)
   have g3:=Za7 (show n≤vd s by omega)
   unfold lenD at g1 g2 g3 ⊢
   omega
  ·have:=Y7u h4
   omega
 simp only [go_sem,Z2g,h5]
 subst hs
 exact Ylq rfl (List.mem_range.2 (by simp)) rfl (by rw [List.drop_zero,List.take_of_length_le (by rw [Zao]; exact Nat.le_refl _)])
end GoAbs
namespace GoAbs
open Go Go.Proofs
theorem Yw8 {s:List Nat}{A B w x y p d w':Nat}(hv:vd s+B=A+p*w) (hp:p=10000 ^ s.length) (hd:d+w+y=x+10000*w'):vd (s ++ [d])+(B+p*y)=(A+p*x)+10000 ^ (s ++ [d]).length*w':=by
 rw [Zk4,List.length_append,List.length_singleton,Nat.pow_succ, ← hp]
 have h1:vd [d]=d:=by simp [vd]
 rw [h1]
 have h2:p*d+p*w+p*y=p*x+p*10000*w':=by
  rw [Nat.mul_assoc, ← Nat.mul_add, ← Nat.mul_add, ← Nat.mul_add,hd]
 omega
theorem Y4q {a b:List Nat}(ha:Od a) (hb:Od b) (hla:a.length≤1000000000) {K:Ex→St→Prop}
  (hK:∀ (e:Nat→AV) (s:List Nat) (w:Nat),Od s→s.length=a.length→vd s+vd (b.take a.length)=vd a+10000 ^ a.length*w→e 5 = .osl none 0 0 s.length→K (.exit 0) ⟨e,[.cells (ic s)]⟩) :
  T Tryz.prog 41 0 (.loop Zwp) ⟨envL [(5,.osl none 0 0 0),(0,.sl (ic a)),(1,.sl (ic b)),(6,.int .i64 0),(7,.int .i64 0)],[.cells []]⟩ K:=by
 refine Zaf (fun z:List Nat×Nat=>⟨envL [(5,.osl none 0 0 z.1.length),(0,.sl (ic a)),(1,.sl (ic b)),(6,.int .i64 (z.2:Int)),(7,.int .i64 (z.1.length:Int))],[.cells (ic z.1)]⟩)
  (fun z=>Od z.1∧z.2≤1∧z.1.length≤a.length∧vd z.1+vd (b.take z.1.length)=vd (a.take z.1.length)+10000 ^ z.1.length*z.2) (fun z=>a.length - z.1.length) ([],0)
  ⟨fun x hx=>by simp at hx,by simp,by simp,by simp [vd]⟩ (Zab _ (by simp only [go_sem]; simp)) (fun z hI N hN=>?_)
 obtain ⟨s,w⟩:=z
 obtain ⟨h1,h2,h3,h4⟩:=hI
 simp only at h1 h2 h3 h4 ⊢
 unfold Zwp
 by_cases hA:s.length<a.length
 ·have hx:=ha.getD s.length
  have hy:=hb.getD s.length
  have hga:(ic a)[s.length]? = some (.int .i64 ((a.getD s.length 0:Nat):Int)):=Zn5 (getElem?_getD hA)
  have hgb:s.length<b.length→(ic b)[s.length]? = some (.int .i64 ((b.getD s.length 0:Nat):Int)):=fun h=>Zn5 (getElem?_getD h)
  have hzb:¬ s.length<b.length→b.getD s.length 0=0:=fun h=>by rw [List.getD_eq_getElem?_getD,List.getElem?_eq_none (by omega)]; rfl
  have hta:=Zfk (l:=a) (n:=s.length)
  have htb:=Zfk (l:=b) (n:=s.length)
  generalize a.getD s.length 0=x at *
  generalize b.getD s.length 0=y at *
  have q0:(0:Int)≤(s.length:Int):=by omega
  have a1:(s.length:Int)<(a.length:Int):=by omega
  have e4:IntKind.i64.wrap ((s.length:Int)+1)=((s.length+1:Nat):Int):=by rw [Zac (by omega) (by omega)]; omega
  have e1:IntKind.i64.wrap ((x:Int) - (w:Int))=(x:Int) - w:=Zac (by omega) (by omega)
  have e2:IntKind.i64.wrap ((x:Int) - w - (y:Int))=(x:Int) - w - y:=Zac (by omega) (by omega)
  have hsz:(s.length+1)*8≤1099511627776:=by omega
  have hfit:s.length≤(ic s).length:=by rw [Zao]; omega
  have htake:(ic s).take s.length=ic s:=List.take_of_length_le (by rw [Zao]; omega)
  have done:∀ (d w':Nat) (e:Nat→AV) (bl:Blk),d+w+y=x+10000*w'→d<10000→w'≤1→e 5 = .osl none 2 0 (s.length+1)→e 0 = .sl (ic a)→e 1 = .sl (ic b)→e 6 = .int .i64 (w':Int)→e 7 = .int .i64 ((s.length+1:Nat):Int) →
    N ⟨e,[.dead,bl,.cells (ic s ++ [.int .i64 (d:Int)])]⟩:=fun d w' e bl hd hd1 hw' k5 k0 k1 k6 k7=>by
   refine hN (s ++ [d],w') _ ⟨h1.append (fun z hz=>by simp at hz; omega),hw',?_,?_⟩ ?_ ?_
   ·show (s ++ [d]).length≤_; rw [List.length_append,List.length_singleton]; omega
   ·show vd (s ++ [d])+vd (b.take (s ++ [d]).length)=vd (a.take (s ++ [d]).length)+10000 ^ (s ++ [d]).length*w'
    have:=Yw8 (x:=x) (y:=y) (w':=w') h4 rfl hd
    have hl:(s ++ [d]).length=s.length+1:=by simp
    rw [hl,hta,htb]
    rw [hl] at this
    exact this
   ·show a.length - (s ++ [d]).length<a.length - s.length
    rw [List.length_append,List.length_singleton]; omega
   ·show Le 41 0 _ ⟨envL [(5,.osl none 0 0 (s ++ [d]).length),(0,.sl (ic a)),(1,.sl (ic b)),(6,.int .i64 (w':Int)),(7,.int .i64 ((s ++ [d]).length:Int))],_⟩
    have hlen:((s ++ [d]).length:Int)=((s.length+1:Nat):Int):=by simp
    rw [hlen]
    exact Y6u _ ⟨k5,k0,k1,k6,k7,trivial⟩ rfl
  by_cases hB:s.length<b.length
  ·have b1:(s.length:Int)<(b.length:Int):=by omega
   by_cases hv:(x:Int) - w - y<0
   ·have e3:IntKind.i64.wrap ((x:Int) - w - y+10000)=((x+10000 - w - y:Nat):Int):=by rw [Zac (by omega) (by omega)]; omega
    simp only [go_sem,Zfm,Zia,Zib,Zuh,Zhy,Zhz,Zqb,Zgn,Zf5,Zao,a1,b1,q0,hga,hgb hB,e1,e2,e3,hv,e4,hsz,hfit,htake]
    exact ⟨Nat.le_refl _,done _ 1 _ _ (by omega) (by omega) (by omega) (by simp only [go_sem]) (by simp only [go_sem]) (by simp only [go_sem]) (by simp only [go_sem]; try rfl) (by simp only [go_sem])⟩
   ·obtain ⟨d,hd⟩:∃ d:Nat,(x:Int) - w - y=(d:Int):=⟨x - w - y,by omega⟩
    have hv':¬ ((d:Nat):Int)<0:=by omega
    have e2':IntKind.i64.wrap ((x:Int) - w - (y:Int))=((d:Nat):Int):=by rw [e2,hd]
    simp only [go_sem,Zfm,Zia,Zib,Zuh,Zhy,Zhz,Zgn,Zf5,Zao,a1,b1,q0,hga,hgb hB,e1,e2',hv',e4,hsz,hfit,htake]
    exact ⟨Nat.le_refl _,done d 0 _ _ (by omega) (by omega) (by omega) (by simp only [go_sem]) (by simp only [go_sem]) (by simp only [go_sem]) (by simp only [go_sem]; try rfl) (by simp only [go_sem])⟩
  ·have b1:¬ (s.length:Int)<(b.length:Int):=by omega
   have hy0:=hzb hB
   by_cases hv:(x:Int) - w<0
   ·have e3:IntKind.i64.wrap ((x:Int) - w+10000)=((x+10000 - w:Nat):Int):=by rw [Zac (by omega) (by omega)]; omega
    simp only [go_sem,Zfm,Zia,Zib,Zhy,Zhz,Zqb,Zgn,Zf5,Zao,a1,b1,q0,hga,e1,e3,hv,e4,hsz,hfit,htake]
    exact ⟨Nat.le_refl _,done _ 1 _ _ (by omega) (by omega) (by omega) (by simp only [go_sem]) (by simp only [go_sem]) (by simp only [go_sem]) (by simp only [go_sem]; try rfl) (by simp only [go_sem])⟩
   ·obtain ⟨d,hd⟩:∃ d:Nat,(x:Int) - w=(d:Int):=⟨x - w,by omega⟩
    have hv':¬ ((d:Nat):Int)<0:=by omega
    have e1':IntKind.i64.wrap ((x:Int) - (w:Int))=((d:Nat):Int):=by rw [e1,hd]
    simp only [go_sem,Zfm,Zia,Zib,Zhy,Zhz,Zgn,Zf5,Zao,a1,b1,q0,hga,e1',hv',e4,hsz,hfit,htake]
    exact ⟨Nat.le_refl _,done d 0 _ _ (by omega) (by omega) (by omega) (by simp only [go_sem]) (by simp only [go_sem]) (by simp only [go_sem]) (by simp only [go_sem]; try rfl) (by simp only [go_sem])⟩
 ·have hs:s.length=a.length:=by omega
  have a1:¬ (s.length:Int)<(a.length:Int):=by omega
  simp only [go_sem,Zfm,Zao,a1]
  refine hK _ s w h1 hs ?_ (by simp only [go_sem])
  rw [hs,List.take_length] at h4
  exact h4
def pad (k v:Nat):List Nat:=dg v++List.replicate (k - lenD v) 0
theorem Yq6 {k v:Nat}:vd (pad k v)=v:=by unfold pad; rw [Zk4,Yqw,Zn9]; simp
theorem Yrc {k v:Nat}:Od (pad k v):=(Zum v).append Od.rep
theorem Yix {k v:Nat}(h:lenD v≤k):(pad k v).length=k:=by unfold pad; rw [List.length_append,List.length_replicate]; unfold lenD at *; omega
theorem Yd5 {m n:Nat}(hm:Zs m) (hnm:n≤m):SpecV Tryz.prog Yu9 [.sl (ic (dg m)),.sl (ic (dg n))] (.sl (ic (pad (lenD m) (m - n)))):=by
 refine Zad Ynx (by simp) ?_
 unfold Yj6
 have lm:=hm.len
 simp only [go_sem,Z7d,Z9f,Z6p]
 refine T_le (Zkb 5 none (by simp only [go_sem]) [(0,.sl (ic (dg m))),(1,.sl (ic (dg n))),(6,.int .i64 0),(7,.int .i64 0)] (by simp only [go_sem])) ?_
 refine Y4q (Zum m) (Zum n) (by omega) (fun e s w h1 h2 h3 h5=>?_)
 have hln:=Za7 hnm
 rw [Zc4 (by unfold lenD at hln; exact hln),Zn9,Zn9] at h3
 have hlt:=Ylr h1
 rw [h2] at hlt
 have hw:w=0:=by
  rcases Nat.eq_zero_or_pos w with h | h
  ·exact h
  ·have:10000 ^ (dg m).length*1≤10000 ^ (dg m).length*w:=Nat.mul_le_mul_left _ h
   omega
 subst hw
 have hv:vd s=m - n:=by omega
 have hs:s=pad (lenD m) (m - n):=Ya5 h1 Yrc (by rw [h2,Yix (Za7 (Nat.sub_le _ _))]; rfl) (by rw [hv,Yq6])
 simp only [go_sem,Z2d,h5]
 subst hs
 exact Ylq rfl (List.mem_range.2 (by simp)) rfl (by rw [List.drop_zero,List.take_of_length_le (by rw [Zao]; exact Nat.le_refl _)])
end GoAbs
namespace GoAbs
open Go Go.Proofs
theorem Zai {z:Int}:avZ z = .agg [.bool (decide (z<0)),.sl (ic (dg z.natAbs))]:=rfl
theorem Zgz {n:Nat}:(0:Int)<((dg n).length:Int)↔n≠0:=by
 have:=Yby (n:=n)
 rw [← List.length_eq_zero_iff] at this
 omega
theorem Yp6 {z:Int}:SpecV Tryz.prog Yzd [avZ z] (avZ (-z)):=by
 refine Zad Yu7 (by simp) ?_
 unfold Yp1
 have e0:(-z).natAbs=z.natAbs:=Int.natAbs_neg z
 rw [Zai,Zai,e0]
 by_cases h:z<0
 ·have hd:decide (-z<0)=false:=by simp; omega
  simp only [go_sem,Zpw,Zoc,Zon,h,decide_true,decide_false,Bool.not_true,Bool.not_false,hd]
 ·by_cases h0:z.natAbs=0
  ·have hd:decide (-z<0)=false:=by simp; omega
   have hp:¬ (0:Int)<((dg z.natAbs).length:Int):=by rw [Zgz]; omega
   simp only [go_sem,Zpw,Zoc,Zon,h,decide_true,decide_false,Bool.not_true,Bool.not_false,hd,Zao,hp]
  ·have hd:decide (-z<0)=true:=by simp; omega
   have hp:(0:Int)<((dg z.natAbs).length:Int):=Zgz.2 h0
   simp only [go_sem,Zpw,Zoc,Zon,h,decide_true,decide_false,Bool.not_true,Bool.not_false,hd,Zao,hp]
theorem Yy4 {z:Int}:SpecV Tryz.prog Yxk [avZ z] (avZ (z.natAbs:Int)):=by
 refine Zad Yth (by simp) ?_
 unfold Ypz
 have hd:decide ((z.natAbs:Int)<0)=false:=by simp
 rw [Zai,Zai,hd]
 simp only [go_sem,Ybi,Yb3,Ybo,Int.natAbs_natCast]
theorem Y8t {z:Int}:SpecV Tryz.prog Yuv [avZ z] (.int .i64 (if z=0 then 0 else if z<0 then -1 else 1)):=by
 refine Zad Ym6 (by simp) ?_
 unfold Yms
 rw [Zai]
 by_cases h0:z=0
 ·subst h0
  simp only [go_sem,Zlz,Zlp,Z7z,Int.natAbs_zero,Zcg,Yqr]
  simp
 ·have hp:¬ ((dg z.natAbs).length:Int)=0:=by have:=(Zgz (n:=z.natAbs)).2 (by omega); omega
  by_cases h:z<0
  ·simp only [go_sem,Zlz,Zlp,Zvp,Z7l,Zao,hp,h,h0,decide_true,decide_false]
  ·simp only [go_sem,Zlz,Zlp,Zvp,Z61,Zao,hp,h,h0,decide_true,decide_false]
theorem Xai {m n:Nat}(hm:Zs m) (hn:Zs n):(dg (m+n)).length≤1000000000:=by
 have h1:=Zky m
 have h2:=Zky n
 have:m+n<10000 ^ (lenD m+lenD n+1):=by
  have g1:10000 ^ lenD m≤10000 ^ (lenD m+lenD n):=Nat.pow_le_pow_right (by omega) (by omega)
  have g2:10000 ^ lenD n≤10000 ^ (lenD m+lenD n):=Nat.pow_le_pow_right (by omega) (by omega)
  rw [Nat.pow_succ]
  omega
 have:=Zpy this
 unfold Zs at hm hn
 show lenD (m+n)≤_
 omega
theorem Xdc {a b:Int}(ha:Zs a.natAbs) (hb:Zs b.natAbs):SpecV Tryz.prog Y0e [avZ a,avZ b] (avZ (a+b)):=by
 refine Zad Ytt (by simp) ?_
 unfold Yqo
 have hm:Tryz.prog.follows .mixedOrders=true:=by kernel_rfl
 rw [Zai,Zai]
 by_cases hs:(a<0↔b<0)
 ·have hbe:(decide (a<0) == decide (b<0))=true:=by simp [hs]
  have hab:(if decide (a<0)=true then -((a.natAbs+b.natAbs:Nat):Int) else ((a.natAbs+b.natAbs:Nat):Int))=a+b:=by
   by_cases h:a<0
   ·have:=hs.1 h; simp only [h,decide_true,if_true]; omega
   ·have:¬ b<0:=fun hh=>h (hs.2 hh)
    simp only [h,decide_false]; simp; omega
  simp only [go_sem,Zos,Zqg,Z02,hbe,hm]
  refine Zaa (Yxe ha hb) (by simp only [go_sem]) ?_
  simp only [go_sem]
  have hl:=Zmg (m:=decide (a<0)) (Zum (a.natAbs+b.natAbs)) (Xai ha hb)
  rw [Zn9,hab] at hl
  refine Zaa hl (by simp only [go_sem]) ?_
  simp only [go_sem,Zai]
 ·have hbe:(decide (a<0) == decide (b<0))=false:=by
   by_cases h1:a<0 <;> by_cases h2:b<0 <;> simp [h1,h2] at hs ⊢
  by_cases hab:b.natAbs≤a.natAbs
  ·have hge:(0:Int)≤(if a.natAbs<b.natAbs then -1 else if b.natAbs<a.natAbs then 1 else 0):=by rw [if_neg (by omega)]; split <;> omega
   simp only [go_sem,Zos,Zqg,Z0j,hbe]
   refine Zaa (Z59 ha hb) (by simp only [go_sem]) ?_
   simp only [go_sem,hge,Z0k,hm]
   refine Zaa (Yd5 ha hab) (by simp only [go_sem]) ?_
   simp only [go_sem]
   have hl:=Zmg (m:=decide (a<0)) (Yrc (k:=lenD a.natAbs) (v:=a.natAbs - b.natAbs)) (by rw [Yix (Za7 (Nat.sub_le _ _))]; exact Nat.le_trans ha (by omega))
   have hv:(if decide (a<0)=true then -((a.natAbs - b.natAbs:Nat):Int) else ((a.natAbs - b.natAbs:Nat):Int))=a+b:=by
    by_cases h1:a<0 <;> by_cases h2:b<0 <;> simp [h1,h2] at hs ⊢ <;> omega
   rw [Yq6,hv] at hl
   refine Zaa hl (by simp only [go_sem]) ?_
   simp only [go_sem,Zai]
  ·have hge:¬ (0:Int)≤(if a.natAbs<b.natAbs then -1 else if b.natAbs<a.natAbs then 1 else 0):=by rw [if_pos (by omega)]; omega
   simp only [go_sem,Zos,Zqg,Z0j,hbe]
   refine Zaa (Z59 ha hb) (by simp only [go_sem]) ?_
   simp only [go_sem,hge,Z1i,hm]
   refine Zaa (Yd5 hb (show a.natAbs≤b.natAbs by omega)) (by simp only [go_sem]) ?_
   simp only [go_sem]
   have hl:=Zmg (m:=decide (b<0)) (Yrc (k:=lenD b.natAbs) (v:=b.natAbs - a.natAbs)) (by rw [Yix (Za7 (Nat.sub_le _ _))]; exact Nat.le_trans hb (by omega))
   have hv:(if decide (b<0)=true then -((b.natAbs - a.natAbs:Nat):Int) else ((b.natAbs - a.natAbs:Nat):Int))=a+b:=by
    by_cases h1:a<0 <;> by_cases h2:b<0 <;> simp [h1,h2] at hs ⊢ <;> omega
   rw [Yq6,hv] at hl
   refine Zaa hl (by simp only [go_sem]) ?_
   simp only [go_sem,Zai]
theorem Ysa {a b:Int}(ha:Zs a.natAbs) (hb:Zs b.natAbs):SpecV Tryz.prog Yzl [avZ a,avZ b] (avZ (a - b)):=by
 refine Zad Yvs (by simp) ?_
 unfold Yqa
 have hm:Tryz.prog.follows .mixedOrders=true:=by kernel_rfl
 simp only [go_sem,Yc0,Z0n,hm,Zai]
 refine Zaa (Yp6 (z:=b)) (by simp only [go_sem,Zai]) ?_
 simp only [go_sem]
 have:=Xdc (a:=a) (b := -b) ha (by rw [Int.natAbs_neg]; exact hb)
 refine Zaa this (by simp only [go_sem,Zai]) ?_
 rw [← Int.sub_eq_add_neg]
 simp only [go_sem,Zai]
theorem Yxc {a b:Int}(ha:Zs a.natAbs) (hb:Zs b.natAbs):SpecV Tryz.prog Yyv [avZ a,avZ b] (.int .i64 (if a=b then 0 else if a<b then -1 else 1)):=by
 refine Zad Yso (by simp) ?_
 unfold Yru
 simp only [go_sem,Ydb,Yaq,Zai]
 refine Zaa (Ysa ha hb) (by simp only [go_sem,Zai]) ?_
 simp only [go_sem]
 refine Zaa (Y8t (z:=a - b)) (by simp only [go_sem,Zai]) ?_
 simp only [go_sem]
 have e1:(a - b=0)=(a=b):=propext (by omega)
 have e2:(a - b<0)=(a<b):=propext (by omega)
 simp only [e1,e2]
end GoAbs
namespace GoAbs
open Go Go.Proofs
theorem Y8o {v:Int}{m:Bool}(hv:v.natAbs≤9223372036854775808) {K:Ex→St→Prop}
  (hK:∀ e:Nat→AV,e 2 = .ptr 0 0→e 3 = .ptr 1 0→K (.exit 0) ⟨e,[.cells [.bool false,.nils],.cells [.bool m,.osl none 2 0 (dg v.natAbs).length],.cells (ic (dg v.natAbs))]⟩) :
  T Tryz.prog 25 0 (.loop Zpd) ⟨envL [(0,.int .i64 v),(2,.ptr 0 0),(3,.ptr 1 0)],[.cells [.bool false,.nils],.cells [.bool m,.osl none 2 0 0],.cells []]⟩ K:=by
 refine Zaf (fun z:Int×List Nat=>⟨envL [(0,.int .i64 z.1),(2,.ptr 0 0),(3,.ptr 1 0)],[.cells [.bool false,.nils],.cells [.bool m,.osl none 2 0 z.2.length],.cells (ic z.2)]⟩)
  (fun z=>z.1.natAbs≤9223372036854775808∧z.2.length≤9223372036854775808 - z.1.natAbs∧z.2++dg z.1.natAbs=dg v.natAbs) (fun z=>z.1.natAbs) (v,[]) ⟨hv,by simp,rfl⟩ (Zab _ (by simp only [go_sem])) (fun z hI N hN=>?_)
 obtain ⟨u,s⟩:=z
 obtain ⟨h1,h2,h3⟩:=hI
 simp only at h1 h2 h3 ⊢
 unfold Zpd
 have hlen:s.length≤6:=by
  have g1:(dg v.natAbs).length≤6:=by
   have:v.natAbs<10000 ^ 6:=by omega
   exact Zpy this
  have:=congrArg List.length h3
  rw [List.length_append] at this
  omega
 by_cases hu:u=0
 ·subst hu
  simp only [go_sem,Zp7]
  rw [Int.natAbs_zero,Zcg,List.append_nil] at h3
  subst h3
  exact hK _ (by simp only [go_sem]) (by simp only [go_sem])
 ·have hm1:(u.tmod 10000).natAbs=u.natAbs % 10000:=by rw [Int.natAbs_tmod]; rfl
  have hd1:(u.tdiv 10000).natAbs=u.natAbs / 10000:=by rw [Int.natAbs_tdiv]; rfl
  have p10:¬ (10000:Int)=0:=by omega
  have hdg:dg u.natAbs=u.natAbs % 10000::dg (u.natAbs / 10000):=Zz1 (by omega)
  have ew:IntKind.i64.wrap (u.tdiv 10000)=u.tdiv 10000:=Zac (by omega) (by omega)
  have hsz:(s.length+1)*8≤1099511627776:=by omega
  have hfit:s.length≤(ic s).length:=by rw [Zao]; omega
  have htake:(ic s).take s.length=ic s:=List.take_of_length_le (by rw [Zao]; omega)
  have done:∀ (d:Nat) (e:Nat→AV) (bl:Blk),d=u.natAbs % 10000→e 0 = .int .i64 (u.tdiv 10000)→e 2 = .ptr 0 0→e 3 = .ptr 1 0 →
    N ⟨e,[.cells [.bool false,.nils],.cells [.bool m,.osl none 4 0 (s.length+1)],.dead,bl,.cells (ic s ++ [.int .i64 (d:Int)])]⟩:=fun d e bl hd k0 k2 k3=>by
   refine hN (u.tdiv 10000,s ++ [d]) _ ⟨by simp only; omega,by simp only [List.length_append,List.length_singleton]; omega,?_⟩ (by show (u.tdiv 10000).natAbs<u.natAbs; omega) ?_
   ·simp only
    rw [hd1,hd,List.append_assoc,List.singleton_append, ← hdg]; exact h3
   ·refine Zbz (Zgb [0,1,4] (by decide) (fun i hi=>by omega) [(0,.int .i64 (u.tdiv 10000)),(2,.ptr 0 0),(3,.ptr 1 0)] ⟨k0,k2,k3,trivial⟩) ?_
    have h1:ic s ++ [AV.int .i64 (d:Int)]=ic (s ++ [d]):=by rw [Ybq]; rfl
    simp only [List.length_append,List.length_singleton]
    congr 1
    show [Blk.cells [.bool false,.nils],Blk.cells [.bool m,.osl none 2 0 (s.length+1)],Blk.cells (gcL _ (ic s ++ [AV.int .i64 (d:Int)]))]=_
    rw [h1,Y3f]
  by_cases hneg:u.tmod 10000<0
  ·have en:IntKind.i64.wrap (-(u.tmod 10000))=((u.natAbs % 10000:Nat):Int):=by rw [Zac (by omega) (by omega)]; omega
   have en':IntKind.i64.wrap (0 - (u.tmod 10000))=((u.natAbs % 10000:Nat):Int):=by rw [Zac (by omega) (by omega)]; omega
   simp only [go_sem,Zp7,Z0r,Z0o,Ycw,Z08,Z0t,hu,p10,hneg,en,en',ew,hsz,hfit,htake]
   exact done _ _ _ rfl (by simp only [go_sem]) (by simp only [go_sem]) (by simp only [go_sem])
  ·have en:u.tmod 10000=((u.natAbs % 10000:Nat):Int):=by omega
   have hneg':¬ ((u.natAbs % 10000:Nat):Int)<0:=by omega
   simp only [go_sem,Zp7,Z0r,Z0o,Z08,Z0t,hu,p10,en,hneg',ew,hsz,hfit,htake]
   exact done _ _ _ rfl (by simp only [go_sem]) (by simp only [go_sem]) (by simp only [go_sem])
theorem Z6y {v:Int}(hv:v.natAbs≤9223372036854775808):SpecV Tryz.prog Ydr [.int .i64 v] (avZ v):=by
 refine Zba Yuf (by simp) (Zbg 1 rfl ?_)
 unfold Yqz
 have fin:∀ (m:Bool) (e:Nat→AV),decide (v<0)=m→e 0 = .int .i64 v→e 2 = .ptr 0 0→e 3 = .ptr 1 0 →
   T Tryz.prog 25 0 (.seq (.block 0 (.loop Zpd)) (.seq (.rg false Z04) .ret)) ⟨e,[.cells [.bool false,.nils],.cells [.bool m,.nils]]⟩ (retQ [.cell 2 (some 2)] (avZ v)):=fun m e hm e0 e2 e3=>by
  refine Zar [(0,.int .i64 v),(2,.ptr 0 0),(3,.ptr 1 0)] (by simp only [go_sem,e0,e2,e3]) ?_
  refine T_le (Yab (b:=1) (l := [.bool m,.nils]) (l' := [.bool m,.osl none 2 0 0]) rfl rfl (fun j x y hx hy=>?_)) (T_le Yl6 ?_)
  ·match j,hx,hy with
   | 0,hx,hy=>simp at hx hy; subst hx; subst hy; exact .inl rfl
   | 1,hx,hy=>simp at hx hy; subst hx; subst hy; exact .inr ⟨rfl,_,_,_,rfl⟩
   | j+2,hx,hy=>simp at hx
  refine Zbc (Za8 (Y8o hv (fun e e2 e3=>T_W ?_)))
  simp only [go_sem,Z04,e2,e3]
  rw [Zai,hm]
  refine Y65 (.cons (.bool _) (.cons (Ylq rfl (List.mem_range.2 (by simp)) rfl (by rw [List.drop_zero,List.take_of_length_le (by rw [Zao]; exact Nat.le_refl _)])) .nil))
 simp only [go_sem,Yd4,Yci]
 exact ⟨fun h=>fin true _ (by simp [h]) (by simp only [go_sem]) (by simp only [go_sem]) (by simp only [go_sem]),fun h=>fin false _ (by simp [h]) (by simp only [go_sem]) (by simp only [go_sem]) (by simp only [go_sem])⟩
end GoAbs
namespace GoAbs
open Go Go.Proofs
theorem Y6j {V V' V0 X P Q r t c w bk y x:Nat}(hs:V'+P*r=V+P*(t % 10000)) (hv:V+P*c=V0+X*bk) (ht:t=r+c+w) (hw:w=x*y) (hX:X=Q*x):V'+P*10000*(t / 10000)+0=V0+X*bk+P*(x*y):=by
 have h1:P*(t % 10000)+P*10000*(t / 10000)=P*t:=by rw [Nat.mul_assoc, ← Nat.mul_add,Nat.mod_add_div]
 have h2:P*t=P*r+P*c+P*w:=by rw [ht,Nat.mul_add,Nat.mul_add]
 rw [← hw]
 omega
theorem Xa5 {a b R0:List Nat}{ma mb:Bool}{i L x n0:Nat}(ha:Od a) (hb:Od b) (hx:a[i]? = some x) (hla:a.length≤200000000) (hlb:b.length≤200000000)
  (hL:L=a.length+b.length+1) (hR:R0.length=L) (hO:Od R0) (hV:vd R0<10000 ^ (i+b.length)) {K:Ex→St→Prop}
  (hK:∀ (e:Nat→AV) (R:List Nat),R.length=L→Od R→vd R=vd R0+10000 ^ i*x*vd b→e 2 = .ptr 0 0→e 3 = .ptr 1 0→e 4 = .ptr 2 0→e 5 = .osl none 3 0 L→e 6 = .int .i64 (i:Int)→K (.exit 2) ⟨e,[.cells [.bool ma,.sl (ic a)],.cells [.bool mb,.sl (ic b)],.cells [.bool false,.nils],.cells (ic R)]⟩) :
  T Tryz.prog 80 n0 (.loop Z1k) ⟨envL [(2,.ptr 0 0),(3,.ptr 1 0),(4,.ptr 2 0),(5,.osl none 3 0 L),(6,.int .i64 (i:Int)),(7,.int .i64 0),(8,.int .i64 0)],[.cells [.bool ma,.sl (ic a)],.cells [.bool mb,.sl (ic b)],.cells [.bool false,.nils],.cells (ic R0)]⟩ K:=by
 have hm:Tryz.prog.follows .mixedOrders=true:=by kernel_rfl
 have hia:i<a.length:=(List.getElem?_eq_some_iff.1 hx).1
 have hxl:=ha.get hx
 refine Zaf (fun z:Nat×Nat×List Nat=>⟨envL [(2,.ptr 0 0),(3,.ptr 1 0),(4,.ptr 2 0),(5,.osl none 3 0 L),(6,.int .i64 (i:Int)),(7,.int .i64 (z.2.1:Int)),(8,.int .i64 (z.1:Int))],[.cells [.bool ma,.sl (ic a)],.cells [.bool mb,.sl (ic b)],.cells [.bool false,.nils],.cells (ic z.2.2)]⟩)
  (fun z=>z.1≤b.length+1∧z.2.1<10000∧z.2.2.length=L∧Od z.2.2∧vd z.2.2+10000 ^ (i+z.1)*z.2.1=vd R0+10000 ^ i*x*vd (b.take z.1)) (fun z=>b.length+2 - z.1) (0,0,R0)
  ⟨by simp,by simp,hR,hO,by simp [vd]⟩ (Zab _ (by simp only [go_sem]; simp)) (fun z hI N hN=>?_)
 obtain ⟨k,c,R⟩:=z
 obtain ⟨h1,h2,h3,h4,h5⟩:=hI
 simp only at h1 h2 h3 h4 h5 ⊢
 unfold Z1k
 have hend:k=b.length+1→c=0:=fun hk=>by
  rcases Nat.eq_zero_or_pos c with h | h
  ·exact h
  ·exfalso
   rw [Zc4 (by omega),hk] at h5
   have g1:=Ylr hb
   have g2:10000 ^ (i+(b.length+1))*1≤10000 ^ (i+(b.length+1))*c:=Nat.mul_le_mul_left _ h
   have g3:10000 ^ i*x*(vd b+1)≤10000 ^ i*9999*10000 ^ b.length:=Nat.mul_le_mul (Nat.mul_le_mul_left _ (by omega)) g1
   have g4:10000 ^ (i+(b.length+1))=10000 ^ i*10000 ^ b.length*10000:=by rw [← Nat.add_assoc,Nat.pow_succ,Nat.pow_add]
   have g5:10000 ^ (i+b.length)=10000 ^ i*10000 ^ b.length:=Nat.pow_add _ _ _
   have g6:10000 ^ i*9999*10000 ^ b.length=10000 ^ i*10000 ^ b.length*9999:=by rw [Nat.mul_assoc,Nat.mul_comm 9999,Nat.mul_assoc]
   rw [Nat.mul_add] at g3
   rw [g5] at hV
   rw [g4] at g2 h5
   generalize 10000 ^ i*10000 ^ b.length=W at *
   omega
 by_cases hgo:k<b.length∨0<c
 ·have hkb:k≤b.length:=by
   rcases hgo with h | h
   ·omega
   ·rcases Nat.lt_or_ge b.length k with h' | h'
    ·have:=hend (by omega); omega
    ·exact h'
  have hikL:i+k<R.length:=by omega
  have hr:R[i+k]? = some (R.getD (i+k) 0):=getElem?_getD hikL
  have hrl:=h4.get hr
  have hy:=hb.getD k
  have hgb:k<b.length→(ic b)[k]? = some (.int .i64 ((b.getD k 0:Nat):Int)):=fun h=>Zn5 (getElem?_getD h)
  have hzbk:¬ k<b.length→b.getD k 0=0:=fun h=>by rw [List.getD_eq_getElem?_getD,List.getElem?_eq_none (by omega)]; rfl
  have htb:=Zfk (l:=b) (n:=k)
  have hset:∀ v:Nat,vd (R.set (i+k) v)+10000 ^ (i+k)*R.getD (i+k) 0=vd R+10000 ^ (i+k)*v:=fun v=>Y7h hr
  generalize R.getD (i+k) 0=r at *
  generalize b.getD k 0=y at *
  have hxy:x*y≤9999*9999:=Nat.mul_le_mul (by omega) (by omega)
  obtain ⟨w,hw⟩:∃ w,w=x*y:=⟨_,rfl⟩
  rw [← hw] at hxy
  have q0:(0:Int)≤(i:Int):=by omega
  have q1:(0:Int)≤(k:Int):=by omega
  have qik:(0:Int)≤((i+k:Nat):Int):=by omega
  have qiL:((i+k:Nat):Int)<(L:Int):=by omega
  have qia:(i:Int)<(a.length:Int):=by omega
  have eik:IntKind.i64.wrap ((i:Int)+(k:Int))=((i+k:Nat):Int):=by rw [Zac (by omega) (by omega)]; omega
  have erc:IntKind.i64.wrap ((r:Int)+(c:Int))=((r+c:Nat):Int):=by rw [Zac (by omega) (by omega)]; omega
  have exy:IntKind.i64.wrap ((x:Int)*(y:Int))=(w:Int):=by
   have:(x:Int)*(y:Int)=(w:Int):=by rw [hw]; simp
   rw [this,Zac (by omega) (by omega)]
  have ercw:IntKind.i64.wrap (((r+c:Nat):Int)+(w:Int))=((r+c+w:Nat):Int):=by rw [Zac (by omega) (by omega)]; omega
  have e1:IntKind.i64.wrap ((k:Int)+1)=((k+1:Nat):Int):=by rw [Zac (by omega) (by omega)]; omega
  have p10:¬ (10000:Int)=0:=by omega
  have em:∀ t:Nat,((t:Nat):Int).tmod 10000=((t % 10000:Nat):Int):=fun t=>Zww (b:=10000)
  have ed:∀ t:Nat,t<300000000→IntKind.i64.wrap (((t:Nat):Int).tdiv 10000)=((t / 10000:Nat):Int):=fun t ht=>by
   have:((t:Nat):Int).tdiv 10000=((t / 10000:Nat):Int):=(Int.ofNat_tdiv t 10000).symm
   rw [this,Zac (by omega) (by omega)]
  have hrow:=Zn5 hr
  have hfit:i+k+1≤(ic R).length:=by rw [Zao]; omega
  have hsf:∀ v:Nat,(ic R).take (i+k) ++ [AV.int .i64 (v:Int)]++(ic R).drop (i+k+1)=ic (R.set (i+k) v):=fun v=>by rw [Za6 (by rw [Zao]; exact hikL),Y7a]
  have hsf':∀ v:Nat,(ic R).take (i+k)++AV.int .i64 (v:Int)::(ic R).drop (i+k+1)=ic (R.set (i+k) v):=fun v=>by rw [← hsf]; simp
  have done:∀ (t:Nat) (e:Nat→AV),t=r+c+w→e 2 = .ptr 0 0→e 3 = .ptr 1 0→e 4 = .ptr 2 0→e 5 = .osl none 3 0 L→e 6 = .int .i64 (i:Int)→e 7 = .int .i64 ((t / 10000:Nat):Int)→e 8 = .int .i64 ((k+1:Nat):Int) →
    N ⟨e,[.cells [.bool ma,.sl (ic a)],.cells [.bool mb,.sl (ic b)],.cells [.bool false,.nils],.cells (ic (R.set (i+k) (t % 10000)))]⟩:=fun t e ht k2 k3 k4 k5 k6 k7 k8=>by
   refine hN (k+1,t / 10000,R.set (i+k) (t % 10000)) _ ⟨by simp only; omega,by simp only; omega,by simp only [List.length_set]; exact h3,h4.set (by omega),?_⟩ (by show b.length+2 - (k+1)<b.length+2 - k; omega) (Zab _ (by simp only [go_sem,k2,k3,k4,k5,k6,k7,k8]))
   simp only
   have:=Y6j (hset (t % 10000)) h5 ht hw rfl (Q:=10000 ^ i)
   rw [htb,Nat.mul_add, ← Nat.add_assoc i k 1,Nat.pow_succ]
   have g:10000 ^ i*x*(10000 ^ k*y)=10000 ^ (i+k)*(x*y):=by
    rw [Nat.pow_add,Nat.mul_assoc,Nat.mul_assoc,Nat.mul_left_comm x]
   rw [g]
   omega
  by_cases hB:k<b.length
  ·have b1:(k:Int)<(b.length:Int):=by omega
   simp only [go_sem,Zoh,Zz6,Z0p,Zwc,Zwr,Zvh,hm,Zao,b1,q0,q1,qik,qiL,qia,eik,erc,exy,ercw,hrow,Zn5 hx,hgb hB,List.getElem?_drop,p10,em,ed (r+c+w) (by omega),hfit,hsf,hsf',e1]
   exact ⟨by omega,done _ _ rfl (by simp only [go_sem]) (by simp only [go_sem]) (by simp only [go_sem]) (by simp only [go_sem]) (by simp only [go_sem]) (by simp only [go_sem]) (by simp only [go_sem])⟩
  ·have b1:¬ (k:Int)<(b.length:Int):=by omega
   have c1:(0:Int)<(c:Int):=by omega
   have hy0:=hzbk hB
   have hw0:w=0:=by rw [hw,hy0,Nat.mul_zero]
   simp only [go_sem,Zoh,Zz6,Z0p,Zwr,Zvh,hm,Zao,b1,c1,q0,q1,qik,qiL,qia,eik,erc,hrow,List.getElem?_drop,p10,em,ed (r+c) (by omega),hfit,hsf,hsf',e1]
   exact ⟨by omega,done (r+c) _ (by omega) (by simp only [go_sem]) (by simp only [go_sem]) (by simp only [go_sem]) (by simp only [go_sem]) (by simp only [go_sem]) (by simp only [go_sem]) (by simp only [go_sem])⟩
 ·have b1:¬ (k:Int)<(b.length:Int):=by omega
  have c1:¬ (0:Int)<(c:Int):=by omega
  simp only [go_sem,Zoh,Zao,b1,c1]
  have hc0:c=0:=by omega
  rw [hc0,Nat.mul_zero,Nat.add_zero,Zc4 (by omega)] at h5
  exact hK _ R h3 h4 h5 (by simp only [go_sem]) (by simp only [go_sem]) (by simp only [go_sem]) (by simp only [go_sem]) (by simp only [go_sem])
theorem Y7x {a b:List Nat}{ma mb:Bool}{L n0:Nat}(ha:Od a) (hb:Od b) (hla:a.length≤200000000) (hlb:b.length≤200000000) (hL:L=a.length+b.length+1) {K:Ex→St→Prop}
  (hK:∀ (e:Nat→AV) (R:List Nat),R.length=L→Od R→vd R=vd a*vd b→e 2 = .ptr 0 0→e 3 = .ptr 1 0→e 4 = .ptr 2 0→e 5 = .osl none 3 0 L→K (.exit 0) ⟨e,[.cells [.bool ma,.sl (ic a)],.cells [.bool mb,.sl (ic b)],.cells [.bool false,.nils],.cells (ic R)]⟩) :
  T Tryz.prog 80 n0 (.loop Zz4) ⟨envL [(2,.ptr 0 0),(3,.ptr 1 0),(4,.ptr 2 0),(5,.osl none 3 0 L),(6,.int .i64 0)],[.cells [.bool ma,.sl (ic a)],.cells [.bool mb,.sl (ic b)],.cells [.bool false,.nils],.cells (ic (List.replicate L 0))]⟩ K:=by
 refine Zaf (fun z:Nat×List Nat=>⟨envL [(2,.ptr 0 0),(3,.ptr 1 0),(4,.ptr 2 0),(5,.osl none 3 0 L),(6,.int .i64 (z.1:Int))],[.cells [.bool ma,.sl (ic a)],.cells [.bool mb,.sl (ic b)],.cells [.bool false,.nils],.cells (ic z.2)]⟩)
  (fun z=>z.1≤a.length∧z.2.length=L∧Od z.2∧vd z.2=vd (a.take z.1)*vd b) (fun z=>a.length - z.1) (0,List.replicate L 0)
  ⟨by simp,by simp,Od.rep,by rw [Yqw]; simp [vd]⟩ (Zab _ (by simp only [go_sem]; simp)) (fun z hI N hN=>?_)
 obtain ⟨i,R⟩:=z
 obtain ⟨h1,h2,h3,h4⟩:=hI
 simp only at h1 h2 h3 h4 ⊢
 unfold Zz4
 by_cases hi:i<a.length
 ·have q1:(i:Int)<(a.length:Int):=by omega
  have e1:IntKind.i64.wrap ((i:Int)+1)=((i+1:Nat):Int):=by rw [Zac (by omega) (by omega)]; omega
  have hx:=getElem?_getD hi
  have hV:vd R<10000 ^ (i+b.length):=by
   rw [h4,Nat.pow_add]
   have g1:=Ylr (ha.take (n:=i))
   rw [List.length_take,Nat.min_eq_left h1] at g1
   exact Nat.mul_lt_mul'' g1 (Ylr hb)
  simp only [go_sem,Z1b,Yd8,Ya0,Zao,q1]
  refine Zar [(2,.ptr 0 0),(3,.ptr 1 0),(4,.ptr 2 0),(5,.osl none 3 0 L),(6,.int .i64 (i:Int)),(7,.int .i64 0),(8,.int .i64 0)] (by simp only [go_sem])
   (Xa5 ha hb hx hla hlb hL h2 h3 hV (fun e R' g1 g2 g3 k2 k3 k4 k5 k6=>?_))
  simp only [go_sem,Z7c,k6,e1]
  refine hN (i+1,R') _ ⟨hi,g1,g2,?_⟩ (by show a.length - (i+1)<a.length - i; omega) (Zab _ (by simp only [go_sem,k2,k3,k4,k5]))
  simp only
  rw [g3,h4,Zfk,Nat.add_mul]
 ·have hia:i=a.length:=by omega
  subst hia
  have q1:¬ ((a.length:Nat):Int)<(a.length:Int):=by omega
  simp only [go_sem,Z1b,Zao,q1]
  rw [List.take_length] at h4
  exact hK _ R h2 h3 h4 (by simp only [go_sem]) (by simp only [go_sem]) (by simp only [go_sem]) (by simp only [go_sem])
theorem Yfg {a b:Int}(ha:Zs a.natAbs) (hb:Zs b.natAbs):SpecV Tryz.prog Y0a [avZ a,avZ b] (avZ (a*b)):=by
 refine Zad Yt0 (by simp) ?_
 unfold Yqc
 have la:=ha.len
 have lb:=hb.len
 rw [Zai,Zai]
 obtain ⟨L,hL⟩:∃ L,L=(dg a.natAbs).length+(dg b.natAbs).length+1:=⟨_,rfl⟩
 have e1:IntKind.i64.wrap (((dg a.natAbs).length:Int)+((dg b.natAbs).length:Int))=(((dg a.natAbs).length+(dg b.natAbs).length:Nat):Int):=by rw [Zac (by omega) (by omega)]; omega
 have e2:IntKind.i64.wrap ((((dg a.natAbs).length+(dg b.natAbs).length:Nat):Int)+1)=(L:Int):=by rw [Zac (by omega) (by omega)]; omega
 have p0:(0:Int)≤(L:Int):=by omega
 have p1:(8:Int)*(L:Int)≤281474976710656:=by omega
 simp only [go_sem,Ydp,Yd9,Ycq,Zao,e1,e2,p0,p1,Int.le_refl,Y6n]
 refine ⟨by omega,?_⟩
 refine Zar [(2,.ptr 0 0),(3,.ptr 1 0),(4,.ptr 2 0),(5,.osl none 3 0 L),(6,.int .i64 0)] (by simp only [go_sem])
  (Y7x (Zum _) (Zum _) (by omega) (by omega) hL (fun e R g1 g2 g3 k2 k3 k4 k5=>?_))
 rw [Zn9,Zn9] at g3
 simp only [go_sem,Z8o,k2,k3,k4,k5]
 have hl:=Zmg (m := !(decide (a<0) == decide (b<0))) g2 (by omega)
 have hv:(if (!(decide (a<0) == decide (b<0)))=true then -(vd R:Int) else (vd R:Int))=a*b:=by
  rw [g3,Int.natCast_mul]
  by_cases h1:a<0
  ·have e1:(a.natAbs:Int) = -a:=by omega
   by_cases h2:b<0
   ·have e2:(b.natAbs:Int) = -b:=by omega
    rw [e1,e2,Int.neg_mul_neg]; simp [h1,h2]
   ·have e2:(b.natAbs:Int)=b:=by omega
    rw [e1,e2]; simp [h1,h2]; try grind
  ·have e1:(a.natAbs:Int)=a:=by omega
   by_cases h2:b<0
   ·have e2:(b.natAbs:Int) = -b:=by omega
    rw [e1,e2]; simp [h1,h2]; try grind
   ·have e2:(b.natAbs:Int)=b:=by omega
    rw [e1,e2]; simp [h1,h2]; try grind
 rw [hv] at hl
 refine Zjb (ids := [3]) hl ?_ ?_
 ·simp only [go_sem]
  exact Ylq rfl (by simp) (by omega) (by rw [List.drop_zero,List.take_of_length_le (by rw [Zao]; omega)])
 ·simp only [go_sem,Zai,k4]
end GoAbs
namespace GoAbs
open Go Go.Proofs
theorem Zav {m:Nat}:avZ (m:Int) = .agg [.bool false,.sl (ic (dg m))]:=by
 rw [Zai]
 have:decide ((m:Int)<0)=false:=by simp
 rw [this,Int.natAbs_natCast]
theorem Z9z {m n:Nat}:lenD (m*n)≤lenD m+lenD n:=by
 refine Zpy ?_
 rw [Nat.pow_add]
 exact Nat.mul_lt_mul'' (Zky m) (Zky n)
theorem Zw0 {d:Nat}(h:d<10000):lenD d≤1:=Zpy (by simpa using h)
theorem Ye7 {m d:Nat}(hm:lenD m≤90000000) (hd:d<10000):SpecV Tryz.prog Ynh [.sl (ic (dg m)),.int .i64 (d:Int)] (.sl (ic (dg (m*d)))):=by
 refine Zad Yj7 (by simp) ?_
 unfold Yfk
 simp only [go_sem,Z2x,Z1s]
 refine Zaa (Z6y (v:=(d:Int)) (by simp; omega)) (by simp only [go_sem]) ?_
 simp only [go_sem,Zav]
 have hm':Zs m:=by unfold Zs; omega
 have hd':Zs d:=by have:=Zw0 hd; unfold Zs; omega
 have h1:=Yfg (a:=(m:Int)) (b:=(d:Int)) (by simpa using hm') (by simpa using hd')
 rw [← Int.natCast_mul,Zav,Zav,Zav] at h1
 refine Zaa h1 (by simp only [go_sem]) ?_
 simp only [go_sem]
 have hl:=Zmg (m:=false) (Zum (m*d)) (by have:=Z9z (m:=m) (n:=d); have:=Zw0 hd; unfold lenD at *; omega)
 rw [Zn9] at hl
 simp only [Bool.false_eq_true,if_false,Zav] at hl
 refine Zaa hl (by simp only [go_sem]) ?_
 simp only [go_sem]
theorem Y76 {za:List AV}{b r i n0:Nat}{q:List AV}(hb:lenD b≤10000000) (hb0:0<b) (hr:r<b*10000) {K:Ex→St→Prop}{H3 H4:Blk}{lq:Nat}
  (hK:∀ (e:Nat→AV),e 2 = .ptr 0 0→e 3 = .ptr 1 0→e 4 = .ptr 2 0→e 5 = .ptr 3 0→e 6 = .osl none 4 0 lq→e 7 = .sl (ic (dg r))→e 8 = .int .i64 (i:Int)→e 9 = .int .i64 ((r / b:Nat):Int)→K (.exit 2) ⟨e,[.cells za,.cells [.bool false,.sl (ic (dg b))],H3,H4,.cells q]⟩) :
  T Tryz.prog 92 n0 (.loop Znh) ⟨envL [(2,.ptr 0 0),(3,.ptr 1 0),(4,.ptr 2 0),(5,.ptr 3 0),(6,.osl none 4 0 lq),(7,.sl (ic (dg r))),(8,.int .i64 (i:Int)),(9,.int .i64 0),(10,.int .i64 10000)],[.cells za,.cells [.bool false,.sl (ic (dg b))],H3,H4,.cells q]⟩ K:=by
 refine Zaf (fun z:Nat×Nat=>⟨envL [(2,.ptr 0 0),(3,.ptr 1 0),(4,.ptr 2 0),(5,.ptr 3 0),(6,.osl none 4 0 lq),(7,.sl (ic (dg r))),(8,.int .i64 (i:Int)),(9,.int .i64 (z.1:Int)),(10,.int .i64 (z.2:Int))],[.cells za,.cells [.bool false,.sl (ic (dg b))],H3,H4,.cells q]⟩)
  (fun z=>z.1<z.2∧z.2≤10000∧b*z.1≤r∧r<b*z.2) (fun z=>z.2 - z.1) (0,10000) ⟨by simp,by simp,by simp,hr⟩ (Zab _ (by simp only [go_sem]; simp)) (fun z hI N hN=>?_)
 obtain ⟨lo,hi⟩:=z
 obtain ⟨h1,h2,h3,h4⟩:=hI
 simp only at h1 h2 h3 h4 ⊢
 unfold Znh
 have e1:IntKind.i64.wrap ((hi:Int) - (lo:Int))=((hi - lo:Nat):Int):=by rw [Zac (by omega) (by omega)]; omega
 by_cases hgo:1<hi - lo
 ·have q1:(1:Int)<((hi - lo:Nat):Int):=by omega
  have e2:IntKind.i64.wrap ((lo:Int)+(hi:Int))=((lo+hi:Nat):Int):=by rw [Zac (by omega) (by omega)]; omega
  have e3:IntKind.i64.wrap (((lo+hi:Nat):Int).tdiv 2)=(((lo+hi) / 2:Nat):Int):=by
   have:((lo+hi:Nat):Int).tdiv 2=(((lo+hi) / 2:Nat):Int):=(Int.ofNat_tdiv (lo+hi) 2).symm
   rw [this,Zac (by omega) (by omega)]
  have p2:¬ (2:Int)=0:=by omega
  generalize hmid:(lo+hi) / 2=mid at *
  have hml:mid<10000:=by omega
  have hrz:Zs r:=by
   have:lenD r≤lenD (b*10000):=Za7 (by omega)
   have h10:lenD 10000≤2:=Zpy (by omega)
   have:=Z9z (m:=b) (n:=10000)
   unfold Zs; omega
  have hbz:Zs (b*mid):=by
   have:=Z9z (m:=b) (n:=mid)
   have:=Zw0 hml
   unfold Zs; omega
  simp only [go_sem,Zmd,Zx4,Zxj,e1,e2,e3,q1,p2]
  refine Zaa (Ye7 (m:=b) (d:=mid) (by omega) hml) (by simp only [go_sem]) ?_
  simp only [go_sem]
  refine Zaa (Z59 hbz hrz) (by simp only [go_sem]) ?_
  by_cases hc:b*mid≤r
  ·have hle:(if b*mid<r then (-1:Int) else if r<b*mid then 1 else 0)≤0:=by split <;> (try split) <;> omega
   simp only [go_sem,hle,Zu0]
   exact hN (mid,hi) _ ⟨by simp only; omega,h2,hc,h4⟩ (by show hi - mid<hi - lo; omega) (Zab _ (by simp only [go_sem]))
  ·have hle:¬ (if b*mid<r then (-1:Int) else if r<b*mid then 1 else 0)≤0:=by rw [if_neg (by omega),if_pos (by omega)]; omega
   simp only [go_sem,hle,Zwg]
   exact hN (lo,mid) _ ⟨by simp only; omega,by simp only; omega,h3,by simp only; omega⟩ (by show mid - lo<hi - lo; omega) (Zab _ (by simp only [go_sem]))
 ·have q1:¬ (1:Int)<((hi - lo:Nat):Int):=by omega
  have hhi:hi=lo+1:=by omega
  have hlo:lo=r / b:=by
   subst hhi
   refine (Nat.div_eq_of_lt_le ?_ ?_).symm
   ·rw [Nat.mul_comm]; exact h3
   ·rw [Nat.mul_comm]; exact h4
  simp only [go_sem,Zmd,e1,q1]
  exact hK _ (by simp only [go_sem]) (by simp only [go_sem]) (by simp only [go_sem]) (by simp only [go_sem]) (by simp only [go_sem]) (by simp only [go_sem]) (by simp only [go_sem]) (by simp only [go_sem,hlo])
end GoAbs
namespace GoAbs
open Go Go.Proofs
theorem Ynt {l:List Nat}{j:Nat}(h:j<l.length):vd (l.drop j)=l.getD j 0+10000*vd (l.drop (j+1)):=by
 rw [List.drop_eq_getElem_cons h]
 have:l.getD j 0=l[j]:=by rw [List.getD_eq_getElem?_getD,List.getElem?_eq_getElem h]; rfl
 rw [this]; rfl
theorem Y32 {x b V r r1:Nat}(hr1:r1=x+10000*r):x+10000*(b*V+r)=b*(r1 / b+10000*V)+(r1 - b*(r1 / b)):=by
 have h:b*(r1 / b)≤r1:=Nat.mul_div_le r1 b
 have e:b*(10000*V)=10000*(b*V):=Nat.mul_left_comm _ _ _
 rw [Nat.mul_add,Nat.mul_add b,e]
 omega
theorem ids5 {i:Nat}(h:i<5):([0,1,2,3,4]:List Nat)[i]? = some i:=by
 match i,h with
 | 0,_=>rfl
 | 1,_=>rfl
 | 2,_=>rfl
 | 3,_=>rfl
 | 4,_=>rfl
theorem Y84 {ma:Bool}{A:List Nat}{b n0:Nat}(hA:Od A) (hla:A.length≤10000000) (hb:lenD b≤10000000) (hb0:0<b) (hn0:n0≤5) {K:Ex→St→Prop}
  (hK:∀ (e:Nat→AV) (Q:List Nat) (r:Nat),Q.length=A.length→Od Q→r<b→vd A=b*vd Q+r→e 2 = .ptr 0 0→e 3 = .ptr 1 0→e 4 = .ptr 2 0→e 5 = .ptr 3 0→e 6 = .osl none 4 0 A.length→e 7 = .sl (ic (dg r)) →
   K (.exit 0) ⟨e,[.cells [.bool ma,.sl (ic A)],.cells [.bool false,.sl (ic (dg b))],.cells [.bool false,.nils],.cells [.bool false,.nils],.cells (ic Q)]⟩) :
  T Tryz.prog 92 n0 (.loop Zm7) ⟨envL [(2,.ptr 0 0),(3,.ptr 1 0),(4,.ptr 2 0),(5,.ptr 3 0),(6,.osl none 4 0 A.length),(7,.sl []),(8,.int .i64 ((A.length:Int) - 1))],
   [.cells [.bool ma,.sl (ic A)],.cells [.bool false,.sl (ic (dg b))],.cells [.bool false,.nils],.cells [.bool false,.nils],.cells (ic (List.replicate A.length 0))]⟩ K:=by
 refine Zaf (fun z:Nat×Nat×List Nat=>⟨envL [(2,.ptr 0 0),(3,.ptr 1 0),(4,.ptr 2 0),(5,.ptr 3 0),(6,.osl none 4 0 A.length),(7,.sl (ic (dg z.2.1))),(8,.int .i64 ((z.1:Int) - 1))],
   [.cells [.bool ma,.sl (ic A)],.cells [.bool false,.sl (ic (dg b))],.cells [.bool false,.nils],.cells [.bool false,.nils],.cells (ic z.2.2)]⟩)
  (fun z=>z.1≤A.length∧z.2.2.length=A.length∧Od z.2.2∧z.2.1<b∧vd (A.drop z.1)=b*vd (z.2.2.drop z.1)+z.2.1) (fun z=>z.1) (A.length,0,List.replicate A.length 0)
  ⟨Nat.le_refl _,by simp,Od.rep,hb0,by simp [vd]⟩ (Zab _ (by simp only [go_sem,Zcg,Yqr])) (fun z hI N hN=>?_)
 obtain ⟨i,r,Q⟩:=z
 obtain ⟨h1,h2,h3,h4,h5⟩:=hI
 simp only at h1 h2 h3 h4 h5 ⊢
 unfold Zm7
 cases i with
 | zero =>
  have q1:¬ (0:Int)≤((0:Nat):Int) - 1:=by omega
  simp only [go_sem,Zm5,q1]
  rw [List.drop_zero,List.drop_zero] at h5
  exact hK _ Q r h2 h3 h4 h5 (by simp only [go_sem]) (by simp only [go_sem]) (by simp only [go_sem]) (by simp only [go_sem]) (by simp only [go_sem]) (by simp only [go_sem])
 | succ j =>
  have e0:((j+1:Nat):Int) - 1=(j:Int):=by omega
  have q1:(0:Int)≤(j:Int):=by omega
  have q2:(j:Int)<(A.length:Int):=by omega
  have hx:A[j]? = some (A.getD j 0):=getElem?_getD (by omega)
  have hxl:=hA.get hx
  have hdA:=Ynt (l:=A) (j:=j) (by omega)
  generalize A.getD j 0=x at *
  have e1:IntKind.i64.wrap ((j:Int) - 1)=(j:Int) - 1:=Zac (by omega) (by omega)
  obtain ⟨r1,hr1⟩:∃ r1,r1=x+10000*r:=⟨_,rfl⟩
  have hr1b:r1<b*10000:=by omega
  have hrl:(dg r).length≤10000000:=Nat.le_trans (Za7 (Nat.le_of_lt h4)) hb
  have hsz:(1+(dg r).length)*8≤1099511627776:=by omega
  have hfl:(ic (dg r)).flatMap AV.cells=ic (dg r):=Yo7
  have hicl:(ic (dg r)).length=(dg r).length:=Zao _
  have hO1:Od (x::dg r):=fun y hy=>by
   rcases List.mem_cons.1 hy with rfl | hy
   ·exact hxl
   ·exact Zum r y hy
  have hv1:vd (x::dg r)=r1:=by rw [hr1]; simp only [vd,Zn9]
  have hl1:=Zmg (m:=false) hO1 (by rw [List.length_cons]; omega)
  rw [hv1] at hl1
  simp only [Bool.false_eq_true,if_false,Zav] at hl1
  have hcell : [AV.int .i64 (x:Int)]++ic (dg r)=ic (x::dg r):=rfl
  simp only [go_sem,Zm5,Zym,Zxc,e0,q1,q2,Zao,Zn5 hx,hfl,hicl,hsz]
  refine ⟨Z2o,?_⟩
  refine Zjb (ids := [6]) hl1 ?_ ?_
  ·simp only [go_sem]
   exact Ylq (r:=x::dg r) rfl (by simp) (by simp; omega) (by rw [List.drop_zero]; exact List.take_of_length_le (by simp [Zao]; omega))
  simp only [go_sem]
  refine T_le (Zbz (Zgb [0,1,2,3,4] (by decide) (fun i hi=>ids5 (by omega))
   [(2,.ptr 0 0),(3,.ptr 1 0),(4,.ptr 2 0),(5,.ptr 3 0),(6,.osl none 4 0 A.length),(7,.sl (ic (dg r1))),(8,.int .i64 (j:Int)),(9,.int .i64 0),(10,.int .i64 10000)] (by simp only [go_sem]))
   (c:=⟨envL [(2,.ptr 0 0),(3,.ptr 1 0),(4,.ptr 2 0),(5,.ptr 3 0),(6,.osl none 4 0 A.length),(7,.sl (ic (dg r1))),(8,.int .i64 (j:Int)),(9,.int .i64 0),(10,.int .i64 10000)],
    [.cells [.bool ma,.sl (ic A)],.cells [.bool false,.sl (ic (dg b))],.cells [.bool false,.nils],.cells [.bool false,.nils],.cells (ic Q)]⟩) ?_) ?_
  ·congr 1
   show [Blk.cells _,Blk.cells _,Blk.cells _,Blk.cells _,Blk.cells (gcL _ (ic Q))]=_
   rw [Y3f]; rfl
  refine Y76 hb hb0 hr1b (fun e k2 k3 k4 k5 k6 k7 k8 k9=>?_)
  have hql:r1 / b<10000:=by
   rw [Nat.div_lt_iff_lt_mul hb0,Nat.mul_comm]; exact hr1b
  have hjL:j<A.length:=by omega
  have hfit:j+1≤(ic Q).length:=by rw [Zao]; omega
  have hsf:(ic Q).take j++AV.int .i64 ((r1 / b:Nat):Int)::(ic Q).drop (j+1)=ic (Q.set j (r1 / b)):=by
   have:=Za6 (l:=ic Q) (i:=j) (x:=AV.int .i64 ((r1 / b:Nat):Int)) (by rw [Zao]; omega)
   rw [Y7a] at this
   rw [← this]; simp
  have hsf':(ic Q).take j ++ [AV.int .i64 ((r1 / b:Nat):Int)]++(ic Q).drop (j+1)=ic (Q.set j (r1 / b)):=by rw [← hsf]; simp
  have hqb:b*(r1 / b)≤r1:=Nat.mul_div_le r1 b
  have hrz:Zs r1:=by
   have:lenD r1≤lenD (b*10000):=Za7 (by omega)
   have h10:lenD 10000≤2:=Zpy (by omega)
   have:=Z9z (m:=b) (n:=10000)
   unfold Zs; omega
  simp only [go_sem,Zs3,Zs1,k2,k3,k4,k5,k6,k7,k8,k9,q1,q2,hfit,hsf,hsf']
  refine Zaa (Ye7 (m:=b) (d:=r1 / b) (by omega) hql) (by simp only [go_sem]) ?_
  simp only [go_sem]
  refine Zaa (Yd5 hrz hqb) (by simp only [go_sem]) ?_
  simp only [go_sem]
  have hl2:=Zmg (m:=false) (Yrc (k:=lenD r1) (v:=r1 - b*(r1 / b))) (by rw [Yix (Za7 (Nat.sub_le _ _))]; exact Nat.le_trans hrz (by omega))
  rw [Yq6] at hl2
  simp only [Bool.false_eq_true,if_false,Zav] at hl2
  refine Zaa hl2 (by simp only [go_sem]) ?_
  simp only [go_sem,Ztp,e1,k8]
  have hmod:r1 - b*(r1 / b)<b:=by
   have:=Nat.mod_lt r1 hb0
   have:=Nat.mod_add_div r1 b
   omega
  refine hN (j,r1 - b*(r1 / b),Q.set j (r1 / b)) _ ⟨by simp only; omega,by simp only [List.length_set]; exact h2,h3.set hql,hmod,?_⟩ (by show j<j+1; omega) (Zab _ (by simp only [go_sem,k2,k3,k4,k5,k6]))
  simp only
  have hdq:vd ((Q.set j (r1 / b)).drop j)=r1 / b+10000*vd (Q.drop (j+1)):=by
   rw [Ynt (by rw [List.length_set]; omega)]
   congr 1
   ·rw [List.getD_eq_getElem?_getD,List.getElem?_set_self (by omega)]; rfl
   ·congr 2
    rw [List.drop_set]
    rw [if_pos (by omega)]
  rw [hdq,hdA,h5]
  exact Y32 hr1
theorem Yuc {a:Int}{b V r:Nat}(hb0:0<b) (hr:r<b) (h:a.natAbs=b*V+r) :
  (¬ a<0→a / (b:Int)=(V:Int)∧a % (b:Int)=(r:Int))∧(a<0→r=0→a / (b:Int) = -(V:Int)∧a % (b:Int)=0)∧(a<0→r≠0→a / (b:Int) = -(V:Int) - 1∧a % (b:Int)=(b:Int) - r):=by
 have hz:(a.natAbs:Int)=(b:Int)*(V:Int)+r:=by rw [h]; simp
 have hb:(0:Int)<(b:Int):=by omega
 have e1:(b:Int) * -(V:Int) = -((b:Int)*(V:Int)):=by rw [Int.mul_neg]
 have e2:(b:Int)*(-(V:Int) - 1) = -((b:Int)*(V:Int)) - b:=by rw [Int.mul_sub,e1,Int.mul_one]
 refine ⟨fun h0=>(Int.ediv_emod_unique hb).2 ⟨by omega,by omega,by omega⟩,fun h0 h1=>(Int.ediv_emod_unique hb).2 ⟨by rw [e1]; omega,by omega,by omega⟩,fun h0 h1=>(Int.ediv_emod_unique hb).2 ⟨by rw [e2]; omega,by omega,by omega⟩⟩
theorem Ycj {a:Int}{b:Nat}(ha:lenD a.natAbs≤10000000) (hb:lenD b≤10000000) (hb0:0<b):SpecV Tryz.prog Ylz [avZ a,avZ (b:Int)] (.tup [avZ (a / (b:Int)),avZ (a % (b:Int))]):=by
 refine Zba Yhi (by simp) (Zbg 2 rfl ?_)
 unfold Ycd
 have hm:Tryz.prog.follows .mixedOrders=true:=by kernel_rfl
 rw [Zav,Zai]
 have e0:IntKind.i64.wrap (((dg a.natAbs).length:Int) - 1)=((dg a.natAbs).length:Int) - 1:=by unfold lenD at ha; rw [Zac (by omega) (by omega)]
 have p0:(0:Int)≤((dg a.natAbs).length:Int):=by omega
 have p1:(8:Int)*((dg a.natAbs).length:Int)≤281474976710656:=by unfold lenD at ha; omega
 have p2:((8:Nat):Int)*((dg a.natAbs).length:Int)≤281474976710656:=by unfold lenD at ha; omega
 simp only [go_sem,Zzy,Zzk,Zxy,Zao,e0,p0,p1,p2,Int.le_refl,Y6n]
 refine Zp6 [] [(2,.ptr 0 0),(3,.ptr 1 0),(4,.ptr 2 0),(5,.ptr 3 0),(6,.osl none 4 0 (dg a.natAbs).length),(7,.sl []),(8,.int .i64 (((dg a.natAbs).length:Int) - 1))]
  ⟨.inr (by simp only [go_sem]),.inr (by simp only [go_sem]),.inr (by simp only [go_sem]),.inr (by simp only [go_sem]),.inr (by simp only [go_sem]),.inl (by simp only [go_sem]),.inr (by simp only [go_sem]),trivial⟩ ?_
 refine Y84 (Zum _) ha hb hb0 (by omega) (fun e Q r g1 g2 g3 g4 k2 k3 k4 k5 k6 k7=>?_)
 rw [Zn9] at g4
 have hQl:Q.length≤10000000:=by rw [g1]; exact ha
 have hl1:=Zmg (m:=decide (a<0)) g2 (by omega)
 have hrz:lenD r≤10000000:=Nat.le_trans (Za7 (Nat.le_of_lt g3)) hb
 have hl2:=Zmg (m:=false) (Zum r) (by unfold lenD at hrz; omega)
 rw [Zn9] at hl2
 simp only [Bool.false_eq_true,if_false,Zav] at hl2
 simp only [go_sem]
 refine T_W ?_
 simp only [go_sem,Zvq,k2,k3,k4,k5,k6,k7]
 refine Zjb (ids := [4]) hl1 ?_ ?_
 ·simp only [go_sem]
  exact Ylq (r:=Q) rfl (by simp) g1 (by rw [List.drop_zero]; exact List.take_of_length_le (by simp [Zao]; omega))
 simp only [go_sem,k2,k3,k4,k5,k7]
 refine Zaa hl2 (by simp only [go_sem]) ?_
 have hab:a.natAbs=b*vd Q+r:=g4
 obtain ⟨f1,f2,f3⟩:=Yuc hb0 g3 hab
 have nr:avZ (r:Int) = .agg [.bool false,.sl (ic (dg r))]:=Zav
 by_cases hneg:a<0
 ·have hz:(if decide (a<0)=true then -(vd Q:Int) else (vd Q:Int)) = -(vd Q:Int):=by simp [hneg]
  rw [hz]
  by_cases hr0:r=0
  ·rw [(f2 hneg hr0).1,(f2 hneg hr0).2]
   subst hr0
   have hlr:¬ (0:Int)<((dg 0).length:Int):=by rw [Zcg]; simp
   have nz:avZ (0:Int) = .agg [.bool false,.sl (ic (dg 0))]:=Zav (m:=0)
   rw [nz]
   simp only [go_sem,Zai,Zf7,Zgo,hneg,decide_true,k2,k3,k4,k5,k7,hm,hlr,Zao]
   refine Yce hm (fun _ b=>b=2∨b=3) 0 ?_
   simp only [go_sem,k4,k5]
  ·rw [(f3 hneg hr0).1,(f3 hneg hr0).2]
   have hlr:(0:Int)<((dg r).length:Int):=Zgz.2 hr0
   simp only [go_sem,Zai,Zf7,Zkg,hneg,decide_true,k2,k3,k4,k5,k7,hm,hlr,Zao]
   refine Zaa (Z6y (v:=1) (by decide)) (by simp only [go_sem]) ?_
   have z1:Zs (-(vd Q:Int)).natAbs:=by
    have:lenD (vd Q)≤lenD a.natAbs:=Za7 (by
     have:1*vd Q≤b*vd Q:=Nat.mul_le_mul_right _ hb0
     omega)
    rw [Int.natAbs_neg,Int.natAbs_natCast]; unfold Zs; omega
   have z2:Zs (1:Int).natAbs:=by unfold Zs; exact Nat.le_trans (Zw0 (d:=1) (by omega)) (by omega)
   have zb:Zs (b:Int).natAbs:=by rw [Int.natAbs_natCast]; unfold Zs; omega
   have zr:Zs (r:Int).natAbs:=by rw [Int.natAbs_natCast]; unfold Zs; omega
   simp only [go_sem]
   refine Zaa (Ysa z1 z2) (by simp only [go_sem,Zai]) ?_
   simp only [go_sem,k3]
   have hs2:=Ysa zb zr
   rw [Zav,Zav] at hs2
   refine Zaa hs2 (by simp only [go_sem]) ?_
   simp only [go_sem,Zai,k4,k5]
 ·have hz:(if decide (a<0)=true then -(vd Q:Int) else (vd Q:Int))=(vd Q:Int):=by simp [hneg]
  rw [hz,(f1 hneg).1,(f1 hneg).2,nr]
  simp only [go_sem,Zai,Zf7,Zgo,hneg,decide_false,k2,k3,k4,k5,k7,hm,Zao]
  refine Yce hm (fun _ b=>b=2∨b=3) 0 ?_
  simp only [go_sem,k4,k5]
end GoAbs
namespace GoAbs
open Go Go.Proofs
theorem ids3 {i:Nat}(h:i<3):([0,1,2]:List Nat)[i]? = some i:=by
 match i,h with
 | 0,_=>rfl
 | 1,_=>rfl
 | 2,_=>rfl
theorem Xaa {x0 y0:Nat}(hx:lenD x0≤10000000) (hy:lenD y0≤10000000) {K:Ex→St→Prop}
  (hK:∀ (e:Nat→AV) (z:List AV),e 2 = .ptr 0 0→e 3 = .ptr 1 0→e 4 = .ptr 2 0→K (.exit 0) ⟨e,[.cells [.bool false,.sl (ic (dg (Nat.gcd x0 y0)))],.cells z,.cells [.bool false,.nils]]⟩) :
  T Tryz.prog 24 0 (.loop Z0a) ⟨envL [(2,.ptr 0 0),(3,.ptr 1 0),(4,.ptr 2 0)],[.cells [.bool false,.sl (ic (dg x0))],.cells [.bool false,.sl (ic (dg y0))],.cells [.bool false,.nils]]⟩ K:=by
 have hm:Tryz.prog.follows .mixedOrders=true:=by kernel_rfl
 refine Zaf (fun z:Nat×Nat=>⟨envL [(2,.ptr 0 0),(3,.ptr 1 0),(4,.ptr 2 0)],[.cells [.bool false,.sl (ic (dg z.1))],.cells [.bool false,.sl (ic (dg z.2))],.cells [.bool false,.nils]]⟩)
  (fun z=>lenD z.1≤10000000∧lenD z.2≤10000000∧Nat.gcd z.1 z.2=Nat.gcd x0 y0) (fun z=>z.2) (x0,y0) ⟨hx,hy,rfl⟩ (Zab _ (by simp only [go_sem])) (fun z hI N hN=>?_)
 obtain ⟨x,y⟩:=z
 obtain ⟨h1,h2,h3⟩:=hI
 simp only at h1 h2 h3 ⊢
 unfold Z0a
 by_cases hy0:y=0
 ·subst hy0
  have q1:¬ (0:Int)<((dg 0).length:Int):=by rw [Zcg]; simp
  simp only [go_sem,Z1j,Zao,q1]
  rw [Nat.gcd_zero_right] at h3
  rw [h3]
  exact hK _ _ (by simp only [go_sem]) (by simp only [go_sem]) (by simp only [go_sem])
 ·have q1:(0:Int)<((dg y).length:Int):=Zgz.2 hy0
  simp only [go_sem,Z1j,Ya7,Z09,Zao,q1]
  have hd:=Ycj (a:=(x:Int)) (b:=y) (by simpa using h1) h2 (by omega)
  rw [← Int.natCast_ediv, ← Int.natCast_emod,Zav,Zav,Zav,Zav] at hd
  refine Zaa hd (by simp only [go_sem]) ?_
  simp only [go_sem,hm]
  refine Yce hm (fun _ b=>b=0∨b=1) 0 ?_
  simp only [go_sem]
  refine hN (y,x % y) _ ⟨h2,Nat.le_trans (Za7 (Nat.le_of_lt (Nat.mod_lt x (by omega)))) h2,?_⟩ (Nat.mod_lt x (by omega)) ?_
  ·simp only
   rw [← h3,Nat.gcd_comm x y,Nat.gcd_rec y x,Nat.gcd_comm]
  ·exact Zbz (Zgb [0,1,2] (by decide) (fun i hi=>ids3 (by omega)) [(2,.ptr 0 0),(3,.ptr 1 0),(4,.ptr 2 0)] (by simp only [go_sem])) rfl
theorem Y6w {a b:Int}(ha:lenD a.natAbs≤10000000) (hb:lenD b.natAbs≤10000000):SpecV Tryz.prog Yzm [avZ a,avZ b] (avZ (Int.gcd a b:Int)):=by
 have hm:Tryz.prog.follows .mixedOrders=true:=by kernel_rfl
 refine Zad Yvk (by simp) ?_
 unfold Yq5
 have h1:=Yy4 (z:=a)
 have h2:=Yy4 (z:=b)
 rw [Zav,Zai] at h1 h2
 rw [Zav,Zai,Zai]
 simp only [go_sem,Ybg,Z0s,hm]
 refine Zaa h1 (by simp only [go_sem]) ?_
 simp only [go_sem]
 refine Zaa h2 (by simp only [go_sem]) ?_
 simp only [go_sem]
 refine Zar [(2,.ptr 0 0),(3,.ptr 1 0),(4,.ptr 2 0)] (by simp only [go_sem]) (Xaa ha hb (fun e z k2 k3 k4=>?_))
 have hg:Nat.gcd a.natAbs b.natAbs=Int.gcd a b:=rfl
 simp only [go_sem,Yc8,k2,k3,k4,hg]
end GoAbs
namespace GoAbs
open Go Go.Proofs
def rc (n d:Int):List AV := [.bool (decide (n<0)),.sl (ic (dg n.natAbs)),.bool (decide (d<0)),.sl (ic (dg d.natAbs))]
def avR (n d:Int):AV := .agg (rc n d)
theorem Zbl {n d:Int}:avR n d = .agg [.bool (decide (n<0)),.sl (ic (dg n.natAbs)),.bool (decide (d<0)),.sl (ic (dg d.natAbs))]:=rfl
theorem Yjx {n k:Nat}(h:n<2 ^ k):lenD n≤k:=by
 refine Zpy (Nat.lt_of_lt_of_le h ?_)
 exact Nat.pow_le_pow_left (by omega) _
def Ib (k:Nat) (z:Int):Prop:=z.natAbs<2 ^ k
theorem Ib.zs {k:Nat}{z:Int}(h:Ib k z) (hk:k≤10000000):Zs z.natAbs:=by have:=Yjx h; unfold Zs; omega
theorem Ib.len {k:Nat}{z:Int}(h:Ib k z) (hk:k≤10000000):lenD z.natAbs≤10000000:=by have:=Yjx h; omega
theorem Ib.mul {k l:Nat}{a b:Int}(ha:Ib k a) (hb:Ib l b):Ib (k+l) (a*b):=by
 unfold Ib at *
 rw [Int.natAbs_mul,Nat.pow_add]
 exact Nat.mul_lt_mul'' ha hb
theorem rwhole {v:Int}(hv:v.natAbs≤9223372036854775808):SpecV Tryz.prog Zpt [.int .i64 v] (avR v 1):=by
 refine Zad Ylp (by simp) ?_
 unfold Ygf
 have m1:=Z6y hv
 have m2:=Z6y (v:=1) (by decide)
 rw [Zai] at m1 m2
 rw [Zbl]
 simp only [go_sem,Z2t,Z5b]
 refine Zaa m1 (by simp only [go_sem]) ?_
 simp only [go_sem]
 refine Zaa m2 (by simp only [go_sem]) ?_
 simp only [go_sem]
theorem rlow {n d:Int}{k:Nat}(h1:Ib k n) (h2:Ib k d) (hd:0<d) (hk:k≤10000000):SpecV Tryz.prog Ykp [avR n d] (avR (Rat.divInt n d).num (Rat.divInt n d).den):=by
 refine Zad Yir (by simp) ?_
 unfold Ybk
 have l1:=h1.len hk
 have l2:=h2.len hk
 have hg:=Y6w l1 l2
 have hgp:0<Int.gcd n d:=Int.gcd_pos_iff.2 (.inr (by omega))
 have lg:lenD (Int.gcd n d)≤10000000:=Nat.le_trans (Za7 (Nat.le_of_dvd (by omega) (Int.gcd_dvd_natAbs_right n d))) l2
 have m1:=Ycj l1 lg hgp
 have m2:=Ycj l2 lg hgp
 have e1:(Rat.divInt n d).num=n / (Int.gcd n d:Int):=by
  rw [Rat.num_divInt,Int.sign_eq_one_of_pos hd,Int.one_mul,Int.gcd_comm]
 have e2:(((Rat.divInt n d).den:Nat):Int)=d / (Int.gcd n d:Int):=by
  rw [Rat.den_divInt,if_neg (by omega),Int.natCast_ediv,Int.natAbs_of_nonneg (by omega),Int.gcd_comm]
 rw [e1,e2]
 rw [Zav,Zai,Zai] at hg
 rw [Zav,Zai,Zai,Zai] at m1 m2
 rw [Zbl,Zbl]
 simp only [go_sem,Zyq,Zzj,Zyl,Zyo,Zyv]
 refine Zaa hg (by simp only [go_sem]) ?_
 simp only [go_sem]
 refine Zaa m1 (by simp only [go_sem]) ?_
 simp only [go_sem]
 refine Zaa m2 (by simp only [go_sem]) ?_
 simp only [go_sem]
end GoAbs
