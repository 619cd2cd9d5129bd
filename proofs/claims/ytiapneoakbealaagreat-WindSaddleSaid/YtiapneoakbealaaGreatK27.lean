/- Lemmas for the claim (contracts of the functions that it reaches, and what they compute), without conditions. -/
import Derived.Test.YtiapneoakbealaaGreatK26
import Derived.Test.YtiapneoakbealaaGreatProg
import Derived.KernelRfl
set_option linter.unusedVariables false
set_option linter.unusedSimpArgs false
set_option maxRecDepth 10000
set_option maxHeartbeats 2000000
namespace GoAbs
open Go Go.Proofs
end GoAbs
namespace GoAbs
open Go Go.Proofs
def Yg8:List IOp := [oI 2 (.mv (.c .nils)) 0]
def Yg1:List IOp := [oI 5 (.bsl (some 4) 0 [.bool false,.nils,.bool false,.nils] []) 0,mI 3 5 1]
def Ygp:List IOp := [oI 4 (.mv (cI 0)) 0]
def Z5g:List IOp := [mI 6 4 0,mI 7 0 0,oI 8 (.len (.t 7)) 0,oI 9 (.bin .lss (.t 6) (.t 8)) 0]
def Yg3:List IOp := [mI 12 3 0,mI 13 0 0,mI 14 4 0,xI 15 1 13 14 0,lI 16 15 0,oI 17 (.call 21 [.t 16]) 0,oI 18 (.bsl (some 4) 1 [.bool false,.nils,.bool false,.nils] [(0,.t 17)]) 0,oI 19 (.app (some 4) 64 (.t 12) (.t 18)) 1,mI 3 19 2]
def Yfo:List IOp := [mI 10 4 0,oI 11 (.bin .add (.t 10) (cI 1)) 0,mI 4 11 0]
def Z5e:CC := .seq (.seq (.rg false Z5g) (.cond (.t 9) .skip (.exit 0))) (.seq (.block 1 (.rg false Yg3)) (.rg false Yfo))
def Yf8:List IOp := [mI 20 3 0,mI 2 20 0]
def Yyn:CC := .seq (.rg false Yg8) (.seq (.rg false Yg1) (.seq (.seq (.rg false Ygp) (.block 0 (.loop Z5e))) (.seq (.rg false Yf8) .ret)))
abbrev Y28:Nat:=27
theorem Yy8:fnOk Tryz.prog 27=some (21,Yyn,[.tmp 2]):=by kernel_rfl
end GoAbs
namespace GoAbs
open Go
def ic (l:List Nat):List AV:=l.map fun (x:Nat)=>AV.int .i64 (x:Int)
theorem Ysm:ic [] = []:=rfl
theorem Yor {x:Nat}{l:List Nat}:ic (x::l) = .int .i64 x::ic l:=rfl
theorem Zan (l:List Nat):(ic l).length=l.length:=by simp [ic]
theorem Zn0 {l:List Nat}{i x:Nat}(h:l[i]? = some x):(ic l)[i]? = some (.int .i64 x):=by simp [ic,h]
theorem Z1n {l:List Nat}:∀ y,y∈ic l→y.cells.length=1:=by intro y hy; simp [ic] at hy; obtain ⟨a,_,rfl⟩:=hy; rfl
theorem Y0a {l:List Nat}{n:Nat}:(ic l).take n=ic (l.take n):=by simp [ic]
theorem Ydn {l r:List Nat}:ic (l++r)=ic l++ic r:=by simp [ic]
theorem Y7u {n:Nat}:(List.replicate n [AV.int .i64 0]).flatten=ic (List.replicate n 0):=by
 induction n with
 | zero=>rfl
 | succ n ih=>simp [List.replicate_succ,ih,ic]
theorem Ynq {l:List Nat}:(ic l).flatMap AV.cells=ic l:=by
 induction l with
 | nil=>rfl
 | cons x l ih=>simp [Yor,AV.cells,ih]
theorem Y7f {l:List Nat}{i x:Nat}:(ic l).set i (.int .i64 x)=ic (l.set i x):=by simp [ic,List.map_set]
theorem Yki {H:Heap}{ids:List Nat}{b off len:Nat}{l:List AV}{r:List Nat}(hb:H[b]? = some (.cells l)) (hi:b∈ids) (hr:r.length=len) (hl:(l.drop off).take len=ic r) :
  BV H ids (.osl none b off len) (.sl (ic r)):=Yxa (α:=Nat) (f:=fun (x:Nat)=>(x:Int)) hb hi hr hl
def vd:List Nat→Nat
 | []=>0
 | x::r=>x+10000*vd r
theorem Zkh (l r:List Nat):vd (l++r)=vd l+10000 ^ l.length*vd r:=by
 induction l with
 | nil=>simp [vd]
 | cons x l ih =>
  simp only [List.cons_append,vd,ih,List.length_cons,Nat.pow_succ]
  rw [Nat.mul_add,Nat.add_assoc,Nat.mul_comm (10000 ^ l.length) 10000,Nat.mul_assoc]
theorem Ysx (n:Nat):vd (List.replicate n 0)=0:=by
 induction n with
 | zero=>rfl
 | succ n ih=>simp [List.replicate_succ,vd,ih]
def Od (l:List Nat):Prop:=∀ x,x∈l→x<10000
theorem Od.get {l:List Nat}(h:Od l) {i x:Nat}(hx:l[i]? = some x):x<10000:=h x (List.mem_of_getElem? hx)
theorem Od.take {l:List Nat}(h:Od l) {n:Nat}:Od (l.take n):=fun x hx=>h x (List.mem_of_mem_take hx)
theorem Od.append {l r:List Nat}(h:Od l) (h':Od r):Od (l++r):=fun x hx=>(List.mem_append.1 hx).elim (h x) (h' x)
theorem Od.rep {n:Nat}:Od (List.replicate n 0):=fun x hx=>by have:=(List.mem_replicate.1 hx).2; omega
theorem Ykh {l:List Nat}(h:Od l):vd l<10000 ^ l.length:=by
 induction l with
 | nil=>simp [vd]
 | cons x l ih =>
  have h1:=h x (by simp)
  have h2:=ih (fun y hy=>h y (by simp [hy]))
  have h3:10000*(vd l+1)≤10000*10000 ^ l.length:=Nat.mul_le_mul_left _ h2
  simp only [vd,List.length_cons,Nat.pow_succ]
  omega
def dg (n:Nat):List Nat:=if h:n=0 then [] else n % 10000::dg (n / 10000)
 termination_by n
 decreasing_by omega
theorem Zcf:dg 0 = []:=by unfold dg; simp
theorem Zxl {n:Nat}(h:n≠0):dg n=n % 10000::dg (n / 10000):=by rw [dg]; simp [h]
theorem Yem {n:Nat}:dg n = []↔n=0:=by
 by_cases h:n=0
 ·simp [h,Zcf]
 ·simp [Zxl h,h]
theorem Znr (n:Nat):vd (dg n)=n:=by
 induction n using Nat.strongRecOn with
 | _ n ih =>
  by_cases h:n=0
  ·subst h; simp [Zcf,vd]
  ·rw [Zxl h,vd,ih (n / 10000) (by omega)]; omega
theorem Zvz (n:Nat):Od (dg n):=by
 induction n using Nat.strongRecOn with
 | _ n ih =>
  by_cases h:n=0
  ·subst h; rw [Zcf]; intro x hx; simp at hx
  ·rw [Zxl h]
   intro x hx
   rcases List.mem_cons.1 hx with rfl | hx
   ·omega
   ·exact ih (n / 10000) (by omega) x hx
theorem Y8h {n:Nat}(h:n≠0):∃ x,(dg n).getLast? = some x∧x≠0:=by
 induction n using Nat.strongRecOn with
 | _ n ih =>
  rw [Zxl h]
  by_cases h2:n / 10000=0
  ·rw [h2,Zcf]; exact ⟨n % 10000,rfl,by omega⟩
  ·obtain ⟨x,h3,h4⟩:=ih _ (by omega) h2
   refine ⟨x,?_,h4⟩
   rw [Zxl h2] at h3 ⊢
   rw [List.getLast?_cons_cons]; exact h3
theorem Xho {l:List Nat}(h:Od l):dg (vd l)=trimL l:=by
 have cons:∀ (x:Nat) (l:List Nat),x<10000→trimL (x::l)=if trimL l = [] then (if x=0 then [] else [x]) else x::trimL l:=by
  intro x l _
  unfold trimL
  rw [List.reverse_cons,List.dropWhile_append]
  by_cases h:(l.reverse.dropWhile (· == 0)) = []
  ·simp [h,List.dropWhile_cons]; split <;> simp_all
  ·simp [h]
 induction l with
 | nil=>simp [vd,Zcf,Z33]
 | cons x l ih =>
  have hx:=h x (by simp)
  have ih:=ih (fun y hy=>h y (by simp [hy]))
  rw [cons x l hx, ← ih,vd]
  by_cases h0:vd l=0
  ·rw [h0,Zcf]
   by_cases hx0:x=0
   ·subst hx0; simp [Zcf]
   ·rw [Zxl (by omega)]
    have h1:(x+10000*0) / 10000=0:=by omega
    rw [h1,Zcf]
    simp [hx0]; omega
  ·rw [Zxl (by omega),if_neg (by rw [Yem]; exact h0)]
   congr 1
   ·omega
   ·congr 1; omega
theorem Ztu {l:List Nat}{n x:Nat}(h:l[n]? = some x):vd (l.take (n+1))=vd (l.take n)+10000 ^ n*x:=by
 have hn:n<l.length:=(List.getElem?_eq_some_iff.1 h).1
 have h2:l.take (n+1)=l.take n ++ [x]:=by rw [List.take_add_one,h]; rfl
 rw [h2,Zkh,List.length_take,Nat.min_eq_left (by omega)]
 simp [vd]
theorem Zc4 {l:List Nat}{n:Nat}(h:l.length≤n):vd (l.take n)=vd l:=by rw [List.take_of_length_le h]
theorem Y7h:∀ {l:List Nat}{i x v:Nat},l[i]? = some x→vd (l.set i v)+10000 ^ i*x=vd l+10000 ^ i*v
 | [],i,x,v,h=>by simp at h
 | y::l,0,x,v,h=>by
  simp at h; subst h
  simp only [List.set_cons_zero,vd,Nat.pow_zero,Nat.one_mul]; omega
 | y::l,i+1,x,v,h=>by
  have ih:=Y7h (l:=l) (i:=i) (x:=x) (v:=v) (by simpa using h)
  simp only [List.set_cons_succ,vd,Nat.pow_succ]
  rw [Nat.mul_comm (10000 ^ i) 10000,Nat.mul_assoc,Nat.mul_assoc]
  omega
theorem Od.set {l:List Nat}(h:Od l) {i v:Nat}(hv:v<10000):Od (l.set i v):=fun x hx=>by
 rcases List.mem_or_eq_of_mem_set hx with h1 | rfl
 ·exact h x h1
 ·exact hv
def lenD (n:Nat):Nat:=(dg n).length
theorem Yk5 {a b:List Nat}(ha:Od a) (hb:Od b):∀ n,n≤a.length→n≤b.length →
  cmpTop n a b=if vd (a.take n)<vd (b.take n) then -1 else if vd (b.take n)<vd (a.take n) then 1 else 0
 | 0,_,_=>by simp [cmpTop,vd]
 | n+1,h1,h2=>by
  have ga:=getElem?_getD (show n<a.length by omega)
  have gb:=getElem?_getD (show n<b.length by omega)
  have la:vd (a.take n)<10000 ^ n:=by have:=Ykh (ha.take (n:=n)); rwa [List.length_take,Nat.min_eq_left (by omega)] at this
  have lb:vd (b.take n)<10000 ^ n:=by have:=Ykh (hb.take (n:=n)); rwa [List.length_take,Nat.min_eq_left (by omega)] at this
  rw [Ztu ga,Ztu gb,cmpTop,Yk5 ha hb n (by omega) (by omega)]
  generalize a.getD n 0=x
  generalize b.getD n 0=y
  generalize vd (a.take n)=X at la ⊢
  generalize vd (b.take n)=Y at lb ⊢
  generalize 10000 ^ n=p at la lb ⊢
  by_cases hxy:x<y
  ·rw [if_pos hxy,if_pos (Z36 la hxy)]
  ·rw [if_neg hxy]
   by_cases hyx:y<x
   ·have:=Z36 (X:=Y) (Y:=X) lb hyx
    rw [if_pos hyx,if_neg (by omega),if_pos this]
   ·have:x=y:=by omega
    subst this
    rw [if_neg hyx]
    by_cases h3:X<Y
    ·have h5:X+p*x<Y+p*x:=by omega
     rw [if_pos h3,if_pos h5]
    ·have h5:¬ X+p*x<Y+p*x:=by omega
     rw [if_neg h3,if_neg h5]
     by_cases h4:Y<X
     ·have h6:Y+p*x<X+p*x:=by omega
      rw [if_pos h4,if_pos h6]
     ·have h6:¬ Y+p*x<X+p*x:=by omega
      rw [if_neg h4,if_neg h6]
theorem Zba {m n:Nat}(h:m≤n):lenD m≤lenD n:=by
 unfold lenD
 induction n using Nat.strongRecOn generalizing m with
 | _ n ih =>
  by_cases hm:m=0
  ·subst hm; simp [Zcf]
  ·rw [Zxl hm,Zxl (show n≠0 by omega),List.length_cons,List.length_cons]
   have := @ih (n / 10000) (by omega) (m / 10000) (Nat.div_le_div_right h)
   omega
theorem Y8d (m n:Nat):cmpL (dg m) (dg n)=if m<n then -1 else if n<m then 1 else 0:=by
 unfold cmpL
 by_cases h1:(dg m).length<(dg n).length
 ·have:m<n:=by
   rcases Nat.lt_or_ge m n with h | h
   ·exact h
   ·have:=Zba h; unfold lenD at this; omega
  rw [if_pos h1,if_pos this]
 ·rw [if_neg h1]
  by_cases h2:(dg n).length<(dg m).length
  ·have:n<m:=by
    rcases Nat.lt_or_ge n m with h | h
    ·exact h
    ·have:=Zba h; unfold lenD at this; omega
   rw [if_pos h2,if_neg (by omega),if_pos this]
  ·have h3:(dg m).length=(dg n).length:=by omega
   rw [if_neg h2,Yk5 (Zvz m) (Zvz n) _ (Nat.le_refl _) (by omega),List.take_length,h3,List.take_length,Znr,Znr]
theorem Zn6 {x k:Nat}(h:x<10000 ^ k):lenD x≤k:=by
 by_cases h0:x=0
 ·subst h0; simp [lenD,Zcf]
 ·obtain ⟨t,h1,h2⟩:=Y8h h0
  obtain ⟨ys,hy⟩:=List.getLast?_eq_some_iff.1 h1
  have hv:=Znr x
  rw [hy,Zkh] at hv
  simp only [vd,Nat.mul_zero,Nat.add_zero] at hv
  unfold lenD
  rw [hy,List.length_append,List.length_singleton]
  rcases Nat.lt_or_ge ys.length k with h3 | h3
  ·omega
  ·exfalso
   have h4:10000 ^ k≤10000 ^ ys.length:=Nat.pow_le_pow_right (by omega) h3
   have h5:10000 ^ ys.length*1≤10000 ^ ys.length*t:=Nat.mul_le_mul_left _ (by omega)
   generalize 10000 ^ ys.length=Z at *
   generalize 10000 ^ k=Y at *
   omega
theorem Zj6 (x:Nat):x<10000 ^ lenD x:=by
 have:=Ykh (Zvz x)
 rwa [Znr] at this
theorem Xbw {x k:Nat}(h:10000 ^ k≤x):k<lenD x:=by
 have h1:=Zj6 x
 exact (Nat.pow_lt_pow_iff_right (by omega:1<10000)).1 (Nat.lt_of_le_of_lt h h1)
end GoAbs
namespace GoAbs
open Go Go.Proofs
def Z73:List IOp := [oI 1 (.box (.t 0)) 0,oI 2 (.alloc [.bool false,.nils]) 1]
def Z86:List IOp := [fI 4 1 1 0,lI 5 4 0,oI 6 (.len (.t 5)) 0,mI 3 6 0]
def Zls:List IOp := [mI 7 3 0,oI 8 (.bin .gtr (.t 7) (cI 0)) 0,mI 9 8 0,gI 10 (.fa 1 (.t 1)) 0 9 true,gI 11 (.ld none (.t 10)) 0 9 true,gI 12 (.mv (.t 3)) 0 9 true,gI 13 (.bin .sub (.t 12) (cI 1)) 0 9 true,gI 14 (.idx 1 (.t 11) (.t 13)) 0 9 true,gI 15 (.ld none (.t 14)) 0 9 true,gI 16 (.bin .eql (.t 15) (cI 0)) 0 9 true,oI 17 (.pick (.t 9) (.t 16) (.c (.bool false))) 0]
def Z6y:List IOp := [mI 18 3 0,oI 19 (.bin .sub (.t 18) (cI 1)) 0,mI 3 19 0]
def Zvl:CC := .seq (.seq (.rg false Zls) (.cond (.t 17) .skip (.exit 0))) (.block 1 (.rg false Z6y))
def Zu6:List IOp := [oI 20 (.bsl none 0 [.int .i64 0] []) 0,fI 21 1 1 1,lI 22 21 1,mI 23 3 1,oI 24 (.slc 1 (.t 22) none (some (.t 23))) 1,oI 25 (.app none 8 (.t 20) (.t 24)) 1,fI 26 1 1 2,⟨none,.st 1 (.t 26) (.t 25),2,[],[],none⟩]
def Zvr:List IOp := [fI 27 0 1 0,lI 28 27 0,mI 29 28 0,gI 30 (.mv (.t 3)) 0 29 true,gI 31 (.bin .gtr (.t 30) (cI 0)) 0 29 true,oI 32 (.pick (.t 29) (.t 31) (.c (.bool false))) 0,fI 33 0 1 0,⟨none,.st 1 (.t 33) (.t 32),0,[],[],none⟩]
def Zv5:List IOp := [lJ 34 2 1 0,⟨none,.st 2 (.t 2) (.t 34),0,[],[],none⟩]
def Ymk:CC := .seq (.rg false Z73) (.seq (.rg false Z86) (.seq (.block 0 (.loop Zvl)) (.seq (.rg false Zu6) (.seq (.rg false Zvr) (.seq (.rg false Zv5) .ret)))))
abbrev Yfw:Nat:=90
theorem Yng:fnOk Tryz.prog 90=some (35,Ymk,[.cell 2 (some 2)]):=by kernel_rfl
def Yeg:List IOp := [oI 2 (.alloc [.bool false,.nils]) 0]
def Ybp:List IOp := [mI 5 0 0,oI 6 (.bin .lss (.t 5) (cI 0)) 0,oI 7 (.build [.bool false,.nils] [(0,1,.t 6)]) 0,oI 3 (.alloc [.bool false,.nils]) 0,⟨none,.st 2 (.t 3) (.t 7),1,[],[],none⟩]
def Zof:List IOp := [mI 8 0 0,oI 9 (.bin .neq (.t 8) (cI 0)) 0]
def Z0m:List IOp := [mI 10 0 0,oI 11 (.bin .rem (.t 10) (cI 10000)) 0,mI 4 11 0]
def Z0r:List IOp := [mI 12 4 0,oI 13 (.bin .lss (.t 12) (cI 0)) 0]
def Ydz:List IOp := [mI 14 4 0,oI 15 (.un .neg (.t 14)) 0,mI 4 15 0]
def Z07:List IOp := [fI 16 1 3 0,lI 17 16 0,mI 18 4 0,oI 19 (.bsl none 1 [.int .i64 0] [(0,.t 18)]) 0,oI 20 (.app none 8 (.t 17) (.t 19)) 1,fI 21 1 3 2,⟨none,.st 1 (.t 21) (.t 20),2,[],[],none⟩]
def Z0f:List IOp := [mI 22 0 0,oI 23 (.bin .quo (.t 22) (cI 10000)) 0,mI 0 23 0]
def Zqa:CC := .seq (.seq (.rg false Zof) (.cond (.t 9) .skip (.exit 0))) (.block 1 (.seq (.rg false Z0m) (.seq (.seq (.rg false Z0r) (.cond (.t 13) (.rg false Ydz) .skip)) (.seq (.rg false Z07) (.rg false Z0f)))))
def Z1f:List IOp := [lJ 24 2 3 0,⟨none,.st 2 (.t 2) (.t 24),0,[],[],none⟩]
def Ysy:CC := .seq (.rg false Yeg) (.seq (.rg false Ybp) (.seq (.block 0 (.loop Zqa)) (.seq (.rg false Z1f) .ret)))
abbrev Ydq:Nat:=64
theorem Yve:fnOk Tryz.prog 64=some (25,Ysy,[.cell 2 (some 2)]):=by kernel_rfl
def Z3y:List IOp := [oI 4 (.mv (cI 0)) 0]
def Z3t:List IOp := [mI 6 0 0,oI 7 (.len (.t 6)) 0,mI 8 1 0,oI 9 (.len (.t 8)) 0,oI 10 (.bin .neq (.t 7) (.t 9)) 0]
def Z3s:List IOp := [mI 11 0 0,oI 12 (.len (.t 11)) 0,mI 13 1 0,oI 14 (.len (.t 13)) 0,oI 15 (.bin .lss (.t 12) (.t 14)) 0]
def Z4n:List IOp := [oI 4 (.mv (cI (-1))) 0]
def Z2c:List IOp := [oI 4 (.mv (cI 1)) 0]
def Z22:List IOp := [mI 16 0 0,oI 17 (.len (.t 16)) 0,oI 18 (.bin .sub (.t 17) (cI 1)) 0,mI 5 18 0]
def Zov:List IOp := [mI 19 5 0,oI 20 (.bin .geq (.t 19) (cI 0)) 0]
def Zp9:List IOp := [mI 23 0 0,mI 24 5 0,xI 25 1 23 24 0,lI 26 25 0,mI 27 1 0,mI 28 5 0,xI 29 1 27 28 0,lI 30 29 0,oI 31 (.bin .lss (.t 26) (.t 30)) 0]
@[go_sem ↓] theorem Yaw : autoK Zp9 = (0, 0) := by kernel_rfl
@[go_sem] theorem Ywl : autoK [mI 23 0 0, mI 24 5 0, xI 25 1 23 24 0, lI 26 25 0, mI 27 1 0, mI 28 5 0, xI 29 1 27 28 0, lI 30 29 0, oI 31 (.bin .lss (.t 26) (.t 30)) 0] = (0, 0) := Yaw
def Z2x:List IOp := [oI 4 (.mv (cI (-1))) 0]
def Zmw:List IOp := [mI 32 0 0,mI 33 5 0,xI 34 1 32 33 0,lI 35 34 0,mI 36 1 0,mI 37 5 0,xI 38 1 36 37 0,lI 39 38 0,oI 40 (.bin .gtr (.t 35) (.t 39)) 0]
@[go_sem ↓] theorem Z9u : autoK Zmw = (0, 0) := by kernel_rfl
@[go_sem] theorem Ywa : autoK [mI 32 0 0, mI 33 5 0, xI 34 1 32 33 0, lI 35 34 0, mI 36 1 0, mI 37 5 0, xI 38 1 36 37 0, lI 39 38 0, oI 40 (.bin .gtr (.t 35) (.t 39)) 0] = (0, 0) := Z9u
def Zx5:List IOp := [oI 4 (.mv (cI 1)) 0]
def Zyl:List IOp := [mI 21 5 0,oI 22 (.bin .sub (.t 21) (cI 1)) 0,mI 5 22 0]
def Zor:CC := .seq (.seq (.rg false Zov) (.cond (.t 20) .skip (.exit 0))) (.seq (.block 1 (.seq (.seq (.rg true Zp9) (.cond (.t 31) (.seq (.rg false Z2x) .ret) .skip)) (.seq (.rg true Zmw) (.cond (.t 40) (.seq (.rg false Zx5) .ret) .skip)))) (.rg false Zyl))
def Zy1:List IOp := [oI 4 (.mv (cI 0)) 0]
def Yf5:CC := .seq (.rg false Z3y) (.seq (.seq (.rg false Z3t) (.cond (.t 10) (.seq (.seq (.rg false Z3s) (.cond (.t 15) (.seq (.rg false Z4n) .ret) .skip)) (.seq (.rg false Z2c) .ret)) .skip)) (.seq (.seq (.rg false Z22) (.block 0 (.loop Zor))) (.seq (.rg false Zy1) .ret)))
abbrev Ybb:Nat:=94
theorem Ylr:fnOk Tryz.prog 94=some (41,Yf5,[.tmp 4]):=by kernel_rfl
def Z8d:List IOp := [oI 4 (.mv (.c .nils)) 0]
def Z80:List IOp := [oI 9 (.bsl none 0 [.int .i64 0] []) 0,mI 5 9 1,oI 6 (.mv (cI 0)) 1]
def Z6o:List IOp := [oI 7 (.mv (cI 0)) 0]
def Zfb:List IOp := [mI 10 7 0,mI 11 0 0,oI 12 (.len (.t 11)) 0,oI 13 (.bin .lss (.t 10) (.t 12)) 0,mI 14 13 0,gI 15 (.mv (.t 7)) 0 14 false,gI 16 (.mv (.t 1)) 0 14 false,gI 17 (.len (.t 16)) 0 14 false,gI 18 (.bin .lss (.t 15) (.t 17)) 0 14 false,oI 19 (.pick (.t 14) (.c (.bool true)) (.t 18)) 0,mI 20 19 0,gI 21 (.mv (.t 6)) 0 20 false,gI 22 (.bin .gtr (.t 21) (cI 0)) 0 20 false,oI 23 (.pick (.t 20) (.c (.bool true)) (.t 22)) 0]
def Zh5:List IOp := [mI 26 6 0,mI 8 26 0]
def Zhw:List IOp := [mI 27 7 0,mI 28 0 0,oI 29 (.len (.t 28)) 0,oI 30 (.bin .lss (.t 27) (.t 29)) 0]
def Zvb:List IOp := [mI 31 8 0,mI 32 0 0,mI 33 7 0,xI 34 1 32 33 0,lI 35 34 0,oI 36 (.bin .add (.t 31) (.t 35)) 0,mI 8 36 0]
def Zh2:List IOp := [mI 37 7 0,mI 38 1 0,oI 39 (.len (.t 38)) 0,oI 40 (.bin .lss (.t 37) (.t 39)) 0]
def Zus:List IOp := [mI 41 8 0,mI 42 1 0,mI 43 7 0,xI 44 1 42 43 0,lI 45 44 0,oI 46 (.bin .add (.t 41) (.t 45)) 0,mI 8 46 0]
def Zf9:List IOp := [mI 47 5 0,mI 48 8 0,oI 49 (.bin .rem (.t 48) (cI 10000)) 0,oI 50 (.bsl none 1 [.int .i64 0] [(0,.t 49)]) 0,oI 51 (.app none 8 (.t 47) (.t 50)) 1,mI 52 8 2,oI 53 (.bin .quo (.t 52) (cI 10000)) 2,mI 5 51 2,mI 6 53 2]
def Zfq:List IOp := [mI 24 7 0,oI 25 (.bin .add (.t 24) (cI 1)) 0,mI 7 25 0]
def Zvn:CC := .seq (.seq (.rg false Zfb) (.cond (.t 23) .skip (.exit 0))) (.seq (.block 1 (.seq (.rg false Zh5) (.seq (.seq (.rg false Zhw) (.cond (.t 30) (.rg false Zvb) .skip)) (.seq (.seq (.rg false Zh2) (.cond (.t 40) (.rg false Zus) .skip)) (.rg false Zf9))))) (.rg false Zfq))
def Z4j:List IOp := [mI 54 5 0,mI 4 54 0]
def Ymb:CC := .seq (.rg false Z8d) (.seq (.rg false Z80) (.seq (.seq (.rg false Z6o) (.block 0 (.loop Zvn))) (.seq (.rg false Z4j) .ret)))
abbrev Ywc:Nat:=93
theorem Ypk:fnOk Tryz.prog 93=some (55,Ymb,[.tmp 4]):=by kernel_rfl
def Z9b:List IOp := [oI 4 (.mv (.c .nils)) 0]
def Z7l:List IOp := [oI 9 (.bsl none 0 [.int .i64 0] []) 0,mI 5 9 1,oI 6 (.mv (cI 0)) 1]
def Z7g:List IOp := [oI 7 (.mv (cI 0)) 0]
def Ze2:List IOp := [mI 10 7 0,mI 11 0 0,oI 12 (.len (.t 11)) 0,oI 13 (.bin .lss (.t 10) (.t 12)) 0]
def Zh0:List IOp := [mI 16 0 0,mI 17 7 0,xI 18 1 16 17 0,lI 19 18 0,mI 20 6 0,oI 21 (.bin .sub (.t 19) (.t 20)) 0,mI 8 21 0]
def Zhz:List IOp := [mI 22 7 0,mI 23 1 0,oI 24 (.len (.t 23)) 0,oI 25 (.bin .lss (.t 22) (.t 24)) 0]
def Zwj:List IOp := [mI 26 8 0,mI 27 1 0,mI 28 7 0,xI 29 1 27 28 0,lI 30 29 0,oI 31 (.bin .sub (.t 26) (.t 30)) 0,mI 8 31 0]
def Zhy:List IOp := [oI 6 (.mv (cI 0)) 0]
def Zh6:List IOp := [mI 32 8 0,oI 33 (.bin .lss (.t 32) (cI 0)) 0]
def Zpa:List IOp := [mI 34 8 0,oI 35 (.bin .add (.t 34) (cI 10000)) 0,mI 8 35 0,oI 6 (.mv (cI 1)) 0]
def Zf5:List IOp := [mI 36 5 0,mI 37 8 0,oI 38 (.bsl none 1 [.int .i64 0] [(0,.t 37)]) 0,oI 39 (.app none 8 (.t 36) (.t 38)) 1,mI 5 39 2]
def Zf3:List IOp := [mI 14 7 0,oI 15 (.bin .add (.t 14) (cI 1)) 0,mI 7 15 0]
def Zwf:CC := .seq (.seq (.rg false Ze2) (.cond (.t 13) .skip (.exit 0))) (.seq (.block 1 (.seq (.rg false Zh0) (.seq (.seq (.rg false Zhz) (.cond (.t 25) (.rg false Zwj) .skip)) (.seq (.rg false Zhy) (.seq (.seq (.rg false Zh6) (.cond (.t 33) (.rg false Zpa) .skip)) (.rg false Zf5)))))) (.rg false Zf3))
def Z23:List IOp := [mI 40 5 0,mI 4 40 0]
def Ymm:CC := .seq (.rg false Z9b) (.seq (.rg false Z7l) (.seq (.seq (.rg false Z7g) (.block 0 (.loop Zwf))) (.seq (.rg false Z23) .ret)))
abbrev Yv8:Nat:=95
theorem Ypf:fnOk Tryz.prog 95=some (41,Ymm,[.tmp 4]):=by kernel_rfl
def Zpb:List IOp := [oI 1 (.box (.t 0)) 0,oI 2 (.alloc [.bool false,.nils]) 1]
def Zpc:List IOp := [fI 3 0 1 0,lI 4 3 0,oI 5 (.un .not (.t 4)) 0,mI 6 5 0,gI 7 (.fa 1 (.t 1)) 0 6 true,gI 8 (.ld none (.t 7)) 0 6 true,gI 9 (.len (.t 8)) 0 6 true,gI 10 (.bin .gtr (.t 9) (cI 0)) 0 6 true,oI 11 (.pick (.t 6) (.t 10) (.c (.bool false))) 0,fI 12 0 1 0,⟨none,.st 1 (.t 12) (.t 11),0,[],[],none⟩]
def Zox:List IOp := [lJ 13 2 1 0,⟨none,.st 2 (.t 2) (.t 13),0,[],[],none⟩]
def Yr4:CC := .seq (.rg false Zpb) (.seq (.rg false Zpc) (.seq (.rg false Zox) .ret))
abbrev Ywx:Nat:=88
theorem Yvd:fnOk Tryz.prog 88=some (14,Yr4,[.cell 2 (some 2)]):=by kernel_rfl
def Yb1:List IOp := [oI 1 (.box (.t 0)) 0,oI 2 (.alloc [.bool false,.nils]) 1]
def Ya6:List IOp := [fI 3 0 1 0,⟨none,.st 1 (.t 3) (.c (.bool false)),0,[],[],none⟩]
def Ydg:List IOp := [lJ 4 2 1 0,⟨none,.st 2 (.t 2) (.t 4),0,[],[],none⟩]
def Yrc:CC := .seq (.rg false Yb1) (.seq (.rg false Ya6) (.seq (.rg false Ydg) .ret))
abbrev Yym:Nat:=92
theorem Yv7:fnOk Tryz.prog 92=some (5,Yrc,[.cell 2 (some 2)]):=by kernel_rfl
def Zp5:List IOp := [oI 2 (.box (.t 0)) 0,oI 3 (.box (.t 1)) 1,oI 4 (.alloc [.bool false,.nils]) 2]
def Zpf:List IOp := [fI 5 0 2 0,lI 6 5 0,fI 7 0 3 0,lI 8 7 0,oI 9 (.beq false (.t 6) (.t 8)) 0]
def Z0t:List IOp := [fI 10 0 2 0,lI 11 10 0,fI 12 1 2 0,lI 13 12 0,fI 14 1 3 0,lI 15 14 0,oI 16 (.call 93 [.t 13,.t 15]) 0,oI 17 (.build [.bool false,.nils] [(0,1,.t 11),(1,1,.t 16)]) 0,oI 18 (.callw 90 [.t 17]) 0,⟨none,.st 2 (.t 4) (.t 18),0,[],[],none⟩]
@[go_sem ↓] theorem Yiw : autoK Z0t = (0, 1) := by kernel_rfl
@[go_sem] theorem Y14 : autoK [fI 10 0 2 0, lI 11 10 0, fI 12 1 2 0, lI 13 12 0, fI 14 1 3 0, lI 15 14 0, oI 16 (.call 93 [.t 13, .t 15]) 0, oI 17 (.build [.bool false, .nils] [(0, 1, .t 11), (1, 1, .t 16)]) 0, oI 18 (.callw 90 [.t 17]) 0, ⟨none, .st 2 (.t 4) (.t 18), 0, [], [], none⟩] = (0, 1) := Yiw
def Z0i:List IOp := [fI 19 1 2 0,lI 20 19 0,fI 21 1 3 0,lI 22 21 0,oI 23 (.call 94 [.t 20,.t 22]) 0,oI 24 (.bin .geq (.t 23) (cI 0)) 0]
def Zz3:List IOp := [fI 25 0 2 0,lI 26 25 0,fI 27 1 2 0,lI 28 27 0,fI 29 1 3 0,lI 30 29 0,oI 31 (.call 95 [.t 28,.t 30]) 0,oI 32 (.build [.bool false,.nils] [(0,1,.t 26),(1,1,.t 31)]) 0,oI 33 (.callw 90 [.t 32]) 0,⟨none,.st 2 (.t 4) (.t 33),0,[],[],none⟩]
@[go_sem ↓] theorem Yip : autoK Zz3 = (0, 1) := by kernel_rfl
@[go_sem] theorem Y2l : autoK [fI 25 0 2 0, lI 26 25 0, fI 27 1 2 0, lI 28 27 0, fI 29 1 3 0, lI 30 29 0, oI 31 (.call 95 [.t 28, .t 30]) 0, oI 32 (.build [.bool false, .nils] [(0, 1, .t 26), (1, 1, .t 31)]) 0, oI 33 (.callw 90 [.t 32]) 0, ⟨none, .st 2 (.t 4) (.t 33), 0, [], [], none⟩] = (0, 1) := Yip
def Z0v:List IOp := [fI 34 0 3 0,lI 35 34 0,fI 36 1 3 0,lI 37 36 0,fI 38 1 2 0,lI 39 38 0,oI 40 (.call 95 [.t 37,.t 39]) 0,oI 41 (.build [.bool false,.nils] [(0,1,.t 35),(1,1,.t 40)]) 0,oI 42 (.callw 90 [.t 41]) 0,⟨none,.st 2 (.t 4) (.t 42),0,[],[],none⟩]
@[go_sem ↓] theorem Yhj : autoK Z0v = (0, 1) := by kernel_rfl
@[go_sem] theorem Y2d : autoK [fI 34 0 3 0, lI 35 34 0, fI 36 1 3 0, lI 37 36 0, fI 38 1 2 0, lI 39 38 0, oI 40 (.call 95 [.t 37, .t 39]) 0, oI 41 (.build [.bool false, .nils] [(0, 1, .t 35), (1, 1, .t 40)]) 0, oI 42 (.callw 90 [.t 41]) 0, ⟨none, .st 2 (.t 4) (.t 42), 0, [], [], none⟩] = (0, 1) := Yhj
def Yrw:CC := .seq (.rg false Zp5) (.seq (.seq (.rg false Zpf) (.cond (.t 9) (.seq (.rg true Z0t) .ret) .skip)) (.seq (.seq (.rg false Z0i) (.cond (.t 24) (.seq (.rg true Zz3) .ret) .skip)) (.seq (.rg true Z0v) .ret)))
abbrev Yzq:Nat:=65
theorem Yts:fnOk Tryz.prog 65=some (43,Yrw,[.cell 4 (some 2)]):=by kernel_rfl
def Ya4:List IOp := [oI 2 (.box (.t 0)) 0,oI 3 (.box (.t 1)) 1,oI 4 (.alloc [.bool false,.nils]) 2]
def Z0h:List IOp := [lJ 5 2 2 0,lJ 6 2 3 0,oI 7 (.call 88 [.t 6]) 0,oI 8 (.callw 65 [.t 5,.t 7]) 0,⟨none,.st 2 (.t 4) (.t 8),0,[],[],none⟩]
@[go_sem ↓] theorem Yia : autoK Z0h = (0, 1) := by kernel_rfl
@[go_sem] theorem Y2b : autoK [lJ 5 2 2 0, lJ 6 2 3 0, oI 7 (.call 88 [.t 6]) 0, oI 8 (.callw 65 [.t 5, .t 7]) 0, ⟨none, .st 2 (.t 4) (.t 8), 0, [], [], none⟩] = (0, 1) := Yia
def Yru:CC := .seq (.rg false Ya4) (.seq (.rg true Z0h) .ret)
abbrev Yxd:Nat:=67
theorem Yvv:fnOk Tryz.prog 67=some (9,Yru,[.cell 4 (some 2)]):=by kernel_rfl
def Ybd:List IOp := [oI 2 (.box (.t 0)) 0,oI 3 (.box (.t 1)) 1,oI 4 (.alloc [.bool false,.nils]) 2]
def Ydc:List IOp := [fI 10 1 2 0,lI 11 10 0,oI 12 (.len (.t 11)) 0,fI 13 1 3 0,lI 14 13 0,oI 15 (.len (.t 14)) 0,oI 16 (.bin .add (.t 12) (.t 15)) 0,oI 17 (.bin .add (.t 16) (cI 1)) 0,oI 18 (.mks none 8 [.int .i64 0] (.t 17) (.t 17)) 0,mI 5 18 1]
def Ydd:List IOp := [oI 6 (.mv (cI 0)) 0]
def Zz6:List IOp := [mI 19 6 0,fI 20 1 2 0,lI 21 20 0,oI 22 (.len (.t 21)) 0,oI 23 (.bin .lss (.t 19) (.t 22)) 0]
def Yec:List IOp := [oI 7 (.mv (cI 0)) 0]
def Ydo:List IOp := [oI 8 (.mv (cI 0)) 0]
def Zom:List IOp := [mI 26 8 0,fI 27 1 3 0,lI 28 27 0,oI 29 (.len (.t 28)) 0,oI 30 (.bin .lss (.t 26) (.t 29)) 0,mI 31 30 0,gI 32 (.mv (.t 7)) 0 31 false,gI 33 (.bin .gtr (.t 32) (cI 0)) 0 31 false,oI 34 (.pick (.t 31) (.c (.bool true)) (.t 33)) 0]
def Z1j:List IOp := [mI 37 5 0,mI 38 6 0,mI 39 8 0,oI 40 (.bin .add (.t 38) (.t 39)) 0,xI 41 1 37 40 0,lI 42 41 0,mI 43 7 0,oI 44 (.bin .add (.t 42) (.t 43)) 0,mI 9 44 0]
def Z1e:List IOp := [mI 45 8 0,fI 46 1 3 0,lI 47 46 0,oI 48 (.len (.t 47)) 0,oI 49 (.bin .lss (.t 45) (.t 48)) 0]
def Ztr:List IOp := [mI 50 9 0,fI 51 1 2 0,lI 52 51 0,mI 53 6 0,xI 54 1 52 53 0,lI 55 54 0,fI 56 1 3 0,lI 57 56 0,mI 58 8 0,xI 59 1 57 58 0,lI 60 59 0,oI 61 (.bin .mul (.t 55) (.t 60)) 0,oI 62 (.bin .add (.t 50) (.t 61)) 0,mI 9 62 0]
@[go_sem ↓] theorem Yez : autoK Ztr = (0, 0) := by kernel_rfl
@[go_sem] theorem Yxv : autoK [mI 50 9 0, fI 51 1 2 0, lI 52 51 0, mI 53 6 0, xI 54 1 52 53 0, lI 55 54 0, fI 56 1 3 0, lI 57 56 0, mI 58 8 0, xI 59 1 57 58 0, lI 60 59 0, oI 61 (.bin .mul (.t 55) (.t 60)) 0, oI 62 (.bin .add (.t 50) (.t 61)) 0, mI 9 62 0] = (0, 0) := Yez
def Zsv:List IOp := [mI 63 5 0,mI 64 6 0,mI 65 8 0,oI 66 (.bin .add (.t 64) (.t 65)) 0,mI 67 9 0,oI 68 (.bin .rem (.t 67) (cI 10000)) 0,mI 69 9 0,oI 70 (.bin .quo (.t 69) (cI 10000)) 0,xI 71 1 63 66 0,⟨none,.st 1 (.t 71) (.t 68),0,[],[],none⟩,mI 7 70 0]
def Zv9:List IOp := [mI 35 8 0,oI 36 (.bin .add (.t 35) (cI 1)) 0,mI 8 36 0]
def Z04:CC := .seq (.seq (.rg false Zom) (.cond (.t 34) .skip (.exit 2))) (.seq (.block 3 (.seq (.rg false Z1j) (.seq (.seq (.rg false Z1e) (.cond (.t 49) (.rg true Ztr) .skip)) (.rg false Zsv)))) (.rg false Zv9))
def Z7u:List IOp := [mI 24 6 0,oI 25 (.bin .add (.t 24) (cI 1)) 0,mI 6 25 0]
def Z1d:CC := .seq (.seq (.rg false Zz6) (.cond (.t 23) .skip (.exit 0))) (.seq (.block 1 (.seq (.rg false Yec) (.seq (.rg false Ydo) (.block 2 (.loop Z04))))) (.rg false Z7u))
def Z8m:List IOp := [fI 72 0 2 0,lI 73 72 0,fI 74 0 3 0,lI 75 74 0,oI 76 (.beq true (.t 73) (.t 75)) 0,mI 77 5 0,oI 78 (.build [.bool false,.nils] [(0,1,.t 76),(1,1,.t 77)]) 0,oI 79 (.call 90 [.t 78]) 0,⟨none,.st 2 (.t 4) (.t 79),0,[],[],none⟩]
def Yq7:CC := .seq (.rg false Ybd) (.seq (.rg false Ydc) (.seq (.seq (.rg false Ydd) (.block 0 (.loop Z1d))) (.seq (.rg false Z8m) .ret)))
abbrev Yyl:Nat:=62
theorem Yuv:fnOk Tryz.prog 62=some (80,Yq7,[.cell 4 (some 2)]):=by kernel_rfl
def Zlq:List IOp := [oI 1 (.box (.t 0)) 0,oI 2 (.mv (cI 0)) 1]
def Zlc:List IOp := [fI 3 1 1 0,lI 4 3 0,oI 5 (.len (.t 4)) 0,oI 6 (.bin .eql (.t 5) (cI 0)) 0]
def Z8u:List IOp := [oI 2 (.mv (cI 0)) 0]
def Zs5:List IOp := [fI 7 0 1 0,lI 8 7 0]
def Z9g:List IOp := [oI 2 (.mv (cI (-1))) 0]
def Z72:List IOp := [oI 2 (.mv (cI 1)) 0]
def Ylq:CC := .seq (.rg false Zlq) (.seq (.seq (.rg false Zlc) (.cond (.t 6) (.seq (.rg false Z8u) .ret) .skip)) (.seq (.seq (.rg false Zs5) (.cond (.t 8) (.seq (.rg false Z9g) .ret) .skip)) (.seq (.rg false Z72) .ret)))
abbrev Yux:Nat:=54
theorem Ypp:fnOk Tryz.prog 54=some (9,Ylq,[.tmp 2]):=by kernel_rfl
def Yay:List IOp := [oI 2 (.box (.t 0)) 0,oI 3 (.box (.t 1)) 1,oI 4 (.mv (cI 0)) 2]
def Yc6:List IOp := [lJ 5 2 2 0,lJ 6 2 3 0,oI 7 (.call 67 [.t 5,.t 6]) 0,oI 8 (.call 54 [.t 7]) 0,mI 4 8 0]
def Yqn:CC := .seq (.rg false Yay) (.seq (.rg false Yc6) .ret)
abbrev Yya:Nat:=61
theorem Yvz:fnOk Tryz.prog 61=some (9,Yqn,[.tmp 4]):=by kernel_rfl
def Z2i:List IOp := [oI 4 (.mv (.c .nils)) 0]
def Z2z:List IOp := [mI 5 0 0,oI 6 (.build [.bool false,.nils] [(1,1,.t 5)]) 0,mI 7 1 0,oI 8 (.call 64 [.t 7]) 0,oI 9 (.call 62 [.t 6,.t 8]) 0,oI 10 (.call 90 [.t 9]) 0,oI 11 (.fld none 1 (.t 10)) 0,mI 4 11 0]
def Yfy:CC := .seq (.rg false Z2i) (.seq (.rg false Z2z) .ret)
abbrev Yol:Nat:=129
theorem Ylv:fnOk Tryz.prog 129=some (12,Yfy,[.tmp 4]):=by kernel_rfl
def Zxc:List IOp := [oI 2 (.box (.t 0)) 0,oI 3 (.box (.t 1)) 1,oI 4 (.alloc [.bool false,.nils]) 2,oI 5 (.alloc [.bool false,.nils]) 3]
def Zyw:List IOp := [fI 14 1 2 0,lI 15 14 0,oI 16 (.len (.t 15)) 0,oI 17 (.mks none 8 [.int .i64 0] (.t 16) (.t 16)) 0,oI 18 (.bsl none 0 [.int .i64 0] []) 1,mI 6 17 2,mI 7 18 2]
def Zxo:List IOp := [fI 19 1 2 0,lI 20 19 0,oI 21 (.len (.t 20)) 0,oI 22 (.bin .sub (.t 21) (cI 1)) 0,mI 8 22 0]
def Zl0:List IOp := [mI 23 8 0,oI 24 (.bin .geq (.t 23) (cI 0)) 0]
def Zxq:List IOp := [fI 27 1 2 0,lI 28 27 0,mI 29 8 0,xI 30 1 28 29 0,lI 31 30 0,oI 32 (.bsl none 1 [.int .i64 0] [(0,.t 31)]) 0,mI 33 7 1,oI 34 (.app none 8 (.t 32) (.t 33)) 1,oI 35 (.build [.bool false,.nils] [(1,1,.t 34)]) 2,oI 36 (.call 90 [.t 35]) 2,oI 37 (.fld none 1 (.t 36)) 2,mI 7 37 2]
def Zx0:List IOp := [oI 9 (.mv (cI 0)) 0,oI 10 (.mv (cI 10000)) 0]
def Zmh:List IOp := [mI 38 10 0,mI 39 9 0,oI 40 (.bin .sub (.t 38) (.t 39)) 0,oI 41 (.bin .gtr (.t 40) (cI 1)) 0]
def Zyf:List IOp := [mI 42 9 0,mI 43 10 0,oI 44 (.bin .add (.t 42) (.t 43)) 0,oI 45 (.bin .quo (.t 44) (cI 2)) 0,mI 11 45 0]
def Zxu:List IOp := [fI 46 1 3 0,lI 47 46 0,mI 48 11 0,oI 49 (.call 129 [.t 47,.t 48]) 0,mI 50 7 0,oI 51 (.call 94 [.t 49,.t 50]) 0,oI 52 (.bin .leq (.t 51) (cI 0)) 0]
def Zuu:List IOp := [mI 53 11 0,mI 9 53 0]
def Zuq:List IOp := [mI 54 11 0,mI 10 54 0]
def Zl3:CC := .seq (.seq (.rg false Zmh) (.cond (.t 41) .skip (.exit 2))) (.block 3 (.seq (.rg false Zyf) (.seq (.rg false Zxu) (.cond (.t 52) (.rg false Zuu) (.rg false Zuq)))))
def Ztl:List IOp := [mI 55 6 0,mI 56 8 0,mI 57 9 0,xI 58 1 55 56 0,⟨none,.st 1 (.t 58) (.t 57),0,[],[],none⟩]
def Zv8:List IOp := [mI 59 7 0,fI 60 1 3 0,lI 61 60 0,mI 62 9 0,oI 63 (.call 129 [.t 61,.t 62]) 0,oI 64 (.call 95 [.t 59,.t 63]) 0,oI 65 (.build [.bool false,.nils] [(1,1,.t 64)]) 0,oI 66 (.call 90 [.t 65]) 0,oI 67 (.fld none 1 (.t 66)) 0,mI 7 67 0]
def Zth:List IOp := [mI 25 8 0,oI 26 (.bin .sub (.t 25) (cI 1)) 0,mI 8 26 0]
def Zmg:CC := .seq (.seq (.rg false Zl0) (.cond (.t 24) .skip (.exit 0))) (.seq (.block 1 (.seq (.rg false Zxq) (.seq (.rg false Zx0) (.seq (.block 2 (.loop Zl3)) (.seq (.rg false Ztl) (.rg false Zv8)))))) (.rg false Zth))
def Zuo:List IOp := [fI 68 0 2 0,lI 69 68 0,mI 70 6 0,oI 71 (.build [.bool false,.nils] [(0,1,.t 69),(1,1,.t 70)]) 0,oI 72 (.call 90 [.t 71]) 0,mI 73 7 0,oI 74 (.build [.bool false,.nils] [(1,1,.t 73)]) 0,oI 75 (.call 90 [.t 74]) 0,oI 12 (.alloc [.bool false,.nils]) 0,oI 13 (.alloc [.bool false,.nils]) 1,⟨none,.st 2 (.t 12) (.t 72),2,[],[],none⟩,⟨none,.st 2 (.t 13) (.t 75),2,[],[],none⟩]
def Zfo:List IOp := [fI 76 0 2 0,lI 77 76 0,mI 78 77 0,gI 79 (.fa 1 (.t 13)) 0 78 true,gI 80 (.ld none (.t 79)) 0 78 true,gI 81 (.len (.t 80)) 0 78 true,gI 82 (.bin .gtr (.t 81) (cI 0)) 0 78 true,oI 83 (.pick (.t 78) (.t 82) (.c (.bool false))) 0]
def Zkf:List IOp := [lJ 84 2 12 0,oI 85 (.call 64 [cI 1]) 0,oI 86 (.call 67 [.t 84,.t 85]) 0,lJ 87 2 3 0,lJ 88 2 13 0,oI 89 (.callw 67 [.t 87,.t 88]) 0,⟨none,.st 2 (.t 4) (.t 86),0,[],[],none⟩,⟨none,.st 2 (.t 5) (.t 89),0,[],[],none⟩]
@[go_sem ↓] theorem Z5n : autoK Zkf = (0, 1) := by kernel_rfl
@[go_sem] theorem Yq4 : autoK [lJ 84 2 12 0, oI 85 (.call 64 [cI 1]) 0, oI 86 (.call 67 [.t 84, .t 85]) 0, lJ 87 2 3 0, lJ 88 2 13 0, oI 89 (.callw 67 [.t 87, .t 88]) 0, ⟨none, .st 2 (.t 4) (.t 86), 0, [], [], none⟩, ⟨none, .st 2 (.t 5) (.t 89), 0, [], [], none⟩] = (0, 1) := Z5n
def Zf2:List IOp := [lJ 90 2 12 0,⟨some 91,.ld (some 2) (.t 13),0,[],[0],none⟩,⟨none,.st 2 (.t 4) (.t 90),0,[],[],none⟩,⟨none,.st 2 (.t 5) (.t 91),0,[],[],none⟩]
@[go_sem ↓] theorem Z55 : autoK Zf2 = (0, 2) := by kernel_rfl
@[go_sem] theorem Yra : autoK [lJ 90 2 12 0, ⟨some 91, .ld (some 2) (.t 13), 0, [], [0], none⟩, ⟨none, .st 2 (.t 4) (.t 90), 0, [], [], none⟩, ⟨none, .st 2 (.t 5) (.t 91), 0, [], [], none⟩] = (0, 2) := Z55
def Yco:CC := .seq (.rg false Zxc) (.seq (.rg false Zyw) (.seq (.seq (.rg false Zxo) (.block 0 (.loop Zmg))) (.seq (.rg false Zuo) (.seq (.seq (.rg false Zfo) (.cond (.t 83) (.seq (.rg true Zkf) .ret) .skip)) (.seq (.rg true Zf2) .ret)))))
abbrev Ylc:Nat:=108
theorem Yji:fnOk Tryz.prog 108=some (92,Yco,[.cell 4 (some 2),.cell 5 (some 2)]):=by kernel_rfl
def Ycj:List IOp := [oI 2 (.box (.t 0)) 0,oI 3 (.box (.t 1)) 1,oI 4 (.alloc [.bool false,.nils]) 2]
def Z08:List IOp := [lJ 7 2 2 0,oI 8 (.call 92 [.t 7]) 0,lJ 9 2 3 0,oI 10 (.callw 92 [.t 9]) 0,⟨none,.st 2 (.t 2) (.t 8),0,[],[],none⟩,⟨none,.st 2 (.t 3) (.t 10),0,[],[],none⟩]
@[go_sem ↓] theorem Yh3 : autoK Z08 = (0, 1) := by kernel_rfl
@[go_sem] theorem Y2a : autoK [lJ 7 2 2 0, oI 8 (.call 92 [.t 7]) 0, lJ 9 2 3 0, oI 10 (.callw 92 [.t 9]) 0, ⟨none, .st 2 (.t 2) (.t 8), 0, [], [], none⟩, ⟨none, .st 2 (.t 3) (.t 10), 0, [], [], none⟩] = (0, 1) := Yh3
def Z0a:List IOp := [fI 11 1 3 0,lI 12 11 0,oI 13 (.len (.t 12)) 0,oI 14 (.bin .gtr (.t 13) (cI 0)) 0]
def Yds:List IOp := [lJ 16 2 2 0,lJ 17 2 3 0,oI 18 (.call 108 [.t 16,.t 17]) 0,mI 15 18 0,eI 19 0 15 0,eI 20 1 15 0,oI 5 (.alloc [.bool false,.nils]) 0,oI 6 (.alloc [.bool false,.nils]) 1,⟨none,.st 2 (.t 5) (.t 19),2,[],[],none⟩,⟨none,.st 2 (.t 6) (.t 20),2,[],[],none⟩]
def Z0d:List IOp := [lJ 21 2 3 0,⟨some 22,.ld (some 2) (.t 6),0,[],[0],none⟩,⟨none,.st 2 (.t 2) (.t 21),0,[],[],none⟩,⟨none,.st 2 (.t 3) (.t 22),0,[],[],none⟩]
@[go_sem ↓] theorem Yin : autoK Z0d = (0, 2) := by kernel_rfl
@[go_sem] theorem Y2m : autoK [lJ 21 2 3 0, ⟨some 22, .ld (some 2) (.t 6), 0, [], [0], none⟩, ⟨none, .st 2 (.t 2) (.t 21), 0, [], [], none⟩, ⟨none, .st 2 (.t 3) (.t 22), 0, [], [], none⟩] = (0, 2) := Yin
def Z0u:CC := .seq (.seq (.rg false Z0a) (.cond (.t 14) .skip (.exit 0))) (.block 1 (.seq (.rg false Yds) (.rg true Z0d)))
def Yd3:List IOp := [lJ 23 2 2 0,⟨none,.st 2 (.t 4) (.t 23),0,[],[],none⟩]
def Yrk:CC := .seq (.rg false Ycj) (.seq (.rg true Z08) (.seq (.block 0 (.loop Z0u)) (.seq (.rg false Yd3) .ret)))
abbrev Yxu:Nat:=87
theorem Yu8:fnOk Tryz.prog 87=some (24,Yrk,[.cell 4 (some 2)]):=by kernel_rfl
def Zwg:List IOp := [oI 2 (.box (.t 0)) 0,oI 3 (.box (.t 1)) 1,oI 4 (.alloc [.bool false,.nils,.bool false,.nils]) 2]
def Zwa:List IOp := [fI 5 0 3 0,lI 6 5 0]
def Zue:List IOp := [lJ 7 2 2 0,oI 8 (.call 88 [.t 7]) 0,lJ 9 2 3 0,oI 10 (.callw 88 [.t 9]) 0,⟨none,.st 2 (.t 2) (.t 8),0,[],[],none⟩,⟨none,.st 2 (.t 3) (.t 10),0,[],[],none⟩]
@[go_sem ↓] theorem Ye6 : autoK Zue = (0, 1) := by kernel_rfl
@[go_sem] theorem Yz4 : autoK [lJ 7 2 2 0, oI 8 (.call 88 [.t 7]) 0, lJ 9 2 3 0, oI 10 (.callw 88 [.t 9]) 0, ⟨none, .st 2 (.t 2) (.t 8), 0, [], [], none⟩, ⟨none, .st 2 (.t 3) (.t 10), 0, [], [], none⟩] = (0, 1) := Ye6
def Zsp:List IOp := [lJ 11 2 2 0,lJ 12 2 3 0,oI 13 (.build [.bool false,.nils,.bool false,.nils] [(0,2,.t 11),(2,2,.t 12)]) 0,⟨none,.st 4 (.t 4) (.t 13),0,[],[],none⟩]
def Yl2:CC := .seq (.rg false Zwg) (.seq (.seq (.rg false Zwa) (.cond (.t 6) (.rg true Zue) .skip)) (.seq (.rg false Zsp) .ret))
abbrev Ytm:Nat:=66
theorem Ypy:fnOk Tryz.prog 66=some (14,Yl2,[.cell 4 (some 4)]):=by kernel_rfl
def Z7t:List IOp := [oI 2 (.box (.t 0)) 0,oI 3 (.box (.t 1)) 1,oI 4 (.alloc [.bool false,.nils,.bool false,.nils]) 2]
def Zsr:List IOp := [fI 5 0 2 0,lJ 6 2 5 0,fI 7 2 3 0,lJ 8 2 7 0,oI 9 (.call 62 [.t 6,.t 8]) 0,fI 10 0 3 0,lJ 11 2 10 0,fI 12 2 2 0,lJ 13 2 12 0,oI 14 (.call 62 [.t 11,.t 13]) 0,oI 15 (.call 67 [.t 9,.t 14]) 0,fI 16 2 2 0,lJ 17 2 16 0,fI 18 2 3 0,lJ 19 2 18 0,oI 20 (.callw 62 [.t 17,.t 19]) 0,oI 21 (.build [.bool false,.nils,.bool false,.nils] [(0,2,.t 15),(2,2,.t 20)]) 0,⟨none,.st 4 (.t 4) (.t 21),0,[],[],none⟩]
@[go_sem ↓] theorem Ye2 : autoK Zsr = (0, 1) := by kernel_rfl
@[go_sem] theorem Yze : autoK [fI 5 0 2 0, lJ 6 2 5 0, fI 7 2 3 0, lJ 8 2 7 0, oI 9 (.call 62 [.t 6, .t 8]) 0, fI 10 0 3 0, lJ 11 2 10 0, fI 12 2 2 0, lJ 13 2 12 0, oI 14 (.call 62 [.t 11, .t 13]) 0, oI 15 (.call 67 [.t 9, .t 14]) 0, fI 16 2 2 0, lJ 17 2 16 0, fI 18 2 3 0, lJ 19 2 18 0, oI 20 (.callw 62 [.t 17, .t 19]) 0, oI 21 (.build [.bool false, .nils, .bool false, .nils] [(0, 2, .t 15), (2, 2, .t 20)]) 0, ⟨none, .st 4 (.t 4) (.t 21), 0, [], [], none⟩] = (0, 1) := Ye2
def Yl9:CC := .seq (.rg false Z7t) (.seq (.rg true Zsr) .ret)
abbrev Yuy:Nat:=34
theorem Yoa:fnOk Tryz.prog 34=some (22,Yl9,[.cell 4 (some 4)]):=by kernel_rfl
def Z7s:List IOp := [oI 2 (.box (.t 0)) 0,oI 3 (.box (.t 1)) 1,oI 4 (.mv (cI 0)) 2]
def Zug:List IOp := [fI 5 0 2 0,lJ 6 2 5 0,fI 7 2 3 0,lJ 8 2 7 0,oI 9 (.call 62 [.t 6,.t 8]) 0,fI 10 0 3 0,lJ 11 2 10 0,fI 12 2 2 0,lJ 13 2 12 0,oI 14 (.callw 62 [.t 11,.t 13]) 0,oI 15 (.callw 61 [.t 9,.t 14]) 0,mI 4 15 0]
@[go_sem ↓] theorem Ye5 : autoK Zug = (0, 0) := by kernel_rfl
@[go_sem] theorem Yz1 : autoK [fI 5 0 2 0, lJ 6 2 5 0, fI 7 2 3 0, lJ 8 2 7 0, oI 9 (.call 62 [.t 6, .t 8]) 0, fI 10 0 3 0, lJ 11 2 10 0, fI 12 2 2 0, lJ 13 2 12 0, oI 14 (.callw 62 [.t 11, .t 13]) 0, oI 15 (.callw 61 [.t 9, .t 14]) 0, mI 4 15 0] = (0, 0) := Ye5
def Ymz:CC := .seq (.rg false Z7s) (.seq (.rg true Zug) .ret)
abbrev Ygh:Nat:=25
theorem Yp7:fnOk Tryz.prog 25=some (16,Ymz,[.tmp 4]):=by kernel_rfl
def Zy0:List IOp := [oI 1 (.box (.t 0)) 0,oI 2 (.alloc [.bool false,.nils,.bool false,.nils]) 1]
def Zym:List IOp := [fI 8 0 1 0,lJ 9 2 8 0,fI 10 2 1 0,lJ 11 2 10 0,oI 12 (.call 87 [.t 9,.t 11]) 0,oI 3 (.alloc [.bool false,.nils]) 0,⟨none,.st 2 (.t 3) (.t 12),1,[],[],none⟩]
def Zyg:List IOp := [fI 14 0 1 0,lJ 15 2 14 0,lJ 16 2 3 0,oI 17 (.call 108 [.t 15,.t 16]) 0,mI 13 17 0,eI 18 0 13 0,eI 19 1 13 0,oI 4 (.alloc [.bool false,.nils]) 0,oI 5 (.alloc [.bool false,.nils]) 1,⟨none,.st 2 (.t 4) (.t 18),2,[],[],none⟩,⟨none,.st 2 (.t 5) (.t 19),2,[],[],none⟩]
def Zxg:List IOp := [fI 21 2 1 0,lJ 22 2 21 0,lJ 23 2 3 0,oI 24 (.call 108 [.t 22,.t 23]) 0,mI 20 24 0,eI 25 0 20 0,eI 26 1 20 0,oI 6 (.alloc [.bool false,.nils]) 0,oI 7 (.alloc [.bool false,.nils]) 1,⟨none,.st 2 (.t 6) (.t 25),2,[],[],none⟩,⟨none,.st 2 (.t 7) (.t 26),2,[],[],none⟩]
def Zxf:List IOp := [lJ 27 2 4 0,lJ 28 2 6 0,oI 29 (.build [.bool false,.nils,.bool false,.nils] [(0,2,.t 27),(2,2,.t 28)]) 0,⟨none,.st 4 (.t 2) (.t 29),0,[],[],none⟩]
def Yba:CC := .seq (.rg false Zy0) (.seq (.rg false Zym) (.seq (.rg false Zyg) (.seq (.rg false Zxg) (.seq (.rg false Zxf) .ret))))
abbrev Ylp:Nat:=73
theorem Yhn:fnOk Tryz.prog 73=some (30,Yba,[.cell 2 (some 4)]):=by kernel_rfl
def Z4t:List IOp := [oI 2 (.alloc [.bool false,.nils,.bool false,.nils]) 0]
def Z2k:List IOp := [mI 3 0 0,oI 4 (.call 64 [.t 3]) 0,oI 5 (.call 64 [cI 1]) 0,oI 6 (.build [.bool false,.nils,.bool false,.nils] [(0,2,.t 4),(2,2,.t 5)]) 0,⟨none,.st 4 (.t 2) (.t 6),0,[],[],none⟩]
def Yg5:CC := .seq (.rg false Z4t) (.seq (.rg false Z2k) .ret)
abbrev Ydj:Nat:=31
theorem Yku:fnOk Tryz.prog 31=some (7,Yg5,[.cell 2 (some 4)]):=by kernel_rfl
end GoAbs
namespace GoAbs
open Go Go.Proofs
def zc (z:Int):List AV := [.bool (decide (z<0)),.sl (ic (dg z.natAbs))]
def avZ (z:Int):AV := .agg (zc z)
theorem Y6a {m:Bool}{l:List Nat}{n0:Nat}(hl:l.length≤1000000000) {K:Ex→St→Prop}
  (hK:∀ (e:Nat→AV),e 1 = .ptr 0 0→e 2 = .ptr 1 0→e 3 = .int .i64 ((trimL l).length:Int)→trimL l=l.take (trimL l).length→(trimL l).length≤l.length→K (.exit 0) ⟨e,[.cells [.bool m,.sl (ic l)],.cells [.bool false,.nils]]⟩) :
  T Tryz.prog 35 n0 (.loop Zvl) ⟨envL [(1,.ptr 0 0),(2,.ptr 1 0),(3,.int .i64 (l.length:Int))],[.cells [.bool m,.sl (ic l)],.cells [.bool false,.nils]]⟩ K:=by
 refine Zaf (fun n:Nat=>⟨envL [(1,.ptr 0 0),(2,.ptr 1 0),(3,.int .i64 (n:Int))],[.cells [.bool m,.sl (ic l)],.cells [.bool false,.nils]]⟩)
  (fun n=>n≤l.length∧trimL (l.take n)=trimL l) id l.length ⟨Nat.le_refl _,by simp⟩ (Zab _ (by simp only [go_sem])) (fun n hI N hN=>?_)
 obtain ⟨h1,h2⟩:=hI
 unfold Zvl
 have fin:∀ e:Nat→AV,l.take n=trimL l→e 1 = .ptr 0 0→e 2 = .ptr 1 0→e 3 = .int .i64 (n:Int)→K (.exit 0) ⟨e,[.cells [.bool m,.sl (ic l)],.cells [.bool false,.nils]]⟩:=fun e he e1 e2 e3=>by
  have hn:(trimL l).length=n:=by rw [← he,List.length_take,Nat.min_eq_left h1]
  exact hK e e1 e2 (by rw [e3,hn]) (by rw [hn,he]) (by omega)
 cases n with
 | zero =>
  have q0:¬ (0:Int)<((0:Nat):Int):=by omega
  simp only [go_sem,Zls,q0]
  refine fin _ ?_ (by simp only [go_sem]) (by simp only [go_sem]) (by simp only [go_sem])
  rw [← h2]; simp [Z33]
 | succ k =>
  have e2:IntKind.i64.wrap (((k+1:Nat):Int) - 1)=(k:Int):=by rw [Zac (by omega) (by omega)]; omega
  have hk:l[k]? = some (l.getD k 0):=getElem?_getD (by omega)
  have hpos:(0:Int)<((k+1:Nat):Int):=by omega
  have hnn:(0:Int)≤(k:Int):=by omega
  have e4:l.take (k+1)=l.take k ++ [l.getD k 0]:=by rw [List.take_add_one,hk]; rfl
  by_cases h0:l.getD k 0=0
  ·have z0:((l.getD k 0:Nat):Int)=0:=by omega
   simp only [go_sem,Zls,Z6y,hpos,hnn,e2,Zn0 hk,z0]
   refine hN k _ ⟨by omega,?_⟩ (by show k<k+1; omega) (Zab _ (by simp only [go_sem]))
   rw [← h2,e4,Z5r,if_pos h0]
  ·have z0:¬ ((l.getD k 0:Nat):Int)=0:=by omega
   simp only [go_sem,Zls,hpos,hnn,e2,Zn0 hk,z0]
   refine fin _ ?_ (by simp only [go_sem]) (by simp only [go_sem]) (by simp only [go_sem])
   rw [← h2,e4,Z5r,if_neg h0]
theorem Yt9 {m:Bool}{l:List Nat}(hl:l.length≤1000000000):SpecV Tryz.prog Yfw [.agg [.bool m,.sl (ic l)]] (.agg [.bool (m && decide (trimL l ≠ [])),.sl (ic (trimL l))]):=by
 refine Zad Yng (by simp) ?_
 unfold Ymk
 simp only [go_sem,Z73,Z86,Zan]
 refine Zar [(1,.ptr 0 0),(2,.ptr 1 0),(3,.int .i64 (l.length:Int))] (by simp only [go_sem]) (Y6a hl (fun e e1 e2 e3 ht hle=>?_))
 have q0:(0:Int)≤((trimL l).length:Int):=by omega
 have b1:(trimL l).length*8≤1099511627776:=by omega
 have hlt:(ic (trimL l)).length=(trimL l).length:=Zan _
 have bvR:∀ (H:Heap) (off:Nat),H[2]? = some (.cells (ic (trimL l)))→BV H (allOf H) (.osl none 2 0 (trimL l).length) (.sl (ic (trimL l))):=fun H _ hH =>
  Yki hH (List.mem_range.2 (List.getElem?_eq_some_iff.1 hH).1) rfl (by rw [List.drop_zero,List.take_of_length_le (by rw [Zan]; exact Nat.le_refl _)])
 by_cases ht0:trimL l = []
 ·have q1:¬ (0:Int)<((trimL l).length:Int):=by rw [ht0]; simp
  have hd:decide (trimL l ≠ [])=false:=by simp [ht0]
  cases m <;> simp only [go_sem,Zu6,Zvr,Zv5,e1,e2,e3,q0,q1,hle,Zan,Y0a, ← ht,Ynq,b1,hd,Nat.zero_le]
  ·exact ⟨Z1n,Z1n,rfl,bvR _ 0 rfl⟩
  ·exact ⟨Z1n,Z1n,rfl,bvR _ 0 rfl⟩
 ·have q1:(0:Int)<((trimL l).length:Int):=by have:=List.length_pos_iff.2 ht0; omega
  have hd:decide (trimL l ≠ [])=true:=by simp [ht0]
  cases m <;> simp only [go_sem,Zu6,Zvr,Zv5,e1,e2,e3,q0,q1,hle,Zan,Y0a, ← ht,Ynq,b1,hd,Nat.zero_le]
  ·exact ⟨Z1n,Z1n,rfl,bvR _ 0 rfl⟩
  ·exact ⟨Z1n,Z1n,rfl,bvR _ 0 rfl⟩
end GoAbs
namespace GoAbs
open Go Go.Proofs
theorem Zl1 {m:Bool}{l:List Nat}(h:Od l) (hl:l.length≤1000000000):SpecV Tryz.prog Yfw [.agg [.bool m,.sl (ic l)]] (avZ (if m then -(vd l:Int) else vd l)):=by
 have:=Yt9 (m:=m) (l:=l) hl
 rw [← Xho h] at this
 have e1:(if m then -(vd l:Int) else vd l).natAbs=vd l:=by cases m <;> simp
 have e2:decide ((if m then -(vd l:Int) else vd l)<0)=(m && decide (dg (vd l) ≠ [])):=by
  have hne:(dg (vd l) ≠ [])↔vd l≠0:=by rw [ne_eq,Yem]
  cases m with
  | false=>simp
  | true=>simp only [if_true,Bool.true_and]; apply decide_eq_decide.2; rw [hne]; omega
 unfold avZ zc
 rw [e1,e2]
 exact this
theorem Yo4 (a b:List Nat) (ha:a.length≤1099511627776) (hb:b.length≤1099511627776):SpecV Tryz.prog Ybb [.sl (ic a),.sl (ic b)] (.int .i64 (cmpL a b)):=by
 refine Zad Ylr (by simp) ?_
 unfold Yf5
 simp only [go_sem,Z3y,Z3t,Z3s,Z4n,Z2c,Z22,Zan]
 refine ⟨fun h=>⟨fun h1=>(by unfold cmpL; rw [if_pos (by omega)]),fun h1=>(by unfold cmpL; rw [if_neg (by omega),if_pos (by omega)])⟩,fun h=>?_⟩
 have hab:a.length=b.length:=by omega
 refine Yk7 (fun n:Nat=>⟨envL [(0,.sl (ic a)),(1,.sl (ic b)),(5,.int .i64 ((n:Int) - 1))],[]⟩) (fun n=>n≤a.length∧cmpTop n a b=cmpL a b) id a.length
  ⟨Nat.le_refl _,by unfold cmpL; rw [if_neg (by omega),if_neg (by omega)]⟩ (Zab _ (by simp only [go_sem]; rw [Zac (by omega) (by omega)])) (fun n hn=>T_W ?_)
 obtain ⟨h1,h2⟩:=hn
 cases n with
 | zero =>
  unfold Zor
  simp only [go_sem,Zov,Zy1]
  refine ⟨fun h=>by omega,fun _=>?_⟩
  rw [← h2]; rfl
 | succ m =>
  have e0:(((m+1:Nat):Int) - 1)=(m:Int):=by omega
  have e2:IntKind.i64.wrap ((m:Int) - 1)=(m:Int) - 1:=Zac (by omega) (by omega)
  have hnn:(0:Int)≤(m:Int):=by omega
  have ga:a[m]? = some (a.getD m 0):=getElem?_getD (by omega)
  have gb:b[m]? = some (b.getD m 0):=getElem?_getD (by omega)
  unfold Zor
  simp only [go_sem,Zov,Zp9,Z2x,Zmw,Zx5,Zyl,e0,e2,hnn,Zn0 ga,Zn0 gb]
  unfold cmpTop at h2
  refine ⟨fun h3=>?_,fun h3=>⟨fun h4=>?_,fun h4=>⟨m,⟨by omega,?_⟩,by simp,Zab _ (by simp [go_sem])⟩⟩⟩
  ·rw [← h2,if_pos (by omega)]
  ·rw [← h2,if_neg (by omega),if_pos (by omega)]
  ·rw [← h2,if_neg (by omega),if_neg (by omega)]
def Zs (n:Nat):Prop:=lenD n≤100000000
theorem Zs.mono {m n:Nat}(h:Zs n) (hm:m≤n):Zs m:=Nat.le_trans (Zba hm) h
theorem Zs.len {n:Nat}(h:Zs n):(dg n).length≤100000000:=h
theorem Z6h {m n:Nat}(hm:Zs m) (hn:Zs n):SpecV Tryz.prog Ybb [.sl (ic (dg m)),.sl (ic (dg n))] (.int .i64 (if m<n then -1 else if n<m then 1 else 0)):=by
 have:=Yo4 (dg m) (dg n) (Nat.le_trans hm (by omega)) (Nat.le_trans hn (by omega))
 rw [Y8d] at this; exact this
theorem Zfc {l:List Nat}{n:Nat}:vd (l.take (n+1))=vd (l.take n)+10000 ^ n*l.getD n 0:=by
 by_cases h:n<l.length
 ·exact Ztu (getElem?_getD h)
 ·rw [Zc4 (by omega),Zc4 (by omega),List.getD_eq_getElem?_getD,List.getElem?_eq_none (by omega)]; simp
theorem Od.getD {l:List Nat}(h:Od l) (n:Nat):l.getD n 0<10000:=by
 by_cases hn:n<l.length
 ·exact h.get (getElem?_getD hn)
 ·rw [List.getD_eq_getElem?_getD,List.getElem?_eq_none (by omega)]; simp
theorem Y3i {f:Nat→Option Nat}{l:List Nat}:gcL f (ic l)=ic l:=by
 rw [Za5]; unfold ic; rw [List.map_map]; rfl
theorem Y7v {nt:Nat}{e:Nat→AV}{s:List Nat}{d:Nat}{bl:Blk}(l:List (Nat×AV)) (hl:Has e ((5,.osl none 2 0 (s.length+1))::l)) (hg:(l.map fun p=>(p.1,p.2.gc (pos [2])))=l) :
  Le nt 0 ⟨e,[.dead,bl,.cells (ic s ++ [.int .i64 (d:Int)])]⟩ ⟨envL ((5,.osl none 0 0 (s ++ [d]).length)::l),[.cells (ic (s ++ [d]))]⟩:=by
 refine Zcg (Zht [2] (by simp) (fun i hi=>by omega) ((5,.osl none 2 0 (s.length+1))::l) hl) ?_
 have h1:ic s ++ [AV.int .i64 (d:Int)]=ic (s ++ [d]):=by rw [Ydn]; rfl
 rw [List.map_cons,hg]
 simp only [List.map_cons,List.map_nil,List.getD_cons_succ,List.getD_cons_zero,Blk.gc,h1,Y3i,AV.gc,List.length_append,List.length_singleton]
 rfl
theorem Xaq {s:List Nat}{A B c x y p t:Nat}(hv:vd s+p*c=A+B) (hp:p=10000 ^ s.length) (ht:t=c+x+y):vd (s ++ [t % 10000])+10000 ^ (s ++ [t % 10000]).length*(t / 10000)=(A+p*x)+(B+p*y):=by
 rw [Zkh,List.length_append,List.length_singleton,Nat.pow_succ, ← hp]
 have h1:vd [t % 10000]=t % 10000:=by simp [vd]
 rw [h1]
 have h2:p*(t % 10000)+p*10000*(t / 10000)=p*t:=by
  rw [Nat.mul_assoc, ← Nat.mul_add,Nat.mod_add_div]
 have h3:p*t=p*c+p*x+p*y:=by rw [ht,Nat.mul_add,Nat.mul_add]
 omega
theorem Y5q {a b:List Nat}(ha:Od a) (hb:Od b) (hla:a.length≤1000000000) (hlb:b.length≤1000000000) {K:Ex→St→Prop}
  (hK:∀ (e:Nat→AV) (s:List Nat),Od s→vd s=vd a+vd b→(s.length=max a.length b.length∨(s.length=max a.length b.length+1∧10000 ^ max a.length b.length≤vd s))→e 5 = .osl none 0 0 s.length→K (.exit 0) ⟨e,[.cells (ic s)]⟩) :
  T Tryz.prog 55 0 (.loop Zvn) ⟨envL [(5,.osl none 0 0 0),(0,.sl (ic a)),(1,.sl (ic b)),(6,.int .i64 0),(7,.int .i64 0)],[.cells []]⟩ K:=by
 refine Zaf (fun z:List Nat×Nat=>⟨envL [(5,.osl none 0 0 z.1.length),(0,.sl (ic a)),(1,.sl (ic b)),(6,.int .i64 (z.2:Int)),(7,.int .i64 (z.1.length:Int))],[.cells (ic z.1)]⟩)
  (fun z=>Od z.1∧z.2≤1∧z.1.length+z.2≤max a.length b.length+1∧vd z.1+10000 ^ z.1.length*z.2=vd (a.take z.1.length)+vd (b.take z.1.length)∧(z.1.length≤max a.length b.length∨(z.1.length=max a.length b.length+1∧10000 ^ max a.length b.length≤vd z.1))) (fun z=>2*(max a.length b.length - z.1.length)+z.2) ([],0)
  ⟨fun x hx=>by simp at hx,by simp,by simp,by simp [vd],.inl (by simp)⟩ (Zab _ (by simp only [go_sem]; simp)) (fun z hI N hN=>?_)
 obtain ⟨s,c⟩:=z
 obtain ⟨h1,h2,h3,h4,h6⟩:=hI
 simp only at h1 h2 h3 h4 h6 ⊢
 unfold Zvn
 have hx:=ha.getD s.length
 have hy:=hb.getD s.length
 have hga:s.length<a.length→(ic a)[s.length]? = some (.int .i64 ((a.getD s.length 0:Nat):Int)):=fun h=>Zn0 (getElem?_getD h)
 have hgb:s.length<b.length→(ic b)[s.length]? = some (.int .i64 ((b.getD s.length 0:Nat):Int)):=fun h=>Zn0 (getElem?_getD h)
 have hza:¬ s.length<a.length→a.getD s.length 0=0:=fun h=>by rw [List.getD_eq_getElem?_getD,List.getElem?_eq_none (by omega)]; rfl
 have hzb:¬ s.length<b.length→b.getD s.length 0=0:=fun h=>by rw [List.getD_eq_getElem?_getD,List.getElem?_eq_none (by omega)]; rfl
 have hta:=Zfc (l:=a) (n:=s.length)
 have htb:=Zfc (l:=b) (n:=s.length)
 generalize a.getD s.length 0=x at *
 generalize b.getD s.length 0=y at *
 have q0:(0:Int)≤(s.length:Int):=by omega
 have e1:IntKind.i64.wrap ((c:Int)+(x:Int))=((c+x:Nat):Int):=by rw [Zac (by omega) (by omega)]; omega
 have e2:IntKind.i64.wrap (((c+x:Nat):Int)+(y:Int))=((c+x+y:Nat):Int):=by rw [Zac (by omega) (by omega)]; omega
 have e3:IntKind.i64.wrap ((c:Int)+(y:Int))=((c+y:Nat):Int):=by rw [Zac (by omega) (by omega)]; omega
 have e4:IntKind.i64.wrap ((s.length:Int)+1)=((s.length+1:Nat):Int):=by rw [Zac (by omega) (by omega)]; omega
 have p10:¬ (10000:Int)=0:=by omega
 have em:∀ t:Nat,((t:Nat):Int).tmod 10000=((t % 10000:Nat):Int):=fun t=>Zwr (b:=10000)
 have ed:∀ t:Nat,t<30000→IntKind.i64.wrap (((t:Nat):Int).tdiv 10000)=((t / 10000:Nat):Int):=fun t ht=>by
  have:((t:Nat):Int).tdiv 10000=((t / 10000:Nat):Int):=(Int.ofNat_tdiv t 10000).symm
  rw [this,Zac (by omega) (by omega)]
 have hsz:(s.length+1)*8≤1099511627776:=by omega
 have hfit:s.length≤(ic s).length:=by rw [Zan]; omega
 have htake:(ic s).take s.length=ic s:=List.take_of_length_le (by rw [Zan]; omega)
 have done:∀ (t:Nat) (e:Nat→AV) (bl:Blk),t=c+x+y→(s.length<max a.length b.length∨c=1)→e 5 = .osl none 2 0 (s.length+1)→e 0 = .sl (ic a)→e 1 = .sl (ic b)→e 6 = .int .i64 ((t / 10000:Nat):Int)→e 7 = .int .i64 ((s.length+1:Nat):Int) →
   N ⟨e,[.dead,bl,.cells (ic s ++ [.int .i64 ((t % 10000:Nat):Int)])]⟩:=fun t e bl ht hor k5 k0 k1 k6 k7=>by
  have hxz:¬ s.length<max a.length b.length→x=0∧y=0:=fun h=>⟨hza (by omega),hzb (by omega)⟩
  refine hN (s ++ [t % 10000],t / 10000) _ ⟨h1.append (fun z hz=>by simp at hz; omega),?_,?_,?_,?_⟩ ?_ ?_
  ·show t / 10000≤1; omega
  ·show (s ++ [t % 10000]).length+t / 10000≤_
   rw [List.length_append,List.length_singleton]
   by_cases hm:s.length<max a.length b.length
   ·omega
   ·have:=hxz hm; omega
  ·show vd (s ++ [t % 10000])+10000 ^ (s ++ [t % 10000]).length*(t / 10000)=vd (a.take (s ++ [t % 10000]).length)+vd (b.take (s ++ [t % 10000]).length)
   rw [Xaq (x:=x) (y:=y) h4 rfl ht,List.length_append,List.length_singleton,hta,htb]
  ·show (s ++ [t % 10000]).length≤_∨((s ++ [t % 10000]).length=_∧_≤vd (s ++ [t % 10000]))
   rw [List.length_append,List.length_singleton]
   by_cases hm:s.length<max a.length b.length
   ·exact .inl (by omega)
   ·have hxy:=hxz hm
    have hsl:s.length=max a.length b.length:=by omega
    have ht1:t % 10000=1:=by omega
    refine .inr ⟨by omega,?_⟩
    rw [ht1,Zkh, ← hsl]
    simp [vd]
  ·show 2*(max a.length b.length - (s ++ [t % 10000]).length)+t / 10000<2*(max a.length b.length - s.length)+c
   rw [List.length_append,List.length_singleton]
   by_cases hm:s.length<max a.length b.length
   ·omega
   ·have:=hxz hm; omega
  ·show Le 55 0 _ ⟨envL [(5,.osl none 0 0 (s ++ [t % 10000]).length),(0,.sl (ic a)),(1,.sl (ic b)),(6,.int .i64 ((t / 10000:Nat):Int)),(7,.int .i64 ((s ++ [t % 10000]).length:Int))],_⟩
   have hlen:((s ++ [t % 10000]).length:Int)=((s.length+1:Nat):Int):=by simp
   rw [hlen]
   exact Y7v _ ⟨k5,k0,k1,k6,k7,trivial⟩ rfl
 by_cases hA:s.length<a.length
 ·have a1:(s.length:Int)<(a.length:Int):=by omega
  by_cases hB:s.length<b.length
  ·have b1:(s.length:Int)<(b.length:Int):=by omega
   simp only [go_sem,Zfb,Zh5,Zhw,Zvb,Zh2,Zus,Zf9,Zfq,Zan,a1,b1,q0,hga hA,hgb hB,e1,e2,p10,em,ed _ (show c+x+y<30000 by omega),e4,hsz,hfit,htake]
   exact ⟨Nat.le_refl _,done (c+x+y) _ _ rfl (.inl (by omega)) (by simp only [go_sem]) (by simp only [go_sem]) (by simp only [go_sem]) (by simp only [go_sem]) (by simp only [go_sem])⟩
  ·have b1:¬ (s.length:Int)<(b.length:Int):=by omega
   have hy0:=hzb hB
   simp only [go_sem,Zfb,Zh5,Zhw,Zvb,Zh2,Zf9,Zfq,Zan,a1,b1,q0,hga hA,e1,p10,em,ed _ (show c+x<30000 by omega),e4,hsz,hfit,htake]
   exact ⟨Nat.le_refl _,done (c+x) _ _ (by omega) (.inl (by omega)) (by simp only [go_sem]) (by simp only [go_sem]) (by simp only [go_sem]) (by simp only [go_sem]) (by simp only [go_sem])⟩
 ·have a1:¬ (s.length:Int)<(a.length:Int):=by omega
  have hx0:=hza hA
  by_cases hB:s.length<b.length
  ·have b1:(s.length:Int)<(b.length:Int):=by omega
   simp only [go_sem,Zfb,Zh5,Zhw,Zh2,Zus,Zf9,Zfq,Zan,a1,b1,q0,hgb hB,e3,p10,em,ed _ (show c+y<30000 by omega),e4,hsz,hfit,htake]
   exact ⟨Nat.le_refl _,done (c+y) _ _ (by omega) (.inl (by omega)) (by simp only [go_sem]) (by simp only [go_sem]) (by simp only [go_sem]) (by simp only [go_sem]) (by simp only [go_sem])⟩
  ·have b1:¬ (s.length:Int)<(b.length:Int):=by omega
   have hy0:=hzb hB
   by_cases hc:c=0
   ·subst hc
    have c1:¬ (0:Int)<((0:Nat):Int):=by omega
    simp only [go_sem,Zfb,Zan,a1,b1,c1]
    refine hK _ s h1 ?_ ?_ (by simp only [go_sem])
    rotate_left
    ·rcases h6 with h6 | h6
     ·exact .inl (by omega)
     ·exact .inr h6
    rw [Nat.mul_zero,Nat.add_zero,Zc4 (by omega),Zc4 (by omega)] at h4
    exact h4
   ·have c1:(0:Int)<(c:Int):=by omega
    simp only [go_sem,Zfb,Zh5,Zhw,Zh2,Zf9,Zfq,Zan,a1,b1,c1,q0,p10,em,ed _ (show c<30000 by omega),e4,hsz,hfit,htake]
    exact ⟨Nat.le_refl _,done c _ _ (by omega) (.inr (by omega)) (by simp only [go_sem]) (by simp only [go_sem]) (by simp only [go_sem]) (by simp only [go_sem]) (by simp only [go_sem])⟩
theorem Ya3:∀ {s t:List Nat},Od s→Od t→s.length=t.length→vd s=vd t→s=t
 | [],[],_,_,_,_=>rfl
 | [],y::t,_,_,h,_=>by simp at h
 | x::s,[],_,_,h,_=>by simp at h
 | x::s,y::t,hs,ht,hl,hv=>by
  have hx:=hs x (by simp)
  have hy:=ht y (by simp)
  simp only [vd] at hv
  have h1:x=y:=by omega
  have h2:s=t:=Ya3 (fun z hz=>hs z (by simp [hz])) (fun z hz=>ht z (by simp [hz])) (by simpa using hl) (by omega)
  rw [h1,h2]
theorem Xgx {s:List Nat}(h:Od s) (hl:s.length=lenD (vd s)):s=dg (vd s):=Ya3 h (Zvz _) hl (Znr _).symm
theorem Y00 {m n:Nat}(hm:Zs m) (hn:Zs n):SpecV Tryz.prog Ywc [.sl (ic (dg m)),.sl (ic (dg n))] (.sl (ic (dg (m+n)))):=by
 refine Zad Ypk (by simp) ?_
 unfold Ymb
 have lm:=hm.len
 have ln:=hn.len
 simp only [go_sem,Z8d,Z80,Z6o]
 refine T_le (Zjm 5 none (by simp only [go_sem]) [(0,.sl (ic (dg m))),(1,.sl (ic (dg n))),(6,.int .i64 0),(7,.int .i64 0)] (by simp only [go_sem])) ?_
 refine Y5q (Zvz m) (Zvz n) (by omega) (by omega) (fun e s h1 h2 h3 h5=>?_)
 rw [Znr,Znr] at h2
 have hs:s=dg (m+n):=by
  rw [← h2]
  refine Xgx h1 ?_
  have g1:lenD (vd s)≤s.length:=Zn6 (Ykh h1)
  rcases h3 with h3 | ⟨h3,h4⟩
  ·have g2:=Zba (show m≤vd s by omega)
   have g3:=Zba (show n≤vd s by omega)
   unfold lenD at g1 g2 g3 ⊢
   omega
  ·have:=Xbw h4
   omega
 simp only [go_sem,Z4j,h5]
 subst hs
 exact Yki rfl (List.mem_range.2 (by simp)) rfl (by rw [List.drop_zero,List.take_of_length_le (by rw [Zan]; exact Nat.le_refl _)])
end GoAbs
namespace GoAbs
open Go Go.Proofs
theorem Yx4 {s:List Nat}{A B w x y p d w':Nat}(hv:vd s+B=A+p*w) (hp:p=10000 ^ s.length) (hd:d+w+y=x+10000*w'):vd (s ++ [d])+(B+p*y)=(A+p*x)+10000 ^ (s ++ [d]).length*w':=by
 rw [Zkh,List.length_append,List.length_singleton,Nat.pow_succ, ← hp]
 have h1:vd [d]=d:=by simp [vd]
 rw [h1]
 have h2:p*d+p*w+p*y=p*x+p*10000*w':=by
  rw [Nat.mul_assoc, ← Nat.mul_add, ← Nat.mul_add, ← Nat.mul_add,hd]
 omega
theorem Y5c {a b:List Nat}(ha:Od a) (hb:Od b) (hla:a.length≤1000000000) {K:Ex→St→Prop}
  (hK:∀ (e:Nat→AV) (s:List Nat) (w:Nat),Od s→s.length=a.length→vd s+vd (b.take a.length)=vd a+10000 ^ a.length*w→e 5 = .osl none 0 0 s.length→K (.exit 0) ⟨e,[.cells (ic s)]⟩) :
  T Tryz.prog 41 0 (.loop Zwf) ⟨envL [(5,.osl none 0 0 0),(0,.sl (ic a)),(1,.sl (ic b)),(6,.int .i64 0),(7,.int .i64 0)],[.cells []]⟩ K:=by
 refine Zaf (fun z:List Nat×Nat=>⟨envL [(5,.osl none 0 0 z.1.length),(0,.sl (ic a)),(1,.sl (ic b)),(6,.int .i64 (z.2:Int)),(7,.int .i64 (z.1.length:Int))],[.cells (ic z.1)]⟩)
  (fun z=>Od z.1∧z.2≤1∧z.1.length≤a.length∧vd z.1+vd (b.take z.1.length)=vd (a.take z.1.length)+10000 ^ z.1.length*z.2) (fun z=>a.length - z.1.length) ([],0)
  ⟨fun x hx=>by simp at hx,by simp,by simp,by simp [vd]⟩ (Zab _ (by simp only [go_sem]; simp)) (fun z hI N hN=>?_)
 obtain ⟨s,w⟩:=z
 obtain ⟨h1,h2,h3,h4⟩:=hI
 simp only at h1 h2 h3 h4 ⊢
 unfold Zwf
 by_cases hA:s.length<a.length
 ·have hx:=ha.getD s.length
  have hy:=hb.getD s.length
  have hga:(ic a)[s.length]? = some (.int .i64 ((a.getD s.length 0:Nat):Int)):=Zn0 (getElem?_getD hA)
  have hgb:s.length<b.length→(ic b)[s.length]? = some (.int .i64 ((b.getD s.length 0:Nat):Int)):=fun h=>Zn0 (getElem?_getD h)
  have hzb:¬ s.length<b.length→b.getD s.length 0=0:=fun h=>by rw [List.getD_eq_getElem?_getD,List.getElem?_eq_none (by omega)]; rfl
  have hta:=Zfc (l:=a) (n:=s.length)
  have htb:=Zfc (l:=b) (n:=s.length)
  generalize a.getD s.length 0=x at *
  generalize b.getD s.length 0=y at *
  have q0:(0:Int)≤(s.length:Int):=by omega
  have a1:(s.length:Int)<(a.length:Int):=by omega
  have e4:IntKind.i64.wrap ((s.length:Int)+1)=((s.length+1:Nat):Int):=by rw [Zac (by omega) (by omega)]; omega
  have e1:IntKind.i64.wrap ((x:Int) - (w:Int))=(x:Int) - w:=Zac (by omega) (by omega)
  have e2:IntKind.i64.wrap ((x:Int) - w - (y:Int))=(x:Int) - w - y:=Zac (by omega) (by omega)
  have hsz:(s.length+1)*8≤1099511627776:=by omega
  have hfit:s.length≤(ic s).length:=by rw [Zan]; omega
  have htake:(ic s).take s.length=ic s:=List.take_of_length_le (by rw [Zan]; omega)
  have done:∀ (d w':Nat) (e:Nat→AV) (bl:Blk),d+w+y=x+10000*w'→d<10000→w'≤1→e 5 = .osl none 2 0 (s.length+1)→e 0 = .sl (ic a)→e 1 = .sl (ic b)→e 6 = .int .i64 (w':Int)→e 7 = .int .i64 ((s.length+1:Nat):Int) →
    N ⟨e,[.dead,bl,.cells (ic s ++ [.int .i64 (d:Int)])]⟩:=fun d w' e bl hd hd1 hw' k5 k0 k1 k6 k7=>by
   refine hN (s ++ [d],w') _ ⟨h1.append (fun z hz=>by simp at hz; omega),hw',?_,?_⟩ ?_ ?_
   ·show (s ++ [d]).length≤_; rw [List.length_append,List.length_singleton]; omega
   ·show vd (s ++ [d])+vd (b.take (s ++ [d]).length)=vd (a.take (s ++ [d]).length)+10000 ^ (s ++ [d]).length*w'
    have:=Yx4 (x:=x) (y:=y) (w':=w') h4 rfl hd
    have hl:(s ++ [d]).length=s.length+1:=by simp
    rw [hl,hta,htb]
    rw [hl] at this
    exact this
   ·show a.length - (s ++ [d]).length<a.length - s.length
    rw [List.length_append,List.length_singleton]; omega
   ·show Le 41 0 _ ⟨envL [(5,.osl none 0 0 (s ++ [d]).length),(0,.sl (ic a)),(1,.sl (ic b)),(6,.int .i64 (w':Int)),(7,.int .i64 ((s ++ [d]).length:Int))],_⟩
    have hlen:((s ++ [d]).length:Int)=((s.length+1:Nat):Int):=by simp
    rw [hlen]
    exact Y7v _ ⟨k5,k0,k1,k6,k7,trivial⟩ rfl
  by_cases hB:s.length<b.length
  ·have b1:(s.length:Int)<(b.length:Int):=by omega
   by_cases hv:(x:Int) - w - y<0
   ·have e3:IntKind.i64.wrap ((x:Int) - w - y+10000)=((x+10000 - w - y:Nat):Int):=by rw [Zac (by omega) (by omega)]; omega
    simp only [go_sem,Ze2,Zh0,Zhz,Zwj,Zhy,Zh6,Zpa,Zf5,Zf3,Zan,a1,b1,q0,hga,hgb hB,e1,e2,e3,hv,e4,hsz,hfit,htake]
    exact ⟨Nat.le_refl _,done _ 1 _ _ (by omega) (by omega) (by omega) (by simp only [go_sem]) (by simp only [go_sem]) (by simp only [go_sem]) (by simp only [go_sem]; try rfl) (by simp only [go_sem])⟩
   ·obtain ⟨d,hd⟩:∃ d:Nat,(x:Int) - w - y=(d:Int):=⟨x - w - y,by omega⟩
    have hv':¬ ((d:Nat):Int)<0:=by omega
    have e2':IntKind.i64.wrap ((x:Int) - w - (y:Int))=((d:Nat):Int):=by rw [e2,hd]
    simp only [go_sem,Ze2,Zh0,Zhz,Zwj,Zhy,Zh6,Zf5,Zf3,Zan,a1,b1,q0,hga,hgb hB,e1,e2',hv',e4,hsz,hfit,htake]
    exact ⟨Nat.le_refl _,done d 0 _ _ (by omega) (by omega) (by omega) (by simp only [go_sem]) (by simp only [go_sem]) (by simp only [go_sem]) (by simp only [go_sem]; try rfl) (by simp only [go_sem])⟩
  ·have b1:¬ (s.length:Int)<(b.length:Int):=by omega
   have hy0:=hzb hB
   by_cases hv:(x:Int) - w<0
   ·have e3:IntKind.i64.wrap ((x:Int) - w+10000)=((x+10000 - w:Nat):Int):=by rw [Zac (by omega) (by omega)]; omega
    simp only [go_sem,Ze2,Zh0,Zhz,Zhy,Zh6,Zpa,Zf5,Zf3,Zan,a1,b1,q0,hga,e1,e3,hv,e4,hsz,hfit,htake]
    exact ⟨Nat.le_refl _,done _ 1 _ _ (by omega) (by omega) (by omega) (by simp only [go_sem]) (by simp only [go_sem]) (by simp only [go_sem]) (by simp only [go_sem]; try rfl) (by simp only [go_sem])⟩
   ·obtain ⟨d,hd⟩:∃ d:Nat,(x:Int) - w=(d:Int):=⟨x - w,by omega⟩
    have hv':¬ ((d:Nat):Int)<0:=by omega
    have e1':IntKind.i64.wrap ((x:Int) - (w:Int))=((d:Nat):Int):=by rw [e1,hd]
    simp only [go_sem,Ze2,Zh0,Zhz,Zhy,Zh6,Zf5,Zf3,Zan,a1,b1,q0,hga,e1',hv',e4,hsz,hfit,htake]
    exact ⟨Nat.le_refl _,done d 0 _ _ (by omega) (by omega) (by omega) (by simp only [go_sem]) (by simp only [go_sem]) (by simp only [go_sem]) (by simp only [go_sem]; try rfl) (by simp only [go_sem])⟩
 ·have hs:s.length=a.length:=by omega
  have a1:¬ (s.length:Int)<(a.length:Int):=by omega
  simp only [go_sem,Ze2,Zan,a1]
  refine hK _ s w h1 hs ?_ (by simp only [go_sem])
  rw [hs,List.take_length] at h4
  exact h4
def pad (k v:Nat):List Nat:=dg v++List.replicate (k - lenD v) 0
theorem Ysu {k v:Nat}:vd (pad k v)=v:=by unfold pad; rw [Zkh,Ysx,Znr]; simp
theorem Yrl {k v:Nat}:Od (pad k v):=(Zvz v).append Od.rep
theorem Yiu {k v:Nat}(h:lenD v≤k):(pad k v).length=k:=by unfold pad; rw [List.length_append,List.length_replicate]; unfold lenD at *; omega
theorem Yaq {m n:Nat}(hm:Zs m) (hnm:n≤m):SpecV Tryz.prog Yv8 [.sl (ic (dg m)),.sl (ic (dg n))] (.sl (ic (pad (lenD m) (m - n)))):=by
 refine Zad Ypf (by simp) ?_
 unfold Ymm
 have lm:=hm.len
 simp only [go_sem,Z9b,Z7l,Z7g]
 refine T_le (Zjm 5 none (by simp only [go_sem]) [(0,.sl (ic (dg m))),(1,.sl (ic (dg n))),(6,.int .i64 0),(7,.int .i64 0)] (by simp only [go_sem])) ?_
 refine Y5c (Zvz m) (Zvz n) (by omega) (fun e s w h1 h2 h3 h5=>?_)
 have hln:=Zba hnm
 rw [Zc4 (by unfold lenD at hln; exact hln),Znr,Znr] at h3
 have hlt:=Ykh h1
 rw [h2] at hlt
 have hw:w=0:=by
  rcases Nat.eq_zero_or_pos w with h | h
  ·exact h
  ·have:10000 ^ (dg m).length*1≤10000 ^ (dg m).length*w:=Nat.mul_le_mul_left _ h
   omega
 subst hw
 have hv:vd s=m - n:=by omega
 have hs:s=pad (lenD m) (m - n):=Ya3 h1 Yrl (by rw [h2,Yiu (Zba (Nat.sub_le _ _))]; rfl) (by rw [hv,Ysu])
 simp only [go_sem,Z23,h5]
 subst hs
 exact Yki rfl (List.mem_range.2 (by simp)) rfl (by rw [List.drop_zero,List.take_of_length_le (by rw [Zan]; exact Nat.le_refl _)])
end GoAbs
namespace GoAbs
open Go Go.Proofs
theorem Zaj {z:Int}:avZ z = .agg [.bool (decide (z<0)),.sl (ic (dg z.natAbs))]:=rfl
theorem Zgw {n:Nat}:(0:Int)<((dg n).length:Int)↔n≠0:=by
 have:=Yem (n:=n)
 rw [← List.length_eq_zero_iff] at this
 omega
theorem Yrt {z:Int}:SpecV Tryz.prog Ywx [avZ z] (avZ (-z)):=by
 refine Zad Yvd (by simp) ?_
 unfold Yr4
 have e0:(-z).natAbs=z.natAbs:=Int.natAbs_neg z
 rw [Zaj,Zaj,e0]
 by_cases h:z<0
 ·have hd:decide (-z<0)=false:=by simp; omega
  simp only [go_sem,Zpb,Zpc,Zox,h,decide_true,decide_false,Bool.not_true,Bool.not_false,hd]
 ·by_cases h0:z.natAbs=0
  ·have hd:decide (-z<0)=false:=by simp; omega
   have hp:¬ (0:Int)<((dg z.natAbs).length:Int):=by rw [Zgw]; omega
   simp only [go_sem,Zpb,Zpc,Zox,h,decide_true,decide_false,Bool.not_true,Bool.not_false,hd,Zan,hp]
  ·have hd:decide (-z<0)=true:=by simp; omega
   have hp:(0:Int)<((dg z.natAbs).length:Int):=Zgw.2 h0
   simp only [go_sem,Zpb,Zpc,Zox,h,decide_true,decide_false,Bool.not_true,Bool.not_false,hd,Zan,hp]
theorem Yys {z:Int}:SpecV Tryz.prog Yym [avZ z] (avZ (z.natAbs:Int)):=by
 refine Zad Yv7 (by simp) ?_
 unfold Yrc
 have hd:decide ((z.natAbs:Int)<0)=false:=by simp
 rw [Zaj,Zaj,hd]
 simp only [go_sem,Yb1,Ya6,Ydg,Int.natAbs_natCast]
theorem Xbf {z:Int}:SpecV Tryz.prog Yux [avZ z] (.int .i64 (if z=0 then 0 else if z<0 then -1 else 1)):=by
 refine Zad Ypp (by simp) ?_
 unfold Ylq
 rw [Zaj]
 by_cases h0:z=0
 ·subst h0
  simp only [go_sem,Zlq,Zlc,Z8u,Int.natAbs_zero,Zcf,Ysm]
  simp
 ·have hp:¬ ((dg z.natAbs).length:Int)=0:=by have:=(Zgw (n:=z.natAbs)).2 (by omega); omega
  by_cases h:z<0
  ·simp only [go_sem,Zlq,Zlc,Zs5,Z9g,Zan,hp,h,h0,decide_true,decide_false]
  ·simp only [go_sem,Zlq,Zlc,Zs5,Z72,Zan,hp,h,h0,decide_true,decide_false]
theorem Y9i {m n:Nat}(hm:Zs m) (hn:Zs n):(dg (m+n)).length≤1000000000:=by
 have h1:=Zj6 m
 have h2:=Zj6 n
 have:m+n<10000 ^ (lenD m+lenD n+1):=by
  have g1:10000 ^ lenD m≤10000 ^ (lenD m+lenD n):=Nat.pow_le_pow_right (by omega) (by omega)
  have g2:10000 ^ lenD n≤10000 ^ (lenD m+lenD n):=Nat.pow_le_pow_right (by omega) (by omega)
  rw [Nat.pow_succ]
  omega
 have:=Zn6 this
 unfold Zs at hm hn
 show lenD (m+n)≤_
 omega
theorem Xez {a b:Int}(ha:Zs a.natAbs) (hb:Zs b.natAbs):SpecV Tryz.prog Yzq [avZ a,avZ b] (avZ (a+b)):=by
 refine Zad Yts (by simp) ?_
 unfold Yrw
 have hm:Tryz.prog.follows .mixedOrders=true:=by kernel_rfl
 rw [Zaj,Zaj]
 by_cases hs:(a<0↔b<0)
 ·have hbe:(decide (a<0) == decide (b<0))=true:=by simp [hs]
  have hab:(if decide (a<0)=true then -((a.natAbs+b.natAbs:Nat):Int) else ((a.natAbs+b.natAbs:Nat):Int))=a+b:=by
   by_cases h:a<0
   ·have:=hs.1 h; simp only [h,decide_true,if_true]; omega
   ·have:¬ b<0:=fun hh=>h (hs.2 hh)
    simp only [h,decide_false]; simp; omega
  simp only [go_sem,Zp5,Zpf,Z0t,hbe,hm]
  refine Zaa (Y00 ha hb) (by simp only [go_sem]) ?_
  simp only [go_sem]
  have hl:=Zl1 (m:=decide (a<0)) (Zvz (a.natAbs+b.natAbs)) (Y9i ha hb)
  rw [Znr,hab] at hl
  refine Zaa hl (by simp only [go_sem]) ?_
  simp only [go_sem,Zaj]
 ·have hbe:(decide (a<0) == decide (b<0))=false:=by
   by_cases h1:a<0 <;> by_cases h2:b<0 <;> simp [h1,h2] at hs ⊢
  by_cases hab:b.natAbs≤a.natAbs
  ·have hge:(0:Int)≤(if a.natAbs<b.natAbs then -1 else if b.natAbs<a.natAbs then 1 else 0):=by rw [if_neg (by omega)]; split <;> omega
   simp only [go_sem,Zp5,Zpf,Z0i,hbe]
   refine Zaa (Z6h ha hb) (by simp only [go_sem]) ?_
   simp only [go_sem,hge,Zz3,hm]
   refine Zaa (Yaq ha hab) (by simp only [go_sem]) ?_
   simp only [go_sem]
   have hl:=Zl1 (m:=decide (a<0)) (Yrl (k:=lenD a.natAbs) (v:=a.natAbs - b.natAbs)) (by rw [Yiu (Zba (Nat.sub_le _ _))]; exact Nat.le_trans ha (by omega))
   have hv:(if decide (a<0)=true then -((a.natAbs - b.natAbs:Nat):Int) else ((a.natAbs - b.natAbs:Nat):Int))=a+b:=by
    by_cases h1:a<0 <;> by_cases h2:b<0 <;> simp [h1,h2] at hs ⊢ <;> omega
   rw [Ysu,hv] at hl
   refine Zaa hl (by simp only [go_sem]) ?_
   simp only [go_sem,Zaj]
  ·have hge:¬ (0:Int)≤(if a.natAbs<b.natAbs then -1 else if b.natAbs<a.natAbs then 1 else 0):=by rw [if_pos (by omega)]; omega
   simp only [go_sem,Zp5,Zpf,Z0i,hbe]
   refine Zaa (Z6h ha hb) (by simp only [go_sem]) ?_
   simp only [go_sem,hge,Z0v,hm]
   refine Zaa (Yaq hb (show a.natAbs≤b.natAbs by omega)) (by simp only [go_sem]) ?_
   simp only [go_sem]
   have hl:=Zl1 (m:=decide (b<0)) (Yrl (k:=lenD b.natAbs) (v:=b.natAbs - a.natAbs)) (by rw [Yiu (Zba (Nat.sub_le _ _))]; exact Nat.le_trans hb (by omega))
   have hv:(if decide (b<0)=true then -((b.natAbs - a.natAbs:Nat):Int) else ((b.natAbs - a.natAbs:Nat):Int))=a+b:=by
    by_cases h1:a<0 <;> by_cases h2:b<0 <;> simp [h1,h2] at hs ⊢ <;> omega
   rw [Ysu,hv] at hl
   refine Zaa hl (by simp only [go_sem]) ?_
   simp only [go_sem,Zaj]
theorem Yqk {a b:Int}(ha:Zs a.natAbs) (hb:Zs b.natAbs):SpecV Tryz.prog Yxd [avZ a,avZ b] (avZ (a - b)):=by
 refine Zad Yvv (by simp) ?_
 unfold Yru
 have hm:Tryz.prog.follows .mixedOrders=true:=by kernel_rfl
 simp only [go_sem,Ya4,Z0h,hm,Zaj]
 refine Zaa (Yrt (z:=b)) (by simp only [go_sem,Zaj]) ?_
 simp only [go_sem]
 have:=Xez (a:=a) (b := -b) ha (by rw [Int.natAbs_neg]; exact hb)
 refine Zaa this (by simp only [go_sem,Zaj]) ?_
 rw [← Int.sub_eq_add_neg]
 simp only [go_sem,Zaj]
theorem Y1g {a b:Int}(ha:Zs a.natAbs) (hb:Zs b.natAbs):SpecV Tryz.prog Yya [avZ a,avZ b] (.int .i64 (if a=b then 0 else if a<b then -1 else 1)):=by
 refine Zad Yvz (by simp) ?_
 unfold Yqn
 simp only [go_sem,Yay,Yc6,Zaj]
 refine Zaa (Yqk ha hb) (by simp only [go_sem,Zaj]) ?_
 simp only [go_sem]
 refine Zaa (Xbf (z:=a - b)) (by simp only [go_sem,Zaj]) ?_
 simp only [go_sem]
 have e1:(a - b=0)=(a=b):=propext (by omega)
 have e2:(a - b<0)=(a<b):=propext (by omega)
 simp only [e1,e2]
end GoAbs
namespace GoAbs
open Go Go.Proofs
theorem Xb2 {v:Int}{m:Bool}(hv:v.natAbs≤9223372036854775808) {K:Ex→St→Prop}
  (hK:∀ e:Nat→AV,e 2 = .ptr 0 0→e 3 = .ptr 1 0→K (.exit 0) ⟨e,[.cells [.bool false,.nils],.cells [.bool m,.osl none 2 0 (dg v.natAbs).length],.cells (ic (dg v.natAbs))]⟩) :
  T Tryz.prog 25 0 (.loop Zqa) ⟨envL [(0,.int .i64 v),(2,.ptr 0 0),(3,.ptr 1 0)],[.cells [.bool false,.nils],.cells [.bool m,.osl none 2 0 0],.cells []]⟩ K:=by
 refine Zaf (fun z:Int×List Nat=>⟨envL [(0,.int .i64 z.1),(2,.ptr 0 0),(3,.ptr 1 0)],[.cells [.bool false,.nils],.cells [.bool m,.osl none 2 0 z.2.length],.cells (ic z.2)]⟩)
  (fun z=>z.1.natAbs≤9223372036854775808∧z.2.length≤9223372036854775808 - z.1.natAbs∧z.2++dg z.1.natAbs=dg v.natAbs) (fun z=>z.1.natAbs) (v,[]) ⟨hv,by simp,rfl⟩ (Zab _ (by simp only [go_sem])) (fun z hI N hN=>?_)
 obtain ⟨u,s⟩:=z
 obtain ⟨h1,h2,h3⟩:=hI
 simp only at h1 h2 h3 ⊢
 unfold Zqa
 have hlen:s.length≤6:=by
  have g1:(dg v.natAbs).length≤6:=by
   have:v.natAbs<10000 ^ 6:=by omega
   exact Zn6 this
  have:=congrArg List.length h3
  rw [List.length_append] at this
  omega
 by_cases hu:u=0
 ·subst hu
  simp only [go_sem,Zof]
  rw [Int.natAbs_zero,Zcf,List.append_nil] at h3
  subst h3
  exact hK _ (by simp only [go_sem]) (by simp only [go_sem])
 ·have hm1:(u.tmod 10000).natAbs=u.natAbs % 10000:=by rw [Int.natAbs_tmod]; rfl
  have hd1:(u.tdiv 10000).natAbs=u.natAbs / 10000:=by rw [Int.natAbs_tdiv]; rfl
  have p10:¬ (10000:Int)=0:=by omega
  have hdg:dg u.natAbs=u.natAbs % 10000::dg (u.natAbs / 10000):=Zxl (by omega)
  have ew:IntKind.i64.wrap (u.tdiv 10000)=u.tdiv 10000:=Zac (by omega) (by omega)
  have hsz:(s.length+1)*8≤1099511627776:=by omega
  have hfit:s.length≤(ic s).length:=by rw [Zan]; omega
  have htake:(ic s).take s.length=ic s:=List.take_of_length_le (by rw [Zan]; omega)
  have done:∀ (d:Nat) (e:Nat→AV) (bl:Blk),d=u.natAbs % 10000→e 0 = .int .i64 (u.tdiv 10000)→e 2 = .ptr 0 0→e 3 = .ptr 1 0 →
    N ⟨e,[.cells [.bool false,.nils],.cells [.bool m,.osl none 4 0 (s.length+1)],.dead,bl,.cells (ic s ++ [.int .i64 (d:Int)])]⟩:=fun d e bl hd k0 k2 k3=>by
   refine hN (u.tdiv 10000,s ++ [d]) _ ⟨by simp only; omega,by simp only [List.length_append,List.length_singleton]; omega,?_⟩ (by show (u.tdiv 10000).natAbs<u.natAbs; omega) ?_
   ·simp only
    rw [hd1,hd,List.append_assoc,List.singleton_append, ← hdg]; exact h3
   ·refine Zcg (Zht [0,1,4] (by decide) (fun i hi=>by omega) [(0,.int .i64 (u.tdiv 10000)),(2,.ptr 0 0),(3,.ptr 1 0)] ⟨k0,k2,k3,trivial⟩) ?_
    have h1:ic s ++ [AV.int .i64 (d:Int)]=ic (s ++ [d]):=by rw [Ydn]; rfl
    simp only [List.length_append,List.length_singleton]
    congr 1
    show [Blk.cells [.bool false,.nils],Blk.cells [.bool m,.osl none 2 0 (s.length+1)],Blk.cells (gcL _ (ic s ++ [AV.int .i64 (d:Int)]))]=_
    rw [h1,Y3i]
  by_cases hneg:u.tmod 10000<0
  ·have en:IntKind.i64.wrap (-(u.tmod 10000))=((u.natAbs % 10000:Nat):Int):=by rw [Zac (by omega) (by omega)]; omega
   have en':IntKind.i64.wrap (0 - (u.tmod 10000))=((u.natAbs % 10000:Nat):Int):=by rw [Zac (by omega) (by omega)]; omega
   simp only [go_sem,Zof,Z0m,Z0r,Ydz,Z07,Z0f,hu,p10,hneg,en,en',ew,hsz,hfit,htake]
   exact done _ _ _ rfl (by simp only [go_sem]) (by simp only [go_sem]) (by simp only [go_sem])
  ·have en:u.tmod 10000=((u.natAbs % 10000:Nat):Int):=by omega
   have hneg':¬ ((u.natAbs % 10000:Nat):Int)<0:=by omega
   simp only [go_sem,Zof,Z0m,Z0r,Z07,Z0f,hu,p10,en,hneg',ew,hsz,hfit,htake]
   exact done _ _ _ rfl (by simp only [go_sem]) (by simp only [go_sem]) (by simp only [go_sem])
theorem Z8r {v:Int}(hv:v.natAbs≤9223372036854775808):SpecV Tryz.prog Ydq [.int .i64 v] (avZ v):=by
 refine Za4 Yve (by simp) (Zbd 1 rfl ?_)
 unfold Ysy
 have fin:∀ (m:Bool) (e:Nat→AV),decide (v<0)=m→e 0 = .int .i64 v→e 2 = .ptr 0 0→e 3 = .ptr 1 0 →
   T Tryz.prog 25 0 (.seq (.block 0 (.loop Zqa)) (.seq (.rg false Z1f) .ret)) ⟨e,[.cells [.bool false,.nils],.cells [.bool m,.nils]]⟩ (retQ [.cell 2 (some 2)] (avZ v)):=fun m e hm e0 e2 e3=>by
  refine Zar [(0,.int .i64 v),(2,.ptr 0 0),(3,.ptr 1 0)] (by simp only [go_sem,e0,e2,e3]) ?_
  refine T_le (Z97 (b:=1) (l := [.bool m,.nils]) (l' := [.bool m,.osl none 2 0 0]) rfl rfl (fun j x y hx hy=>?_)) (T_le Ym8 ?_)
  ·match j,hx,hy with
   | 0,hx,hy=>simp at hx hy; subst hx; subst hy; exact .inl rfl
   | 1,hx,hy=>simp at hx hy; subst hx; subst hy; exact .inr ⟨rfl,_,_,_,rfl⟩
   | j+2,hx,hy=>simp at hx
  refine Za8 (Za3 (Xb2 hv (fun e e2 e3=>T_W ?_)))
  simp only [go_sem,Z1f,e2,e3]
  rw [Zaj,hm]
  refine Y7r (.cons (.bool _) (.cons (Yki rfl (List.mem_range.2 (by simp)) rfl (by rw [List.drop_zero,List.take_of_length_le (by rw [Zan]; exact Nat.le_refl _)])) .nil))
 simp only [go_sem,Yeg,Ybp]
 exact ⟨fun h=>fin true _ (by simp [h]) (by simp only [go_sem]) (by simp only [go_sem]) (by simp only [go_sem]),fun h=>fin false _ (by simp [h]) (by simp only [go_sem]) (by simp only [go_sem]) (by simp only [go_sem])⟩
end GoAbs
namespace GoAbs
open Go Go.Proofs
theorem Y6j {V V' V0 X P Q r t c w bk y x:Nat}(hs:V'+P*r=V+P*(t % 10000)) (hv:V+P*c=V0+X*bk) (ht:t=r+c+w) (hw:w=x*y) (hX:X=Q*x):V'+P*10000*(t / 10000)+0=V0+X*bk+P*(x*y):=by
 have h1:P*(t % 10000)+P*10000*(t / 10000)=P*t:=by rw [Nat.mul_assoc, ← Nat.mul_add,Nat.mod_add_div]
 have h2:P*t=P*r+P*c+P*w:=by rw [ht,Nat.mul_add,Nat.mul_add]
 rw [← hw]
 omega
theorem Xbd {a b R0:List Nat}{ma mb:Bool}{i L x n0:Nat}(ha:Od a) (hb:Od b) (hx:a[i]? = some x) (hla:a.length≤200000000) (hlb:b.length≤200000000)
  (hL:L=a.length+b.length+1) (hR:R0.length=L) (hO:Od R0) (hV:vd R0<10000 ^ (i+b.length)) {K:Ex→St→Prop}
  (hK:∀ (e:Nat→AV) (R:List Nat),R.length=L→Od R→vd R=vd R0+10000 ^ i*x*vd b→e 2 = .ptr 0 0→e 3 = .ptr 1 0→e 4 = .ptr 2 0→e 5 = .osl none 3 0 L→e 6 = .int .i64 (i:Int)→K (.exit 2) ⟨e,[.cells [.bool ma,.sl (ic a)],.cells [.bool mb,.sl (ic b)],.cells [.bool false,.nils],.cells (ic R)]⟩) :
  T Tryz.prog 80 n0 (.loop Z04) ⟨envL [(2,.ptr 0 0),(3,.ptr 1 0),(4,.ptr 2 0),(5,.osl none 3 0 L),(6,.int .i64 (i:Int)),(7,.int .i64 0),(8,.int .i64 0)],[.cells [.bool ma,.sl (ic a)],.cells [.bool mb,.sl (ic b)],.cells [.bool false,.nils],.cells (ic R0)]⟩ K:=by
 have hm:Tryz.prog.follows .mixedOrders=true:=by kernel_rfl
 have hia:i<a.length:=(List.getElem?_eq_some_iff.1 hx).1
 have hxl:=ha.get hx
 refine Zaf (fun z:Nat×Nat×List Nat=>⟨envL [(2,.ptr 0 0),(3,.ptr 1 0),(4,.ptr 2 0),(5,.osl none 3 0 L),(6,.int .i64 (i:Int)),(7,.int .i64 (z.2.1:Int)),(8,.int .i64 (z.1:Int))],[.cells [.bool ma,.sl (ic a)],.cells [.bool mb,.sl (ic b)],.cells [.bool false,.nils],.cells (ic z.2.2)]⟩)
  (fun z=>z.1≤b.length+1∧z.2.1<10000∧z.2.2.length=L∧Od z.2.2∧vd z.2.2+10000 ^ (i+z.1)*z.2.1=vd R0+10000 ^ i*x*vd (b.take z.1)) (fun z=>b.length+2 - z.1) (0,0,R0)
  ⟨by simp,by simp,hR,hO,by simp [vd]⟩ (Zab _ (by simp only [go_sem]; simp)) (fun z hI N hN=>?_)
 obtain ⟨k,c,R⟩:=z
 obtain ⟨h1,h2,h3,h4,h5⟩:=hI
 simp only at h1 h2 h3 h4 h5 ⊢
 unfold Z04
 have hend:k=b.length+1→c=0:=fun hk=>by
  rcases Nat.eq_zero_or_pos c with h | h
  ·exact h
  ·exfalso
   rw [Zc4 (by omega),hk] at h5
   have g1:=Ykh hb
   have g2:10000 ^ (i+(b.length+1))*1≤10000 ^ (i+(b.length+1))*c:=Nat.mul_le_mul_left _ h
   have g3:10000 ^ i*x*(vd b+1)≤10000 ^ i*9999*10000 ^ b.length:=Nat.mul_le_mul (Nat.mul_le_mul_left _ (by omega)) g1
   have g4:10000 ^ (i+(b.length+1))=10000 ^ i*10000 ^ b.length*10000:=by rw [← Nat.add_assoc,Nat.pow_succ,Nat.pow_add]
   have g5:10000 ^ (i+b.length)=10000 ^ i*10000 ^ b.length:=Nat.pow_add _ _ _
   have g6:10000 ^ i*9999*10000 ^ b.length=10000 ^ i*10000 ^ b.length*9999:=by rw [Nat.mul_assoc,Nat.mul_comm 9999,Nat.mul_assoc]
   rw [Nat.mul_add] at g3
   rw [g5] at hV
   rw [g4] at g2 h5
   generalize 10000 ^ i*10000 ^ b.length=W at *
   omega
 by_cases hgo:k<b.length∨0<c
 ·have hkb:k≤b.length:=by
   rcases hgo with h | h
   ·omega
   ·rcases Nat.lt_or_ge b.length k with h' | h'
    ·have:=hend (by omega); omega
    ·exact h'
  have hikL:i+k<R.length:=by omega
  have hr:R[i+k]? = some (R.getD (i+k) 0):=getElem?_getD hikL
  have hrl:=h4.get hr
  have hy:=hb.getD k
  have hgb:k<b.length→(ic b)[k]? = some (.int .i64 ((b.getD k 0:Nat):Int)):=fun h=>Zn0 (getElem?_getD h)
  have hzbk:¬ k<b.length→b.getD k 0=0:=fun h=>by rw [List.getD_eq_getElem?_getD,List.getElem?_eq_none (by omega)]; rfl
  have htb:=Zfc (l:=b) (n:=k)
  have hset:∀ v:Nat,vd (R.set (i+k) v)+10000 ^ (i+k)*R.getD (i+k) 0=vd R+10000 ^ (i+k)*v:=fun v=>Y7h hr
  generalize R.getD (i+k) 0=r at *
  generalize b.getD k 0=y at *
  have hxy:x*y≤9999*9999:=Nat.mul_le_mul (by omega) (by omega)
  obtain ⟨w,hw⟩:∃ w,w=x*y:=⟨_,rfl⟩
  rw [← hw] at hxy
  have q0:(0:Int)≤(i:Int):=by omega
  have q1:(0:Int)≤(k:Int):=by omega
  have qik:(0:Int)≤((i+k:Nat):Int):=by omega
  have qiL:((i+k:Nat):Int)<(L:Int):=by omega
  have qia:(i:Int)<(a.length:Int):=by omega
  have eik:IntKind.i64.wrap ((i:Int)+(k:Int))=((i+k:Nat):Int):=by rw [Zac (by omega) (by omega)]; omega
  have erc:IntKind.i64.wrap ((r:Int)+(c:Int))=((r+c:Nat):Int):=by rw [Zac (by omega) (by omega)]; omega
  have exy:IntKind.i64.wrap ((x:Int)*(y:Int))=(w:Int):=by
   have:(x:Int)*(y:Int)=(w:Int):=by rw [hw]; simp
   rw [this,Zac (by omega) (by omega)]
  have ercw:IntKind.i64.wrap (((r+c:Nat):Int)+(w:Int))=((r+c+w:Nat):Int):=by rw [Zac (by omega) (by omega)]; omega
  have e1:IntKind.i64.wrap ((k:Int)+1)=((k+1:Nat):Int):=by rw [Zac (by omega) (by omega)]; omega
  have p10:¬ (10000:Int)=0:=by omega
  have em:∀ t:Nat,((t:Nat):Int).tmod 10000=((t % 10000:Nat):Int):=fun t=>Zwr (b:=10000)
  have ed:∀ t:Nat,t<300000000→IntKind.i64.wrap (((t:Nat):Int).tdiv 10000)=((t / 10000:Nat):Int):=fun t ht=>by
   have:((t:Nat):Int).tdiv 10000=((t / 10000:Nat):Int):=(Int.ofNat_tdiv t 10000).symm
   rw [this,Zac (by omega) (by omega)]
  have hrow:=Zn0 hr
  have hfit:i+k+1≤(ic R).length:=by rw [Zan]; omega
  have hsf:∀ v:Nat,(ic R).take (i+k) ++ [AV.int .i64 (v:Int)]++(ic R).drop (i+k+1)=ic (R.set (i+k) v):=fun v=>by rw [Za9 (by rw [Zan]; exact hikL),Y7f]
  have hsf':∀ v:Nat,(ic R).take (i+k)++AV.int .i64 (v:Int)::(ic R).drop (i+k+1)=ic (R.set (i+k) v):=fun v=>by rw [← hsf]; simp
  have done:∀ (t:Nat) (e:Nat→AV),t=r+c+w→e 2 = .ptr 0 0→e 3 = .ptr 1 0→e 4 = .ptr 2 0→e 5 = .osl none 3 0 L→e 6 = .int .i64 (i:Int)→e 7 = .int .i64 ((t / 10000:Nat):Int)→e 8 = .int .i64 ((k+1:Nat):Int) →
    N ⟨e,[.cells [.bool ma,.sl (ic a)],.cells [.bool mb,.sl (ic b)],.cells [.bool false,.nils],.cells (ic (R.set (i+k) (t % 10000)))]⟩:=fun t e ht k2 k3 k4 k5 k6 k7 k8=>by
   refine hN (k+1,t / 10000,R.set (i+k) (t % 10000)) _ ⟨by simp only; omega,by simp only; omega,by simp only [List.length_set]; exact h3,h4.set (by omega),?_⟩ (by show b.length+2 - (k+1)<b.length+2 - k; omega) (Zab _ (by simp only [go_sem,k2,k3,k4,k5,k6,k7,k8]))
   simp only
   have:=Y6j (hset (t % 10000)) h5 ht hw rfl (Q:=10000 ^ i)
   rw [htb,Nat.mul_add, ← Nat.add_assoc i k 1,Nat.pow_succ]
   have g:10000 ^ i*x*(10000 ^ k*y)=10000 ^ (i+k)*(x*y):=by
    rw [Nat.pow_add,Nat.mul_assoc,Nat.mul_assoc,Nat.mul_left_comm x]
   rw [g]
   omega
  by_cases hB:k<b.length
  ·have b1:(k:Int)<(b.length:Int):=by omega
   simp only [go_sem,Zom,Z1j,Z1e,Ztr,Zsv,Zv9,hm,Zan,b1,q0,q1,qik,qiL,qia,eik,erc,exy,ercw,hrow,Zn0 hx,hgb hB,List.getElem?_drop,p10,em,ed (r+c+w) (by omega),hfit,hsf,hsf',e1]
   exact ⟨by omega,done _ _ rfl (by simp only [go_sem]) (by simp only [go_sem]) (by simp only [go_sem]) (by simp only [go_sem]) (by simp only [go_sem]) (by simp only [go_sem]) (by simp only [go_sem])⟩
  ·have b1:¬ (k:Int)<(b.length:Int):=by omega
   have c1:(0:Int)<(c:Int):=by omega
   have hy0:=hzbk hB
   have hw0:w=0:=by rw [hw,hy0,Nat.mul_zero]
   simp only [go_sem,Zom,Z1j,Z1e,Zsv,Zv9,hm,Zan,b1,c1,q0,q1,qik,qiL,qia,eik,erc,hrow,List.getElem?_drop,p10,em,ed (r+c) (by omega),hfit,hsf,hsf',e1]
   exact ⟨by omega,done (r+c) _ (by omega) (by simp only [go_sem]) (by simp only [go_sem]) (by simp only [go_sem]) (by simp only [go_sem]) (by simp only [go_sem]) (by simp only [go_sem]) (by simp only [go_sem])⟩
 ·have b1:¬ (k:Int)<(b.length:Int):=by omega
  have c1:¬ (0:Int)<(c:Int):=by omega
  simp only [go_sem,Zom,Zan,b1,c1]
  have hc0:c=0:=by omega
  rw [hc0,Nat.mul_zero,Nat.add_zero,Zc4 (by omega)] at h5
  exact hK _ R h3 h4 h5 (by simp only [go_sem]) (by simp only [go_sem]) (by simp only [go_sem]) (by simp only [go_sem]) (by simp only [go_sem])
theorem Y9u {a b:List Nat}{ma mb:Bool}{L n0:Nat}(ha:Od a) (hb:Od b) (hla:a.length≤200000000) (hlb:b.length≤200000000) (hL:L=a.length+b.length+1) {K:Ex→St→Prop}
  (hK:∀ (e:Nat→AV) (R:List Nat),R.length=L→Od R→vd R=vd a*vd b→e 2 = .ptr 0 0→e 3 = .ptr 1 0→e 4 = .ptr 2 0→e 5 = .osl none 3 0 L→K (.exit 0) ⟨e,[.cells [.bool ma,.sl (ic a)],.cells [.bool mb,.sl (ic b)],.cells [.bool false,.nils],.cells (ic R)]⟩) :
  T Tryz.prog 80 n0 (.loop Z1d) ⟨envL [(2,.ptr 0 0),(3,.ptr 1 0),(4,.ptr 2 0),(5,.osl none 3 0 L),(6,.int .i64 0)],[.cells [.bool ma,.sl (ic a)],.cells [.bool mb,.sl (ic b)],.cells [.bool false,.nils],.cells (ic (List.replicate L 0))]⟩ K:=by
 refine Zaf (fun z:Nat×List Nat=>⟨envL [(2,.ptr 0 0),(3,.ptr 1 0),(4,.ptr 2 0),(5,.osl none 3 0 L),(6,.int .i64 (z.1:Int))],[.cells [.bool ma,.sl (ic a)],.cells [.bool mb,.sl (ic b)],.cells [.bool false,.nils],.cells (ic z.2)]⟩)
  (fun z=>z.1≤a.length∧z.2.length=L∧Od z.2∧vd z.2=vd (a.take z.1)*vd b) (fun z=>a.length - z.1) (0,List.replicate L 0)
  ⟨by simp,by simp,Od.rep,by rw [Ysx]; simp [vd]⟩ (Zab _ (by simp only [go_sem]; simp)) (fun z hI N hN=>?_)
 obtain ⟨i,R⟩:=z
 obtain ⟨h1,h2,h3,h4⟩:=hI
 simp only at h1 h2 h3 h4 ⊢
 unfold Z1d
 by_cases hi:i<a.length
 ·have q1:(i:Int)<(a.length:Int):=by omega
  have e1:IntKind.i64.wrap ((i:Int)+1)=((i+1:Nat):Int):=by rw [Zac (by omega) (by omega)]; omega
  have hx:=getElem?_getD hi
  have hV:vd R<10000 ^ (i+b.length):=by
   rw [h4,Nat.pow_add]
   have g1:=Ykh (ha.take (n:=i))
   rw [List.length_take,Nat.min_eq_left h1] at g1
   exact Nat.mul_lt_mul'' g1 (Ykh hb)
  simp only [go_sem,Zz6,Yec,Ydo,Zan,q1]
  refine Zar [(2,.ptr 0 0),(3,.ptr 1 0),(4,.ptr 2 0),(5,.osl none 3 0 L),(6,.int .i64 (i:Int)),(7,.int .i64 0),(8,.int .i64 0)] (by simp only [go_sem])
   (Xbd ha hb hx hla hlb hL h2 h3 hV (fun e R' g1 g2 g3 k2 k3 k4 k5 k6=>?_))
  simp only [go_sem,Z7u,k6,e1]
  refine hN (i+1,R') _ ⟨hi,g1,g2,?_⟩ (by show a.length - (i+1)<a.length - i; omega) (Zab _ (by simp only [go_sem,k2,k3,k4,k5]))
  simp only
  rw [g3,h4,Zfc,Nat.add_mul]
 ·have hia:i=a.length:=by omega
  subst hia
  have q1:¬ ((a.length:Nat):Int)<(a.length:Int):=by omega
  simp only [go_sem,Zz6,Zan,q1]
  rw [List.take_length] at h4
  exact hK _ R h2 h3 h4 (by simp only [go_sem]) (by simp only [go_sem]) (by simp only [go_sem]) (by simp only [go_sem])
theorem Yga {a b:Int}(ha:Zs a.natAbs) (hb:Zs b.natAbs):SpecV Tryz.prog Yyl [avZ a,avZ b] (avZ (a*b)):=by
 refine Zad Yuv (by simp) ?_
 unfold Yq7
 have la:=ha.len
 have lb:=hb.len
 rw [Zaj,Zaj]
 obtain ⟨L,hL⟩:∃ L,L=(dg a.natAbs).length+(dg b.natAbs).length+1:=⟨_,rfl⟩
 have e1:IntKind.i64.wrap (((dg a.natAbs).length:Int)+((dg b.natAbs).length:Int))=(((dg a.natAbs).length+(dg b.natAbs).length:Nat):Int):=by rw [Zac (by omega) (by omega)]; omega
 have e2:IntKind.i64.wrap ((((dg a.natAbs).length+(dg b.natAbs).length:Nat):Int)+1)=(L:Int):=by rw [Zac (by omega) (by omega)]; omega
 have p0:(0:Int)≤(L:Int):=by omega
 have p1:(8:Int)*(L:Int)≤281474976710656:=by omega
 simp only [go_sem,Ybd,Ydc,Ydd,Zan,e1,e2,p0,p1,Int.le_refl,Y7u]
 refine ⟨by omega,?_⟩
 refine Zar [(2,.ptr 0 0),(3,.ptr 1 0),(4,.ptr 2 0),(5,.osl none 3 0 L),(6,.int .i64 0)] (by simp only [go_sem])
  (Y9u (Zvz _) (Zvz _) (by omega) (by omega) hL (fun e R g1 g2 g3 k2 k3 k4 k5=>?_))
 rw [Znr,Znr] at g3
 simp only [go_sem,Z8m,k2,k3,k4,k5]
 have hl:=Zl1 (m := !(decide (a<0) == decide (b<0))) g2 (by omega)
 have hv:(if (!(decide (a<0) == decide (b<0)))=true then -(vd R:Int) else (vd R:Int))=a*b:=by
  rw [g3,Int.natCast_mul]
  by_cases h1:a<0
  ·have e1:(a.natAbs:Int) = -a:=by omega
   by_cases h2:b<0
   ·have e2:(b.natAbs:Int) = -b:=by omega
    rw [e1,e2,Int.neg_mul_neg]; simp [h1,h2]
   ·have e2:(b.natAbs:Int)=b:=by omega
    rw [e1,e2]; simp [h1,h2]; try grind
  ·have e1:(a.natAbs:Int)=a:=by omega
   by_cases h2:b<0
   ·have e2:(b.natAbs:Int) = -b:=by omega
    rw [e1,e2]; simp [h1,h2]; try grind
   ·have e2:(b.natAbs:Int)=b:=by omega
    rw [e1,e2]; simp [h1,h2]; try grind
 rw [hv] at hl
 refine Zi0 (ids := [3]) hl ?_ ?_
 ·simp only [go_sem]
  exact Yki rfl (by simp) (by omega) (by rw [List.drop_zero,List.take_of_length_le (by rw [Zan]; omega)])
 ·simp only [go_sem,Zaj,k4]
end GoAbs
namespace GoAbs
open Go Go.Proofs
theorem Zav {m:Nat}:avZ (m:Int) = .agg [.bool false,.sl (ic (dg m))]:=by
 rw [Zaj]
 have:decide ((m:Int)<0)=false:=by simp
 rw [this,Int.natAbs_natCast]
theorem Yab {m n:Nat}:lenD (m*n)≤lenD m+lenD n:=by
 refine Zn6 ?_
 rw [Nat.pow_add]
 exact Nat.mul_lt_mul'' (Zj6 m) (Zj6 n)
theorem Zwt {d:Nat}(h:d<10000):lenD d≤1:=Zn6 (by simpa using h)
theorem Ygg {m d:Nat}(hm:lenD m≤90000000) (hd:d<10000):SpecV Tryz.prog Yol [.sl (ic (dg m)),.int .i64 (d:Int)] (.sl (ic (dg (m*d)))):=by
 refine Zad Ylv (by simp) ?_
 unfold Yfy
 simp only [go_sem,Z2i,Z2z]
 refine Zaa (Z8r (v:=(d:Int)) (by simp; omega)) (by simp only [go_sem]) ?_
 simp only [go_sem,Zav]
 have hm':Zs m:=by unfold Zs; omega
 have hd':Zs d:=by have:=Zwt hd; unfold Zs; omega
 have h1:=Yga (a:=(m:Int)) (b:=(d:Int)) (by simpa using hm') (by simpa using hd')
 rw [← Int.natCast_mul,Zav,Zav,Zav] at h1
 refine Zaa h1 (by simp only [go_sem]) ?_
 simp only [go_sem]
 have hl:=Zl1 (m:=false) (Zvz (m*d)) (by have:=Yab (m:=m) (n:=d); have:=Zwt hd; unfold lenD at *; omega)
 rw [Znr] at hl
 simp only [Bool.false_eq_true,if_false,Zav] at hl
 refine Zaa hl (by simp only [go_sem]) ?_
 simp only [go_sem]
theorem Y74 {za:List AV}{b r i n0:Nat}{q:List AV}(hb:lenD b≤10000000) (hb0:0<b) (hr:r<b*10000) {K:Ex→St→Prop}{H3 H4:Blk}{lq:Nat}
  (hK:∀ (e:Nat→AV),e 2 = .ptr 0 0→e 3 = .ptr 1 0→e 4 = .ptr 2 0→e 5 = .ptr 3 0→e 6 = .osl none 4 0 lq→e 7 = .sl (ic (dg r))→e 8 = .int .i64 (i:Int)→e 9 = .int .i64 ((r / b:Nat):Int)→K (.exit 2) ⟨e,[.cells za,.cells [.bool false,.sl (ic (dg b))],H3,H4,.cells q]⟩) :
  T Tryz.prog 92 n0 (.loop Zl3) ⟨envL [(2,.ptr 0 0),(3,.ptr 1 0),(4,.ptr 2 0),(5,.ptr 3 0),(6,.osl none 4 0 lq),(7,.sl (ic (dg r))),(8,.int .i64 (i:Int)),(9,.int .i64 0),(10,.int .i64 10000)],[.cells za,.cells [.bool false,.sl (ic (dg b))],H3,H4,.cells q]⟩ K:=by
 refine Zaf (fun z:Nat×Nat=>⟨envL [(2,.ptr 0 0),(3,.ptr 1 0),(4,.ptr 2 0),(5,.ptr 3 0),(6,.osl none 4 0 lq),(7,.sl (ic (dg r))),(8,.int .i64 (i:Int)),(9,.int .i64 (z.1:Int)),(10,.int .i64 (z.2:Int))],[.cells za,.cells [.bool false,.sl (ic (dg b))],H3,H4,.cells q]⟩)
  (fun z=>z.1<z.2∧z.2≤10000∧b*z.1≤r∧r<b*z.2) (fun z=>z.2 - z.1) (0,10000) ⟨by simp,by simp,by simp,hr⟩ (Zab _ (by simp only [go_sem]; simp)) (fun z hI N hN=>?_)
 obtain ⟨lo,hi⟩:=z
 obtain ⟨h1,h2,h3,h4⟩:=hI
 simp only at h1 h2 h3 h4 ⊢
 unfold Zl3
 have e1:IntKind.i64.wrap ((hi:Int) - (lo:Int))=((hi - lo:Nat):Int):=by rw [Zac (by omega) (by omega)]; omega
 by_cases hgo:1<hi - lo
 ·have q1:(1:Int)<((hi - lo:Nat):Int):=by omega
  have e2:IntKind.i64.wrap ((lo:Int)+(hi:Int))=((lo+hi:Nat):Int):=by rw [Zac (by omega) (by omega)]; omega
  have e3:IntKind.i64.wrap (((lo+hi:Nat):Int).tdiv 2)=(((lo+hi) / 2:Nat):Int):=by
   have:((lo+hi:Nat):Int).tdiv 2=(((lo+hi) / 2:Nat):Int):=(Int.ofNat_tdiv (lo+hi) 2).symm
   rw [this,Zac (by omega) (by omega)]
  have p2:¬ (2:Int)=0:=by omega
  generalize hmid:(lo+hi) / 2=mid at *
  have hml:mid<10000:=by omega
  have hrz:Zs r:=by
   have:lenD r≤lenD (b*10000):=Zba (by omega)
   have h10:lenD 10000≤2:=Zn6 (by omega)
   have:=Yab (m:=b) (n:=10000)
   unfold Zs; omega
  have hbz:Zs (b*mid):=by
   have:=Yab (m:=b) (n:=mid)
   have:=Zwt hml
   unfold Zs; omega
  simp only [go_sem,Zmh,Zyf,Zxu,e1,e2,e3,q1,p2]
  refine Zaa (Ygg (m:=b) (d:=mid) (by omega) hml) (by simp only [go_sem]) ?_
  simp only [go_sem]
  refine Zaa (Z6h hbz hrz) (by simp only [go_sem]) ?_
  by_cases hc:b*mid≤r
  ·have hle:(if b*mid<r then (-1:Int) else if r<b*mid then 1 else 0)≤0:=by split <;> (try split) <;> omega
   simp only [go_sem,hle,Zuu]
   exact hN (mid,hi) _ ⟨by simp only; omega,h2,hc,h4⟩ (by show hi - mid<hi - lo; omega) (Zab _ (by simp only [go_sem]))
  ·have hle:¬ (if b*mid<r then (-1:Int) else if r<b*mid then 1 else 0)≤0:=by rw [if_neg (by omega),if_pos (by omega)]; omega
   simp only [go_sem,hle,Zuq]
   exact hN (lo,mid) _ ⟨by simp only; omega,by simp only; omega,h3,by simp only; omega⟩ (by show mid - lo<hi - lo; omega) (Zab _ (by simp only [go_sem]))
 ·have q1:¬ (1:Int)<((hi - lo:Nat):Int):=by omega
  have hhi:hi=lo+1:=by omega
  have hlo:lo=r / b:=by
   subst hhi
   refine (Nat.div_eq_of_lt_le ?_ ?_).symm
   ·rw [Nat.mul_comm]; exact h3
   ·rw [Nat.mul_comm]; exact h4
  simp only [go_sem,Zmh,e1,q1]
  exact hK _ (by simp only [go_sem]) (by simp only [go_sem]) (by simp only [go_sem]) (by simp only [go_sem]) (by simp only [go_sem]) (by simp only [go_sem]) (by simp only [go_sem]) (by simp only [go_sem,hlo])
end GoAbs
namespace GoAbs
open Go Go.Proofs
theorem Yow {l:List Nat}{j:Nat}(h:j<l.length):vd (l.drop j)=l.getD j 0+10000*vd (l.drop (j+1)):=by
 rw [List.drop_eq_getElem_cons h]
 have:l.getD j 0=l[j]:=by rw [List.getD_eq_getElem?_getD,List.getElem?_eq_getElem h]; rfl
 rw [this]; rfl
theorem Y4k {x b V r r1:Nat}(hr1:r1=x+10000*r):x+10000*(b*V+r)=b*(r1 / b+10000*V)+(r1 - b*(r1 / b)):=by
 have h:b*(r1 / b)≤r1:=Nat.mul_div_le r1 b
 have e:b*(10000*V)=10000*(b*V):=Nat.mul_left_comm _ _ _
 rw [Nat.mul_add,Nat.mul_add b,e]
 omega
theorem ids5 {i:Nat}(h:i<5):([0,1,2,3,4]:List Nat)[i]? = some i:=by
 match i,h with
 | 0,_=>rfl
 | 1,_=>rfl
 | 2,_=>rfl
 | 3,_=>rfl
 | 4,_=>rfl
theorem Xa2 {ma:Bool}{A:List Nat}{b n0:Nat}(hA:Od A) (hla:A.length≤10000000) (hb:lenD b≤10000000) (hb0:0<b) (hn0:n0≤5) {K:Ex→St→Prop}
  (hK:∀ (e:Nat→AV) (Q:List Nat) (r:Nat),Q.length=A.length→Od Q→r<b→vd A=b*vd Q+r→e 2 = .ptr 0 0→e 3 = .ptr 1 0→e 4 = .ptr 2 0→e 5 = .ptr 3 0→e 6 = .osl none 4 0 A.length→e 7 = .sl (ic (dg r)) →
   K (.exit 0) ⟨e,[.cells [.bool ma,.sl (ic A)],.cells [.bool false,.sl (ic (dg b))],.cells [.bool false,.nils],.cells [.bool false,.nils],.cells (ic Q)]⟩) :
  T Tryz.prog 92 n0 (.loop Zmg) ⟨envL [(2,.ptr 0 0),(3,.ptr 1 0),(4,.ptr 2 0),(5,.ptr 3 0),(6,.osl none 4 0 A.length),(7,.sl []),(8,.int .i64 ((A.length:Int) - 1))],
   [.cells [.bool ma,.sl (ic A)],.cells [.bool false,.sl (ic (dg b))],.cells [.bool false,.nils],.cells [.bool false,.nils],.cells (ic (List.replicate A.length 0))]⟩ K:=by
 refine Zaf (fun z:Nat×Nat×List Nat=>⟨envL [(2,.ptr 0 0),(3,.ptr 1 0),(4,.ptr 2 0),(5,.ptr 3 0),(6,.osl none 4 0 A.length),(7,.sl (ic (dg z.2.1))),(8,.int .i64 ((z.1:Int) - 1))],
   [.cells [.bool ma,.sl (ic A)],.cells [.bool false,.sl (ic (dg b))],.cells [.bool false,.nils],.cells [.bool false,.nils],.cells (ic z.2.2)]⟩)
  (fun z=>z.1≤A.length∧z.2.2.length=A.length∧Od z.2.2∧z.2.1<b∧vd (A.drop z.1)=b*vd (z.2.2.drop z.1)+z.2.1) (fun z=>z.1) (A.length,0,List.replicate A.length 0)
  ⟨Nat.le_refl _,by simp,Od.rep,hb0,by simp [vd]⟩ (Zab _ (by simp only [go_sem,Zcf,Ysm])) (fun z hI N hN=>?_)
 obtain ⟨i,r,Q⟩:=z
 obtain ⟨h1,h2,h3,h4,h5⟩:=hI
 simp only at h1 h2 h3 h4 h5 ⊢
 unfold Zmg
 cases i with
 | zero =>
  have q1:¬ (0:Int)≤((0:Nat):Int) - 1:=by omega
  simp only [go_sem,Zl0,q1]
  rw [List.drop_zero,List.drop_zero] at h5
  exact hK _ Q r h2 h3 h4 h5 (by simp only [go_sem]) (by simp only [go_sem]) (by simp only [go_sem]) (by simp only [go_sem]) (by simp only [go_sem]) (by simp only [go_sem])
 | succ j =>
  have e0:((j+1:Nat):Int) - 1=(j:Int):=by omega
  have q1:(0:Int)≤(j:Int):=by omega
  have q2:(j:Int)<(A.length:Int):=by omega
  have hx:A[j]? = some (A.getD j 0):=getElem?_getD (by omega)
  have hxl:=hA.get hx
  have hdA:=Yow (l:=A) (j:=j) (by omega)
  generalize A.getD j 0=x at *
  have e1:IntKind.i64.wrap ((j:Int) - 1)=(j:Int) - 1:=Zac (by omega) (by omega)
  obtain ⟨r1,hr1⟩:∃ r1,r1=x+10000*r:=⟨_,rfl⟩
  have hr1b:r1<b*10000:=by omega
  have hrl:(dg r).length≤10000000:=Nat.le_trans (Zba (Nat.le_of_lt h4)) hb
  have hsz:(1+(dg r).length)*8≤1099511627776:=by omega
  have hfl:(ic (dg r)).flatMap AV.cells=ic (dg r):=Ynq
  have hicl:(ic (dg r)).length=(dg r).length:=Zan _
  have hO1:Od (x::dg r):=fun y hy=>by
   rcases List.mem_cons.1 hy with rfl | hy
   ·exact hxl
   ·exact Zvz r y hy
  have hv1:vd (x::dg r)=r1:=by rw [hr1]; simp only [vd,Znr]
  have hl1:=Zl1 (m:=false) hO1 (by rw [List.length_cons]; omega)
  rw [hv1] at hl1
  simp only [Bool.false_eq_true,if_false,Zav] at hl1
  have hcell : [AV.int .i64 (x:Int)]++ic (dg r)=ic (x::dg r):=rfl
  simp only [go_sem,Zl0,Zxq,Zx0,e0,q1,q2,Zan,Zn0 hx,hfl,hicl,hsz]
  refine ⟨Z1n,?_⟩
  refine Zi0 (ids := [6]) hl1 ?_ ?_
  ·simp only [go_sem]
   exact Yki (r:=x::dg r) rfl (by simp) (by simp; omega) (by rw [List.drop_zero]; exact List.take_of_length_le (by simp [Zan]; omega))
  simp only [go_sem]
  refine T_le (Zcg (Zht [0,1,2,3,4] (by decide) (fun i hi=>ids5 (by omega))
   [(2,.ptr 0 0),(3,.ptr 1 0),(4,.ptr 2 0),(5,.ptr 3 0),(6,.osl none 4 0 A.length),(7,.sl (ic (dg r1))),(8,.int .i64 (j:Int)),(9,.int .i64 0),(10,.int .i64 10000)] (by simp only [go_sem]))
   (c:=⟨envL [(2,.ptr 0 0),(3,.ptr 1 0),(4,.ptr 2 0),(5,.ptr 3 0),(6,.osl none 4 0 A.length),(7,.sl (ic (dg r1))),(8,.int .i64 (j:Int)),(9,.int .i64 0),(10,.int .i64 10000)],
    [.cells [.bool ma,.sl (ic A)],.cells [.bool false,.sl (ic (dg b))],.cells [.bool false,.nils],.cells [.bool false,.nils],.cells (ic Q)]⟩) ?_) ?_
  ·congr 1
   show [Blk.cells _,Blk.cells _,Blk.cells _,Blk.cells _,Blk.cells (gcL _ (ic Q))]=_
   rw [Y3i]; rfl
  refine Y74 hb hb0 hr1b (fun e k2 k3 k4 k5 k6 k7 k8 k9=>?_)
  have hql:r1 / b<10000:=by
   rw [Nat.div_lt_iff_lt_mul hb0,Nat.mul_comm]; exact hr1b
  have hjL:j<A.length:=by omega
  have hfit:j+1≤(ic Q).length:=by rw [Zan]; omega
  have hsf:(ic Q).take j++AV.int .i64 ((r1 / b:Nat):Int)::(ic Q).drop (j+1)=ic (Q.set j (r1 / b)):=by
   have:=Za9 (l:=ic Q) (i:=j) (x:=AV.int .i64 ((r1 / b:Nat):Int)) (by rw [Zan]; omega)
   rw [Y7f] at this
   rw [← this]; simp
  have hsf':(ic Q).take j ++ [AV.int .i64 ((r1 / b:Nat):Int)]++(ic Q).drop (j+1)=ic (Q.set j (r1 / b)):=by rw [← hsf]; simp
  have hqb:b*(r1 / b)≤r1:=Nat.mul_div_le r1 b
  have hrz:Zs r1:=by
   have:lenD r1≤lenD (b*10000):=Zba (by omega)
   have h10:lenD 10000≤2:=Zn6 (by omega)
   have:=Yab (m:=b) (n:=10000)
   unfold Zs; omega
  simp only [go_sem,Ztl,Zv8,k2,k3,k4,k5,k6,k7,k8,k9,q1,q2,hfit,hsf,hsf']
  refine Zaa (Ygg (m:=b) (d:=r1 / b) (by omega) hql) (by simp only [go_sem]) ?_
  simp only [go_sem]
  refine Zaa (Yaq hrz hqb) (by simp only [go_sem]) ?_
  simp only [go_sem]
  have hl2:=Zl1 (m:=false) (Yrl (k:=lenD r1) (v:=r1 - b*(r1 / b))) (by rw [Yiu (Zba (Nat.sub_le _ _))]; exact Nat.le_trans hrz (by omega))
  rw [Ysu] at hl2
  simp only [Bool.false_eq_true,if_false,Zav] at hl2
  refine Zaa hl2 (by simp only [go_sem]) ?_
  simp only [go_sem,Zth,e1,k8]
  have hmod:r1 - b*(r1 / b)<b:=by
   have:=Nat.mod_lt r1 hb0
   have:=Nat.mod_add_div r1 b
   omega
  refine hN (j,r1 - b*(r1 / b),Q.set j (r1 / b)) _ ⟨by simp only; omega,by simp only [List.length_set]; exact h2,h3.set hql,hmod,?_⟩ (by show j<j+1; omega) (Zab _ (by simp only [go_sem,k2,k3,k4,k5,k6]))
  simp only
  have hdq:vd ((Q.set j (r1 / b)).drop j)=r1 / b+10000*vd (Q.drop (j+1)):=by
   rw [Yow (by rw [List.length_set]; omega)]
   congr 1
   ·rw [List.getD_eq_getElem?_getD,List.getElem?_set_self (by omega)]; rfl
   ·congr 2
    rw [List.drop_set]
    rw [if_pos (by omega)]
  rw [hdq,hdA,h5]
  exact Y4k hr1
theorem Ys5 {a:Int}{b V r:Nat}(hb0:0<b) (hr:r<b) (h:a.natAbs=b*V+r) :
  (¬ a<0→a / (b:Int)=(V:Int)∧a % (b:Int)=(r:Int))∧(a<0→r=0→a / (b:Int) = -(V:Int)∧a % (b:Int)=0)∧(a<0→r≠0→a / (b:Int) = -(V:Int) - 1∧a % (b:Int)=(b:Int) - r):=by
 have hz:(a.natAbs:Int)=(b:Int)*(V:Int)+r:=by rw [h]; simp
 have hb:(0:Int)<(b:Int):=by omega
 have e1:(b:Int) * -(V:Int) = -((b:Int)*(V:Int)):=by rw [Int.mul_neg]
 have e2:(b:Int)*(-(V:Int) - 1) = -((b:Int)*(V:Int)) - b:=by rw [Int.mul_sub,e1,Int.mul_one]
 refine ⟨fun h0=>(Int.ediv_emod_unique hb).2 ⟨by omega,by omega,by omega⟩,fun h0 h1=>(Int.ediv_emod_unique hb).2 ⟨by rw [e1]; omega,by omega,by omega⟩,fun h0 h1=>(Int.ediv_emod_unique hb).2 ⟨by rw [e2]; omega,by omega,by omega⟩⟩
theorem Yam {a:Int}{b:Nat}(ha:lenD a.natAbs≤10000000) (hb:lenD b≤10000000) (hb0:0<b):SpecV Tryz.prog Ylc [avZ a,avZ (b:Int)] (.tup [avZ (a / (b:Int)),avZ (a % (b:Int))]):=by
 refine Za4 Yji (by simp) (Zbd 2 rfl ?_)
 unfold Yco
 have hm:Tryz.prog.follows .mixedOrders=true:=by kernel_rfl
 rw [Zav,Zaj]
 have e0:IntKind.i64.wrap (((dg a.natAbs).length:Int) - 1)=((dg a.natAbs).length:Int) - 1:=by unfold lenD at ha; rw [Zac (by omega) (by omega)]
 have p0:(0:Int)≤((dg a.natAbs).length:Int):=by omega
 have p1:(8:Int)*((dg a.natAbs).length:Int)≤281474976710656:=by unfold lenD at ha; omega
 have p2:((8:Nat):Int)*((dg a.natAbs).length:Int)≤281474976710656:=by unfold lenD at ha; omega
 simp only [go_sem,Zxc,Zyw,Zxo,Zan,e0,p0,p1,p2,Int.le_refl,Y7u]
 refine Zw0 [] [(2,.ptr 0 0),(3,.ptr 1 0),(4,.ptr 2 0),(5,.ptr 3 0),(6,.osl none 4 0 (dg a.natAbs).length),(7,.sl []),(8,.int .i64 (((dg a.natAbs).length:Int) - 1))]
  ⟨.inr (by simp only [go_sem]),.inr (by simp only [go_sem]),.inr (by simp only [go_sem]),.inr (by simp only [go_sem]),.inr (by simp only [go_sem]),.inl (by simp only [go_sem]),.inr (by simp only [go_sem]),trivial⟩ ?_
 refine Xa2 (Zvz _) ha hb hb0 (by omega) (fun e Q r g1 g2 g3 g4 k2 k3 k4 k5 k6 k7=>?_)
 rw [Znr] at g4
 have hQl:Q.length≤10000000:=by rw [g1]; exact ha
 have hl1:=Zl1 (m:=decide (a<0)) g2 (by omega)
 have hrz:lenD r≤10000000:=Nat.le_trans (Zba (Nat.le_of_lt g3)) hb
 have hl2:=Zl1 (m:=false) (Zvz r) (by unfold lenD at hrz; omega)
 rw [Znr] at hl2
 simp only [Bool.false_eq_true,if_false,Zav] at hl2
 simp only [go_sem]
 refine T_W ?_
 simp only [go_sem,Zuo,k2,k3,k4,k5,k6,k7]
 refine Zi0 (ids := [4]) hl1 ?_ ?_
 ·simp only [go_sem]
  exact Yki (r:=Q) rfl (by simp) g1 (by rw [List.drop_zero]; exact List.take_of_length_le (by simp [Zan]; omega))
 simp only [go_sem,k2,k3,k4,k5,k7]
 refine Zaa hl2 (by simp only [go_sem]) ?_
 have hab:a.natAbs=b*vd Q+r:=g4
 obtain ⟨f1,f2,f3⟩:=Ys5 hb0 g3 hab
 have nr:avZ (r:Int) = .agg [.bool false,.sl (ic (dg r))]:=Zav
 by_cases hneg:a<0
 ·have hz:(if decide (a<0)=true then -(vd Q:Int) else (vd Q:Int)) = -(vd Q:Int):=by simp [hneg]
  rw [hz]
  by_cases hr0:r=0
  ·rw [(f2 hneg hr0).1,(f2 hneg hr0).2]
   subst hr0
   have hlr:¬ (0:Int)<((dg 0).length:Int):=by rw [Zcf]; simp
   have nz:avZ (0:Int) = .agg [.bool false,.sl (ic (dg 0))]:=Zav (m:=0)
   rw [nz]
   simp only [go_sem,Zaj,Zfo,Zf2,hneg,decide_true,k2,k3,k4,k5,k7,hm,hlr,Zan]
   refine Yd9 hm (fun _ b=>b=2∨b=3) 0 ?_
   simp only [go_sem,k4,k5]
  ·rw [(f3 hneg hr0).1,(f3 hneg hr0).2]
   have hlr:(0:Int)<((dg r).length:Int):=Zgw.2 hr0
   simp only [go_sem,Zaj,Zfo,Zkf,hneg,decide_true,k2,k3,k4,k5,k7,hm,hlr,Zan]
   refine Zaa (Z8r (v:=1) (by decide)) (by simp only [go_sem]) ?_
   have z1:Zs (-(vd Q:Int)).natAbs:=by
    have:lenD (vd Q)≤lenD a.natAbs:=Zba (by
     have:1*vd Q≤b*vd Q:=Nat.mul_le_mul_right _ hb0
     omega)
    rw [Int.natAbs_neg,Int.natAbs_natCast]; unfold Zs; omega
   have z2:Zs (1:Int).natAbs:=by unfold Zs; exact Nat.le_trans (Zwt (d:=1) (by omega)) (by omega)
   have zb:Zs (b:Int).natAbs:=by rw [Int.natAbs_natCast]; unfold Zs; omega
   have zr:Zs (r:Int).natAbs:=by rw [Int.natAbs_natCast]; unfold Zs; omega
   simp only [go_sem]
   refine Zaa (Yqk z1 z2) (by simp only [go_sem,Zaj]) ?_
   simp only [go_sem,k3]
   have hs2:=Yqk zb zr
   rw [Zav,Zav] at hs2
   refine Zaa hs2 (by simp only [go_sem]) ?_
   simp only [go_sem,Zaj,k4,k5]
 ·have hz:(if decide (a<0)=true then -(vd Q:Int) else (vd Q:Int))=(vd Q:Int):=by simp [hneg]
  rw [hz,(f1 hneg).1,(f1 hneg).2,nr]
  simp only [go_sem,Zaj,Zfo,Zf2,hneg,decide_false,k2,k3,k4,k5,k7,hm,Zan]
  refine Yd9 hm (fun _ b=>b=2∨b=3) 0 ?_
  simp only [go_sem,k4,k5]
end GoAbs
namespace GoAbs
open Go Go.Proofs
theorem ids3 {i:Nat}(h:i<3):([0,1,2]:List Nat)[i]? = some i:=by
 match i,h with
 | 0,_=>rfl
 | 1,_=>rfl
 | 2,_=>rfl
theorem Y97 {x0 y0:Nat}(hx:lenD x0≤10000000) (hy:lenD y0≤10000000) {K:Ex→St→Prop}
  (hK:∀ (e:Nat→AV) (z:List AV),e 2 = .ptr 0 0→e 3 = .ptr 1 0→e 4 = .ptr 2 0→K (.exit 0) ⟨e,[.cells [.bool false,.sl (ic (dg (Nat.gcd x0 y0)))],.cells z,.cells [.bool false,.nils]]⟩) :
  T Tryz.prog 24 0 (.loop Z0u) ⟨envL [(2,.ptr 0 0),(3,.ptr 1 0),(4,.ptr 2 0)],[.cells [.bool false,.sl (ic (dg x0))],.cells [.bool false,.sl (ic (dg y0))],.cells [.bool false,.nils]]⟩ K:=by
 have hm:Tryz.prog.follows .mixedOrders=true:=by kernel_rfl
 refine Zaf (fun z:Nat×Nat=>⟨envL [(2,.ptr 0 0),(3,.ptr 1 0),(4,.ptr 2 0)],[.cells [.bool false,.sl (ic (dg z.1))],.cells [.bool false,.sl (ic (dg z.2))],.cells [.bool false,.nils]]⟩)
  (fun z=>lenD z.1≤10000000∧lenD z.2≤10000000∧Nat.gcd z.1 z.2=Nat.gcd x0 y0) (fun z=>z.2) (x0,y0) ⟨hx,hy,rfl⟩ (Zab _ (by simp only [go_sem])) (fun z hI N hN=>?_)
 obtain ⟨x,y⟩:=z
 obtain ⟨h1,h2,h3⟩:=hI
 simp only at h1 h2 h3 ⊢
 unfold Z0u
 by_cases hy0:y=0
 ·subst hy0
  have q1:¬ (0:Int)<((dg 0).length:Int):=by rw [Zcf]; simp
  simp only [go_sem,Z0a,Zan,q1]
  rw [Nat.gcd_zero_right] at h3
  rw [h3]
  exact hK _ _ (by simp only [go_sem]) (by simp only [go_sem]) (by simp only [go_sem])
 ·have q1:(0:Int)<((dg y).length:Int):=Zgw.2 hy0
  simp only [go_sem,Z0a,Yds,Z0d,Zan,q1]
  have hd:=Yam (a:=(x:Int)) (b:=y) (by simpa using h1) h2 (by omega)
  rw [← Int.natCast_ediv, ← Int.natCast_emod,Zav,Zav,Zav,Zav] at hd
  refine Zaa hd (by simp only [go_sem]) ?_
  simp only [go_sem,hm]
  refine Yd9 hm (fun _ b=>b=0∨b=1) 0 ?_
  simp only [go_sem]
  refine hN (y,x % y) _ ⟨h2,Nat.le_trans (Zba (Nat.le_of_lt (Nat.mod_lt x (by omega)))) h2,?_⟩ (Nat.mod_lt x (by omega)) ?_
  ·simp only
   rw [← h3,Nat.gcd_comm x y,Nat.gcd_rec y x,Nat.gcd_comm]
  ·exact Zcg (Zht [0,1,2] (by decide) (fun i hi=>ids3 (by omega)) [(2,.ptr 0 0),(3,.ptr 1 0),(4,.ptr 2 0)] (by simp only [go_sem])) rfl
theorem Y7m {a b:Int}(ha:lenD a.natAbs≤10000000) (hb:lenD b.natAbs≤10000000):SpecV Tryz.prog Yxu [avZ a,avZ b] (avZ (Int.gcd a b:Int)):=by
 have hm:Tryz.prog.follows .mixedOrders=true:=by kernel_rfl
 refine Zad Yu8 (by simp) ?_
 unfold Yrk
 have h1:=Yys (z:=a)
 have h2:=Yys (z:=b)
 rw [Zav,Zaj] at h1 h2
 rw [Zav,Zaj,Zaj]
 simp only [go_sem,Ycj,Z08,hm]
 refine Zaa h1 (by simp only [go_sem]) ?_
 simp only [go_sem]
 refine Zaa h2 (by simp only [go_sem]) ?_
 simp only [go_sem]
 refine Zar [(2,.ptr 0 0),(3,.ptr 1 0),(4,.ptr 2 0)] (by simp only [go_sem]) (Y97 ha hb (fun e z k2 k3 k4=>?_))
 have hg:Nat.gcd a.natAbs b.natAbs=Int.gcd a b:=rfl
 simp only [go_sem,Yd3,k2,k3,k4,hg]
end GoAbs
namespace GoAbs
open Go Go.Proofs
def rc (n d:Int):List AV := [.bool (decide (n<0)),.sl (ic (dg n.natAbs)),.bool (decide (d<0)),.sl (ic (dg d.natAbs))]
def avR (n d:Int):AV := .agg (rc n d)
theorem Zbh {n d:Int}:avR n d = .agg [.bool (decide (n<0)),.sl (ic (dg n.natAbs)),.bool (decide (d<0)),.sl (ic (dg d.natAbs))]:=rfl
theorem Yj3 {n k:Nat}(h:n<2 ^ k):lenD n≤k:=by
 refine Zn6 (Nat.lt_of_lt_of_le h ?_)
 exact Nat.pow_le_pow_left (by omega) _
def Ib (k:Nat) (z:Int):Prop:=z.natAbs<2 ^ k
theorem Ib.zs {k:Nat}{z:Int}(h:Ib k z) (hk:k≤10000000):Zs z.natAbs:=by have:=Yj3 h; unfold Zs; omega
theorem Ib.len {k:Nat}{z:Int}(h:Ib k z) (hk:k≤10000000):lenD z.natAbs≤10000000:=by have:=Yj3 h; omega
theorem Ib.mul {k l:Nat}{a b:Int}(ha:Ib k a) (hb:Ib l b):Ib (k+l) (a*b):=by
 unfold Ib at *
 rw [Int.natAbs_mul,Nat.pow_add]
 exact Nat.mul_lt_mul'' ha hb
theorem rwhole {v:Int}(hv:v.natAbs≤9223372036854775808):SpecV Tryz.prog Ydj [.int .i64 v] (avR v 1):=by
 refine Zad Yku (by simp) ?_
 unfold Yg5
 have m1:=Z8r hv
 have m2:=Z8r (v:=1) (by decide)
 rw [Zaj] at m1 m2
 rw [Zbh]
 simp only [go_sem,Z4t,Z2k]
 refine Zaa m1 (by simp only [go_sem]) ?_
 simp only [go_sem]
 refine Zaa m2 (by simp only [go_sem]) ?_
 simp only [go_sem]
theorem rlow {n d:Int}{k:Nat}(h1:Ib k n) (h2:Ib k d) (hd:0<d) (hk:k≤10000000):SpecV Tryz.prog Ylp [avR n d] (avR (Rat.divInt n d).num (Rat.divInt n d).den):=by
 refine Zad Yhn (by simp) ?_
 unfold Yba
 have l1:=h1.len hk
 have l2:=h2.len hk
 have hg:=Y7m l1 l2
 have hgp:0<Int.gcd n d:=Int.gcd_pos_iff.2 (.inr (by omega))
 have lg:lenD (Int.gcd n d)≤10000000:=Nat.le_trans (Zba (Nat.le_of_dvd (by omega) (Int.gcd_dvd_natAbs_right n d))) l2
 have m1:=Yam l1 lg hgp
 have m2:=Yam l2 lg hgp
 have e1:(Rat.divInt n d).num=n / (Int.gcd n d:Int):=by
  rw [Rat.num_divInt,Int.sign_eq_one_of_pos hd,Int.one_mul,Int.gcd_comm]
 have e2:(((Rat.divInt n d).den:Nat):Int)=d / (Int.gcd n d:Int):=by
  rw [Rat.den_divInt,if_neg (by omega),Int.natCast_ediv,Int.natAbs_of_nonneg (by omega),Int.gcd_comm]
 rw [e1,e2]
 rw [Zav,Zaj,Zaj] at hg
 rw [Zav,Zaj,Zaj,Zaj] at m1 m2
 rw [Zbh,Zbh]
 simp only [go_sem,Zy0,Zym,Zyg,Zxg,Zxf]
 refine Zaa hg (by simp only [go_sem]) ?_
 simp only [go_sem]
 refine Zaa m1 (by simp only [go_sem]) ?_
 simp only [go_sem]
 refine Zaa m2 (by simp only [go_sem]) ?_
 simp only [go_sem]
end GoAbs
