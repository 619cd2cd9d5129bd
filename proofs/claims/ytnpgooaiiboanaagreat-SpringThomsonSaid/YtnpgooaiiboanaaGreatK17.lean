/- Lemmas for the claim (contracts of the functions that it reaches, and what they compute), without conditions. -/
import Derived.Test.YtnpgooaiiboanaaGreatK16
import Derived.IntWalk
import Derived.Test.YtnpgooaiiboanaaGreatProg
import Derived.KernelRfl
import Derived.Test.YtnpgooaiiboanaaGreatChecked
set_option linter.unusedVariables false
set_option linter.unusedSimpArgs false
set_option maxRecDepth 10000
set_option maxHeartbeats 2000000
namespace GoAbs
open Go
theorem Zac {x:Int}(h1 : -9223372036854775808≤x) (h2:x≤9223372036854775807):IntKind.i64.wrap x=x:=IntWalk.i64_in x ⟨h1,h2⟩
theorem Zf0 {x:Int}(h1:0≤x) (h2:x≤4294967295):IntKind.u32.wrap x=x:=IntWalk.u32_in x ⟨h1,h2⟩
theorem Za1 {x:Int}(h1:0≤x) (h2:x≤18446744073709551615):IntKind.u64.wrap x=x:=IntWalk.u64_in x ⟨h1,h2⟩
theorem Zzy (n:Nat):IntKind.u32.wrap (n:Int)=((n % 4294967296:Nat):Int):=by rw [IntKind.wrap_u32]; omega
theorem Y6t (n:Nat):IntKind.u64.wrap (n:Int)=((n % 18446744073709551616:Nat):Int):=by rw [IntKind.wrap_u64]; omega
section bits
variable {a b:Nat}
theorem and32 (ha:a<4294967296) (hb:b<4294967296):andI .u32 a b=((a &&& b:Nat):Int):=by
 show IntKind.u32.wrap ((BitVec.ofInt 32 a &&& BitVec.ofInt 32 b).toNat:Int)=_
 have h:a &&& b<2 ^ 32:=Nat.and_lt_two_pow _ (by simpa using hb)
 rw [BitVec.ofInt_natCast,BitVec.ofInt_natCast,BitVec.toNat_and,BitVec.toNat_ofNat,BitVec.toNat_ofNat,Nat.mod_eq_of_lt (by simpa using ha),Nat.mod_eq_of_lt (by simpa using hb)]
 exact Zf0 (by omega) (by omega)
theorem or32 (ha:a<4294967296) (hb:b<4294967296):orI .u32 a b=((a ||| b:Nat):Int):=by
 show IntKind.u32.wrap ((BitVec.ofInt 32 a ||| BitVec.ofInt 32 b).toNat:Int)=_
 have h:a ||| b<2 ^ 32:=Nat.or_lt_two_pow (by simpa using ha) (by simpa using hb)
 rw [BitVec.ofInt_natCast,BitVec.ofInt_natCast,BitVec.toNat_or,BitVec.toNat_ofNat,BitVec.toNat_ofNat,Nat.mod_eq_of_lt (by simpa using ha),Nat.mod_eq_of_lt (by simpa using hb)]
 exact Zf0 (by omega) (by omega)
theorem xor32 (ha:a<4294967296) (hb:b<4294967296):xorI .u32 a b=((a ^^^ b:Nat):Int):=by
 show IntKind.u32.wrap ((BitVec.ofInt 32 a ^^^ BitVec.ofInt 32 b).toNat:Int)=_
 have h:a ^^^ b<2 ^ 32:=Nat.xor_lt_two_pow (by simpa using ha) (by simpa using hb)
 rw [BitVec.ofInt_natCast,BitVec.ofInt_natCast,BitVec.toNat_xor,BitVec.toNat_ofNat,BitVec.toNat_ofNat,Nat.mod_eq_of_lt (by simpa using ha),Nat.mod_eq_of_lt (by simpa using hb)]
 exact Zf0 (by omega) (by omega)
theorem not32 (ha:a<4294967296):notI .u32 a=((4294967295 - a:Nat):Int):=by
 show IntKind.u32.wrap ((BitVec.ofInt 32 (if IntKind.u32.signed=true then -1 else IntKind.u32.max) ^^^ BitVec.ofInt 32 a).toNat:Int)=_
 have h:BitVec.ofInt 32 (if IntKind.u32.signed=true then -1 else IntKind.u32.max)=BitVec.allOnes 32:=by decide
 rw [h,BitVec.allOnes_xor,BitVec.ofInt_natCast,BitVec.toNat_not,BitVec.toNat_ofNat,Nat.mod_eq_of_lt (by simpa using ha)]
 rw [Zf0 (by omega) (by omega)]
theorem or64 (ha:a<18446744073709551616) (hb:b<18446744073709551616):orI .u64 a b=((a ||| b:Nat):Int):=by
 show IntKind.u64.wrap ((BitVec.ofInt 64 a ||| BitVec.ofInt 64 b).toNat:Int)=_
 have h:a ||| b<2 ^ 64:=Nat.or_lt_two_pow (by simpa using ha) (by simpa using hb)
 rw [BitVec.ofInt_natCast,BitVec.ofInt_natCast,BitVec.toNat_or,BitVec.toNat_ofNat,BitVec.toNat_ofNat,Nat.mod_eq_of_lt (by simpa using ha),Nat.mod_eq_of_lt (by simpa using hb)]
 exact Za1 (by omega) (by omega)
theorem and64 (ha:a<18446744073709551616) (hb:b<18446744073709551616):andI .u64 a b=((a &&& b:Nat):Int):=by
 show IntKind.u64.wrap ((BitVec.ofInt 64 a &&& BitVec.ofInt 64 b).toNat:Int)=_
 have h:a &&& b<2 ^ 64:=Nat.and_lt_two_pow _ (by simpa using hb)
 rw [BitVec.ofInt_natCast,BitVec.ofInt_natCast,BitVec.toNat_and,BitVec.toNat_ofNat,BitVec.toNat_ofNat,Nat.mod_eq_of_lt (by simpa using ha),Nat.mod_eq_of_lt (by simpa using hb)]
 exact Za1 (by omega) (by omega)
theorem Zeh (k:IntKind) (a n:Nat) (h:n≤k.bits):shrI k a n=((a / 2 ^ n:Nat):Int):=by
 unfold shrI
 rw [Int.toNat_natCast,Nat.min_eq_left h,Int.fdiv_eq_ediv_of_nonneg _ (Int.pow_nonneg (by omega))]
 rw [Int.natCast_ediv,Int.natCast_pow]; rfl
theorem Zsd (a n:Nat) (h:n≤64):shlI .u64 a n=((a*2 ^ n % 18446744073709551616:Nat):Int):=by
 unfold shlI
 rw [Int.toNat_natCast,Nat.min_eq_left (by exact h)]
 have:(a:Int)*2 ^ n=((a*2 ^ n:Nat):Int):=by rw [Int.natCast_mul,Int.natCast_pow]; rfl
 rw [this,Y6t]
end bits
def u32c (l:List Nat):List AV:=l.map fun (x:Nat)=>AV.int .u32 (x:Int)
theorem Zg5:u32c [] = []:=rfl
theorem Yj6 {x:Nat}{l:List Nat}:u32c (x::l) = .int .u32 x::u32c l:=rfl
theorem Zad (l:List Nat):(u32c l).length=l.length:=by simp [u32c]
theorem Zap {l:List Nat}{i x:Nat}(h:l[i]? = some x):(u32c l)[i]? = some (.int .u32 x):=by simp [u32c,h]
theorem Ygo {l:List Nat}:∀ y,y∈u32c l→y.cells.length=1:=by intro y hy; simp [u32c] at hy; obtain ⟨a,_,rfl⟩:=hy; rfl
theorem Ykl {l:List Nat}{n:Nat}:(u32c l).take n=u32c (l.take n):=by simp [u32c]
theorem Zok {n:Nat}:(List.replicate n [AV.int .u32 0]).flatten=u32c (List.replicate n 0):=by
 induction n with
 | zero=>rfl
 | succ n ih=>simp [List.replicate_succ,ih,u32c]
theorem Yx8 {l:List Nat}:(u32c l).flatMap AV.cells=u32c l:=by
 induction l with
 | nil=>rfl
 | cons x l ih=>simp [Yj6,AV.cells,ih]
theorem Zcs {l:List Nat}{i x:Nat}:(u32c l).set i (.int .u32 x)=u32c (l.set i x):=by simp [u32c,List.map_set]
theorem Zde {H:Heap}{ids:List Nat}{b off len:Nat}{l:List AV}{r:List Nat}(hb:H[b]? = some (.cells l)) (hi:b∈ids) (hr:r.length=len) (hl:(l.drop off).take len=u32c r) :
  BV H ids (.osl none b off len) (.sl (u32c r)):=Ywz (α:=Nat) (f:=fun (x:Nat)=>(x:Int)) hb hi hr hl
def val:List Nat→Nat
 | []=>0
 | x::r=>x+4294967296*val r
theorem Zbl (l r:List Nat):val (l++r)=val l+4294967296 ^ l.length*val r:=by
 induction l with
 | nil=>simp [val]
 | cons x l ih =>
  simp only [List.cons_append,val,ih,List.length_cons,Nat.pow_succ]
  rw [Nat.mul_add,Nat.add_assoc,Nat.mul_comm (4294967296 ^ l.length) 4294967296,Nat.mul_assoc]
theorem Yhy (n:Nat):val (List.replicate n 0)=0:=by
 induction n with
 | zero=>rfl
 | succ n ih=>simp [List.replicate_succ,val,ih]
def Ok32 (l:List Nat):Prop:=∀ x,x∈l→x<4294967296
theorem Ok32.get {l:List Nat}(h:Ok32 l) {i x:Nat}(hx:l[i]? = some x):x<4294967296:=h x (List.mem_of_getElem? hx)
theorem Ok32.take {l:List Nat}(h:Ok32 l) {n:Nat}:Ok32 (l.take n):=fun x hx=>h x (List.mem_of_mem_take hx)
theorem Ok32.drop {l:List Nat}(h:Ok32 l) {n:Nat}:Ok32 (l.drop n):=fun x hx=>h x (List.mem_of_mem_drop hx)
theorem Ok32.append {l r:List Nat}(h:Ok32 l) (h':Ok32 r):Ok32 (l++r):=fun x hx=>(List.mem_append.1 hx).elim (h x) (h' x)
theorem Ok32.rep {n:Nat}:Ok32 (List.replicate n 0):=fun x hx=>by have:=(List.mem_replicate.1 hx).2; omega
theorem Zwx {l:List Nat}(h:Ok32 l):val l<4294967296 ^ l.length:=by
 induction l with
 | nil=>simp [val]
 | cons x l ih =>
  have h1:=h x (by simp)
  have h2:=ih (fun y hy=>h y (by simp [hy]))
  have h3:4294967296*(val l+1)≤4294967296*4294967296 ^ l.length:=Nat.mul_le_mul_left _ h2
  simp only [val,List.length_cons,Nat.pow_succ]
  omega
def trimL (l:List Nat):List Nat:=(l.reverse.dropWhile (· == 0)).reverse
theorem Z2e:trimL [] = []:=rfl
theorem Z39 (l:List Nat) (x:Nat):trimL (l ++ [x])=if x=0 then trimL l else l ++ [x]:=by
 unfold trimL
 by_cases h:x=0 <;> simp [h,List.dropWhile_cons]
def limbs (n:Nat):List Nat:=if h:n=0 then [] else n % 4294967296::limbs (n / 4294967296)
 termination_by n
 decreasing_by omega
theorem Zas:limbs 0 = []:=by unfold limbs; simp
theorem Zb7 {n:Nat}(h:n≠0):limbs n=n % 4294967296::limbs (n / 4294967296):=by rw [limbs]; simp [h]
theorem Zhm {n:Nat}:limbs n = []↔n=0:=by
 by_cases h:n=0
 ·simp [h,Zas]
 ·simp [Zb7 h,h]
theorem Zay (n:Nat):val (limbs n)=n:=by
 induction n using Nat.strongRecOn with
 | _ n ih =>
  by_cases h:n=0
  ·subst h; simp [Zas,val]
  ·rw [Zb7 h,val,ih (n / 4294967296) (by omega)]; omega
theorem Zbj (n:Nat):Ok32 (limbs n):=by
 induction n using Nat.strongRecOn with
 | _ n ih =>
  by_cases h:n=0
  ·subst h; rw [Zas]; intro x hx; simp at hx
  ·rw [Zb7 h]
   intro x hx
   rcases List.mem_cons.1 hx with rfl | hx
   ·omega
   ·exact ih (n / 4294967296) (by omega) x hx
theorem Z4i {n:Nat}(h:n≠0):∃ x,(limbs n).getLast? = some x∧x≠0:=by
 induction n using Nat.strongRecOn with
 | _ n ih =>
  rw [Zb7 h]
  by_cases h2:n / 4294967296=0
  ·rw [h2,Zas]; exact ⟨n % 4294967296,rfl,by omega⟩
  ·obtain ⟨x,h3,h4⟩:=ih _ (by omega) h2
   refine ⟨x,?_,h4⟩
   rw [Zb7 h2] at h3 ⊢
   rw [List.getLast?_cons_cons]; exact h3
theorem Zc3 {l:List Nat}(h:Ok32 l):limbs (val l)=trimL l:=by
 have cons:∀ (x:Nat) (l:List Nat),x<4294967296→trimL (x::l)=if trimL l = [] then (if x=0 then [] else [x]) else x::trimL l:=by
  intro x l _
  unfold trimL
  rw [List.reverse_cons,List.dropWhile_append]
  by_cases h:(l.reverse.dropWhile (· == 0)) = []
  ·simp [h,List.dropWhile_cons]; split <;> simp_all
  ·simp [h]
 induction l with
 | nil=>simp [val,Zas,Z2e]
 | cons x l ih =>
  have hx:=h x (by simp)
  have ih:=ih (fun y hy=>h y (by simp [hy]))
  rw [cons x l hx, ← ih,val]
  by_cases h0:val l=0
  ·rw [h0,Zas]
   by_cases hx0:x=0
   ·subst hx0; simp [Zas]
   ·rw [Zb7 (by omega)]
    have h1:(x+4294967296*0) / 4294967296=0:=by omega
    rw [h1,Zas]
    simp [hx0]; omega
  ·rw [Zb7 (by omega),if_neg (by rw [Zhm]; exact h0)]
   congr 1
   ·omega
   ·congr 1; omega
end GoAbs
namespace GoAbs
open Go Go.Proofs
def Z5a:List IOp := [oI 2 (.mv (.c .nils)) 0]
def Zve:List IOp := [mI 3 0 0,oI 4 (.len (.t 3)) 0,oI 5 (.bin .gtr (.t 4) (cI 0)) 0,mI 6 5 0,gI 7 (.mv (.t 0)) 0 6 true,gI 8 (.mv (.t 0)) 0 6 true,gI 9 (.len (.t 8)) 0 6 true,gI 10 (.bin .sub (.t 9) (cI 1)) 0 6 true,gI 11 (.idx 1 (.t 7) (.t 10)) 0 6 true,gI 12 (.ld none (.t 11)) 0 6 true,gI 13 (.bin .eql (.t 12) (.c (.int .u32 0))) 0 6 true,oI 14 (.pick (.t 6) (.t 13) (.c (.bool false))) 0]
def Zvf:List IOp := [mI 15 0 0,mI 16 0 0,oI 17 (.len (.t 16)) 0,oI 18 (.bin .sub (.t 17) (cI 1)) 0,oI 19 (.slc 1 (.t 15) none (some (.t 18))) 0,mI 0 19 0]
def Ztw:CC := .seq (.seq (.rg false Zve) (.cond (.t 14) .skip (.exit 0))) (.block 1 (.rg false Zvf))
def Zst:List IOp := [mI 20 0 0,mI 2 20 0]
def Yjh:CC := .seq (.rg false Z5a) (.seq (.block 0 (.loop Ztw)) (.seq (.rg false Zst) .ret))
abbrev Ys8:Nat:=147
theorem Ylp:fnOk Tryz.prog 147=some (21,Yjh,[.tmp 2]):=by kernel_rfl
def Zva:List IOp := [oI 4 (.mv (cI 0)) 0]
def Zsw:List IOp := [mI 6 0 0,oI 7 (.len (.t 6)) 0,mI 8 1 0,oI 9 (.len (.t 8)) 0,oI 10 (.bin .neq (.t 7) (.t 9)) 0]
def Zt3:List IOp := [mI 11 0 0,oI 12 (.len (.t 11)) 0,mI 13 1 0,oI 14 (.len (.t 13)) 0,oI 15 (.bin .lss (.t 12) (.t 14)) 0]
def Zsh:List IOp := [oI 4 (.mv (cI (-1))) 0]
def Zv2:List IOp := [oI 4 (.mv (cI 1)) 0]
def Zsi:List IOp := [mI 16 0 0,oI 17 (.len (.t 16)) 0,oI 18 (.bin .sub (.t 17) (cI 1)) 0,mI 5 18 0]
def Zjs:List IOp := [mI 19 5 0,oI 20 (.bin .geq (.t 19) (cI 0)) 0]
def Zkm:List IOp := [mI 23 0 0,mI 24 5 0,xI 25 1 23 24 0,lI 26 25 0,mI 27 1 0,mI 28 5 0,xI 29 1 27 28 0,lI 30 29 0,oI 31 (.bin .neq (.t 26) (.t 30)) 0]
@[go_sem ↓] theorem Z4r : autoK Zkm = (0, 0) := by kernel_rfl
@[go_sem] theorem Yo3 : autoK [mI 23 0 0, mI 24 5 0, xI 25 1 23 24 0, lI 26 25 0, mI 27 1 0, mI 28 5 0, xI 29 1 27 28 0, lI 30 29 0, oI 31 (.bin .neq (.t 26) (.t 30)) 0] = (0, 0) := Z4r
def Zjg:List IOp := [mI 32 0 0,mI 33 5 0,xI 34 1 32 33 0,lI 35 34 0,mI 36 1 0,mI 37 5 0,xI 38 1 36 37 0,lI 39 38 0,oI 40 (.bin .lss (.t 35) (.t 39)) 0]
@[go_sem ↓] theorem Z4g : autoK Zjg = (0, 0) := by kernel_rfl
@[go_sem] theorem Yol : autoK [mI 32 0 0, mI 33 5 0, xI 34 1 32 33 0, lI 35 34 0, mI 36 1 0, mI 37 5 0, xI 38 1 36 37 0, lI 39 38 0, oI 40 (.bin .lss (.t 35) (.t 39)) 0] = (0, 0) := Z4g
def Zqs:List IOp := [oI 4 (.mv (cI (-1))) 0]
def Zq7:List IOp := [oI 4 (.mv (cI 1)) 0]
def Zqy:List IOp := [mI 21 5 0,oI 22 (.bin .sub (.t 21) (cI 1)) 0,mI 5 22 0]
def Zjd:CC := .seq (.seq (.rg false Zjs) (.cond (.t 20) .skip (.exit 0))) (.seq (.block 1 (.seq (.rg true Zkm) (.cond (.t 31) (.seq (.seq (.rg true Zjg) (.cond (.t 40) (.seq (.rg false Zqs) .ret) .skip)) (.seq (.rg false Zq7) .ret)) .skip))) (.rg false Zqy))
def Zqh:List IOp := [oI 4 (.mv (cI 0)) 0]
def Z5o:CC := .seq (.rg false Zva) (.seq (.seq (.rg false Zsw) (.cond (.t 10) (.seq (.seq (.rg false Zt3) (.cond (.t 15) (.seq (.rg false Zsh) .ret) .skip)) (.seq (.rg false Zv2) .ret)) .skip)) (.seq (.seq (.rg false Zsi) (.block 0 (.loop Zjd))) (.seq (.rg false Zqh) .ret)))
abbrev Z2o:Nat:=140
theorem Yck:fnOk Tryz.prog 140=some (41,Z5o,[.tmp 4]):=by kernel_rfl
def Z6d:List IOp := [oI 4 (.mv (.c .nils)) 0]
def Z50:List IOp := [mI 9 0 0,oI 10 (.len (.t 9)) 0,mI 11 1 0,oI 12 (.len (.t 11)) 0,oI 13 (.bin .lss (.t 10) (.t 12)) 0]
def Z6x:List IOp := [mI 14 1 0,mI 15 0 0,mI 0 14 0,mI 1 15 0]
def Zv1:List IOp := [mI 16 0 0,oI 17 (.len (.t 16)) 0,oI 18 (.bin .add (.t 17) (cI 1)) 0,oI 19 (.mks none 4 [.int .u32 0] (.t 18) (.t 18)) 0,mI 5 19 1]
def Zsb:List IOp := [oI 6 (.mv (.c (.int .u32 0))) 0]
def Ztv:List IOp := [mI 20 0 0,oI 21 (.len (.t 20)) 0,oI 22 (.mv (cI 0)) 0]
def Zt1:List IOp := [oI 23 (.bin .lss (.t 22) (.t 21)) 0]
def Z5k:List IOp := [mI 24 22 0,mI 7 24 0]
def Z7l:List IOp := [oI 8 (.mv (.c (.int .u32 0))) 0]
def Z2c:List IOp := [mI 25 7 0,mI 26 1 0,oI 27 (.len (.t 26)) 0,oI 28 (.bin .lss (.t 25) (.t 27)) 0]
def Z15:List IOp := [mI 29 1 0,mI 30 7 0,xI 31 1 29 30 0,lI 32 31 0,mI 8 32 0]
def Z07:List IOp := [mI 34 5 0,mI 35 7 0,mI 36 0 0,mI 37 7 0,xI 38 1 36 37 0,lI 39 38 0,mI 40 8 0,mI 41 6 0,oI 42 (.call 169 [.t 39,.t 40,.t 41]) 0,mI 33 42 0,eI 43 0 33 0,eI 44 1 33 0,xI 45 1 34 35 0,⟨none,.st 1 (.t 45) (.t 43),0,[],[],none⟩,mI 6 44 0]
def Z19:List IOp := [oI 46 (.bin .add (.t 22) (cI 1)) 0,mI 22 46 0]
def Zts:CC := .seq (.rg false Zt1) (.seq (.cond (.t 23) .skip (.exit 0)) (.seq (.block 1 (.seq (.rg false Z5k) (.seq (.rg false Z7l) (.seq (.seq (.rg false Z2c) (.cond (.t 28) (.rg false Z15) .skip)) (.rg false Z07))))) (.rg false Z19)))
def Zp1:List IOp := [mI 47 5 0,mI 48 0 0,oI 49 (.len (.t 48)) 0,mI 50 6 0,xI 51 1 47 49 0,⟨none,.st 1 (.t 51) (.t 50),0,[],[],none⟩]
def Zo1:List IOp := [mI 52 5 0,oI 53 (.call 147 [.t 52]) 0,mI 4 53 0]
def Yh8:CC := .seq (.rg false Z6d) (.seq (.seq (.rg false Z50) (.cond (.t 13) (.rg false Z6x) .skip)) (.seq (.rg false Zv1) (.seq (.rg false Zsb) (.seq (.seq (.rg false Ztv) (.block 0 (.loop Zts))) (.seq (.rg false Zp1) (.seq (.rg false Zo1) .ret))))))
abbrev Yea:Nat:=151
theorem Yk8:fnOk Tryz.prog 151=some (54,Yh8,[.tmp 4]):=by kernel_rfl
def Z2t:List IOp := [oI 4 (.mv (.c .nils)) 0]
def Z03:List IOp := [mI 9 0 0,oI 10 (.len (.t 9)) 0,oI 11 (.mks none 4 [.int .u32 0] (.t 10) (.t 10)) 0,mI 5 11 1]
def Z1u:List IOp := [oI 6 (.mv (.c (.int .u32 0))) 0]
def Z2s:List IOp := [mI 12 0 0,oI 13 (.len (.t 12)) 0,oI 14 (.mv (cI 0)) 0]
def Zo6:List IOp := [oI 15 (.bin .lss (.t 14) (.t 13)) 0]
def Z16:List IOp := [mI 16 14 0,mI 7 16 0]
def Z00:List IOp := [oI 8 (.mv (.c (.int .u32 0))) 0]
def Z3d:List IOp := [mI 17 7 0,mI 18 1 0,oI 19 (.len (.t 18)) 0,oI 20 (.bin .lss (.t 17) (.t 19)) 0]
def Z29:List IOp := [mI 21 1 0,mI 22 7 0,xI 23 1 21 22 0,lI 24 23 0,mI 8 24 0]
def Zxj:List IOp := [mI 26 5 0,mI 27 7 0,mI 28 0 0,mI 29 7 0,xI 30 1 28 29 0,lI 31 30 0,mI 32 8 0,mI 33 6 0,oI 34 (.call 170 [.t 31,.t 32,.t 33]) 0,mI 25 34 0,eI 35 0 25 0,eI 36 1 25 0,xI 37 1 26 27 0,⟨none,.st 1 (.t 37) (.t 35),0,[],[],none⟩,mI 6 36 0]
def Zyk:List IOp := [oI 38 (.bin .add (.t 14) (cI 1)) 0,mI 14 38 0]
def Z10:CC := .seq (.rg false Zo6) (.seq (.cond (.t 15) .skip (.exit 0)) (.seq (.block 1 (.seq (.rg false Z16) (.seq (.rg false Z00) (.seq (.seq (.rg false Z3d) (.cond (.t 20) (.rg false Z29) .skip)) (.rg false Zxj))))) (.rg false Zyk)))
def Zyg:List IOp := [mI 39 5 0,oI 40 (.call 147 [.t 39]) 0,mI 4 40 0]
def Ycx:CC := .seq (.rg false Z2t) (.seq (.rg false Z03) (.seq (.rg false Z1u) (.seq (.seq (.rg false Z2s) (.block 0 (.loop Z10))) (.seq (.rg false Zyg) .ret))))
abbrev Z9d:Nat:=152
theorem Yjp:fnOk Tryz.prog 152=some (41,Ycx,[.tmp 4]):=by kernel_rfl
def Z0x:List IOp := [oI 4 (.mv (.c .nils)) 0]
def Z0q:List IOp := [mI 12 0 0,oI 13 (.len (.t 12)) 0,mI 14 1 0,oI 15 (.len (.t 14)) 0,oI 16 (.bin .add (.t 13) (.t 15)) 0,oI 17 (.mks none 4 [.int .u32 0] (.t 16) (.t 16)) 0,mI 5 17 1]
def Z1t:List IOp := [mI 18 0 0,oI 19 (.len (.t 18)) 0,oI 20 (.mv (cI 0)) 0]
def Zpt:List IOp := [oI 21 (.bin .lss (.t 20) (.t 19)) 0]
def Z21:List IOp := [mI 22 20 0,xI 23 1 18 20 0,lI 24 23 0,mI 6 22 0,mI 7 24 0]
def Z24:List IOp := [oI 8 (.mv (.c (.int .u64 0))) 0]
def Z2g:List IOp := [mI 25 1 0,oI 26 (.len (.t 25)) 0,oI 27 (.mv (cI 0)) 0]
def Zoi:List IOp := [oI 28 (.bin .lss (.t 27) (.t 26)) 0]
def Z3k:List IOp := [mI 29 27 0,xI 30 1 25 27 0,lI 31 30 0,mI 9 29 0,mI 10 31 0]
def Zym:List IOp := [mI 32 7 0,oI 33 (.cvi .u64 (.t 32)) 0,mI 34 10 0,oI 35 (.cvi .u64 (.t 34)) 0,oI 36 (.bin .mul (.t 33) (.t 35)) 0,mI 37 5 0,mI 38 6 0,mI 39 9 0,oI 40 (.bin .add (.t 38) (.t 39)) 0,xI 41 1 37 40 0,lI 42 41 0,oI 43 (.cvi .u64 (.t 42)) 0,oI 44 (.bin .add (.t 36) (.t 43)) 0,mI 45 8 0,oI 46 (.bin .add (.t 44) (.t 45)) 0,mI 11 46 0]
def Zy4:List IOp := [mI 47 5 0,mI 48 6 0,mI 49 9 0,oI 50 (.bin .add (.t 48) (.t 49)) 0,mI 51 11 0,oI 52 (.cvi .u32 (.t 51)) 0,mI 53 11 0,oI 54 (.bin .shr (.t 53) (.c (.int .u64 32))) 0,xI 55 1 47 50 0,⟨none,.st 1 (.t 55) (.t 52),0,[],[],none⟩,mI 8 54 0]
def Zxg:List IOp := [oI 56 (.bin .add (.t 27) (cI 1)) 0,mI 27 56 0]
def Zpu:CC := .seq (.rg false Zoi) (.seq (.cond (.t 28) .skip (.exit 2)) (.seq (.block 3 (.seq (.rg false Z3k) (.seq (.rg false Zym) (.rg false Zy4)))) (.rg false Zxg)))
def Zyf:List IOp := [mI 57 5 0,mI 58 6 0,mI 59 1 0,oI 60 (.len (.t 59)) 0,oI 61 (.bin .add (.t 58) (.t 60)) 0,mI 62 8 0,oI 63 (.cvi .u32 (.t 62)) 0,xI 64 1 57 61 0,⟨none,.st 1 (.t 64) (.t 63),0,[],[],none⟩]
def Zyd:List IOp := [oI 65 (.bin .add (.t 20) (cI 1)) 0,mI 20 65 0]
def Z14:CC := .seq (.rg false Zpt) (.seq (.cond (.t 21) .skip (.exit 0)) (.seq (.block 1 (.seq (.rg false Z21) (.seq (.rg false Z24) (.seq (.seq (.rg false Z2g) (.block 2 (.loop Zpu))) (.rg false Zyf))))) (.rg false Zyd)))
def Zyy:List IOp := [mI 66 5 0,oI 67 (.call 147 [.t 66]) 0,mI 4 67 0]
def Yc5:CC := .seq (.rg false Z0x) (.seq (.rg false Z0q) (.seq (.seq (.rg false Z1t) (.block 0 (.loop Z14))) (.seq (.rg false Zyy) .ret)))
abbrev Yaa:Nat:=149
theorem Yjc:fnOk Tryz.prog 149=some (68,Yc5,[.tmp 4]):=by kernel_rfl
def Zy3:List IOp := [oI 4 (.mv (.c .nils)) 0,oI 5 (.mv (.c (.int .u32 0))) 0]
def Zyn:List IOp := [mI 10 0 0,oI 11 (.len (.t 10)) 0,oI 12 (.mks none 4 [.int .u32 0] (.t 11) (.t 11)) 0,mI 6 12 1]
def Zx6:List IOp := [oI 7 (.mv (.c (.int .u64 0))) 0]
def Zx2:List IOp := [mI 13 0 0,oI 14 (.len (.t 13)) 0,oI 15 (.bin .sub (.t 14) (cI 1)) 0,mI 8 15 0]
def Zmv:List IOp := [mI 16 8 0,oI 17 (.bin .geq (.t 16) (cI 0)) 0]
def Zxi:List IOp := [mI 20 7 0,oI 21 (.bin .shl (.t 20) (.c (.int .u64 32))) 0,mI 22 0 0,mI 23 8 0,xI 24 1 22 23 0,lI 25 24 0,oI 26 (.cvi .u64 (.t 25)) 0,oI 27 (.bin .or (.t 21) (.t 26)) 0,mI 9 27 0]
def Zl7:List IOp := [mI 28 6 0,mI 29 8 0,mI 30 9 0,mI 31 1 0,oI 32 (.cvi .u64 (.t 31)) 0,oI 33 (.bin .quo (.t 30) (.t 32)) 0,oI 34 (.cvi .u32 (.t 33)) 0,mI 35 9 0,mI 36 1 0,oI 37 (.cvi .u64 (.t 36)) 0,oI 38 (.bin .rem (.t 35) (.t 37)) 0,xI 39 1 28 29 0,⟨none,.st 1 (.t 39) (.t 34),0,[],[],none⟩,mI 7 38 0]
@[go_sem ↓] theorem Z7q : autoK Zl7 = (0, 1) := by kernel_rfl
@[go_sem] theorem Ytv : autoK [mI 28 6 0, mI 29 8 0, mI 30 9 0, mI 31 1 0, oI 32 (.cvi .u64 (.t 31)) 0, oI 33 (.bin .quo (.t 30) (.t 32)) 0, oI 34 (.cvi .u32 (.t 33)) 0, mI 35 9 0, mI 36 1 0, oI 37 (.cvi .u64 (.t 36)) 0, oI 38 (.bin .rem (.t 35) (.t 37)) 0, xI 39 1 28 29 0, ⟨none, .st 1 (.t 39) (.t 34), 0, [], [], none⟩, mI 7 38 0] = (0, 1) := Z7q
def Zza:List IOp := [mI 18 8 0,oI 19 (.bin .sub (.t 18) (cI 1)) 0,mI 8 19 0]
def Zxy:CC := .seq (.seq (.rg false Zmv) (.cond (.t 17) .skip (.exit 0))) (.seq (.block 1 (.seq (.rg false Zxi) (.rg true Zl7))) (.rg false Zza))
def Zxr:List IOp := [mI 40 6 0,oI 41 (.call 147 [.t 40]) 0,mI 42 7 0,oI 43 (.cvi .u32 (.t 42)) 0,mI 4 41 0,mI 5 43 0]
def Z9i:CC := .seq (.rg false Zy3) (.seq (.rg false Zyn) (.seq (.rg false Zx6) (.seq (.seq (.rg false Zx2) (.block 0 (.loop Zxy))) (.seq (.rg false Zxr) .ret))))
abbrev Yg8:Nat:=145
theorem Ygd:fnOk Tryz.prog 145=some (44,Z9i,[.tmp 4,.tmp 5]):=by kernel_rfl
def Yc4:List IOp := [oI 4 (.mv (.c .nils)) 0]
def Yef:List IOp := [mI 9 0 0,oI 10 (.len (.t 9)) 0,oI 11 (.bin .add (.t 10) (cI 1)) 0,oI 12 (.mks none 4 [.int .u32 0] (.t 11) (.t 11)) 0,mI 5 12 1]
def Yeh:List IOp := [mI 13 0 0,oI 14 (.len (.t 13)) 0,oI 15 (.mv (cI 0)) 0]
def Z4h:List IOp := [oI 16 (.bin .lss (.t 15) (.t 14)) 0]
def Yeb:List IOp := [mI 17 15 0,xI 18 1 13 15 0,lI 19 18 0,mI 6 17 0,mI 7 19 0]
def Yde:List IOp := [mI 20 7 0,oI 21 (.cvi .u64 (.t 20)) 0,mI 22 1 0,oI 23 (.bin .shl (.t 21) (.t 22)) 0,mI 8 23 0]
def Yd4:List IOp := [mI 24 5 0,mI 25 6 0,xI 26 1 24 25 0,lI 27 26 0,mI 28 8 0,oI 29 (.cvi .u32 (.t 28)) 0,oI 30 (.bin .or (.t 27) (.t 29)) 0,xI 31 1 24 25 0,⟨none,.st 1 (.t 31) (.t 30),0,[],[],none⟩]
def Yd8:List IOp := [mI 32 5 0,mI 33 6 0,oI 34 (.bin .add (.t 33) (cI 1)) 0,mI 35 8 0,oI 36 (.bin .shr (.t 35) (.c (.int .u64 32))) 0,oI 37 (.cvi .u32 (.t 36)) 0,xI 38 1 32 34 0,⟨none,.st 1 (.t 38) (.t 37),0,[],[],none⟩]
def Yec:List IOp := [oI 39 (.bin .add (.t 15) (cI 1)) 0,mI 15 39 0]
def Ydr:CC := .seq (.rg false Z4h) (.seq (.cond (.t 16) .skip (.exit 0)) (.seq (.block 1 (.seq (.rg false Yeb) (.seq (.rg false Yde) (.seq (.rg false Yd4) (.rg false Yd8))))) (.rg false Yec)))
def Z8o:List IOp := [mI 40 5 0,mI 4 40 0]
def Ym7:CC := .seq (.rg false Yc4) (.seq (.rg false Yef) (.seq (.seq (.rg false Yeh) (.block 0 (.loop Ydr))) (.seq (.rg false Z8o) .ret)))
abbrev Yn5:Nat:=179
theorem Ykm:fnOk Tryz.prog 179=some (41,Ym7,[.tmp 4]):=by kernel_rfl
def Z6f:List IOp := [oI 4 (.mv (.c .nils)) 0]
def Z7n:List IOp := [mI 8 0 0,oI 9 (.len (.t 8)) 0,oI 10 (.mks none 4 [.int .u32 0] (.t 9) (.t 9)) 0,mI 5 10 1]
def Z56:List IOp := [mI 11 0 0,oI 12 (.len (.t 11)) 0,oI 13 (.mv (cI 0)) 0]
def Zui:List IOp := [oI 14 (.bin .lss (.t 13) (.t 12)) 0]
def Z7j:List IOp := [mI 15 13 0,mI 6 15 0]
def Z6w:List IOp := [mI 16 0 0,mI 17 6 0,xI 18 1 16 17 0,lI 19 18 0,oI 20 (.cvi .u64 (.t 19)) 0,mI 7 20 0]
def Z5t:List IOp := [mI 21 6 0,oI 22 (.bin .add (.t 21) (cI 1)) 0,mI 23 0 0,oI 24 (.len (.t 23)) 0,oI 25 (.bin .lss (.t 22) (.t 24)) 0]
def Z59:List IOp := [mI 26 7 0,mI 27 0 0,mI 28 6 0,oI 29 (.bin .add (.t 28) (cI 1)) 0,xI 30 1 27 29 0,lI 31 30 0,oI 32 (.cvi .u64 (.t 31)) 0,oI 33 (.bin .shl (.t 32) (.c (.int .u64 32))) 0,oI 34 (.bin .or (.t 26) (.t 33)) 0,mI 7 34 0]
def Z7g:List IOp := [mI 35 5 0,mI 36 6 0,mI 37 7 0,mI 38 1 0,oI 39 (.bin .shr (.t 37) (.t 38)) 0,oI 40 (.cvi .u32 (.t 39)) 0,xI 41 1 35 36 0,⟨none,.st 1 (.t 41) (.t 40),0,[],[],none⟩]
def Z2k:List IOp := [oI 42 (.bin .add (.t 13) (cI 1)) 0,mI 13 42 0]
def Z5u:CC := .seq (.rg false Zui) (.seq (.cond (.t 14) .skip (.exit 0)) (.seq (.block 1 (.seq (.rg false Z7j) (.seq (.rg false Z6w) (.seq (.seq (.rg false Z5t) (.cond (.t 25) (.rg false Z59) .skip)) (.rg false Z7g))))) (.rg false Z2k)))
def Z1o:List IOp := [mI 43 5 0,oI 44 (.call 147 [.t 43]) 0,mI 4 44 0]
def Yi3:CC := .seq (.rg false Z6f) (.seq (.rg false Z7n) (.seq (.seq (.rg false Z56) (.block 0 (.loop Z5u))) (.seq (.rg false Z1o) .ret)))
abbrev Yrc:Nat:=181
theorem Ynl:fnOk Tryz.prog 181=some (45,Yi3,[.tmp 4]):=by kernel_rfl
def Zx5:List IOp := [oI 6 (.mv (.c (.int .u32 0))) 0,oI 7 (.mv (.c (.int .u32 0))) 0]
def Zw4:List IOp := [mI 9 0 0,oI 10 (.cvi .u64 (.t 9)) 0,mI 11 1 0,oI 12 (.cvi .u64 (.t 11)) 0,oI 13 (.bin .add (.t 10) (.t 12)) 0,mI 14 2 0,oI 15 (.cvi .u64 (.t 14)) 0,oI 16 (.bin .add (.t 13) (.t 15)) 0,mI 8 16 0]
def Zyz:List IOp := [mI 17 8 0,oI 18 (.cvi .u32 (.t 17)) 0,mI 6 18 0]
def Zw8:List IOp := [mI 19 8 0,oI 20 (.bin .shr (.t 19) (.c (.int .u64 32))) 0,oI 21 (.cvi .u32 (.t 20)) 0,mI 7 21 0]
def Z9z:CC := .seq (.rg false Zx5) (.seq (.rg false Zw4) (.seq (.rg false Zyz) (.seq (.rg false Zw8) .ret)))
abbrev Z68:Nat:=169
theorem Yeu:fnOk Tryz.prog 169=some (22,Z9z,[.tmp 6,.tmp 7]):=by kernel_rfl
def Zxn:List IOp := [oI 6 (.mv (.c (.int .u32 0))) 0,oI 7 (.mv (.c (.int .u32 0))) 0]
def Zxw:List IOp := [mI 8 0 0,mI 9 1 0,oI 10 (.bin .sub (.t 8) (.t 9)) 0,mI 11 2 0,oI 12 (.bin .sub (.t 10) (.t 11)) 0,mI 6 12 0]
def Zyr:List IOp := [mI 13 0 0,oI 14 (.un .xor (.t 13)) 0,mI 15 1 0,oI 16 (.bin .and (.t 14) (.t 15)) 0,mI 17 0 0,mI 18 1 0,oI 19 (.bin .xor (.t 17) (.t 18)) 0,oI 20 (.un .xor (.t 19)) 0,mI 21 6 0,oI 22 (.bin .and (.t 20) (.t 21)) 0,oI 23 (.bin .or (.t 16) (.t 22)) 0,oI 24 (.bin .shr (.t 23) (.c (.int .u64 31))) 0,mI 7 24 0]
def Yaj:CC := .seq (.rg false Zxn) (.seq (.rg false Zxw) (.seq (.rg false Zyr) .ret))
abbrev Z43:Nat:=170
theorem Yf8:fnOk Tryz.prog 170=some (25,Yaj,[.tmp 6,.tmp 7]):=by kernel_rfl
def Zfe:List IOp := [oI 2 (.mv (cI 0)) 0]
def Zfv:List IOp := [mI 3 0 0,oI 4 (.call 163 [.t 3]) 0,oI 5 (.bin .sub (cI 32) (.t 4)) 0,mI 2 5 0]
def Ziy:CC := .seq (.rg false Zfe) (.seq (.rg false Zfv) .ret)
abbrev Ztj:Nat:=178
theorem Zre:fnOk Tryz.prog 178=some (6,Ziy,[.tmp 2]):=by kernel_rfl
def Zdx:List IOp := [oI 2 (.mv (cI 0)) 0]
def Zds:List IOp := [mI 3 0 0,oI 4 (.bin .geq (.t 3) (.c (.int .u32 65536))) 0]
def Zdv:List IOp := [mI 5 0 0,oI 6 (.bin .shr (.t 5) (.c (.int .u64 16))) 0,mI 0 6 0]
def Zdz:List IOp := [oI 2 (.mv (cI 16)) 0]
def Zdn:List IOp := [mI 7 0 0,oI 8 (.bin .geq (.t 7) (.c (.int .u32 256))) 0]
def Zdr:List IOp := [mI 9 0 0,oI 10 (.bin .shr (.t 9) (.c (.int .u64 8))) 0,mI 0 10 0]
def Zdw:List IOp := [mI 11 2 0,oI 12 (.bin .add (.t 11) (cI 8)) 0,mI 2 12 0]
def Zcc:List IOp := [mI 13 2 0,mI 14 0 0,oI 15 (.cvi .u8 (.t 14)) 0,oI 16 (.sidx (.c (.str ⟨#[0,1,2,2,3,3,3,3,4,4,4,4,4,4,4,4,5,5,5,5,5,5,5,5,5,5,5,5,5,5,5,5,6,6,6,6,6,6,6,6,6,6,6,6,6,6,6,6,6,6,6,6,6,6,6,6,6,6,6,6,6,6,6,6,7,7,7,7,7,7,7,7,7,7,7,7,7,7,7,7,7,7,7,7,7,7,7,7,7,7,7,7,7,7,7,7,7,7,7,7,7,7,7,7,7,7,7,7,7,7,7,7,7,7,7,7,7,7,7,7,7,7,7,7,7,7,7,7,8,8,8,8,8,8,8,8,8,8,8,8,8,8,8,8,8,8,8,8,8,8,8,8,8,8,8,8,8,8,8,8,8,8,8,8,8,8,8,8,8,8,8,8,8,8,8,8,8,8,8,8,8,8,8,8,8,8,8,8,8,8,8,8,8,8,8,8,8,8,8,8,8,8,8,8,8,8,8,8,8,8,8,8,8,8,8,8,8,8,8,8,8,8,8,8,8,8,8,8,8,8,8,8,8,8,8,8,8,8,8,8,8,8,8,8,8,8,8,8,8,8,8,8,8,8,8,8]⟩)) (.t 15)) 0,oI 17 (.cvi .i64 (.t 16)) 0,oI 18 (.bin .add (.t 13) (.t 17)) 0,mI 2 18 0]
def Z84:CC := .seq (.rg false Zdx) (.seq (.seq (.rg false Zds) (.cond (.t 4) (.seq (.rg false Zdv) (.rg false Zdz)) .skip)) (.seq (.seq (.rg false Zdn) (.cond (.t 8) (.seq (.rg false Zdr) (.rg false Zdw)) .skip)) (.seq (.rg false Zcc) .ret)))
abbrev Yjd:Nat:=163
theorem Yfv:fnOk Tryz.prog 163=some (19,Z84,[.tmp 2]):=by kernel_rfl
def Z0u:List IOp := [oI 4 (.mv (.c (.int .u32 0))) 0]
def Z3c:List IOp := [mI 15 1 0,oI 16 (.len (.t 15)) 0,mI 5 16 0]
def Zp3:List IOp := [mI 17 0 0,mI 18 5 0,xI 19 1 17 18 0,lI 20 19 0,oI 21 (.cvi .u64 (.t 20)) 0,oI 22 (.bin .shl (.t 21) (.c (.int .u64 32))) 0,mI 23 0 0,mI 24 5 0,oI 25 (.bin .sub (.t 24) (cI 1)) 0,xI 26 1 23 25 0,lI 27 26 0,oI 28 (.cvi .u64 (.t 27)) 0,oI 29 (.bin .or (.t 22) (.t 28)) 0,mI 6 29 0]
@[go_sem ↓] theorem Yab : autoK Zp3 = (0, 0) := by kernel_rfl
@[go_sem] theorem Yua : autoK [mI 17 0 0, mI 18 5 0, xI 19 1 17 18 0, lI 20 19 0, oI 21 (.cvi .u64 (.t 20)) 0, oI 22 (.bin .shl (.t 21) (.c (.int .u64 32))) 0, mI 23 0 0, mI 24 5 0, oI 25 (.bin .sub (.t 24) (cI 1)) 0, xI 26 1 23 25 0, lI 27 26 0, oI 28 (.cvi .u64 (.t 27)) 0, oI 29 (.bin .or (.t 22) (.t 28)) 0, mI 6 29 0] = (0, 0) := Yab
def Zox:List IOp := [mI 30 6 0,mI 31 1 0,mI 32 5 0,oI 33 (.bin .sub (.t 32) (cI 1)) 0,xI 34 1 31 33 0,lI 35 34 0,oI 36 (.cvi .u64 (.t 35)) 0,oI 37 (.bin .quo (.t 30) (.t 36)) 0,mI 38 6 0,mI 39 1 0,mI 40 5 0,oI 41 (.bin .sub (.t 40) (cI 1)) 0,xI 42 1 39 41 0,lI 43 42 0,oI 44 (.cvi .u64 (.t 43)) 0,oI 45 (.bin .rem (.t 38) (.t 44)) 0,mI 7 37 0,mI 8 45 0]
@[go_sem ↓] theorem Ybp : autoK Zox = (0, 0) := by kernel_rfl
@[go_sem] theorem Yt6 : autoK [mI 30 6 0, mI 31 1 0, mI 32 5 0, oI 33 (.bin .sub (.t 32) (cI 1)) 0, xI 34 1 31 33 0, lI 35 34 0, oI 36 (.cvi .u64 (.t 35)) 0, oI 37 (.bin .quo (.t 30) (.t 36)) 0, mI 38 6 0, mI 39 1 0, mI 40 5 0, oI 41 (.bin .sub (.t 40) (cI 1)) 0, xI 42 1 39 41 0, lI 43 42 0, oI 44 (.cvi .u64 (.t 43)) 0, oI 45 (.bin .rem (.t 38) (.t 44)) 0, mI 7 37 0, mI 8 45 0] = (0, 0) := Ybp
def Zfu:List IOp := [mI 46 7 0,oI 47 (.bin .shr (.t 46) (.c (.int .u64 32))) 0,oI 48 (.bin .gtr (.t 47) (.c (.int .u64 0))) 0,mI 49 48 0,gI 50 (.mv (.t 7)) 0 49 false,gI 51 (.mv (.t 1)) 0 49 false,gI 52 (.mv (.t 5)) 0 49 false,gI 53 (.bin .sub (.t 52) (cI 2)) 0 49 false,gI 54 (.idx 1 (.t 51) (.t 53)) 0 49 false,gI 55 (.ld none (.t 54)) 0 49 false,gI 56 (.cvi .u64 (.t 55)) 0 49 false,gI 57 (.bin .mul (.t 50) (.t 56)) 0 49 false,gI 58 (.mv (.t 8)) 0 49 false,gI 59 (.bin .shl (.t 58) (.c (.int .u64 32))) 0 49 false,gI 60 (.mv (.t 0)) 0 49 false,gI 61 (.mv (.t 5)) 0 49 false,gI 62 (.bin .sub (.t 61) (cI 2)) 0 49 false,gI 63 (.idx 1 (.t 60) (.t 62)) 0 49 false,gI 64 (.ld none (.t 63)) 0 49 false,gI 65 (.cvi .u64 (.t 64)) 0 49 false,gI 66 (.bin .or (.t 59) (.t 65)) 0 49 false,gI 67 (.bin .gtr (.t 57) (.t 66)) 0 49 false,oI 68 (.pick (.t 49) (.c (.bool true)) (.t 67)) 0]
@[go_sem ↓] theorem Z9y : autoK Zfu = (0, 0) := by kernel_rfl
@[go_sem] theorem Yuc : autoK [mI 46 7 0, oI 47 (.bin .shr (.t 46) (.c (.int .u64 32))) 0, oI 48 (.bin .gtr (.t 47) (.c (.int .u64 0))) 0, mI 49 48 0, gI 50 (.mv (.t 7)) 0 49 false, gI 51 (.mv (.t 1)) 0 49 false, gI 52 (.mv (.t 5)) 0 49 false, gI 53 (.bin .sub (.t 52) (cI 2)) 0 49 false, gI 54 (.idx 1 (.t 51) (.t 53)) 0 49 false, gI 55 (.ld none (.t 54)) 0 49 false, gI 56 (.cvi .u64 (.t 55)) 0 49 false, gI 57 (.bin .mul (.t 50) (.t 56)) 0 49 false, gI 58 (.mv (.t 8)) 0 49 false, gI 59 (.bin .shl (.t 58) (.c (.int .u64 32))) 0 49 false, gI 60 (.mv (.t 0)) 0 49 false, gI 61 (.mv (.t 5)) 0 49 false, gI 62 (.bin .sub (.t 61) (cI 2)) 0 49 false, gI 63 (.idx 1 (.t 60) (.t 62)) 0 49 false, gI 64 (.ld none (.t 63)) 0 49 false, gI 65 (.cvi .u64 (.t 64)) 0 49 false, gI 66 (.bin .or (.t 59) (.t 65)) 0 49 false, gI 67 (.bin .gtr (.t 57) (.t 66)) 0 49 false, oI 68 (.pick (.t 49) (.c (.bool true)) (.t 67)) 0] = (0, 0) := Z9y
def Zoc:List IOp := [mI 69 7 0,oI 70 (.bin .sub (.t 69) (.c (.int .u64 1))) 0,mI 7 70 0]
def Zqe:List IOp := [mI 71 8 0,mI 72 1 0,mI 73 5 0,oI 74 (.bin .sub (.t 73) (cI 1)) 0,xI 75 1 72 74 0,lI 76 75 0,oI 77 (.cvi .u64 (.t 76)) 0,oI 78 (.bin .add (.t 71) (.t 77)) 0,mI 8 78 0]
def Zop:List IOp := [mI 79 8 0,oI 80 (.bin .shr (.t 79) (.c (.int .u64 32))) 0,oI 81 (.bin .gtr (.t 80) (.c (.int .u64 0))) 0]
def Zot:CC := .seq (.seq (.rg true Zfu) (.cond (.t 68) .skip (.exit 0))) (.block 1 (.seq (.rg false Zoc) (.seq (.rg false Zqe) (.seq (.rg false Zop) (.cond (.t 81) (.exit 0) .skip)))))
def Z02:List IOp := [oI 9 (.mv (.c (.int .u64 0))) 0,oI 10 (.mv (.c (.int .u32 0))) 0]
def Zxo:List IOp := [mI 82 1 0,oI 83 (.len (.t 82)) 0,oI 84 (.mv (cI 0)) 0]
def Zmq:List IOp := [oI 85 (.bin .lss (.t 84) (.t 83)) 0]
def Zyb:List IOp := [mI 86 84 0,mI 11 86 0]
def Zxt:List IOp := [mI 87 7 0,mI 88 1 0,mI 89 11 0,xI 90 1 88 89 0,lI 91 90 0,oI 92 (.cvi .u64 (.t 91)) 0,oI 93 (.bin .mul (.t 87) (.t 92)) 0,mI 94 9 0,oI 95 (.bin .add (.t 93) (.t 94)) 0,mI 12 95 0]
def Zyi:List IOp := [mI 96 12 0,oI 97 (.bin .shr (.t 96) (.c (.int .u64 32))) 0,mI 9 97 0]
def Zx7:List IOp := [mI 99 0 0,mI 100 11 0,mI 101 0 0,mI 102 11 0,xI 103 1 101 102 0,lI 104 103 0,mI 105 12 0,oI 106 (.cvi .u32 (.t 105)) 0,mI 107 10 0,oI 108 (.call 170 [.t 104,.t 106,.t 107]) 0,mI 98 108 0,eI 109 0 98 0,eI 110 1 98 0,xI 111 1 99 100 0,⟨none,.st 1 (.t 111) (.t 109),0,[],[],none⟩,mI 10 110 0]
def Zy0:List IOp := [oI 112 (.bin .add (.t 84) (cI 1)) 0,mI 84 112 0]
def Zpa:CC := .seq (.rg false Zmq) (.seq (.cond (.t 85) .skip (.exit 2)) (.seq (.block 3 (.seq (.rg false Zyb) (.seq (.rg false Zxt) (.seq (.rg false Zyi) (.rg false Zx7))))) (.rg false Zy0)))
def Zxe:List IOp := [mI 114 0 0,mI 115 5 0,mI 116 0 0,mI 117 5 0,xI 118 1 116 117 0,lI 119 118 0,mI 120 9 0,oI 121 (.cvi .u32 (.t 120)) 0,mI 122 10 0,oI 123 (.call 170 [.t 119,.t 121,.t 122]) 0,mI 113 123 0,eI 124 0 113 0,eI 125 1 113 0,xI 126 1 114 115 0,⟨none,.st 1 (.t 126) (.t 124),0,[],[],none⟩,mI 10 125 0]
def Zxf:List IOp := [mI 127 10 0,oI 128 (.bin .gtr (.t 127) (.c (.int .u32 0))) 0]
def Zyq:List IOp := [mI 129 7 0,oI 130 (.bin .sub (.t 129) (.c (.int .u64 1))) 0,mI 7 130 0]
def Zy5:List IOp := [oI 13 (.mv (.c (.int .u32 0))) 0]
def Zw0:List IOp := [mI 131 1 0,oI 132 (.len (.t 131)) 0,oI 133 (.mv (cI 0)) 0]
def Zma:List IOp := [oI 134 (.bin .lss (.t 133) (.t 132)) 0]
def Zxq:List IOp := [mI 135 133 0,mI 14 135 0]
def Zmh:List IOp := [mI 137 0 0,mI 138 14 0,mI 139 0 0,mI 140 14 0,xI 141 1 139 140 0,lI 142 141 0,mI 143 1 0,mI 144 14 0,xI 145 1 143 144 0,lI 146 145 0,mI 147 13 0,oI 148 (.call 169 [.t 142,.t 146,.t 147]) 0,mI 136 148 0,eI 149 0 136 0,eI 150 1 136 0,xI 151 1 137 138 0,⟨none,.st 1 (.t 151) (.t 149),0,[],[],none⟩,mI 13 150 0]
@[go_sem ↓] theorem Z7v : autoK Zmh = (0, 1) := by kernel_rfl
@[go_sem] theorem Ysn : autoK [mI 137 0 0, mI 138 14 0, mI 139 0 0, mI 140 14 0, xI 141 1 139 140 0, lI 142 141 0, mI 143 1 0, mI 144 14 0, xI 145 1 143 144 0, lI 146 145 0, mI 147 13 0, oI 148 (.call 169 [.t 142, .t 146, .t 147]) 0, mI 136 148 0, eI 149 0 136 0, eI 150 1 136 0, xI 151 1 137 138 0, ⟨none, .st 1 (.t 151) (.t 149), 0, [], [], none⟩, mI 13 150 0] = (0, 1) := Z7v
def Zwz:List IOp := [oI 152 (.bin .add (.t 133) (cI 1)) 0,mI 133 152 0]
def Zp0:CC := .seq (.rg false Zma) (.seq (.cond (.t 134) .skip (.exit 4)) (.seq (.block 5 (.seq (.rg false Zxq) (.rg true Zmh))) (.rg false Zwz)))
def Zxs:List IOp := [mI 153 0 0,mI 154 5 0,xI 155 1 153 154 0,lI 156 155 0,mI 157 13 0,oI 158 (.bin .add (.t 156) (.t 157)) 0,xI 159 1 153 154 0,⟨none,.st 1 (.t 159) (.t 158),0,[],[],none⟩]
def Zmi:List IOp := [mI 160 7 0,oI 161 (.cvi .u32 (.t 160)) 0,mI 4 161 0]
def Yc9:CC := .seq (.rg false Z0u) (.seq (.rg false Z3c) (.seq (.rg true Zp3) (.seq (.rg true Zox) (.seq (.block 0 (.loop Zot)) (.seq (.rg false Z02) (.seq (.seq (.rg false Zxo) (.block 2 (.loop Zpa))) (.seq (.rg false Zxe) (.seq (.seq (.rg false Zxf) (.cond (.t 128) (.seq (.rg false Zyq) (.seq (.rg false Zy5) (.seq (.seq (.rg false Zw0) (.block 4 (.loop Zp0))) (.rg false Zxs)))) .skip)) (.seq (.rg false Zmi) .ret)))))))))
abbrev Ynh:Nat:=180
theorem Yjg:fnOk Tryz.prog 180=some (162,Yc9,[.tmp 4]):=by kernel_rfl
def Z5r:List IOp := [oI 4 (.mv (.c .nils)) 0,oI 5 (.mv (.c .nils)) 0]
def Z6z:List IOp := [mI 14 0 0,mI 15 1 0,oI 16 (.call 140 [.t 14,.t 15]) 0,oI 17 (.bin .lss (.t 16) (cI 0)) 0]
def Z4w:List IOp := [mI 18 0 0,oI 19 (.app none 4 (.c .nils) (.t 18)) 0,oI 4 (.mv (.c .nils)) 1,mI 5 19 1]
def Z6c:List IOp := [mI 20 1 0,oI 21 (.len (.t 20)) 0,oI 22 (.bin .eql (.t 21) (cI 1)) 0]
def Z6h:List IOp := [mI 24 0 0,mI 25 1 0,oI 26 (.idx 1 (.t 25) (cI 0)) 0,lI 27 26 0,oI 28 (.call 145 [.t 24,.t 27]) 0,mI 23 28 0,eI 29 0 23 0,eI 30 1 23 0,mI 6 29 0,mI 7 30 0]
def Z48:List IOp := [mI 31 6 0,mI 32 7 0,oI 33 (.bsl none 1 [.int .u32 0] [(0,.t 32)]) 0,oI 34 (.call 147 [.t 33]) 1,mI 4 31 1,mI 5 34 1]
def Z6n:List IOp := [mI 35 1 0,mI 36 1 0,oI 37 (.len (.t 36)) 0,oI 38 (.bin .sub (.t 37) (cI 1)) 0,xI 39 1 35 38 0,lI 40 39 0,oI 41 (.call 178 [.t 40]) 0,mI 8 41 0]
def Z6p:List IOp := [mI 42 1 0,mI 43 8 0,oI 44 (.call 179 [.t 42,.t 43]) 0,oI 45 (.call 147 [.t 44]) 0,mI 46 0 0,mI 47 8 0,oI 48 (.call 179 [.t 46,.t 47]) 0,mI 9 45 0,mI 10 48 0]
def Z5m:List IOp := [mI 49 9 0,oI 50 (.len (.t 49)) 0,mI 11 50 0]
def Z2f:List IOp := [mI 51 0 0,oI 52 (.len (.t 51)) 0,mI 53 11 0,oI 54 (.bin .sub (.t 52) (.t 53)) 0,oI 55 (.bin .add (.t 54) (cI 1)) 0,oI 56 (.mks none 4 [.int .u32 0] (.t 55) (.t 55)) 0,mI 12 56 1]
def Z1w:List IOp := [mI 57 0 0,oI 58 (.len (.t 57)) 0,mI 59 11 0,oI 60 (.bin .sub (.t 58) (.t 59)) 0,mI 13 60 0]
def Zo0:List IOp := [mI 61 13 0,oI 62 (.bin .geq (.t 61) (cI 0)) 0]
def Z1y:List IOp := [mI 65 12 0,mI 66 13 0,mI 67 10 0,mI 68 13 0,mI 69 13 0,mI 70 11 0,oI 71 (.bin .add (.t 69) (.t 70)) 0,oI 72 (.bin .add (.t 71) (cI 1)) 0,oI 73 (.slc 1 (.t 67) (some (.t 68)) (some (.t 72))) 0,mI 74 9 0,oI 75 (.call 180 [.t 73,.t 74]) 0,xI 76 1 65 66 0,⟨none,.st 1 (.t 76) (.t 75),0,[],[],none⟩]
def Z0y:List IOp := [mI 63 13 0,oI 64 (.bin .sub (.t 63) (cI 1)) 0,mI 13 64 0]
def Zsk:CC := .seq (.seq (.rg false Zo0) (.cond (.t 62) .skip (.exit 0))) (.seq (.block 1 (.rg false Z1y)) (.rg false Z0y))
def Zob:List IOp := [mI 77 12 0,oI 78 (.call 147 [.t 77]) 0,mI 79 10 0,mI 80 11 0,oI 81 (.slc 1 (.t 79) none (some (.t 80))) 0,oI 82 (.call 147 [.t 81]) 0,mI 83 8 0,oI 84 (.callw 181 [.t 82,.t 83]) 0,mI 4 78 0,mI 5 84 0]
@[go_sem ↓] theorem Z86 : autoK Zob = (0, 0) := by kernel_rfl
@[go_sem] theorem Yt8 : autoK [mI 77 12 0, oI 78 (.call 147 [.t 77]) 0, mI 79 10 0, mI 80 11 0, oI 81 (.slc 1 (.t 79) none (some (.t 80))) 0, oI 82 (.call 147 [.t 81]) 0, mI 83 8 0, oI 84 (.callw 181 [.t 82, .t 83]) 0, mI 4 78 0, mI 5 84 0] = (0, 0) := Z86
def Yg9:CC := .seq (.rg false Z5r) (.seq (.seq (.rg false Z6z) (.cond (.t 17) (.seq (.rg false Z4w) .ret) .skip)) (.seq (.seq (.rg false Z6c) (.cond (.t 22) (.seq (.rg false Z6h) (.seq (.rg false Z48) .ret)) .skip)) (.seq (.rg false Z6n) (.seq (.rg false Z6p) (.seq (.rg false Z5m) (.seq (.rg false Z2f) (.seq (.seq (.rg false Z1w) (.block 0 (.loop Zsk))) (.seq (.rg true Zob) .ret))))))))
abbrev Ytl:Nat:=167
theorem Yl7:fnOk Tryz.prog 167=some (85,Yg9,[.tmp 4,.tmp 5]):=by kernel_rfl
def Zvo:List IOp := [oI 4 (.alloc [.bool false,.nils]) 0]
def Zv8:List IOp := [mI 5 0 0,mI 6 5 0,gI 7 (.mv (.t 1)) 0 6 true,gI 8 (.len (.t 7)) 0 6 true,gI 9 (.bin .gtr (.t 8) (cI 0)) 0 6 true,oI 10 (.pick (.t 6) (.t 9) (.c (.bool false))) 0,mI 11 1 0,oI 12 (.build [.bool false,.nils] [(0,1,.t 10),(1,1,.t 11)]) 0,⟨none,.st 2 (.t 4) (.t 12),0,[],[],none⟩]
def Yh2:CC := .seq (.rg false Zvo) (.seq (.rg false Zv8) .ret)
abbrev Zny:Nat:=141
theorem Ymt:fnOk Tryz.prog 141=some (13,Yh2,[.cell 4 (some 2)]):=by kernel_rfl
def Ydh:List IOp := [oI 2 (.alloc [.bool false,.nils]) 0]
def Ydp:List IOp := [mI 4 0 0,oI 5 (.cvi .u64 (.t 4)) 0,mI 3 5 0]
def Yd1:List IOp := [mI 6 0 0,oI 7 (.bin .lss (.t 6) (cI 0)) 0]
def Yee:List IOp := [mI 8 3 0,oI 9 (.un .neg (.t 8)) 0,mI 3 9 0]
def Z4q:List IOp := [mI 10 0 0,oI 11 (.bin .lss (.t 10) (cI 0)) 0,mI 12 3 0,oI 13 (.cvi .u32 (.t 12)) 0,mI 14 3 0,oI 15 (.bin .shr (.t 14) (.c (.int .u64 32))) 0,oI 16 (.cvi .u32 (.t 15)) 0,oI 17 (.bsl none 2 [.int .u32 0] [(0,.t 13),(1,.t 16)]) 0,oI 18 (.call 147 [.t 17]) 1,oI 19 (.call 141 [.t 11,.t 18]) 1,⟨none,.st 2 (.t 2) (.t 19),1,[],[],none⟩]
def Yxj:CC := .seq (.rg false Ydh) (.seq (.rg false Ydp) (.seq (.seq (.rg false Yd1) (.cond (.t 7) (.rg false Yee) .skip)) (.seq (.rg false Z4q) .ret)))
abbrev Yn0:Nat:=123
theorem Yvc:fnOk Tryz.prog 123=some (20,Yxj,[.cell 2 (some 2)]):=by kernel_rfl
def Z6m:List IOp := [oI 1 (.box (.t 0)) 0,oI 2 (.mv (cI 0)) 1]
def Z67:List IOp := [fI 4 1 1 0,lI 5 4 0,oI 6 (.len (.t 5)) 0,oI 7 (.bin .eql (.t 6) (cI 0)) 0,mI 3 7 0]
def Z61:List IOp := [oI 2 (.mv (cI 0)) 0]
def Z5q:List IOp := [fI 9 0 1 0,lI 10 9 0,mI 8 10 0]
def Z65:List IOp := [oI 2 (.mv (cI (-1))) 0]
def Z5i:List IOp := [oI 2 (.mv (cI 1)) 0]
def Yh3:CC := .seq (.rg false Z6m) (.seq (.block 0 (.seq (.rg false Z67) (.cond (.t 3) (.seq (.rg false Z61) .ret) (.seq (.rg false Z5q) (.cond (.t 8) (.seq (.rg false Z65) .ret) .skip))))) (.seq (.rg false Z5i) .ret))
abbrev Yej:Nat:=130
theorem Yna:fnOk Tryz.prog 130=some (11,Yh3,[.tmp 2]):=by kernel_rfl
def Z8y:List IOp := [oI 1 (.box (.t 0)) 0,oI 2 (.alloc [.bool false,.nils]) 1]
def Yas:List IOp := [fI 3 0 1 0,lI 4 3 0,oI 5 (.un .not (.t 4)) 0,fI 6 1 1 0,lI 7 6 0,oI 8 (.call 141 [.t 5,.t 7]) 0,⟨none,.st 2 (.t 2) (.t 8),0,[],[],none⟩]
def Yoi:CC := .seq (.rg false Z8y) (.seq (.rg false Yas) .ret)
abbrev Yw0:Nat:=144
theorem Ytu:fnOk Tryz.prog 144=some (9,Yoi,[.cell 2 (some 2)]):=by kernel_rfl
def Zof:List IOp := [oI 2 (.box (.t 0)) 0,oI 3 (.box (.t 1)) 1,oI 4 (.alloc [.bool false,.nils]) 2]
def Zo3:List IOp := [fI 6 0 2 0,lI 7 6 0,fI 8 0 3 0,lI 9 8 0,oI 10 (.beq false (.t 7) (.t 9)) 0,mI 5 10 0]
def Zpg:List IOp := [fI 11 0 2 0,lI 12 11 0,fI 13 1 2 0,lI 14 13 0,fI 15 1 3 0,lI 16 15 0,oI 17 (.call 151 [.t 14,.t 16]) 0,oI 18 (.callw 141 [.t 12,.t 17]) 0,⟨none,.st 2 (.t 4) (.t 18),0,[],[],none⟩]
@[go_sem ↓] theorem Yfj : autoK Zpg = (0, 1) := by kernel_rfl
@[go_sem] theorem Y0a : autoK [fI 11 0 2 0, lI 12 11 0, fI 13 1 2 0, lI 14 13 0, fI 15 1 3 0, lI 16 15 0, oI 17 (.call 151 [.t 14, .t 16]) 0, oI 18 (.callw 141 [.t 12, .t 17]) 0, ⟨none, .st 2 (.t 4) (.t 18), 0, [], [], none⟩] = (0, 1) := Yfj
def Zzt:List IOp := [fI 20 1 2 0,lI 21 20 0,fI 22 1 3 0,lI 23 22 0,oI 24 (.call 140 [.t 21,.t 23]) 0,oI 25 (.bin .geq (.t 24) (cI 0)) 0,mI 19 25 0]
def Zom:List IOp := [fI 26 0 2 0,lI 27 26 0,fI 28 1 2 0,lI 29 28 0,fI 30 1 3 0,lI 31 30 0,oI 32 (.call 152 [.t 29,.t 31]) 0,oI 33 (.callw 141 [.t 27,.t 32]) 0,⟨none,.st 2 (.t 4) (.t 33),0,[],[],none⟩]
@[go_sem ↓] theorem Ygk : autoK Zom = (0, 1) := by kernel_rfl
@[go_sem] theorem Y0b : autoK [fI 26 0 2 0, lI 27 26 0, fI 28 1 2 0, lI 29 28 0, fI 30 1 3 0, lI 31 30 0, oI 32 (.call 152 [.t 29, .t 31]) 0, oI 33 (.callw 141 [.t 27, .t 32]) 0, ⟨none, .st 2 (.t 4) (.t 33), 0, [], [], none⟩] = (0, 1) := Ygk
def Zp5:List IOp := [fI 34 0 3 0,lI 35 34 0,fI 36 1 3 0,lI 37 36 0,fI 38 1 2 0,lI 39 38 0,oI 40 (.call 152 [.t 37,.t 39]) 0,oI 41 (.callw 141 [.t 35,.t 40]) 0,⟨none,.st 2 (.t 4) (.t 41),0,[],[],none⟩]
@[go_sem ↓] theorem Ygt : autoK Zp5 = (0, 1) := by kernel_rfl
@[go_sem] theorem Yz6 : autoK [fI 34 0 3 0, lI 35 34 0, fI 36 1 3 0, lI 37 36 0, fI 38 1 2 0, lI 39 38 0, oI 40 (.call 152 [.t 37, .t 39]) 0, oI 41 (.callw 141 [.t 35, .t 40]) 0, ⟨none, .st 2 (.t 4) (.t 41), 0, [], [], none⟩] = (0, 1) := Ygt
def Ypl:CC := .seq (.rg false Zof) (.seq (.block 0 (.seq (.rg false Zo3) (.cond (.t 5) (.seq (.rg true Zpg) .ret) (.seq (.rg false Zzt) (.cond (.t 19) (.seq (.rg true Zom) .ret) .skip))))) (.seq (.rg true Zp5) .ret))
abbrev Yu2:Nat:=129
theorem Ytq:fnOk Tryz.prog 129=some (42,Ypl,[.cell 4 (some 2)]):=by kernel_rfl
def Ybt:List IOp := [oI 2 (.box (.t 0)) 0,oI 3 (.box (.t 1)) 1,oI 4 (.alloc [.bool false,.nils]) 2]
def Zz3:List IOp := [lJ 5 2 2 0,lJ 6 2 3 0,oI 7 (.call 144 [.t 6]) 0,oI 8 (.callw 129 [.t 5,.t 7]) 0,⟨none,.st 2 (.t 4) (.t 8),0,[],[],none⟩]
@[go_sem ↓] theorem Yfk : autoK Zz3 = (0, 1) := by kernel_rfl
@[go_sem] theorem Y0f : autoK [lJ 5 2 2 0, lJ 6 2 3 0, oI 7 (.call 144 [.t 6]) 0, oI 8 (.callw 129 [.t 5, .t 7]) 0, ⟨none, .st 2 (.t 4) (.t 8), 0, [], [], none⟩] = (0, 1) := Yfk
def Yp5:CC := .seq (.rg false Ybt) (.seq (.rg true Zz3) .ret)
abbrev Yxp:Nat:=168
theorem Yta:fnOk Tryz.prog 168=some (9,Yp5,[.cell 4 (some 2)]):=by kernel_rfl
def Z90:List IOp := [oI 2 (.box (.t 0)) 0,oI 3 (.box (.t 1)) 1,oI 4 (.alloc [.bool false,.nils]) 2]
def Z0e:List IOp := [fI 5 0 2 0,lI 6 5 0,fI 7 0 3 0,lI 8 7 0,oI 9 (.beq true (.t 6) (.t 8)) 0,fI 10 1 2 0,lI 11 10 0,fI 12 1 3 0,lI 13 12 0,oI 14 (.call 149 [.t 11,.t 13]) 0,oI 15 (.callw 141 [.t 9,.t 14]) 0,⟨none,.st 2 (.t 4) (.t 15),0,[],[],none⟩]
@[go_sem ↓] theorem Ygl : autoK Z0e = (0, 1) := by kernel_rfl
@[go_sem] theorem Y0h : autoK [fI 5 0 2 0, lI 6 5 0, fI 7 0 3 0, lI 8 7 0, oI 9 (.beq true (.t 6) (.t 8)) 0, fI 10 1 2 0, lI 11 10 0, fI 12 1 3 0, lI 13 12 0, oI 14 (.call 149 [.t 11, .t 13]) 0, oI 15 (.callw 141 [.t 9, .t 14]) 0, ⟨none, .st 2 (.t 4) (.t 15), 0, [], [], none⟩] = (0, 1) := Ygl
def Yns:CC := .seq (.rg false Z90) (.seq (.rg true Z0e) .ret)
abbrev Yve:Nat:=125
theorem Yrj:fnOk Tryz.prog 125=some (16,Yns,[.cell 4 (some 2)]):=by kernel_rfl
def Z9m:List IOp := [oI 2 (.box (.t 0)) 0,oI 3 (.box (.t 1)) 1,oI 4 (.mv (cI 0)) 2]
def Yby:List IOp := [lJ 5 2 2 0,lJ 6 2 3 0,oI 7 (.call 168 [.t 5,.t 6]) 0,oI 8 (.call 130 [.t 7]) 0,mI 4 8 0]
def Yo5:CC := .seq (.rg false Z9m) (.seq (.rg false Yby) .ret)
abbrev Yzr:Nat:=143
theorem Yqr:fnOk Tryz.prog 143=some (9,Yo5,[.tmp 4]):=by kernel_rfl
def Z96:List IOp := [oI 2 (.box (.t 0)) 0,oI 3 (.box (.t 1)) 1,oI 4 (.alloc [.bool false,.nils]) 2]
def Z0i:List IOp := [fI 9 1 2 0,lI 10 9 0,fI 11 1 3 0,lI 12 11 0,mI 5 10 0,mI 6 12 0]
@[go_sem ↓] theorem Ygv : autoK Z0i = (0, 0) := by kernel_rfl
@[go_sem] theorem Yz9 : autoK [fI 9 1 2 0, lI 10 9 0, fI 11 1 3 0, lI 12 11 0, mI 5 10 0, mI 6 12 0] = (0, 0) := Ygv
def Zze:List IOp := [mI 13 6 0,oI 14 (.len (.t 13)) 0,oI 15 (.bin .gtr (.t 14) (cI 0)) 0]
def Z92:List IOp := [mI 17 5 0,mI 18 6 0,oI 19 (.call 167 [.t 17,.t 18]) 0,mI 16 19 0,eI 20 0 16 0,eI 21 1 16 0,mI 7 20 0,mI 8 21 0]
def Ybs:List IOp := [mI 22 6 0,mI 23 8 0,mI 5 22 0,mI 6 23 0]
def Ybx:CC := .seq (.seq (.rg false Zze) (.cond (.t 15) .skip (.exit 0))) (.block 1 (.seq (.rg false Z92) (.rg false Ybs)))
def Z9u:List IOp := [mI 24 5 0,oI 25 (.call 141 [.c (.bool false),.t 24]) 0,⟨none,.st 2 (.t 4) (.t 25),0,[],[],none⟩]
def Ypo:CC := .seq (.rg false Z96) (.seq (.rg true Z0i) (.seq (.block 0 (.loop Ybx)) (.seq (.rg false Z9u) .ret)))
abbrev Yyx:Nat:=142
theorem Yrr:fnOk Tryz.prog 142=some (26,Ypo,[.cell 4 (some 2)]):=by kernel_rfl
def Z88:List IOp := [oI 2 (.box (.t 0)) 0,oI 3 (.box (.t 1)) 1,oI 4 (.alloc [.bool false,.nils]) 2,oI 5 (.alloc [.bool false,.nils]) 3]
def Yam:List IOp := [fI 11 1 2 0,lI 12 11 0,fI 13 1 3 0,lI 14 13 0,oI 15 (.call 167 [.t 12,.t 14]) 0,mI 10 15 0,eI 16 0 10 0,eI 17 1 10 0,mI 6 16 0,mI 7 17 0]
def Zz4:List IOp := [fI 18 0 2 0,lI 19 18 0,fI 20 0 3 0,lI 21 20 0,oI 22 (.beq true (.t 19) (.t 21)) 0,mI 23 6 0,oI 24 (.call 141 [.t 22,.t 23]) 0,fI 25 0 2 0,lI 26 25 0,mI 27 7 0,oI 28 (.call 141 [.t 26,.t 27]) 0,oI 8 (.alloc [.bool false,.nils]) 0,oI 9 (.alloc [.bool false,.nils]) 1,⟨none,.st 2 (.t 8) (.t 24),2,[0,1],[],none⟩,⟨none,.st 2 (.t 9) (.t 28),2,[0,1],[],none⟩]
@[go_sem ↓] theorem Yfp : autoK Zz4 = (2, 1) := by kernel_rfl
@[go_sem] theorem Yz0 : autoK [fI 18 0 2 0, lI 19 18 0, fI 20 0 3 0, lI 21 20 0, oI 22 (.beq true (.t 19) (.t 21)) 0, mI 23 6 0, oI 24 (.call 141 [.t 22, .t 23]) 0, fI 25 0 2 0, lI 26 25 0, mI 27 7 0, oI 28 (.call 141 [.t 26, .t 27]) 0, oI 8 (.alloc [.bool false, .nils]) 0, oI 9 (.alloc [.bool false, .nils]) 1, ⟨none, .st 2 (.t 8) (.t 24), 2, [0, 1], [], none⟩, ⟨none, .st 2 (.t 9) (.t 28), 2, [0, 1], [], none⟩] = (2, 1) := Yfp
def Zpe:List IOp := [mI 29 7 0,oI 30 (.len (.t 29)) 0,oI 31 (.bin .gtr (.t 30) (cI 0)) 0,mI 32 31 0,gI 33 (.fa 0 (.t 2)) 0 32 true,gI 34 (.ld none (.t 33)) 0 32 true,gI 35 (.fa 0 (.t 3)) 0 32 true,gI 36 (.ld none (.t 35)) 0 32 true,gI 37 (.beq true (.t 34) (.t 36)) 0 32 true,oI 38 (.pick (.t 32) (.t 37) (.c (.bool false))) 0]
def Zzn:List IOp := [lJ 39 2 8 0,oI 40 (.call 123 [cI 1]) 0,oI 41 (.call 168 [.t 39,.t 40]) 0,lJ 42 2 9 0,lJ 43 2 3 0,oI 44 (.callw 129 [.t 42,.t 43]) 0,⟨none,.st 2 (.t 8) (.t 41),0,[],[],none⟩,⟨none,.st 2 (.t 9) (.t 44),0,[],[],none⟩]
@[go_sem ↓] theorem Ygg : autoK Zzn = (0, 1) := by kernel_rfl
@[go_sem] theorem Yzx : autoK [lJ 39 2 8 0, oI 40 (.call 123 [cI 1]) 0, oI 41 (.call 168 [.t 39, .t 40]) 0, lJ 42 2 9 0, lJ 43 2 3 0, oI 44 (.callw 129 [.t 42, .t 43]) 0, ⟨none, .st 2 (.t 8) (.t 41), 0, [], [], none⟩, ⟨none, .st 2 (.t 9) (.t 44), 0, [], [], none⟩] = (0, 1) := Ygg
def Zj3:List IOp := [lJ 45 2 8 0,⟨some 46,.ld (some 2) (.t 9),0,[],[0],none⟩,⟨none,.st 2 (.t 4) (.t 45),0,[],[],none⟩,⟨none,.st 2 (.t 5) (.t 46),0,[],[],none⟩]
@[go_sem ↓] theorem Yg1 : autoK Zj3 = (0, 2) := by kernel_rfl
@[go_sem] theorem Y0e : autoK [lJ 45 2 8 0, ⟨some 46, .ld (some 2) (.t 9), 0, [], [0], none⟩, ⟨none, .st 2 (.t 4) (.t 45), 0, [], [], none⟩, ⟨none, .st 2 (.t 5) (.t 46), 0, [], [], none⟩] = (0, 2) := Yg1
def Yom:CC := .seq (.rg false Z88) (.seq (.rg false Yam) (.seq (.rg true Zz4) (.seq (.seq (.rg false Zpe) (.cond (.t 38) (.rg true Zzn) .skip)) (.seq (.rg true Zj3) .ret))))
abbrev Ywe:Nat:=148
theorem Yqq:fnOk Tryz.prog 148=some (47,Yom,[.cell 4 (some 2),.cell 5 (some 2)]):=by kernel_rfl
end GoAbs
namespace GoAbs
open Go Go.Proofs
theorem mixed:Tryz.prog.follows .mixedOrders=true:=by kernel_rfl
attribute [go_sem] mixed Zg5
theorem Zc1 (l:List Nat) (hl:l.length≤1099511627776):SpecV Tryz.prog Ys8 [.sl (u32c l)] (.sl (u32c (trimL l))):=by
 refine Zae Ylp (by simp) ?_
 unfold Yjh
 simp only [go_sem,Z5a]
 refine Yhr (fun n:Nat=>⟨envL [(0,.sl (u32c (l.take n)))],[]⟩) (fun n=>n≤l.length∧trimL (l.take n)=trimL l) id l.length ⟨Nat.le_refl _,by simp⟩ ?_ (fun n hn=>?_)
 ·exact Zab _ (by simp [go_sem])
 ·obtain ⟨h1,h2⟩:=hn
  apply T_W
  have e1:(u32c (l.take n)).length=n:=by simp [Zad]; omega
  cases n with
  | zero =>
   unfold Ztw
   simp only [go_sem,Zve,Zvf,Zst,e1]
   simp only [List.take_zero] at h2
   simp [← h2,Z2e,Zg5]
  | succ m =>
   have e2:IntKind.i64.wrap (((m+1:Nat):Int) - 1)=(m:Int):=by rw [Zac (by omega) (by omega)]; omega
   have hm:l[m]? = some l[m]:=List.getElem?_eq_getElem (by omega)
   have e3:(u32c (l.take (m+1)))[m]? = some (.int .u32 (l[m]:Nat)):=Zap (by rw [List.getElem?_take_of_lt (by omega)]; exact hm)
   have e4:l.take (m+1)=l.take m ++ [l[m]]:=by simp
   have e5:trimL l=if l[m]=0 then trimL (l.take m) else l.take (m+1):=by rw [← h2,e4,Z39]
   have hpos:(0:Int)<((m+1:Nat):Int):=by omega
   have hnn:(0:Int)≤(m:Int):=by omega
   unfold Ztw
   simp only [go_sem,Zve,Zvf,Zst,e1,e2,e3,hpos,hnn]
   refine ⟨fun h0=>⟨by omega,by omega,Ygo,m,⟨by omega,?_⟩,by simp,?_⟩,fun h0=>?_⟩
   ·rw [e5,if_pos (by omega)]
   ·exact Zab _ (by simp [go_sem,Ykl,List.take_take])
   ·rw [e5,if_neg (by omega)]
theorem Yxw (neg:Bool) (l:List Nat):SpecV Tryz.prog Yej [.agg [.bool neg,.sl (u32c l)]] (.int .i64 (if l = [] then 0 else if neg then -1 else 1)):=by
 refine Zae Yna (by simp) ?_
 unfold Yh3
 cases neg <;>
 simp only [go_sem,Z6m,Z67,Z61,Z5q,Z65,Z5i,Zad] <;>
 cases l <;> simp <;> omega
def cmpTop:Nat→List Nat→List Nat→Int
 | 0,_,_=>0
 | n+1,a,b=>if a.getD n 0<b.getD n 0 then -1 else if b.getD n 0<a.getD n 0 then 1 else cmpTop n a b
def cmpL (a b:List Nat):Int:=if a.length<b.length then -1 else if b.length<a.length then 1 else cmpTop a.length a b
theorem Yif (a b:List Nat) (ha:a.length≤1099511627776) (hb:b.length≤1099511627776):SpecV Tryz.prog Z2o [.sl (u32c a),.sl (u32c b)] (.int .i64 (cmpL a b)):=by
 refine Zae Yck (by simp) ?_
 unfold Z5o
 simp only [go_sem,Zva,Zsw,Zt3,Zsh,Zv2,Zsi,Zad]
 refine ⟨fun h=>⟨fun h1=>(by unfold cmpL; rw [if_pos (by omega)]),fun h1=>(by unfold cmpL; rw [if_neg (by omega),if_pos (by omega)])⟩,fun h=>?_⟩
 have hab:a.length=b.length:=by omega
 refine Yhr (fun n:Nat=>⟨envL [(0,.sl (u32c a)),(1,.sl (u32c b)),(5,.int .i64 ((n:Int) - 1))],[]⟩) (fun n=>n≤a.length∧cmpTop n a b=cmpL a b) id a.length
  ⟨Nat.le_refl _,by unfold cmpL; rw [if_neg (by omega),if_neg (by omega)]⟩ (Zab _ (by simp only [go_sem]; rw [Zac (by omega) (by omega)])) (fun n hn=>T_W ?_)
 obtain ⟨h1,h2⟩:=hn
 cases n with
 | zero =>
  unfold Zjd
  simp only [go_sem,Zjs,Zqh]
  refine ⟨fun h=>by omega,fun _=>?_⟩
  rw [← h2]; rfl
 | succ m =>
  have e0:(((m+1:Nat):Int) - 1)=(m:Int):=by omega
  have e2:IntKind.i64.wrap ((m:Int) - 1)=(m:Int) - 1:=Zac (by omega) (by omega)
  have hnn:(0:Int)≤(m:Int):=by omega
  have ga:a[m]? = some (a.getD m 0):=by rw [List.getD_eq_getElem?_getD,List.getElem?_eq_getElem (show m<a.length by omega)]; rfl
  have gb:b[m]? = some (b.getD m 0):=by rw [List.getD_eq_getElem?_getD,List.getElem?_eq_getElem (show m<b.length by omega)]; rfl
  unfold Zjd
  simp only [go_sem,Zjs,Zkm,Zjg,Zqs,Zq7,Zqy,e0,e2,hnn,Zap ga,Zap gb]
  unfold cmpTop at h2
  refine ⟨fun h3=>⟨fun h4=>?_,fun h4=>?_⟩,fun h3=>⟨m,⟨by omega,?_⟩,by simp,Zab _ (by simp [go_sem])⟩⟩
  ·rw [← h2,if_pos (by omega)]
  ·rw [← h2,if_neg (by omega),if_pos (by omega)]
  ·rw [← h2,if_neg (by omega),if_neg (by omega)]
theorem Ydf (x y c:Nat) (hx:x<4294967296) (hy:y<4294967296) (hc:c≤1):SpecV Tryz.prog Z68 [.int .u32 x,.int .u32 y,.int .u32 c] (.tup [.int .u32 ((x+y+c) % 4294967296:Nat),.int .u32 ((x+y+c) / 4294967296:Nat)]):=by
 refine Zae Yeu (by simp) ?_
 unfold Z9z
 have e1:IntKind.u64.wrap (x:Int)=x:=Za1 (by omega) (by omega)
 have e2:IntKind.u64.wrap (y:Int)=y:=Za1 (by omega) (by omega)
 have e3:IntKind.u64.wrap (c:Int)=c:=Za1 (by omega) (by omega)
 have e4:IntKind.u64.wrap ((x:Int)+y)=(x+y:Nat):=by rw [Za1 (by omega) (by omega)]; omega
 have e5:IntKind.u64.wrap (((x+y:Nat):Int)+c)=(x+y+c:Nat):=by rw [Za1 (by omega) (by omega)]; omega
 simp only [go_sem,Zx5,Zw4,Zyz,Zw8,e1,e2,e3,e4,e5]
 have h32:(32:Int)=((32:Nat):Int):=rfl
 refine ⟨?_,?_⟩
 ·rw [Zzy]
 ·rw [h32,Zeh _ _ _ (by decide),Zf0 (by omega) (by omega)]
theorem Yls {x y d c:Nat}(hx:x<4294967296) (hy:y<4294967296) (hc:c≤1) (hd:d=(x+4294967296+4294967296 - y - c) % 4294967296) :
  (((4294967295 - x) &&& y) ||| ((4294967295 - (x ^^^ y)) &&& d)) / 2147483648=if x<y+c then 1 else 0:=by
 have hdl:d<4294967296:=by omega
 have tx:(BitVec.ofNat 32 x).toNat=x:=by rw [BitVec.toNat_ofNat,Nat.mod_eq_of_lt hx]
 have ty:(BitVec.ofNat 32 y).toNat=y:=by rw [BitVec.toNat_ofNat,Nat.mod_eq_of_lt hy]
 have td:(BitVec.ofNat 32 d).toNat=d:=by rw [BitVec.toNat_ofNat,Nat.mod_eq_of_lt hdl]
 have hv:((~~~ BitVec.ofNat 32 x &&& BitVec.ofNat 32 y) ||| (~~~ (BitVec.ofNat 32 x ^^^ BitVec.ofNat 32 y) &&& BitVec.ofNat 32 d)).toNat=((4294967295 - x) &&& y) ||| ((4294967295 - (x ^^^ y)) &&& d):=by
  rw [BitVec.toNat_or,BitVec.toNat_and,BitVec.toNat_and,BitVec.toNat_not,BitVec.toNat_not,BitVec.toNat_xor,tx,ty,td]
 rw [← hv]
 have h1:=BitVec.msb_eq_decide ((~~~ BitVec.ofNat 32 x &&& BitVec.ofNat 32 y) ||| (~~~ (BitVec.ofNat 32 x ^^^ BitVec.ofNat 32 y) &&& BitVec.ofNat 32 d))
 have hlt:=((~~~ BitVec.ofNat 32 x &&& BitVec.ofNat 32 y) ||| (~~~ (BitVec.ofNat 32 x ^^^ BitVec.ofNat 32 y) &&& BitVec.ofNat 32 d)).isLt
 have mx:(BitVec.ofNat 32 x).msb=decide (2147483648≤x):=by rw [BitVec.msb_eq_decide,tx]
 have my:(BitVec.ofNat 32 y).msb=decide (2147483648≤y):=by rw [BitVec.msb_eq_decide,ty]
 have md:(BitVec.ofNat 32 d).msb=decide (2147483648≤d):=by rw [BitVec.msb_eq_decide,td]
 rw [BitVec.msb_or,BitVec.msb_and,BitVec.msb_and,BitVec.msb_not,BitVec.msb_not,BitVec.msb_xor,mx,my,md] at h1
 generalize ((~~~ BitVec.ofNat 32 x &&& BitVec.ofNat 32 y) ||| (~~~ (BitVec.ofNat 32 x ^^^ BitVec.ofNat 32 y) &&& BitVec.ofNat 32 d)).toNat=v at h1 hlt
 have hb:v / 2147483648=if 2147483648≤v then 1 else 0:=by split <;> omega
 rw [hb]
 have h2:(2147483648≤v)↔(decide (2 ^ (32 - 1)≤v)=true):=by simp
 have h3:(2147483648≤v)↔x<y+c:=by
  rw [h2, ← h1]
  by_cases a1:2147483648≤x <;> by_cases a2:2147483648≤y <;> by_cases a3:2147483648≤d <;> simp [a1,a2,a3] <;> omega
 by_cases h4:x<y+c
 ·rw [if_pos h4,if_pos (h3.2 h4)]
 ·rw [if_neg h4,if_neg (fun h=>h4 (h3.1 h))]
theorem Yr3 (x y c:Nat) (hx:x<4294967296) (hy:y<4294967296) (hc:c≤1):SpecV Tryz.prog Z43 [.int .u32 x,.int .u32 y,.int .u32 c]
  (.tup [.int .u32 ((x+4294967296+4294967296 - y - c) % 4294967296:Nat),.int .u32 ((if x<y+c then 1 else 0:Nat):Int)]):=by
 refine Zae Yf8 (by simp) ?_
 unfold Yaj
 have e1:IntKind.u32.wrap (IntKind.u32.wrap ((x:Int) - y) - c)=((x+4294967296+4294967296 - y - c) % 4294967296:Nat):=by
  rw [IntKind.wrap_u32,IntKind.wrap_u32]; omega
 generalize hd:(x+4294967296+4294967296 - y - c) % 4294967296=d at e1 ⊢
 have hdl:d<4294967296:=by omega
 have hxy:x ^^^ y<2 ^ 32:=Nat.xor_lt_two_pow (by omega) (by omega)
 have e2:notI .u32 (x:Int)=_:=not32 hx
 have e3:andI .u32 ((4294967295 - x:Nat):Int) (y:Int)=_:=and32 (by omega) hy
 have e4:xorI .u32 (x:Int) (y:Int)=_:=xor32 hx hy
 have e5:notI .u32 ((x ^^^ y:Nat):Int)=_:=not32 (by omega)
 have e6:andI .u32 ((4294967295 - (x ^^^ y):Nat):Int) (d:Int)=_:=and32 (by omega) hdl
 have h7:(4294967295 - x) &&& y<2 ^ 32:=Nat.and_lt_two_pow _ (by omega)
 have h8:(4294967295 - (x ^^^ y)) &&& d<2 ^ 32:=Nat.and_lt_two_pow _ (by omega)
 have e7:=or32 (a:=(4294967295 - x) &&& y) (b:=(4294967295 - (x ^^^ y)) &&& d) (by omega) (by omega)
 have h31:(31:Int)=((31:Nat):Int):=rfl
 simp only [go_sem,Zxn,Zxw,Zyr,e1,e2,e3,e4,e5,e6,e7]
 rw [← Yls hx hy hc hd.symm,h31,Zeh _ _ _ (by decide)]
end GoAbs
namespace GoAbs
open Go Go.Proofs
def row (s:List Nat) (n:Nat):List Nat:=s++List.replicate (n - s.length) 0
theorem Yac {s:List Nat}{n:Nat}(h:s.length≤n):(row s n).length=n:=by simp [row]; omega
theorem Ye4 {s:List Nat}{n:Nat}(h:s.length=n):row s n=s:=by simp [row,h]
theorem Yfd {s:List Nat}{n x:Nat}(h:s.length<n):(row s n).set s.length x=row (s ++ [x]) n:=by
 unfold row
 rw [List.set_append_right _ _ (Nat.le_refl _),Nat.sub_self]
 obtain ⟨k,hk⟩:∃ k,n - s.length=k+1:=⟨n - s.length - 1,by omega⟩
 rw [hk,List.replicate_succ,List.set_cons_zero,List.append_assoc,List.length_append]
 have:n - (s.length + [x].length)=k:=by simp; omega
 rw [this]; rfl
theorem Zat {l:List Nat}{n x:Nat}(h:l[n]? = some x):val (l.take (n+1))=val (l.take n)+4294967296 ^ n*x:=by
 have hn:n<l.length:=(List.getElem?_eq_some_iff.1 h).1
 have h2:l.take (n+1)=l.take n ++ [x]:=by rw [List.take_add_one,h]; rfl
 rw [h2,Zbl,List.length_take,Nat.min_eq_left (by omega)]
 simp [val]
theorem Zbq {l:List Nat}{n:Nat}(h:l.length≤n):val (l.take n)=val l:=by rw [List.take_of_length_le h]
theorem Za5 {α:Type}{l:List α}{i:Nat}{x:α}(h:i<l.length):l.take i ++ [x]++l.drop (i+1)=l.set i x:=by
 simp [List.set_eq_take_append_cons_drop,h]
theorem getElem?_getD {l:List Nat}{n:Nat}(h:n<l.length):l[n]? = some (l.getD n 0):=by
 rw [List.getD_eq_getElem?_getD,List.getElem?_eq_getElem h]; rfl
theorem Yhn {a b:List Nat}(ha:Ok32 a) (hb:Ok32 b) (hla:a.length≤1099511627775) (hba:b.length≤a.length) :
  T Tryz.prog 54 0 (.seq (.rg false Zv1) (.seq (.rg false Zsb) (.seq (.seq (.rg false Ztv) (.block 0 (.loop Zts))) (.seq (.rg false Zp1) (.seq (.rg false Zo1) .ret)))))
   ⟨envL [(0,.sl (u32c a)),(1,.sl (u32c b))],[]⟩ (retQ [.tmp 4] (.sl (u32c (limbs (val a+val b))))):=by
 apply T_W
 have e1:IntKind.i64.wrap ((a.length:Int)+1)=(a.length+1:Nat):=by rw [Zac (by omega) (by omega)]; omega
 simp only [go_sem,Zv1,Zsb,Ztv,Zad,e1,Zok]
 refine ⟨by omega,by omega,by omega,?_⟩
 refine Zag (fun x:List Nat×Nat=>⟨envL [(0,.sl (u32c a)),(1,.sl (u32c b)),(5,.osl none 0 0 (a.length+1)),(6,.int .u32 (x.2:Int)),(21,.int .i64 (a.length:Int)),(22,.int .i64 (x.1.length:Int))],[.cells (u32c (row x.1 (a.length+1)))]⟩)
  (fun x=>x.1.length≤a.length∧x.2≤1∧Ok32 x.1∧val x.1+4294967296 ^ x.1.length*x.2=val (a.take x.1.length)+val (b.take x.1.length)) (fun x=>a.length - x.1.length) ([],0)
  ⟨by simp,by simp,by intro x hx; simp at hx,by simp [val]⟩ (by
   have:List.replicate (a.length+1) 0=row [] (a.length+1):=by simp [row]
   rw [this]; exact Zab _ (by simp [go_sem])) (fun x hx N hN=>?_)
 obtain ⟨s,c⟩:=x
 obtain ⟨h1,h2,h3,h4⟩:=hx
 simp only at h1 h2 h3 h4 ⊢
 unfold Zts
 by_cases hn:s.length<a.length
 ·have ga:=getElem?_getD hn
  have hga:=ha.get ga
  have e2:IntKind.i64.wrap ((s.length:Int)+1)=(s.length+1:Nat):=by rw [Zac (by omega) (by omega)]; omega
  have hp:(s.length:Int)<(a.length:Int):=by omega
  have hnn:(0:Int)≤(s.length:Int):=by omega
  
  have step:∀ y:Nat,y<4294967296→val (b.take (s.length+1))=val (b.take s.length)+4294967296 ^ s.length*y →
    (val (s ++ [(a.getD s.length 0+y+c) % 4294967296])+4294967296 ^ (s.length+1)*((a.getD s.length 0+y+c) / 4294967296)=val (a.take (s.length+1))+val (b.take (s.length+1))):=fun y hy hby=>by
   rw [Zbl,Zat ga,hby]
   simp only [val,Nat.mul_zero,Nat.add_zero]
   have e:4294967296 ^ s.length*((a.getD s.length 0+y+c) % 4294967296)+4294967296 ^ (s.length+1)*((a.getD s.length 0+y+c) / 4294967296)=4294967296 ^ s.length*(a.getD s.length 0+y+c):=by
    rw [Nat.pow_succ,Nat.mul_assoc, ← Nat.mul_add,Nat.mod_add_div]
   rw [Nat.add_assoc,e,Nat.mul_add,Nat.mul_add]
   omega
  have rset:(u32c (row s (a.length+1))).length=a.length+1:=by rw [Zad,Yac (by omega)]
  have fin:∀ y:Nat,y<4294967296→val (b.take (s.length+1))=val (b.take s.length)+4294967296 ^ s.length*y→∀ (e:Nat→AV),
    e 0 = .sl (u32c a)→e 1 = .sl (u32c b)→e 5 = .osl none 0 0 (a.length+1)→e 6 = .int .u32 (((a.getD s.length 0+y+c) / 4294967296:Nat):Int)→e 21 = .int .i64 (a.length:Int)→e 22 = .int .i64 ((s.length+1:Nat):Int) →
    N ⟨e,[.cells ((u32c (row s (a.length+1))).set s.length (.int .u32 (((a.getD s.length 0+y+c) % 4294967296:Nat):Int)))]⟩:=fun y hy hby e q1 q2 q3 q4 q5 q6=>by
   refine hN (s ++ [(a.getD s.length 0+y+c) % 4294967296],(a.getD s.length 0+y+c) / 4294967296) _ ⟨by simp; omega,by simp only; omega,?_,?_⟩ (by simp; omega) ?_
   ·exact h3.append (fun z hz=>by simp at hz; omega)
   ·simpa using step y hy hby
   ·rw [Zcs,Yfd (by omega)]
    exact Zab _ (by simp only [Has,q1,q2,q3,q4,q5,q6]; simp)
  have call:∀ {C:AV→Heap→Prop} {H:Heap} (y:Nat),y<4294967296→C (.tup [.int .u32 ((a.getD s.length 0+y+c) % 4294967296:Nat),.int .u32 ((a.getD s.length 0+y+c) / 4294967296:Nat)]) H →
    callC Tryz.prog none 169 H [.int .u32 (a.getD s.length 0:Nat),.int .u32 (y:Nat),.int .u32 (c:Nat)] C:=fun y hy h =>
   Zlk (Ydf _ y c hga hy h2) (ids := []) (by simp only [go_sem]) (.inl rfl) (fun b hb=>by simp at hb) h
  simp only [go_sem,Zt1,Z5k,Z7l,Z2c,Z15,Z07,Z19,Zad,hp,hnn,Zap ga]
  refine ⟨fun hb1=>?_,fun hb1=>?_⟩
  ·have gb:=getElem?_getD (show s.length<b.length by omega)
   simp only [go_sem,hnn,hp,Zap ga,Zap gb]
   refine call _ (hb.get gb) ?_
   simp only [go_sem,e2]
   rw [Za5 (by rw [rset]; omega)]
   exact ⟨hnn,by omega,by rw [rset]; omega,fin _ (hb.get gb) (Zat gb) _ (by simp only [go_sem]) (by simp only [go_sem]) (by simp only [go_sem]) (by simp only [go_sem]) (by simp only [go_sem]) (by simp only [go_sem])⟩
  ·refine call 0 (by omega) ?_
   simp only [go_sem,e2]
   rw [Za5 (by rw [rset]; omega)]
   have hb0:val (b.take (s.length+1))=val (b.take s.length)+4294967296 ^ s.length*0:=by
    rw [Zbq (by omega),Zbq (by omega)]; omega
   exact ⟨hnn,by omega,by rw [rset]; omega,fin 0 (by omega) hb0 _ (by simp only [go_sem]) (by simp only [go_sem]) (by simp only [go_sem]) (by simp only [go_sem]) (by simp only [go_sem]) (by simp only [go_sem])⟩
 ·have hsa:s.length=a.length:=by omega
  have hp:¬ (s.length:Int)<(a.length:Int):=by omega
  have hnn:(0:Int)≤(a.length:Int):=by omega
  have rset:(u32c (row s (a.length+1))).length=a.length+1:=by rw [Zad,Yac (by omega)]
  simp only [go_sem,Zt1,hp,Zp1,Zo1,Zad,hnn]
  have hset:(u32c (row s (a.length+1))).set a.length (.int .u32 (c:Int))=u32c (s ++ [c]):=by
   rw [Zcs, ← hsa,Yfd (by omega),Ye4 (by simp)]
  rw [Za5 (by rw [rset]; omega),hset]
  refine ⟨by omega,by rw [Yac (by omega)]; omega,?_⟩
  have hok:Ok32 (s ++ [c]):=h3.append (fun z hz=>by simp at hz; omega)
  refine Zhl (ids := [0]) (Zc1 (s ++ [c]) (by simp; omega)) ?_ ?_
  ·simp only [go_sem]
   exact Zde rfl (by simp) (by simp; omega) (by rw [List.drop_zero,List.take_of_length_le (by rw [Zad]; simp; omega)])
  ·simp only [go_sem]
   have hv:val (s ++ [c])=val a+val b:=by
    rw [Zbl]
    simp only [val,Nat.mul_zero,Nat.add_zero]
    rw [h4,Zbq (by omega),Zbq (by omega)]
   rw [← hv,Zc3 hok]
theorem Ywr {a b:List Nat}(ha:Ok32 a) (hb:Ok32 b) (hla:a.length≤1099511627775) (hlb:b.length≤1099511627775) :
  SpecV Tryz.prog Yea [.sl (u32c a),.sl (u32c b)] (.sl (u32c (limbs (val a+val b)))):=by
 refine Zbr Yk8 (by simp) ?_
 unfold Yh8
 refine Znw (T_W ?_)
 simp only [go_sem,Z6d]
 refine Znw (T_W ?_)
 simp only [go_sem,Z50,Z6x,Zad]
 refine ⟨fun h=>?_,fun h=>?_⟩
 ·rw [Nat.add_comm]
  exact Za2 [(0,.sl (u32c b)),(1,.sl (u32c a))] (by simp only [go_sem]) (Yhn hb ha hlb (by omega))
 ·exact Za2 [(0,.sl (u32c a)),(1,.sl (u32c b))] (by simp only [go_sem]) (Yhn ha hb hla (by omega))
end GoAbs
namespace GoAbs
open Go Go.Proofs
theorem Y3h (x y c:Nat) (hx:x<4294967296) (hy:y<4294967296) (hc:c≤1) :
  x+4294967296*(if x<y+c then 1 else 0)=(x+4294967296+4294967296 - y - c) % 4294967296+y+c:=by
 split <;> omega
theorem Z75 (x y c:Nat) (hx:x<4294967296) (hy:y<4294967296) (hc:c≤1) :
  ∃ d c':Nat,d<4294967296∧c'≤1∧x+4294967296*c'=d+y+c∧SpecV Tryz.prog Z43 [.int .u32 x,.int .u32 y,.int .u32 c] (.tup [.int .u32 (d:Nat),.int .u32 (c':Nat)]) :=
 ⟨_,_,by omega,by split <;> omega,Y3h x y c hx hy hc,Yr3 x y c hx hy hc⟩
theorem Yrb {a b:List Nat}(ha:Ok32 a) (hb:Ok32 b) (hla:a.length≤1099511627775) (hba:b.length≤a.length) (hle:val b≤val a) :
  SpecV Tryz.prog Z9d [.sl (u32c a),.sl (u32c b)] (.sl (u32c (limbs (val a - val b)))):=by
 refine Zae Yjp (by simp) ?_
 unfold Ycx
 simp only [go_sem,Z2t,Z03,Z1u,Z2s,Zad,Zok]
 refine ⟨by omega,by omega,by omega,?_⟩
 refine Zag (fun x:List Nat×Nat=>⟨envL [(0,.sl (u32c a)),(1,.sl (u32c b)),(5,.osl none 0 0 a.length),(6,.int .u32 (x.2:Int)),(13,.int .i64 (a.length:Int)),(14,.int .i64 (x.1.length:Int))],[.cells (u32c (row x.1 a.length))]⟩)
  (fun x=>x.1.length≤a.length∧x.2≤1∧Ok32 x.1∧val (a.take x.1.length)+4294967296 ^ x.1.length*x.2=val x.1+val (b.take x.1.length)) (fun x=>a.length - x.1.length) ([],0)
  ⟨by simp,by simp,by intro x hx; simp at hx,by simp [val]⟩ (by
   have:List.replicate a.length 0=row [] a.length:=by simp [row]
   rw [this]; exact Zab _ (by simp [go_sem])) (fun x hx N hN=>?_)
 obtain ⟨s,c⟩:=x
 obtain ⟨h1,h2,h3,h4⟩:=hx
 simp only at h1 h2 h3 h4 ⊢
 unfold Z10
 by_cases hn:s.length<a.length
 ·have ga:=getElem?_getD hn
  have hga:=ha.get ga
  have e2:IntKind.i64.wrap ((s.length:Int)+1)=(s.length+1:Nat):=by rw [Zac (by omega) (by omega)]; omega
  have hp:(s.length:Int)<(a.length:Int):=by omega
  have hnn:(0:Int)≤(s.length:Int):=by omega
  generalize hx:a.getD s.length 0=x at ga hga
  have rset:(u32c (row s a.length)).length=a.length:=by rw [Zad,Yac (by omega)]
  have fin:∀ y d c':Nat,d<4294967296→c'≤1→x+4294967296*c'=d+y+c→val (b.take (s.length+1))=val (b.take s.length)+4294967296 ^ s.length*y→∀ (e:Nat→AV),
    e 0 = .sl (u32c a)→e 1 = .sl (u32c b)→e 5 = .osl none 0 0 a.length→e 6 = .int .u32 (c':Int)→e 13 = .int .i64 (a.length:Int)→e 14 = .int .i64 ((s.length+1:Nat):Int) →
    N ⟨e,[.cells ((u32c (row s a.length)).set s.length (.int .u32 (d:Int)))]⟩:=fun y d c' hd hc' hw hby e q1 q2 q3 q4 q5 q6=>by
   refine hN (s ++ [d],c') _ ⟨by simp; omega,hc',?_,?_⟩ (by simp; omega) ?_
   ·exact h3.append (fun z hz=>by simp at hz; omega)
   ·have hlen:(s ++ [d]).length=s.length+1:=by simp
    rw [hlen,Zbl,Zat ga,hby]
    simp only [val,Nat.mul_zero,Nat.add_zero]
    have e:4294967296 ^ s.length*x+4294967296 ^ (s.length+1)*c'=4294967296 ^ s.length*d+4294967296 ^ s.length*y+4294967296 ^ s.length*c:=by
     rw [Nat.pow_succ,Nat.mul_assoc, ← Nat.mul_add,hw,Nat.mul_add,Nat.mul_add]
    omega
   ·rw [Zcs,Yfd (by omega)]
    exact Zab _ (by simp only [Has,q1,q2,q3,q4,q5,q6]; simp)
  simp only [go_sem,Zo6,Z16,Z00,Z3d,Z29,Zxj,Zyk,Zad,hp,hnn,Zap ga]
  refine ⟨fun hb1=>?_,fun hb1=>?_⟩
  ·have gb:=getElem?_getD (show s.length<b.length by omega)
   simp only [go_sem,hnn,hp,Zap ga,Zap gb]
   obtain ⟨d,c',hd,hc',hw,hs⟩:=Z75 x (b.getD s.length 0) c hga (hb.get gb) h2
   refine Zlk hs (ids := []) (by simp only [go_sem]) (.inl rfl) (fun b hb=>by simp at hb) ?_
   simp only [go_sem,e2]
   rw [Za5 (by rw [rset]; omega)]
   exact ⟨hnn,by omega,by rw [rset]; omega,fin _ d c' hd hc' hw (Zat gb) _ (by simp only [go_sem]) (by simp only [go_sem]) (by simp only [go_sem]) (by simp only [go_sem]) (by simp only [go_sem]) (by simp only [go_sem])⟩
  ·obtain ⟨d,c',hd,hc',hw,hs⟩:=Z75 x 0 c hga (by omega) h2
   refine Zlk hs (ids := []) (by simp only [go_sem]; rfl) (.inl rfl) (fun b hb=>by simp at hb) ?_
   simp only [go_sem,e2]
   rw [Za5 (by rw [rset]; omega)]
   have hb0:val (b.take (s.length+1))=val (b.take s.length)+4294967296 ^ s.length*0:=by
    rw [Zbq (by omega),Zbq (by omega)]; omega
   exact ⟨hnn,by omega,by rw [rset]; omega,fin 0 d c' hd hc' hw hb0 _ (by simp only [go_sem]) (by simp only [go_sem]) (by simp only [go_sem]) (by simp only [go_sem]) (by simp only [go_sem]) (by simp only [go_sem])⟩
 ·have hsa:s.length=a.length:=by omega
  have hp:¬ (s.length:Int)<(a.length:Int):=by omega
  simp only [go_sem,Zo6,hp,Zyg]
  rw [← hsa,Ye4 rfl]
  refine Zhl (ids := [0]) (Zc1 s (by omega)) ?_ ?_
  ·simp only [go_sem]
   exact Zde rfl (by simp) rfl (by rw [List.drop_zero,List.take_of_length_le (by rw [Zad]; omega)])
  ·simp only [go_sem]
   rw [hsa,Zbq (by omega),Zbq (by omega)] at h4
   have hlt:=Zwx h3
   rw [hsa] at hlt
   have hc0:c=0:=by
    rcases Nat.eq_zero_or_pos c with h | h
    ·exact h
    ·have:c=1:=by omega
     subst this
     omega
   subst hc0
   have hv:val s=val a - val b:=by omega
   rw [← hv,Zc3 h3]
end GoAbs
namespace GoAbs
open Go Go.Proofs
theorem Yb0:∀ {l:List Nat}{i x v:Nat},l[i]? = some x→val (l.set i v)+4294967296 ^ i*x=val l+4294967296 ^ i*v
 | [],i,x,v,h=>by simp at h
 | y::l,0,x,v,h=>by
  simp at h; subst h
  simp only [List.set_cons_zero,val,Nat.pow_zero,Nat.one_mul]; omega
 | y::l,i+1,x,v,h=>by
  have ih:=Yb0 (l:=l) (i:=i) (x:=x) (v:=v) (by simpa using h)
  simp only [List.set_cons_succ,val,Nat.pow_succ]
  rw [Nat.mul_comm (4294967296 ^ i) 4294967296,Nat.mul_assoc,Nat.mul_assoc]
  omega
theorem Ok32.set {l:List Nat}(h:Ok32 l) {i v:Nat}(hv:v<4294967296):Ok32 (l.set i v):=fun x hx=>by
 rcases List.mem_or_eq_of_mem_set hx with h1 | rfl
 ·exact h x h1
 ·exact hv
def Zer (l:List Nat) (k:Nat):Prop:=∀ i x,k≤i→l[i]? = some x→x=0
theorem Y33 {x y o c:Nat}(hx:x<4294967296) (hy:y<4294967296) (ho:o<4294967296) (hc:c<4294967296) :
  ∃ t d c':Nat,t=x*y+o+c∧x*y<18446744073709551616∧x*y+o<18446744073709551616∧t<18446744073709551616∧d=t % 4294967296∧c'=t / 4294967296∧d<4294967296∧c'<4294967296∧d+4294967296*c'=x*y+o+c:=by
 have h:x*y≤4294967295*4294967295:=Nat.mul_le_mul (by omega) (by omega)
 exact ⟨_,_,_,rfl,by omega,by omega,by omega,rfl,rfl,by omega,by omega,by omega⟩
theorem Yme {a b o:List Nat}{n x:Nat}(hb:Ok32 b) (ho:Ok32 o) (hlen:o.length=a.length+b.length) (hla:a.length≤549755813888) (hlb:b.length≤549755813888) (hn:n<a.length)
  (hx:a[n]? = some x) (hx32:x<4294967296) (hz:Zer o (n+b.length)) {K:Ex→St→Prop}
  (hK:∀ o' c,o'.length=o.length→Ok32 o'→c<4294967296→Zer o' (n+b.length)→val o'+4294967296 ^ (n+b.length)*c=val o+4294967296 ^ n*(x*val b) →
   ∀ e:Nat→AV,e 0 = .sl (u32c a)→e 1 = .sl (u32c b)→e 5 = .osl none 0 0 (a.length+b.length)→e 6 = .int .i64 (n:Int)→e 8 = .int .u64 (c:Int)→e 18 = .sl (u32c a)→e 19 = .int .i64 (a.length:Int)→e 20 = .int .i64 (n:Int) →
   K (.exit 2) ⟨e,[.cells (u32c o')]⟩) :
  T Tryz.prog 68 0 (.loop Zpu) ⟨envL [(0,.sl (u32c a)),(1,.sl (u32c b)),(5,.osl none 0 0 (a.length+b.length)),(6,.int .i64 (n:Int)),(7,.int .u32 (x:Int)),(8,.int .u64 0),(18,.sl (u32c a)),(19,.int .i64 (a.length:Int)),(20,.int .i64 (n:Int)),(25,.sl (u32c b)),(26,.int .i64 (b.length:Int)),(27,.int .i64 0)],[.cells (u32c o)]⟩ K:=by
 refine Zag (fun z:Nat×List Nat×Nat=>⟨envL [(0,.sl (u32c a)),(1,.sl (u32c b)),(5,.osl none 0 0 (a.length+b.length)),(6,.int .i64 (n:Int)),(7,.int .u32 (x:Int)),(8,.int .u64 (z.2.2:Int)),(18,.sl (u32c a)),(19,.int .i64 (a.length:Int)),(20,.int .i64 (n:Int)),(25,.sl (u32c b)),(26,.int .i64 (b.length:Int)),(27,.int .i64 (z.1:Int))],[.cells (u32c z.2.1)]⟩)
  (fun z=>z.1≤b.length∧z.2.1.length=o.length∧Ok32 z.2.1∧z.2.2<4294967296∧Zer z.2.1 (n+b.length)∧val z.2.1+4294967296 ^ (n+z.1)*z.2.2=val o+4294967296 ^ n*(x*val (b.take z.1))) (fun z=>b.length - z.1) (0,o,0)
  ⟨by simp,rfl,ho,by simp,hz,by simp [val]⟩ (Zab _ (by simp [go_sem])) (fun z hI N hN=>?_)
 obtain ⟨j,o1,c⟩:=z
 obtain ⟨h1,h2,h3,h4,h5,h6⟩:=hI
 simp only at h1 h2 h3 h4 h5 h6 ⊢
 unfold Zpu
 have hnn:(0:Int)≤(n:Int):=by omega
 by_cases hj:j<b.length
 ·have gb:=getElem?_getD hj
  have hgb:=hb.get gb
  generalize hy:b.getD j 0=y at gb hgb
  have go:=getElem?_getD (show n+j<o1.length by omega)
  have hgo:=h3.get go
  generalize hw:o1.getD (n+j) 0=w at go hgo
  obtain ⟨t,d,c',ht,k1,k2,k3,hd,hc',k4,k5,k6⟩:=Y33 hx32 hgb hgo h4
  have hp:(j:Int)<(b.length:Int):=by omega
  have hjj:(0:Int)≤(j:Int):=by omega
  have e1:IntKind.u64.wrap (x:Int)=x:=Za1 (by omega) (by omega)
  have e2:IntKind.u64.wrap (y:Int)=y:=Za1 (by omega) (by omega)
  have e3:IntKind.u64.wrap ((x:Int)*y)=(x*y:Nat):=by rw [← Int.natCast_mul,Za1 (by omega) (by omega)]
  have e4:IntKind.i64.wrap ((n:Int)+j)=(n+j:Nat):=by rw [Zac (by omega) (by omega)]; omega
  have e5:IntKind.u64.wrap (w:Int)=w:=Za1 (by omega) (by omega)
  have e6:IntKind.u64.wrap (((x*y:Nat):Int)+w)=(x*y+w:Nat):=by rw [← Int.natCast_add,Za1 (by omega) (by omega)]
  have e7:IntKind.u64.wrap (((x*y+w:Nat):Int)+c)=(t:Nat):=by rw [← Int.natCast_add, ← ht,Za1 (by omega) (by omega)]
  have e8:IntKind.u32.wrap (t:Int)=(d:Nat):=by rw [Zzy,hd]
  have e9:shrI .u64 (t:Int) 32=(c':Nat):=by
   have h32:(32:Int)=((32:Nat):Int):=rfl
   rw [h32,Zeh _ _ _ (by decide),hc']
  have e10:IntKind.i64.wrap ((j:Int)+1)=(j+1:Nat):=by rw [Zac (by omega) (by omega)]; omega
  have hnj:(0:Int)≤((n+j:Nat):Int):=by omega
  have hnj2:((n+j:Nat):Int)<((a.length+b.length:Nat):Int):=by omega
  have hl1:n+j+1≤(u32c o1).length:=by rw [Zad]; omega
  simp only [go_sem,Zoi,Z3k,Zym,Zy4,Zxg,hp,hjj,Zap gb,e1,e2,e3,e4,hnj,hnj2,List.getElem?_drop,Zap go,e5,e6,e7,e8,e9,e10,hl1]
  rw [Za5 (by omega),Zcs]
  refine hN (j+1,o1.set (n+j) d,c') _ ⟨hj,by simp [h2],h3.set k4,k5,?_,?_⟩ (by show b.length - (j+1)<b.length - j; omega) ?_
  rotate_left 2
  ·exact Zab _ (by simp only [go_sem])
  ·intro i v hi hv
   rw [List.getElem?_set_ne (by omega)] at hv
   exact h5 i v hi hv
  ·have hs:=Yb0 (v:=d) go
   have ht2:=Zat gb
   simp only
   rw [ht2]
   have p1:4294967296 ^ (n+(j+1))*c'=4294967296 ^ (n+j)*(4294967296*c'):=by rw [← Nat.add_assoc,Nat.pow_succ,Nat.mul_assoc]
   have p2:4294967296 ^ (n+j)*(d+4294967296*c')=4294967296 ^ (n+j)*(x*y)+4294967296 ^ (n+j)*w+4294967296 ^ (n+j)*c:=by rw [k6,Nat.mul_add,Nat.mul_add]
   have p3:4294967296 ^ n*(x*(val (b.take j)+4294967296 ^ j*y))=4294967296 ^ n*(x*val (b.take j))+4294967296 ^ (n+j)*(x*y):=by
    rw [Nat.mul_add,Nat.mul_add,Nat.pow_add]
    congr 1
    rw [Nat.mul_assoc,Nat.mul_left_comm x]
   rw [Nat.mul_add] at p2
   rw [p1,p3]
   omega
 ·have hjb:j=b.length:=by omega
  subst hjb
  have hp:¬ ((b.length:Nat):Int)<(b.length:Int):=by omega
  simp only [go_sem,Zoi,hp]
  rw [List.take_length] at h6
  exact hK o1 c h2 h3 h4 h5 h6 _ (by simp only [go_sem]) (by simp only [go_sem]) (by simp only [go_sem]) (by simp only [go_sem]) (by simp only [go_sem]) (by simp only [go_sem]) (by simp only [go_sem]) (by simp only [go_sem])
theorem Yd0 {a b:List Nat}(ha:Ok32 a) (hb:Ok32 b) (hla:a.length≤549755813888) (hlb:b.length≤549755813888) :
  SpecV Tryz.prog Yaa [.sl (u32c a),.sl (u32c b)] (.sl (u32c (limbs (val a*val b)))):=by
 refine Zae Yjc (by simp) ?_
 unfold Yc5
 have e1:IntKind.i64.wrap ((a.length:Int)+b.length)=(a.length+b.length:Nat):=by rw [Zac (by omega) (by omega)]; omega
 simp only [go_sem,Z0x,Z0q,Z1t,Zad,Zok,e1]
 refine ⟨by omega,by omega,by omega,?_⟩
 refine Zag (fun z:Nat×List Nat=>⟨envL [(0,.sl (u32c a)),(1,.sl (u32c b)),(5,.osl none 0 0 (a.length+b.length)),(18,.sl (u32c a)),(19,.int .i64 (a.length:Int)),(20,.int .i64 (z.1:Int))],[.cells (u32c z.2)]⟩)
  (fun z=>z.1≤a.length∧z.2.length=a.length+b.length∧Ok32 z.2∧Zer z.2 (z.1+b.length)∧val z.2=val (a.take z.1)*val b) (fun z=>a.length - z.1) (0,List.replicate (a.length+b.length) 0)
  ⟨by simp,by simp,Ok32.rep,fun i x _ hx=>(List.mem_replicate.1 (List.mem_of_getElem? hx)).2,by simp [val,Yhy]⟩ (Zab _ (by simp [go_sem])) (fun z hI N hN=>?_)
 obtain ⟨n,o⟩:=z
 obtain ⟨h1,h2,h3,h4,h5⟩:=hI
 simp only at h1 h2 h3 h4 h5 ⊢
 unfold Z14
 by_cases hn:n<a.length
 ·have ga:=getElem?_getD hn
  have hga:=ha.get ga
  generalize hx:a.getD n 0=x at ga hga
  have hp:(n:Int)<(a.length:Int):=by omega
  have hnn:(0:Int)≤(n:Int):=by omega
  simp only [go_sem,Zpt,Z21,Z24,Z2g,Zad,hp,hnn,Zap ga]
  refine Za2 [(0,.sl (u32c a)),(1,.sl (u32c b)),(5,.osl none 0 0 (a.length+b.length)),(6,.int .i64 (n:Int)),(7,.int .u32 (x:Int)),(8,.int .u64 0),(18,.sl (u32c a)),(19,.int .i64 (a.length:Int)),(20,.int .i64 (n:Int)),(25,.sl (u32c b)),(26,.int .i64 (b.length:Int)),(27,.int .i64 0)]
   (by simp only [go_sem]) (Yme hb h3 h2 hla hlb hn ga hga h4 (fun o' c g1 g2 g3 g4 g5 e q1 q2 q3 q4 q5 q6 q7 q8=>?_))
  have e2:IntKind.i64.wrap ((n:Int)+b.length)=(n+b.length:Nat):=by rw [Zac (by omega) (by omega)]; omega
  have e3:IntKind.u32.wrap (c:Int)=c:=Zf0 (by omega) (by omega)
  have e4:IntKind.i64.wrap ((n:Int)+1)=(n+1:Nat):=by rw [Zac (by omega) (by omega)]; omega
  have hnb:(0:Int)≤((n+b.length:Nat):Int):=by omega
  have hnb2:((n+b.length:Nat):Int)<((a.length+b.length:Nat):Int):=by omega
  have hl1:n+b.length+1≤(u32c o').length:=by rw [Zad]; omega
  simp only [go_sem,Zyf,Zyd,q1,q2,q3,q4,q5,q6,q7,q8,Zad,e2,e3,e4,hnb,hnb2]
  rw [Za5 (by omega),Zcs]
  refine ⟨by omega,hN (n+1,o'.set (n+b.length) c) _ ⟨hn,by simp [g1,h2],g2.set g3,?_,?_⟩ (by show a.length - (n+1)<a.length - n; omega) ?_⟩
  rotate_left 2
  ·exact Zab _ (by simp only [go_sem,q1,q2,q3,q4,q5,q6,q7,q8])
  ·intro i v hi hv
   rw [List.getElem?_set_ne (by omega)] at hv
   exact g4 i v (by omega) hv
  ·have go:=getElem?_getD (show n+b.length<o'.length by omega)
   have hz:=g4 _ _ (Nat.le_refl _) go
   rw [hz] at go
   have hs:=Yb0 (v:=c) go
   have ht2:=Zat ga
   simp only
   rw [ht2,Nat.add_mul, ← h5]
   have p:4294967296 ^ n*x*val b=4294967296 ^ n*(x*val b):=Nat.mul_assoc _ _ _
   omega
 ·have hna:n=a.length:=by omega
  subst hna
  have hp:¬ ((a.length:Nat):Int)<(a.length:Int):=by omega
  simp only [go_sem,Zpt,hp,Zyy]
  refine Zhl (ids := [0]) (Zc1 o (by omega)) ?_ ?_
  ·simp only [go_sem]
   exact Zde rfl (by simp) (by omega) (by rw [List.drop_zero,List.take_of_length_le (by rw [Zad]; omega)])
  ·simp only [go_sem]
   rw [List.take_length] at h5
   rw [← h5,Zc3 h3]
end GoAbs
namespace GoAbs
open Go Go.Proofs
theorem Yoe {x y:Nat}(hy:y<4294967296):x*4294967296 ||| y=x*4294967296+y:=by
 have:=Nat.two_pow_add_eq_or_of_lt (b:=y) (i:=32) (by omega) x
 rw [Nat.mul_comm (2 ^ 32) x] at this
 exact this.symm
theorem Z17 {l:List Nat}{m x:Nat}(h:l[m]? = some x):val (l.drop m)=x+4294967296*val (l.drop (m+1)):=by
 have hm:m<l.length:=(List.getElem?_eq_some_iff.1 h).1
 rw [List.drop_eq_getElem_cons hm,val]
 have:l[m]=x:=(List.getElem?_eq_some_iff.1 h).2
 rw [this]
theorem Z6o {l:List Nat}{m v:Nat}(h:m<l.length):val ((l.set m v).drop m)=v+4294967296*val (l.drop (m+1)):=by
 rw [Z17 (x:=v) (by simp [h])]
 congr 2
 rw [List.drop_set_of_lt (by omega)]
theorem Y08 {r w v:Nat}(hr:r<w) (hw:w<4294967296) (hv:v<4294967296) :
  ∃ t q r':Nat,t=r*4294967296+v∧t<18446744073709551616∧q=t / w∧r'=t % w∧q<4294967296∧r'<w∧q*w+r'=r*4294967296+v:=by
 have h1:r*4294967296+v<w*4294967296:=by
  have:(r+1)*4294967296≤w*4294967296:=Nat.mul_le_mul_right _ hr
  omega
 refine ⟨_,_,_,rfl,?_,rfl,rfl,?_,Nat.mod_lt _ (by omega),by rw [Nat.mul_comm]; exact Nat.div_add_mod _ _⟩
 ·have:w*4294967296≤4294967295*4294967296:=Nat.mul_le_mul_right _ (by omega)
  omega
 ·rw [Nat.div_lt_iff_lt_mul (by omega)]; omega
theorem Z82 {a:List Nat}{w:Nat}(ha:Ok32 a) (hla:a.length≤549755813888) (hw0:0<w) (hw:w<4294967296) :
  SpecV Tryz.prog Yg8 [.sl (u32c a),.int .u32 (w:Int)] (.tup [.sl (u32c (limbs (val a / w))),.int .u32 ((val a % w:Nat):Int)]):=by
 refine Zae Ygd (by simp) ?_
 unfold Z9i
 simp only [go_sem,Zy3,Zyn,Zx6,Zx2,Zad,Zok]
 refine ⟨by omega,by omega,by omega,?_⟩
 refine Zag (fun z:Nat×List Nat×Nat=>⟨envL [(0,.sl (u32c a)),(1,.int .u32 (w:Int)),(6,.osl none 0 0 a.length),(7,.int .u64 (z.2.2:Int)),(8,.int .i64 ((z.1:Int) - 1))],[.cells (u32c z.2.1)]⟩)
  (fun z=>z.1≤a.length∧z.2.1.length=a.length∧Ok32 z.2.1∧z.2.2<w∧val (z.2.1.drop z.1)*w+z.2.2=val (a.drop z.1)) (fun z=>z.1) (a.length,List.replicate a.length 0,0)
  ⟨Nat.le_refl _,by simp,Ok32.rep,hw0,by simp [val]⟩ (Zab _ (by simp only [go_sem]; rw [Zac (by omega) (by omega)]; exact ⟨rfl,rfl⟩)) (fun z hI N hN=>?_)
 obtain ⟨n,o,r⟩:=z
 obtain ⟨h1,h2,h3,h4,h5⟩:=hI
 simp only at h1 h2 h3 h4 h5 ⊢
 unfold Zxy
 cases n with
 | zero =>
  have hp:¬ (0:Int)≤((0:Nat):Int) - 1:=by omega
  have e1:IntKind.u32.wrap (r:Int)=r:=Zf0 (by omega) (by omega)
  simp only [go_sem,Zmv,hp,Zxr,e1]
  refine Zhl (ids := [0]) (Zc1 o (by omega)) ?_ ?_
  ·simp only [go_sem]
   exact Zde rfl (by simp) (by omega) (by rw [List.drop_zero,List.take_of_length_le (by rw [Zad]; omega)])
  ·simp only [go_sem,e1]
   rw [List.drop_zero,List.drop_zero] at h5
   have hq:val a / w=val o:=by rw [← h5,Nat.mul_comm,Nat.mul_add_div hw0,Nat.div_eq_of_lt h4,Nat.add_zero]
   have hr:val a % w=r:=by rw [← h5,Nat.mul_comm,Nat.mul_add_mod,Nat.mod_eq_of_lt h4]
   rw [hq,hr,Zc3 h3]
   exact ⟨rfl,rfl⟩
 | succ m =>
  have ga:=getElem?_getD (show m<a.length by omega)
  have hga:=ha.get ga
  generalize hv:a.getD m 0=v at ga hga
  obtain ⟨t,q,r',ht,k1,hq,hr',k2,k3,k4⟩:=Y08 h4 hw hga
  have e0:(((m+1:Nat):Int) - 1)=(m:Int):=by omega
  have hnn:(0:Int)≤(m:Int):=by omega
  have hmo:(m:Int)<(a.length:Int):=by omega
  have h32:(32:Int)=((32:Nat):Int):=rfl
  have e1:shlI .u64 (r:Int) 32=(r*4294967296:Nat):=by
   rw [h32,Zsd _ _ (by omega),Nat.mod_eq_of_lt (by omega)]
  have e2:IntKind.u64.wrap (v:Int)=v:=Za1 (by omega) (by omega)
  have e3:orI .u64 ((r*4294967296:Nat):Int) (v:Int)=(t:Nat):=by rw [or64 (by omega) (by omega),Yoe hga,ht]
  have e4:IntKind.u64.wrap (w:Int)=w:=Za1 (by omega) (by omega)
  have e5:IntKind.u64.wrap ((t:Int).tdiv (w:Int))=(q:Nat):=by
   rw [Int.tdiv_eq_ediv_of_nonneg (by omega), ← Int.natCast_ediv, ← hq,Za1 (by omega) (by omega)]
  have e6:IntKind.u32.wrap (q:Int)=q:=Zf0 (by omega) (by omega)
  have e7:(t:Int).tmod (w:Int)=(r':Nat):=by rw [Int.tmod_eq_emod_of_nonneg (by omega), ← Int.natCast_emod, ← hr']
  have e8:IntKind.i64.wrap ((m:Int) - 1)=(m:Int) - 1:=Zac (by omega) (by omega)
  have hw1:¬ (w:Int)=0:=by omega
  have hl:m+1≤(u32c o).length:=by rw [Zad]; omega
  simp only [go_sem,Zmv,Zxi,Zl7,Zza,e0,hnn,hmo,Zap ga,e1,e2,e3,e4,e5,e6,e7,e8,hw1,hl]
  rw [Za5 (by omega),Zcs]
  refine hN (m,o.set m q,r') _ ⟨by omega,by simp [h2],h3.set k2,k3,?_⟩ (by show m<m+1; omega) ?_
  rotate_left 1
  ·exact Zab _ (by simp only [go_sem])
  ·simp only
   rw [Z6o (by omega),Z17 ga]
   rw [Nat.add_mul,Nat.mul_assoc]
   omega
end GoAbs
namespace GoAbs
open Go Go.Proofs
def fixL:Nat→Nat→List Nat
 | 0,_ => []
 | k+1,n=>n % 4294967296::fixL k (n / 4294967296)
theorem Zo9:∀ (k n:Nat),(fixL k n).length=k
 | 0,_=>rfl
 | k+1,n=>by simp [fixL,Zo9 k]
theorem Ybm:∀ (k n:Nat),Ok32 (fixL k n)
 | 0,_=>fun x hx=>by simp [fixL] at hx
 | k+1,n=>fun x hx=>by
  rcases List.mem_cons.1 hx with rfl | hx
  ·omega
  ·exact Ybm k _ x hx
theorem Ygh:∀ {l:List Nat},Ok32 l→fixL l.length (val l)=l
 | [],_=>rfl
 | x::l,h=>by
  have hx:=h x (by simp)
  have ih:=Ygh (l:=l) (fun y hy=>h y (by simp [hy]))
  simp only [List.length_cons,fixL,val]
  have h1:(x+4294967296*val l) % 4294967296=x:=by omega
  have h2:(x+4294967296*val l) / 4294967296=val l:=by omega
  rw [h1,h2,ih]
theorem Z8b:∀ (k n:Nat),val (fixL k n)=n % 4294967296 ^ k
 | 0,n=>by simp [fixL,val,Nat.mod_one]
 | k+1,n=>by
  rw [fixL,val,Z8b k,Nat.pow_succ,Nat.mul_comm (4294967296 ^ k),Nat.mod_mul]
theorem Y8j {v n c:Nat}(hv:v<4294967296) (hn:n<32) (hc:c<2 ^ n) :
  ∃ t lo hi:Nat,t=v*2 ^ n∧t<18446744073709551616∧lo=t % 4294967296∧hi=t / 4294967296∧hi<2 ^ n∧(c ||| lo)=c+lo∧c+lo<4294967296∧lo<4294967296∧hi<4294967296∧c<4294967296∧lo+4294967296*hi=v*2 ^ n:=by
 have hp:(2:Nat) ^ n≤2 ^ 31:=Nat.pow_le_pow_right (by omega) (by omega)
 have hp0:0<(2:Nat) ^ n:=Nat.pow_pos (by omega)
 have h1:v*2 ^ n<4294967296*2 ^ n:=Nat.mul_lt_mul_of_pos_right hv hp0
 have h2:v*2 ^ n / 4294967296<2 ^ n:=by rw [Nat.div_lt_iff_lt_mul (by omega)]; omega
 have h32:(4294967296:Nat)=2 ^ n*2 ^ (32 - n):=by rw [← Nat.pow_add]; rw [show n+(32 - n)=32 by omega]
 have hlo:v*2 ^ n % 4294967296=2 ^ n*(v % 2 ^ (32 - n)):=by
  rw [h32,Nat.mul_comm v,Nat.mul_mod_mul_left]
 have hor:c ||| (v*2 ^ n % 4294967296)=c+v*2 ^ n % 4294967296:=by
  rw [hlo,Nat.or_comm, ← Nat.two_pow_add_eq_or_of_lt hc,Nat.add_comm]
 have hlt:c+v*2 ^ n % 4294967296<4294967296:=by
  rw [hlo]
  have h3:v % 2 ^ (32 - n)+1≤2 ^ (32 - n):=Nat.mod_lt _ (Nat.pow_pos (by omega))
  have h4:2 ^ n*(v % 2 ^ (32 - n)+1)≤2 ^ n*2 ^ (32 - n):=Nat.mul_le_mul_left _ h3
  rw [← h32,Nat.mul_add] at h4
  omega
 exact ⟨_,_,_,rfl,by omega,rfl,rfl,h2,hor,hlt,by omega,by omega,by omega,by omega⟩
theorem Y3k {p V0 V1 V2 B c lo hh:Nat}(h1:V1+p*c=V0+p*(c+lo)) (h2:V2+p*B*0=V1+p*B*hh):V2=V0+p*(lo+B*hh):=by
 rw [Nat.mul_add] at h1
 rw [Nat.mul_assoc p B hh] at h2
 rw [Nat.mul_add]
 omega
theorem Yyn {a:List Nat}{n:Nat}(ha:Ok32 a) (hla:a.length≤549755813888) (hn:n<32) {Q:Ex→St→Prop}
  (hQ:∀ e:Nat→AV,e 4 = .osl none 0 0 (a.length+1)→Q .ret ⟨e,[.cells (u32c (fixL (a.length+1) (val a*2 ^ n)))]⟩) :
  W Tryz.prog 41 0 Ym7 ⟨argE [.sl (u32c a),.int .i64 (n:Int)],[]⟩ Q:=by
 unfold Ym7
 have e1:IntKind.i64.wrap ((a.length:Int)+1)=(a.length+1:Nat):=by rw [Zac (by omega) (by omega)]; omega
 simp only [go_sem,Yc4,Yef,Yeh,Zad,Zok,e1]
 refine ⟨by omega,by omega,by omega,?_⟩
 have hp:(2:Nat) ^ n≤2 ^ 31:=Nat.pow_le_pow_right (by omega) (by omega)
 have hp0:0<(2:Nat) ^ n:=Nat.pow_pos (by omega)
 refine Zag (fun z:Nat×List Nat=>⟨envL [(0,.sl (u32c a)),(1,.int .i64 (n:Int)),(5,.osl none 0 0 (a.length+1)),(13,.sl (u32c a)),(14,.int .i64 (a.length:Int)),(15,.int .i64 (z.1:Int))],[.cells (u32c z.2)]⟩)
  (fun z=>z.1≤a.length∧z.2.length=a.length+1∧Ok32 z.2∧Zer z.2 (z.1+1)∧z.2.getD z.1 0<2 ^ n∧val z.2=val (a.take z.1)*2 ^ n) (fun z=>a.length - z.1) (0,List.replicate (a.length+1) 0)
  ⟨by simp,by simp,Ok32.rep,fun i x _ hx=>(List.mem_replicate.1 (List.mem_of_getElem? hx)).2,by simp [List.replicate_succ]; exact hp0,by simp [val,Yhy]⟩ (Zab _ (by simp only [go_sem]; rfl)) (fun z hI N hN=>?_)
 obtain ⟨i,o⟩:=z
 obtain ⟨h1,h2,h3,h4,h5,h6⟩:=hI
 simp only at h1 h2 h3 h4 h5 h6 ⊢
 unfold Ydr
 by_cases hi:i<a.length
 ·have ga:=getElem?_getD hi
  have hga:=ha.get ga
  generalize hv:a.getD i 0=v at ga hga
  have go:=getElem?_getD (show i<o.length by omega)
  generalize hc:o.getD i 0=c at go h5
  obtain ⟨t,lo,hh,ht,k1,hlo,hhh,k2,k3,k4,k5,k6,k7,k8⟩:=Y8j hga hn h5
  have hpi:(i:Int)<(a.length:Int):=by omega
  have hnn:(0:Int)≤(i:Int):=by omega
  have hn0:(0:Int)≤(n:Int):=by omega
  have e2:IntKind.u64.wrap (v:Int)=v:=Za1 (by omega) (by omega)
  have e3:shlI .u64 (v:Int) (n:Int)=(t:Nat):=by rw [Zsd _ _ (by omega), ← ht,Nat.mod_eq_of_lt k1]
  have e4:IntKind.u32.wrap (t:Int)=(lo:Nat):=by rw [Zzy,hlo]
  have e5:orI .u32 (c:Int) (lo:Int)=(c+lo:Nat):=by rw [or32 (by omega) (by omega),k3]
  have e6:IntKind.i64.wrap ((i:Int)+1)=(i+1:Nat):=by rw [Zac (by omega) (by omega)]; omega
  have e7:shrI .u64 (t:Int) 32=(hh:Nat):=by
   have h32:(32:Int)=((32:Nat):Int):=rfl
   rw [h32,Zeh _ _ _ (by decide),hhh]
  have e8:IntKind.u32.wrap (hh:Int)=(hh:Nat):=Zf0 (by omega) (by omega)
  have hb1:(i:Int)<((a.length+1:Nat):Int):=by omega
  have hb2:((i+1:Nat):Int)<((a.length+1:Nat):Int):=by omega
  have hb3:(0:Int)≤((i+1:Nat):Int):=by omega
  have hl1:i+1≤(u32c o).length:=by rw [Zad]; omega
  simp only [go_sem,Z4h,Yeb,Yde,Yd4,Yd8,Yec,hpi,hnn,hn0,Zap ga,List.getElem?_drop,Zap go,e2,e3,e4,e5,e6,e7,e8,hb1,hb2,hb3,hl1]
  rw [Za5 (by omega),Zcs,Za5 (by rw [Zad,List.length_set]; omega),Zcs]
  refine ⟨by rw [Zad,List.length_set]; omega,hN (i+1,(o.set i (c+lo)).set (i+1) hh) _ ⟨hi,by simp [h2],(h3.set k4).set k6,?_,?_,?_⟩ (by show a.length - (i+1)<a.length - i; omega) ?_⟩
  rotate_left 3
  ·exact Zab _ (by simp only [go_sem])
  ·intro j x hj hx
   rw [List.getElem?_set_ne (by omega),List.getElem?_set_ne (by omega)] at hx
   exact h4 j x (by omega) hx
  ·simp only
   rw [List.getD_eq_getElem?_getD,List.getElem?_set_self (by rw [List.length_set]; omega)]
   exact k2
  ·have go2:=getElem?_getD (show i+1<o.length by omega)
   have hz:=h4 _ _ (Nat.le_refl _) go2
   rw [hz] at go2
   have s1:=Yb0 (v:=c+lo) go
   have s2:=Yb0 (l:=o.set i (c+lo)) (i:=i+1) (x:=0) (v:=hh) (by rw [List.getElem?_set_ne (by omega)]; exact go2)
   rw [Nat.pow_succ] at s2
   have s3:=Y3k s1 s2
   have ht2:=Zat ga
   simp only
   rw [s3,ht2,Nat.add_mul,h6,k8,Nat.mul_assoc]
 ·have hia:i=a.length:=by omega
  subst hia
  have hp:¬ ((a.length:Nat):Int)<(a.length:Int):=by omega
  simp only [go_sem,Z4h,hp,Z8o]
  rw [List.take_length] at h6
  have hf:o=fixL (a.length+1) (val a*2 ^ n):=by rw [← h6, ← h2,Ygh h3]
  rw [hf]
  exact hQ _ (by simp only [go_sem])
theorem Y8u {a:List Nat}{n:Nat}(ha:Ok32 a) (hla:a.length≤549755813888) (hn:n<32) :
  SpecV Tryz.prog Yn5 [.sl (u32c a),.int .i64 (n:Int)] (.sl (u32c (fixL (a.length+1) (val a*2 ^ n)))):=by
 refine Zae Ykm (by simp) (Yyn ha hla hn (fun e he=>?_))
 simp only [go_sem,he]
 exact Zde rfl (by simp [allOf]) (Zo9 _ _) (by rw [List.drop_zero,List.take_of_length_le (by rw [Zad,Zo9]; omega)])
theorem Xat {a:List Nat}{n:Nat}(ha:Ok32 a) (hla:a.length≤549755813888) (hn:n<32) :
  SpecR Tryz.prog Yn5 [] [.sl (u32c a),.int .i64 (n:Int)] (.osl none 0 0 (a.length+1)) [.cells (u32c (fixL (a.length+1) (val a*2 ^ n)))]:=by
 refine Zpn Ykm (by simp) (Yyn ha hla hn (fun e he=>?_))
 simp only [go_sem,he]
theorem Yxi {v y n:Nat}(hv:v<4294967296) (hy:y<4294967296) (hn:n<32) :
  ∃ t d:Nat,t=y*4294967296+v∧t<18446744073709551616∧(v ||| y*4294967296)=t∧d=t / 2 ^ n % 4294967296∧d<4294967296:=by
 refine ⟨_,_,rfl,by omega,?_,rfl,by omega⟩
 rw [Nat.or_comm,Yoe hv]
theorem Yum {l:List Nat}{i v n:Nat}(h:l[i]? = some v) (hok:Ok32 l) (hn:n<32) :
  val (l.drop i) / 2 ^ n=(l.getD (i+1) 0*4294967296+v) / 2 ^ n % 4294967296+4294967296*(val (l.drop (i+1)) / 2 ^ n):=by
 have hv:=hok.get h
 rw [Z17 h]
 have hrest:val (l.drop (i+1))=l.getD (i+1) 0+4294967296*val (l.drop (i+2)):=by
  by_cases h2:i+1<l.length
  ·exact Z17 (getElem?_getD h2)
  ·rw [List.drop_eq_nil_of_le (by omega),List.drop_eq_nil_of_le (by omega)]
   simp [List.getD_eq_getElem?_getD,List.getElem?_eq_none (show l.length≤i+1 by omega),val]
 generalize l.getD (i+1) 0=y at hrest ⊢
 generalize val (l.drop (i+1))=V at hrest ⊢
 generalize val (l.drop (i+2))=U at hrest
 have hp0:0<(2:Nat) ^ n:=Nat.pow_pos (by omega)
 have h32:(4294967296:Nat)=2 ^ n*2 ^ (32 - n):=by rw [← Nat.pow_add]; rw [show n+(32 - n)=32 by omega]
 have e1:(v+4294967296*V) / 2 ^ n=(v+4294967296*V) / 2 ^ n % 4294967296+4294967296*((v+4294967296*V) / 2 ^ n / 4294967296):=(Nat.mod_add_div _ _).symm
 have e2:(v+4294967296*V) / 2 ^ n / 4294967296=V / 2 ^ n:=by
  rw [Nat.div_div_eq_div_mul,Nat.mul_comm (2 ^ n), ← Nat.div_div_eq_div_mul]
  congr 1
  omega
 have e3:(v+4294967296*V) / 2 ^ n=(y*4294967296+v) / 2 ^ n+4294967296*(2 ^ (32 - n)*U):=by
  have:v+4294967296*V=(y*4294967296+v)+2 ^ n*(4294967296*(2 ^ (32 - n)*U)):=by
   have:2 ^ n*(4294967296*(2 ^ (32 - n)*U))=4294967296*(4294967296*U):=by
    rw [Nat.mul_left_comm, ← Nat.mul_assoc (2 ^ n), ← h32]
   rw [this,hrest]; omega
  rw [this,Nat.add_mul_div_left _ _ hp0]
 have e4:(v+4294967296*V) / 2 ^ n % 4294967296=(y*4294967296+v) / 2 ^ n % 4294967296:=by
  rw [e3,Nat.add_mul_mod_self_left]
 rw [e1,e2,e4]
end GoAbs
namespace GoAbs
open Go Go.Proofs
def downL (l:List Nat) (n:Nat):Nat→List Nat
 | 0 => []
 | i+1=>downL l n i ++ [(l.getD (i+1) 0*4294967296+l.getD i 0) / 2 ^ n % 4294967296]
theorem Zf1 (l:List Nat) (n:Nat):∀ i,(downL l n i).length=i
 | 0=>rfl
 | i+1=>by simp [downL,Zf1 l n i]
theorem Ypg (l:List Nat) (n:Nat):∀ i,Ok32 (downL l n i)
 | 0=>fun x hx=>by simp [downL] at hx
 | i+1=>(Ypg l n i).append (fun x hx=>by rw [List.mem_singleton] at hx; subst hx; exact Nat.mod_lt _ (by omega))
theorem Y2z {p B D d V X:Nat}(h:D+p*(d+B*V)=X):D+p*(d+B*0)+p*B*V=X:=by
 rw [← h,Nat.mul_zero,Nat.add_zero,Nat.mul_add,Nat.mul_assoc,Nat.add_assoc]
theorem Yhm {l:List Nat}{n:Nat}(hok:Ok32 l) (hn:n<32):∀ i,i≤l.length→val (downL l n i)+4294967296 ^ i*(val (l.drop i) / 2 ^ n)=val l / 2 ^ n
 | 0,_=>by simp [downL,val]
 | i+1,hi=>by
  have ih:=Yhm hok hn i (by omega)
  have g:=getElem?_getD (show i<l.length by omega)
  rw [Yum g hok hn] at ih
  rw [downL,Zbl,Zf1,Nat.pow_succ]
  generalize (l.getD (i+1) 0*4294967296+l.getD i 0) / 2 ^ n % 4294967296=d at ih ⊢
  have hv1:val [d]=d+4294967296*0:=rfl
  rw [hv1]
  exact Y2z ih
theorem Yzf {a:List Nat}{n:Nat}(ha:Ok32 a) (hla:a.length≤549755813888) (hn:n<32) :
  SpecV Tryz.prog Yrc [.sl (u32c a),.int .i64 (n:Int)] (.sl (u32c (limbs (val a / 2 ^ n)))):=by
 refine Zae Ynl (by simp) ?_
 unfold Yi3
 simp only [go_sem,Z6f,Z7n,Z56,Zad,Zok]
 refine ⟨by omega,by omega,by omega,?_⟩
 refine Zag (fun i:Nat=>⟨envL [(0,.sl (u32c a)),(1,.int .i64 (n:Int)),(5,.osl none 0 0 a.length),(12,.int .i64 (a.length:Int)),(13,.int .i64 (i:Int))],[.cells (u32c (row (downL a n i) a.length))]⟩)
  (fun i=>i≤a.length) (fun i=>a.length - i) 0 (by omega) (by
   have:List.replicate a.length 0=row (downL a n 0) a.length:=by simp [row,downL]
   rw [this]; exact Zab _ (by simp only [go_sem]; rfl)) (fun i h1 N hN=>?_)
 unfold Z5u
 by_cases hi:i<a.length
 ·have ga:=getElem?_getD hi
  have hga:=ha.get ga
  have hga2:a.getD (i+1) 0<4294967296:=by
   by_cases h2:i+1<a.length
   ·exact ha.get (getElem?_getD h2)
   ·rw [List.getD_eq_getElem?_getD,List.getElem?_eq_none (by omega)]; simp
  obtain ⟨t,d,ht,k1,k2,hd,k3⟩:=Yxi hga hga2 hn
  have hrow:row (downL a n (i+1)) a.length=(row (downL a n i) a.length).set i d:=by
   have:=Yfd (s:=downL a n i) (n:=a.length) (x:=d) (by rw [Zf1]; exact hi)
   rw [Zf1] at this
   rw [this,downL,hd,ht]
  have hrl:(row (downL a n i) a.length).length=a.length:=Yac (by rw [Zf1]; omega)
  have hpi:(i:Int)<(a.length:Int):=by omega
  have hnn:(0:Int)≤(i:Int):=by omega
  have hn0:(0:Int)≤(n:Int):=by omega
  have hi1:(0:Int)≤((i+1:Nat):Int):=by omega
  have h32:(32:Int)=((32:Nat):Int):=rfl
  have e6:IntKind.i64.wrap ((i:Int)+1)=(i+1:Nat):=by rw [Zac (by omega) (by omega)]; omega
  have e2:IntKind.u64.wrap ((a.getD i 0:Nat):Int)=(a.getD i 0:Nat):=Za1 (by omega) (by omega)
  have e3:IntKind.u64.wrap ((a.getD (i+1) 0:Nat):Int)=(a.getD (i+1) 0:Nat):=Za1 (by omega) (by omega)
  generalize a.getD i 0=v at ga hga ht k1 k2 e2
  generalize hyd:a.getD (i+1) 0=y at hga2 ht k1 k2 e3
  have e4:shlI .u64 (y:Int) 32=(y*4294967296:Nat):=by
   rw [h32,Zsd _ _ (by omega),Nat.mod_eq_of_lt (by omega)]
  have e5:orI .u64 (v:Int) ((y*4294967296:Nat):Int)=(t:Nat):=by rw [or64 (by omega) (by omega),k2]
  have e7:shrI .u64 (t:Int) (n:Int)=(t / 2 ^ n:Nat):=Zeh _ _ _ (by show n≤64; omega)
  have e8:IntKind.u32.wrap ((t / 2 ^ n:Nat):Int)=(d:Nat):=by rw [Zzy,hd]
  have fin:∀ e:Nat→AV,e 0 = .sl (u32c a)→e 1 = .int .i64 (n:Int)→e 5 = .osl none 0 0 a.length→e 12 = .int .i64 (a.length:Int)→e 13 = .int .i64 ((i+1:Nat):Int) →
    N ⟨e,[.cells ((u32c (row (downL a n i) a.length)).set i (.int .u32 (d:Int)))]⟩:=fun e q1 q2 q3 q4 q5=>by
   refine hN (i+1) _ hi (by show a.length - (i+1)<a.length - i; omega) ?_
   rw [Zcs, ← hrow]
   exact Zab _ (by simp only [Has,q1,q2,q3,q4,q5]; simp)
  have hl1:i+1≤(u32c (row (downL a n i) a.length)).length:=by rw [Zad,hrl]; omega
  simp only [go_sem,Zui,Z7j,Z6w,Z5t,Z59,Z7g,Z2k,hpi,hnn,hn0,hi1,Zad,Zap ga,e2,e6,hl1,hrl]
  refine ⟨fun hb=>?_,fun hb=>?_⟩
  ·have gb:=getElem?_getD (show i+1<a.length by omega)
   rw [hyd] at gb
   simp only [go_sem,Zap gb,e3,e4,e5,e7,e8,hnn,hpi,hn0,hi1,e6,hl1,hrl,Zad]
   rw [Za5 (by omega)]
   exact ⟨by omega,fin _ (by simp only [go_sem]) (by simp only [go_sem]) (by simp only [go_sem]) (by simp only [go_sem]) (by simp only [go_sem])⟩
  ·have hy0:y=0:=by
    rw [← hyd,List.getD_eq_getElem?_getD,List.getElem?_eq_none (by omega)]; rfl
   have htv:t=v:=by omega
   subst htv
   simp only [go_sem,e7,e8,e6]
   rw [Za5 (by rw [Zad,hrl]; omega)]
   exact ⟨by omega,fin _ (by simp only [go_sem]) (by simp only [go_sem]) (by simp only [go_sem]) (by simp only [go_sem]) (by simp only [go_sem])⟩
 ·have hia:i=a.length:=by omega
  subst hia
  have hp:¬ ((a.length:Nat):Int)<(a.length:Int):=by omega
  simp only [go_sem,Zui,hp,Z1o]
  rw [Ye4 (Zf1 _ _ _)]
  refine Zhl (ids := [0]) (Zc1 (downL a n a.length) (by rw [Zf1]; omega)) ?_ ?_
  ·simp only [go_sem]
   exact Zde rfl (by simp) (Zf1 _ _ _) (by rw [List.drop_zero,List.take_of_length_le (by rw [Zad,Zf1]; omega)])
  ·simp only [go_sem]
   have hv:=Yhm ha hn a.length (Nat.le_refl _)
   rw [List.drop_length] at hv
   simp only [val,Nat.zero_div,Nat.mul_zero,Nat.add_zero] at hv
   rw [← hv,Zc3 (Ypg _ _ _)]
end GoAbs
namespace GoAbs
open Go Go.Proofs
def lenN (n:Nat):Nat:=(limbs n).length
def avS (s:Bool) (n:Nat):AV := .agg [.bool s,.sl (u32c (limbs n))]
def avI (z:Int):AV:=avS (decide (z<0)) z.natAbs
theorem Zaa {P:Program}{d:Option Dm}{H:Heap}{C:AV→Heap→Prop}{f:Nat}{xs:List AV}{v:AV}(hs:SpecV P f xs v) (h:BVs H [] xs xs) (hc:C v H):callC P d f H xs C :=
 Zlk hs h (.inl rfl) (fun b hb=>by simp at hb) hc
theorem Z9h (neg:Bool) (n:Nat):SpecV Tryz.prog Zny [.bool neg,.sl (u32c (limbs n))] (avI (if neg then -(n:Int) else n)):=by
 refine Zae Ymt (by simp) ?_
 unfold Yh2
 have h0:(limbs n).length=0↔n=0:=by rw [List.length_eq_zero_iff,Zhm]
 cases neg
 ·simp only [go_sem,Zvo,Zv8,avI,avS,Zad]
  have e1:((n:Int)).natAbs=n:=by omega
  have e2:decide ((n:Int)<0)=false:=by simp
  simp only [go_sem,e1,e2]
 ·simp only [go_sem,Zvo,Zv8,avI,avS,Zad]
  have e1:(-(n:Int)).natAbs=n:=by omega
  refine ⟨fun h=>?_,fun h=>?_⟩
  ·have e2:decide (-(n:Int)<0)=true:=by simp; omega
   simp only [go_sem,e1,e2]
  ·have e2:decide (-(n:Int)<0)=false:=by simp; omega
   simp only [go_sem,e1,e2]
theorem Z74 (z:Int):SpecV Tryz.prog Yw0 [avI z] (avI (-z)):=by
 refine Zae Ytu (by simp) ?_
 unfold Yoi
 have hm:SpecV Tryz.prog Zny [.bool (!decide (z<0)),.sl (u32c (limbs z.natAbs))] (avI (-z)):=by
  have:=Z9h (!decide (z<0)) z.natAbs
  have e:(if (!decide (z<0))=true then -((z.natAbs:Nat):Int) else (z.natAbs:Nat)) = -z:=by
   by_cases h:z<0 <;> simp [h] <;> omega
  rw [e] at this; exact this
 rw [avI,avS]
 simp only [go_sem,Z8y,Yas]
 refine Zaa hm (by simp only [go_sem]) ?_
 unfold avI avS
 simp only [go_sem]
theorem Yuv {m n:Nat}(hm:lenN m≤549755813888) (hn:lenN n≤549755813888) :
  SpecV Tryz.prog Yaa [.sl (u32c (limbs m)),.sl (u32c (limbs n))] (.sl (u32c (limbs (m*n)))):=by
 have:=Yd0 (Zbj m) (Zbj n) hm hn
 rw [Zay,Zay] at this; exact this
theorem Yoh {m n:Nat}(hm:lenN m≤549755813888) (hn:lenN n≤549755813888) :
  SpecV Tryz.prog Yea [.sl (u32c (limbs m)),.sl (u32c (limbs n))] (.sl (u32c (limbs (m+n)))):=by
 have:=Ywr (Zbj m) (Zbj n) (Nat.le_trans hm (by omega)) (Nat.le_trans hn (by omega))
 rw [Zay,Zay] at this; exact this
theorem Zly {a b:Int}(ha:lenN a.natAbs≤549755813888) (hb:lenN b.natAbs≤549755813888):SpecV Tryz.prog Yve [avI a,avI b] (avI (a*b)):=by
 refine Zae Yrj (by simp) ?_
 unfold Yns
 have hm:∀ s:Bool,s=(decide (a<0) != decide (b<0))→SpecV Tryz.prog Zny [.bool s,.sl (u32c (limbs (a.natAbs*b.natAbs)))] (avI (a*b)):=fun s hs=>by
  have:=Z9h s (a.natAbs*b.natAbs)
  have e:(if s=true then -((a.natAbs*b.natAbs:Nat):Int) else ((a.natAbs*b.natAbs:Nat):Int))=a*b:=by
   subst hs
   rw [Int.natCast_mul]
   by_cases h1:a<0 <;> by_cases h2:b<0
   ·have e1:(a.natAbs:Int) = -a:=by omega
    have e2:(b.natAbs:Int) = -b:=by omega
    simp [h1,h2,e1,e2,Int.neg_mul,Int.mul_neg]
   ·have e1:(a.natAbs:Int) = -a:=by omega
    have e2:(b.natAbs:Int)=b:=by omega
    simp [h1,h2,e1,e2,Int.neg_mul,Int.mul_neg]
   ·have e1:(a.natAbs:Int)=a:=by omega
    have e2:(b.natAbs:Int) = -b:=by omega
    simp [h1,h2,e1,e2,Int.neg_mul,Int.mul_neg]
   ·have e1:(a.natAbs:Int)=a:=by omega
    have e2:(b.natAbs:Int)=b:=by omega
    simp [h1,h2,e1,e2,Int.neg_mul,Int.mul_neg]
  rw [e] at this; exact this
 rw [avI,avI,avS,avS]
 simp only [go_sem,Z90,Z0e]
 refine Zaa (Yuv ha hb) (by simp only [go_sem]) ?_
 simp only [go_sem]
 refine Zaa (hm _ rfl) (by simp only [go_sem]) ?_
 unfold avI avS
 simp only [go_sem]
end GoAbs
namespace GoAbs
open Go Go.Proofs
theorem Z2y {p x y X Y:Nat}(hX:X<p) (h:x<y):X+p*x<Y+p*y:=by
 have:p*(x+1)≤p*y:=Nat.mul_le_mul_left _ h
 rw [Nat.mul_add,Nat.mul_one] at this
 omega
theorem Ydj {a b:List Nat}(ha:Ok32 a) (hb:Ok32 b):∀ n,n≤a.length→n≤b.length →
  cmpTop n a b=if val (a.take n)<val (b.take n) then -1 else if val (b.take n)<val (a.take n) then 1 else 0
 | 0,_,_=>by simp [cmpTop,val]
 | n+1,h1,h2=>by
  have ga:=getElem?_getD (show n<a.length by omega)
  have gb:=getElem?_getD (show n<b.length by omega)
  have la:val (a.take n)<4294967296 ^ n:=by have:=Zwx (ha.take (n:=n)); rwa [List.length_take,Nat.min_eq_left (by omega)] at this
  have lb:val (b.take n)<4294967296 ^ n:=by have:=Zwx (hb.take (n:=n)); rwa [List.length_take,Nat.min_eq_left (by omega)] at this
  rw [Zat ga,Zat gb,cmpTop,Ydj ha hb n (by omega) (by omega)]
  generalize a.getD n 0=x
  generalize b.getD n 0=y
  generalize val (a.take n)=X at la ⊢
  generalize val (b.take n)=Y at lb ⊢
  generalize 4294967296 ^ n=p at la lb ⊢
  by_cases hxy:x<y
  ·rw [if_pos hxy,if_pos (Z2y la hxy)]
  ·rw [if_neg hxy]
   by_cases hyx:y<x
   ·have:=Z2y (X:=Y) (Y:=X) lb hyx
    rw [if_pos hyx,if_neg (by omega),if_pos this]
   ·have:x=y:=by omega
    subst this
    rw [if_neg hyx]
    by_cases h3:X<Y
    ·have h5:X+p*x<Y+p*x:=by omega
     rw [if_pos h3,if_pos h5]
    ·have h5:¬ X+p*x<Y+p*x:=by omega
     rw [if_neg h3,if_neg h5]
     by_cases h4:Y<X
     ·have h6:Y+p*x<X+p*x:=by omega
      rw [if_pos h4,if_pos h6]
     ·have h6:¬ Y+p*x<X+p*x:=by omega
      rw [if_neg h4,if_neg h6]
theorem Zni {m n:Nat}(h:m≤n):lenN m≤lenN n:=by
 unfold lenN
 induction n using Nat.strongRecOn generalizing m with
 | _ n ih =>
  by_cases hm:m=0
  ·subst hm; simp [Zas]
  ·rw [Zb7 hm,Zb7 (show n≠0 by omega),List.length_cons,List.length_cons]
   have := @ih (n / 4294967296) (by omega) (m / 4294967296) (Nat.div_le_div_right h)
   omega
theorem Ysc (m n:Nat):cmpL (limbs m) (limbs n)=if m<n then -1 else if n<m then 1 else 0:=by
 unfold cmpL
 by_cases h1:(limbs m).length<(limbs n).length
 ·have:m<n:=by
   rcases Nat.lt_or_ge m n with h | h
   ·exact h
   ·have:=Zni h; unfold lenN at this; omega
  rw [if_pos h1,if_pos this]
 ·rw [if_neg h1]
  by_cases h2:(limbs n).length<(limbs m).length
  ·have:n<m:=by
    rcases Nat.lt_or_ge n m with h | h
    ·exact h
    ·have:=Zni h; unfold lenN at this; omega
   rw [if_pos h2,if_neg (by omega),if_pos this]
  ·have h3:(limbs m).length=(limbs n).length:=by omega
   rw [if_neg h2,Ydj (Zbj m) (Zbj n) _ (Nat.le_refl _) (by omega),List.take_length,h3,List.take_length,Zay,Zay]
theorem Zzm {m n:Nat}(hm:lenN m≤549755813888) (hn:lenN n≤549755813888) :
  SpecV Tryz.prog Z2o [.sl (u32c (limbs m)),.sl (u32c (limbs n))] (.int .i64 (if m<n then -1 else if n<m then 1 else 0)):=by
 have:=Yif (limbs m) (limbs n) (Nat.le_trans hm (by omega)) (Nat.le_trans hn (by omega))
 rw [Ysc] at this; exact this
theorem Ykn {m n:Nat}(hm:lenN m≤549755813888) (h:n≤m) :
  SpecV Tryz.prog Z9d [.sl (u32c (limbs m)),.sl (u32c (limbs n))] (.sl (u32c (limbs (m - n)))):=by
 have:=Yrb (Zbj m) (Zbj n) (Nat.le_trans hm (by omega)) (Zni h) (by rw [Zay,Zay]; exact h)
 rw [Zay,Zay] at this; exact this
theorem Zps {s:Bool}{n:Nat}{z:Int}(h:(if s=true then -(n:Int) else n)=z):SpecV Tryz.prog Zny [.bool s,.sl (u32c (limbs n))] (avI z):=by
 have:=Z9h s n
 rw [h] at this; exact this
theorem Z8h {a b:Int}(ha:lenN a.natAbs≤549755813888) (hb:lenN b.natAbs≤549755813888):SpecV Tryz.prog Yu2 [avI a,avI b] (avI (a+b)):=by
 refine Zae Ytq (by simp) ?_
 unfold Ypl
 rw [avI,avI,avS,avS]
 have key:∀ s t:Bool,s=decide (a<0)→t=decide (b<0)→W Tryz.prog 42 0 (.seq (.rg false Zof) (.seq (.block 0 (.seq (.rg false Zo3) (.cond (.t 5) (.seq (.rg true Zpg) .ret) (.seq (.rg false Zzt) (.cond (.t 19) (.seq (.rg true Zom) .ret) .skip))))) (.seq (.rg true Zp5) .ret)))
   ⟨argE [.agg [.bool s,.sl (u32c (limbs a.natAbs))],.agg [.bool t,.sl (u32c (limbs b.natAbs))]],[]⟩ (retQ [.cell 4 (some 2)] (avI (a+b))):=by
  have same:∀ s:Bool,s=decide (a<0)→s=decide (b<0)→(if s=true then -((a.natAbs+b.natAbs:Nat):Int) else (a.natAbs+b.natAbs:Nat))=a+b:=by
   intro s h1 h2
   cases s <;> simp at h1 h2 ⊢ <;> omega
  have diff:∀ s:Bool,s=decide (a<0)→(!s)=decide (b<0)→(b.natAbs≤a.natAbs→(if s=true then -((a.natAbs - b.natAbs:Nat):Int) else (a.natAbs - b.natAbs:Nat))=a+b) ∧
    (a.natAbs≤b.natAbs→(if (!s)=true then -((b.natAbs - a.natAbs:Nat):Int) else (b.natAbs - a.natAbs:Nat))=a+b):=by
   intro s h1 h2
   cases s <;> simp at h1 h2 ⊢ <;> omega
  have fin:avI (a+b) = .agg [.bool (decide (a+b<0)),.sl (u32c (limbs (a+b).natAbs))]:=rfl
  intro s t h1 h2
  by_cases hst:s=t
  ·subst hst
   have m1:=Zps (same s h1 h2)
   cases s <;>
   ·simp only [go_sem,Zof,Zo3,Zpg]
    refine Zaa (Yoh ha hb) (by simp only [go_sem]) ?_
    simp only [go_sem]
    refine Zaa m1 (by simp only [go_sem]) ?_
    rw [fin]
    simp only [go_sem]
  ·have ht:t = !s:=by cases s <;> cases t <;> simp_all
   subst ht
   obtain ⟨d1,d2⟩:=diff s h1 h2
   cases s <;>
   ·simp only [go_sem,Zof,Zo3,Zzt]
    refine Zaa (Zzm ha hb) (by simp only [go_sem]) ?_
    simp only [go_sem]
    refine ⟨fun h=>?_,fun h=>?_⟩
    ·have hba:b.natAbs≤a.natAbs:=by
      rcases Nat.lt_or_ge a.natAbs b.natAbs with h3 | h3
      ·rw [if_pos h3] at h; omega
      ·exact h3
     simp only [go_sem,Zom]
     refine Zaa (Ykn ha hba) (by simp only [go_sem]) ?_
     simp only [go_sem]
     refine Zaa (Zps (d1 hba)) (by simp only [go_sem]) ?_
     rw [fin]
     simp only [go_sem]
    ·have hab:a.natAbs≤b.natAbs:=by
      rcases Nat.lt_or_ge a.natAbs b.natAbs with h3 | h3
      ·omega
      ·exfalso; apply h; rw [if_neg (by omega)]; split <;> omega
     simp only [go_sem,Zp5]
     refine Zaa (Ykn hb hab) (by simp only [go_sem]) ?_
     simp only [go_sem]
     refine Zaa (Zps (d2 hab)) (by simp only [go_sem]) ?_
     rw [fin]
     simp only [go_sem]
 exact key _ _ rfl rfl
end GoAbs
namespace GoAbs
open Go Go.Proofs
theorem Zao (z:Int):avI z = .agg [.bool (decide (z<0)),.sl (u32c (limbs z.natAbs))]:=rfl
attribute [go_sem] Zao
theorem Ypp (z:Int):SpecV Tryz.prog Yej [avI z] (.int .i64 (if z=0 then 0 else if z<0 then -1 else 1)):=by
 have h:=Yxw (decide (z<0)) (limbs z.natAbs)
 have e:(if limbs z.natAbs = [] then (0:Int) else if decide (z<0)=true then -1 else 1)=if z=0 then 0 else if z<0 then -1 else 1:=by
  have h0:limbs z.natAbs = []↔z=0:=by rw [Zhm]; omega
  by_cases h1:z=0
  ·rw [if_pos h1,if_pos (h0.2 h1)]
  ·rw [if_neg h1,if_neg (fun h=>h1 (h0.1 h))]; simp
 rw [e] at h
 exact h
theorem Yo7 {a b:Int}(ha:lenN a.natAbs≤549755813888) (hb:lenN b.natAbs≤549755813888):SpecV Tryz.prog Yxp [avI a,avI b] (avI (a - b)):=by
 refine Zae Yta (by simp) ?_
 unfold Yp5
 have h2:=Z8h (a:=a) (b := -b) ha (by rw [Int.natAbs_neg]; exact hb)
 rw [show a + -b=a - b by omega] at h2
 simp only [go_sem,Ybt,Zz3]
 refine Zaa (Z74 b) (by simp only [go_sem]) ?_
 simp only [go_sem]
 refine Zaa h2 (by simp only [go_sem]) ?_
 simp only [go_sem]
theorem Ypu {a b:Int}(ha:lenN a.natAbs≤549755813888) (hb:lenN b.natAbs≤549755813888):SpecV Tryz.prog Yzr [avI a,avI b] (.int .i64 (if a<b then -1 else if b<a then 1 else 0)):=by
 refine Zae Yqr (by simp) ?_
 unfold Yo5
 simp only [go_sem,Z9m,Yby]
 refine Zaa (Yo7 ha hb) (by simp only [go_sem]) ?_
 simp only [go_sem]
 refine Zaa (Ypp (a - b)) (by simp only [go_sem]) ?_
 simp only [go_sem]
 split <;> split <;> (try split) <;> omega
theorem Y3n {n:Nat}(h:n<18446744073709551616):limbs n=trimL [n % 4294967296,n / 4294967296]:=by
 have hok:Ok32 [n % 4294967296,n / 4294967296]:=fun x hx=>by
  rcases List.mem_cons.1 hx with rfl | hx
  ·omega
  ·rw [List.mem_singleton] at hx; omega
 rw [← Zc3 hok]
 congr 1
 simp only [val]; omega
theorem Yyg {z:Int}(h1 : -9223372036854775808≤z) (h2:z≤9223372036854775807):SpecV Tryz.prog Yn0 [.int .i64 z] (avI z):=by
 refine Zae Yvc (by simp) ?_
 unfold Yxj
 have h32:(32:Int)=((32:Nat):Int):=rfl
 have hn:z.natAbs<18446744073709551616:=by omega
 have hw:=Y3n hn
 generalize hm:z.natAbs=m at hn hw
 have e3:IntKind.u32.wrap (m:Int)=(m % 4294967296:Nat):=Zzy m
 have e4:shrI .u64 (m:Int) 32=(m / 4294967296:Nat):=by rw [h32,Zeh _ _ _ (by decide)]
 have e5:IntKind.u32.wrap ((m / 4294967296:Nat):Int)=(m / 4294967296:Nat):=Zf0 (by omega) (by omega)
 have ht:=Zc1 [m % 4294967296,m / 4294967296] (by simp)
 rw [← hw] at ht
 have hmade:∀ s:Bool,s=decide (z<0)→SpecV Tryz.prog Zny [.bool s,.sl (u32c (limbs m))] (avI z):=fun s hs=>Zps (by
  subst hs
  by_cases h:z<0 <;> simp [h] <;> omega)
 simp only [go_sem,Ydh,Ydp,Yd1]
 refine ⟨fun hz=>?_,fun hz=>?_⟩
 ·have e1:IntKind.u64.wrap (0 - IntKind.u64.wrap z)=(m:Nat):=by rw [IntKind.wrap_u64,IntKind.wrap_u64]; omega
  simp only [go_sem,Yee,Z4q,hz,e1,e3,e4,e5]
  refine Zhl (ids := [1]) ht ?_ ?_
  ·simp only [go_sem]
   exact Zde rfl (by simp) rfl rfl
  ·simp only [go_sem]
   refine Zaa (hmade true (by simp [hz])) (by simp only [go_sem]) ?_
   simp only [go_sem,hm]
   try simp [hz]
 ·have e1:IntKind.u64.wrap z=(m:Nat):=by rw [IntKind.wrap_u64]; omega
  simp only [go_sem,Z4q,hz,e1,e3,e4,e5]
  refine Zhl (ids := [1]) ht ?_ ?_
  ·simp only [go_sem]
   exact Zde rfl (by simp) rfl rfl
  ·simp only [go_sem]
   refine Zaa (hmade false (by simp [hz])) (by simp only [go_sem]) ?_
   simp only [go_sem,hm]
   try simp [hz]
end GoAbs
