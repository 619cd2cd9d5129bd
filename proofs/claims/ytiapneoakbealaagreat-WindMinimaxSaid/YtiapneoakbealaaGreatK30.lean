/- Lemmas for the claim (contracts of the functions that it reaches, and what they compute), without conditions. -/
import Derived.Test.YtiapneoakbealaaGreatK29
set_option linter.unusedVariables false
set_option linter.unusedSimpArgs false
set_option maxRecDepth 10000
set_option maxHeartbeats 2000000
namespace GoAbs
set_option linter.unusedVariables false
def sumL (R:List Nat) (f:Nat→Rat):Rat:=match R with
 | []=>0
 | i::R=>f i+sumL R f
theorem Z98 {f:Nat→Rat}:sumL [] f=0:=rfl
theorem Zas {i:Nat}{R:List Nat}{f:Nat→Rat}:sumL (i::R) f=f i+sumL R f:=rfl
theorem Zbb {R:List Nat}{f g:Nat→Rat}(h:∀ i,i∈R→f i=g i):sumL R f=sumL R g:=by
 induction R with
 | nil=>rfl
 | cons i R ih=>rw [Zas,Zas,h i (by simp),ih (fun j hj=>h j (by simp [hj]))]
theorem Z2q {R:List Nat}{f g:Nat→Rat}:sumL R (fun i=>f i+g i)=sumL R f+sumL R g:=by
 induction R with
 | nil=>simp only [sumL]; grind
 | cons i R ih=>rw [Zas,Zas,Zas,ih]; grind
theorem Zgd {R:List Nat}{c:Rat}{f:Nat→Rat}:sumL R (fun i=>c*f i)=c*sumL R f:=by
 induction R with
 | nil=>simp only [sumL]; grind
 | cons i R ih=>rw [Zas,Zas,ih]; grind
theorem Y0q {R:List Nat}{f:Nat→Rat}(h:∀ i,i∈R→f i=0):sumL R f=0:=by
 induction R with
 | nil=>rfl
 | cons i R ih=>rw [Zas,h i (by simp),ih (fun j hj=>h j (by simp [hj]))]; grind
theorem Ypn {R:List Nat}{f:Nat→Rat}(h:∀ i,i∈R→0≤f i):0≤sumL R f:=by
 induction R with
 | nil=>exact Rat.le_refl
 | cons i R ih =>
  rw [Zas]
  have h1:=h i (by simp)
  have h2:=ih (fun j hj=>h j (by simp [hj]))
  grind
abbrev Mat:=Nat→Nat→Rat
def schur (r:Nat) (A:Mat):Mat:=fun i j=>A i j - A i r*A r j / A r r
def dt:List Nat→Mat→Rat
 | [],_=>1
 | r::R,A=>A r r*dt R (schur r A)
def gt:List Nat→Mat→(Nat→Rat)→Rat
 | [],_,_=>0
 | r::R,A,v=>v r*v r*dt R (schur r A)+A r r*gt R (schur r A) (fun i=>v i - v r*A i r / A r r)
end GoAbs
namespace GoAbs
open Go Go.Proofs
theorem Y69 {H:Heap}{ids:List Nat}{n d:Int}:BVs H ids (rc n d) (rc n d)=True:=by
 unfold rc; simp only [go_sem]
end GoAbs
namespace GoAbs
open Go Go.Proofs
theorem Ybx {v n:Int}(hn:0<n) : -n<v.tmod n∧v.tmod n<n∧(v.tmod n+n).tmod n=v % n:=by
 have h1:=Int.emod_nonneg v (show n≠0 by omega)
 have h2:=Int.emod_lt_of_pos v hn
 have h3:v.tmod n=v % n∨v.tmod n=v % n - n:=by
  rw [Int.tmod_eq_emod]
  split
  ·left; omega
  ·right; rw [Int.natAbs_of_nonneg (by omega)]
 have h5:0≤v.tmod n+n:=by omega
 refine ⟨?_,by omega,?_⟩
 ·rcases h3 with h3 | h3
  ·omega
  ·rcases Int.lt_or_eq_of_le h1 with h | h
   ·omega
   ·
    have:v.tmod n=0:=Int.tmod_eq_zero_of_dvd (Int.dvd_of_emod_eq_zero h.symm)
    omega
 ·rw [Int.tmod_eq_emod_of_nonneg h5]
  rcases h3 with h3 | h3 <;> rw [h3]
  ·rw [Int.add_emod_right,Int.emod_emod_of_dvd _ (Int.dvd_refl n)]
  ·rw [Int.sub_add_cancel,Int.emod_emod_of_dvd _ (Int.dvd_refl n)]
end GoAbs
namespace GoAbs
open Go Go.Proofs
def ivs (p:List Int):List AV:=p.map fun v => .int .i64 v
theorem Zat (p:List Int):(ivs p).length=p.length:=by simp [ivs]
end GoAbs
namespace GoAbs
theorem Y5c {r:List Rat}{j c:Nat}{x:Rat}(hc:c<r.length):rget (r.set c x) j=if j=c then x else rget r j:=by
 unfold rget
 rw [List.getD_eq_getElem?_getD,List.getD_eq_getElem?_getD,List.getElem?_set]
 by_cases h:c=j
 ·subst h; simp [hc]
 ·rw [if_neg h,if_neg (fun e=>h e.symm)]
theorem Y6e {M:RM}{i a:Nat}{r:List Rat}(ha:a<M.length):(M.set a r).getD i []=if i=a then r else M.getD i []:=by
 rw [List.getD_eq_getElem?_getD,List.getD_eq_getElem?_getD,List.getElem?_set]
 by_cases h:a=i
 ·subst h; simp [ha]
 ·rw [if_neg h,if_neg (fun e=>h e.symm)]
theorem Z5r {M:RM}{w a c i j:Nat}{x:Rat}(hW:Wid w M) (ha:a<M.length) (hc:c<w):mget (addAt M a c x) i j=mget M i j+if i=a∧j=c then x else 0:=by
 unfold addAt
 show rget ((M.set a _).getD i []) j=_
 rw [Y6e ha]
 by_cases h1:i=a
 ·subst h1
  rw [if_pos rfl,Y5c (by rw [hW.get ha]; exact hc)]
  by_cases h2:j=c
  ·subst h2; rw [if_pos rfl,if_pos ⟨rfl,rfl⟩]
  ·rw [if_neg h2,if_neg (fun h=>h2 h.2)]
   show mget M i j=_
   grind
 ·rw [if_neg h1,if_neg (fun h=>h1 h.1)]
  show mget M i j=_
  grind
theorem Z2i {M:RM}{w c i j:Nat}(hW:Wid w M) (hi:i<M.length) (hj:j<w) (hci:c<i) (hcj:c≤j) (hp:mget M c c≠0):mget (elimCol M c M.length) i j=mget M i j - mget M i c*mget M c j / mget M c c:=by
 unfold mget
 rw [List.getD_eq_getElem?_getD (l:=elimCol M c M.length),Ze9 hi,if_pos ⟨hci,hi⟩]
 simp only [Option.getD_some]
 unfold elimRow
 have hl:=hW.get hi
 split
 ·rename_i h0
  rw [h0]
  grind
 ·show (elimTo _ _ _ _ _).getD j 0=_
  rw [List.getD_eq_getElem?_getD,Zno (by rw [hl]; exact hj),if_pos ⟨hcj,by rw [hl]; exact hj⟩]
  simp only [Option.getD_some]
  unfold mget at hp
  grind
end GoAbs
