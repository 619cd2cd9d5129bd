/- Lemmas for the claim (contracts of the functions that it reaches, and what they compute), without conditions. -/
import Derived.Test.YtiapneoakbealaaGreatK29
set_option linter.unusedVariables false
set_option linter.unusedSimpArgs false
set_option maxRecDepth 10000
set_option maxHeartbeats 2000000
namespace GoAbs
set_option linter.unusedVariables false
def sumL (R:List Nat) (f:Nat→Rat):Rat:=match R with
 | []=>0
 | i::R=>f i+sumL R f
theorem Yc3 {f:Nat→Rat}:sumL [] f=0:=rfl
theorem Zaw {i:Nat}{R:List Nat}{f:Nat→Rat}:sumL (i::R) f=f i+sumL R f:=rfl
theorem Zas {R:List Nat}{f g:Nat→Rat}(h:∀ i,i∈R→f i=g i):sumL R f=sumL R g:=by
 induction R with
 | nil=>rfl
 | cons i R ih=>rw [Zaw,Zaw,h i (by simp),ih (fun j hj=>h j (by simp [hj]))]
theorem Zy1 {R:List Nat}{f g:Nat→Rat}:sumL R (fun i=>f i+g i)=sumL R f+sumL R g:=by
 induction R with
 | nil=>simp only [sumL]; grind
 | cons i R ih=>rw [Zaw,Zaw,Zaw,ih]; grind
theorem Zey {R:List Nat}{c:Rat}{f:Nat→Rat}:sumL R (fun i=>c*f i)=c*sumL R f:=by
 induction R with
 | nil=>simp only [sumL]; grind
 | cons i R ih=>rw [Zaw,Zaw,ih]; grind
theorem Y1n {R:List Nat}{f:Nat→Rat}(h:∀ i,i∈R→f i=0):sumL R f=0:=by
 induction R with
 | nil=>rfl
 | cons i R ih=>rw [Zaw,h i (by simp),ih (fun j hj=>h j (by simp [hj]))]; grind
theorem Ys1 {R:List Nat}{f:Nat→Rat}(h:∀ i,i∈R→0≤f i):0≤sumL R f:=by
 induction R with
 | nil=>exact Rat.le_refl
 | cons i R ih =>
  rw [Zaw]
  have h1:=h i (by simp)
  have h2:=ih (fun j hj=>h j (by simp [hj]))
  grind
abbrev Mat:=Nat→Nat→Rat
def schur (r:Nat) (A:Mat):Mat:=fun i j=>A i j - A i r*A r j / A r r
def dt:List Nat→Mat→Rat
 | [],_=>1
 | r::R,A=>A r r*dt R (schur r A)
def gt:List Nat→Mat→(Nat→Rat)→Rat
 | [],_,_=>0
 | r::R,A,v=>v r*v r*dt R (schur r A)+A r r*gt R (schur r A) (fun i=>v i - v r*A i r / A r r)
end GoAbs
namespace GoAbs
open Go Go.Proofs
theorem Zlr {H:Heap}{ids:List Nat}{n d:Int}:BVs H ids (rc n d) (rc n d)=True:=by
 unfold rc; simp only [go_sem]
theorem Xiv {q w:Rat}{wn wd:Int}(hd:wd≠0) (hw:w=Rat.divInt wn wd):Rat.divInt (q.num*wd+wn*q.den) (q.den*wd)=q+w:=by
 have hq:(q.den:Int)≠0:=by have:=q.den_pos; omega
 have:=Rat.divInt_add_divInt q.num wn hq hd
 rw [Rat.num_divInt_den, ← hw] at this
 exact this.symm
end GoAbs
namespace GoAbs
open Go Go.Proofs
end GoAbs
namespace GoAbs
open Go Go.Proofs
def ivs (p:List Int):List AV:=p.map fun v => .int .i64 v
theorem Za4 (p:List Int):(ivs p).length=p.length:=by simp [ivs]
end GoAbs
namespace GoAbs
theorem Ywh {r:List Rat}{j c:Nat}{x:Rat}(hc:c<r.length):rget (r.set c x) j=if j=c then x else rget r j:=by
 unfold rget
 rw [List.getD_eq_getElem?_getD,List.getD_eq_getElem?_getD,List.getElem?_set]
 by_cases h:c=j
 ·subst h; simp [hc]
 ·rw [if_neg h,if_neg (fun e=>h e.symm)]
theorem Y73 {M:RM}{i a:Nat}{r:List Rat}(ha:a<M.length):(M.set a r).getD i []=if i=a then r else M.getD i []:=by
 rw [List.getD_eq_getElem?_getD,List.getD_eq_getElem?_getD,List.getElem?_set]
 by_cases h:a=i
 ·subst h; simp [ha]
 ·rw [if_neg h,if_neg (fun e=>h e.symm)]
theorem Zkj {M:RM}{w a c i j:Nat}{x:Rat}(hW:Wid w M) (ha:a<M.length) (hc:c<w):mget (addAt M a c x) i j=mget M i j+if i=a∧j=c then x else 0:=by
 unfold addAt
 show rget ((M.set a _).getD i []) j=_
 rw [Y73 ha]
 by_cases h1:i=a
 ·subst h1
  rw [if_pos rfl,Ywh (by rw [hW.get ha]; exact hc)]
  by_cases h2:j=c
  ·subst h2; rw [if_pos rfl,if_pos ⟨rfl,rfl⟩]
  ·rw [if_neg h2,if_neg (fun h=>h2 h.2)]
   show mget M i j=_
   grind
 ·rw [if_neg h1,if_neg (fun h=>h1 h.1)]
  show mget M i j=_
  grind
theorem Zwi {M:RM}{w c i j:Nat}(hW:Wid w M) (hi:i<M.length) (hj:j<w) (hci:c<i) (hcj:c≤j) (hp:mget M c c≠0):mget (elimCol M c M.length) i j=mget M i j - mget M i c*mget M c j / mget M c c:=by
 unfold mget
 rw [List.getD_eq_getElem?_getD (l:=elimCol M c M.length),Zfa hi,if_pos ⟨hci,hi⟩]
 simp only [Option.getD_some]
 unfold elimRow
 have hl:=hW.get hi
 split
 ·rename_i h0
  rw [h0]
  grind
 ·show (elimTo _ _ _ _ _).getD j 0=_
  rw [List.getD_eq_getElem?_getD,Zg1 (by rw [hl]; exact hj),if_pos ⟨hcj,by rw [hl]; exact hj⟩]
  simp only [Option.getD_some]
  unfold mget at hp
  grind
end GoAbs
