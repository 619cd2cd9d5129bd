/- Lemmas for the claim (contracts of the functions that it reaches, and what they compute), without conditions. -/
import Derived.Test.YtiapneoakbealaaGreatK21
set_option linter.unusedVariables false
set_option linter.unusedSimpArgs false
set_option maxRecDepth 10000
set_option maxHeartbeats 2000000
namespace GoAbs
open Go Go.RowKit
variable {X:Nat→Prop} {B:Nat} {w0 w w':World} {ρ ρ':Pl} {H H':Heap} {P:Program} {O:Nat→Prop}
variable {nt n0:Nat} {st st':St} {Q:Ex→St→Prop}
theorem Xhc {ids:List Nat}:BV H ids .nils .nils=True:=by simp [BV.nils]
theorem Xgw {ids:List Nat}:BV H ids .nils (.sl [])=True:=by simp [BV.nilsl]
attribute [go_sem] Xhc Xgw
theorem Zbz {a b c:St}(h:Le nt n0 a b) (e:b=c):Le nt n0 a c:=e ▸ h
theorem HSim.row0 (hh:HSim X B w ρ H):HSim X B w ρ (H ++ [.cells []])∧(∀ c,Own X ρ (H ++ [.cells []]) c→Own X ρ H c)∧ρ H.length=none:=by
 have hno:ρ H.length=none:=by
  cases h:ρ H.length with
  | none=>rfl
  | some p =>
   obtain ⟨bl,g1,_⟩:=hh.dom _ p h
   rw [List.getElem?_eq_none (Nat.le_refl _)] at g1; cases g1
 have old:∀ {i:Nat} {p:Nat×Nat} {bl:Blk},ρ i=some p→(H ++ [.cells []])[i]? = some bl→H[i]? = some bl:=fun {i p bl} hp hb=>by
  obtain ⟨b2,g1,_⟩:=hh.dom i p hp
  have hi:=(List.getElem?_eq_some_iff.1 g1).1
  rwa [List.getElem?_append_left hi] at hb
 have hO:∀ c,Own X ρ (H ++ [.cells []]) c→Own X ρ H c:=fun c hc=>by
  rcases hc with h | ⟨j,p,hp,rfl,bl,hbl,h1,h2⟩
  ·exact .inl h
  ·exact Zci hp rfl (old hp hbl) h1 h2
 refine ⟨⟨fun i p hp=>?_,fun i l hl=>?_,fun i es hl=>?_,fun i j p q b c hp hq hpq hb hc nb nc=>hh.inj i j p q b c hp hq hpq (old hp hb) (old hq hc) nb nc⟩,hO,hno⟩
 ·obtain ⟨bl,g1,g2⟩:=hh.dom i p hp
  exact ⟨bl,by rw [List.getElem?_append_left (List.getElem?_eq_some_iff.1 g1).1]; exact g1,g2⟩
 ·rcases Nat.lt_or_ge i H.length with hi | hi
  ·rw [List.getElem?_append_left hi] at hl
   rcases hh.cells i l hl with h1 | ⟨bk,o,cs,e,g1,g2,g3,g4,g5⟩
   ·exact .inl h1
   ·exact .inr ⟨bk,o,cs,e,g1,g2,g3,g4,fun j y hy=>let ⟨v,k1,k2,k3⟩:=g5 j y hy; ⟨v,k1,k2,k3.less hO⟩⟩
  ·rw [List.getElem?_append_right hi] at hl
   have hi0:i - H.length=0:=by
    rcases Nat.eq_zero_or_pos (i - H.length) with h | h
    ·exact h
    ·rw [List.getElem?_eq_none (by simp; omega)] at hl; cases hl
   rw [hi0] at hl
   simp only [List.getElem?_cons_zero,Option.some.injEq,Blk.cells.injEq] at hl
   have:i=H.length:=by omega
   subst this
   exact .inl ⟨hl.symm,hno⟩
 ·rcases Nat.lt_or_ge i H.length with hi | hi
  ·rw [List.getElem?_append_left hi] at hl
   obtain ⟨bk,ms,ck,g1,g2,g3,g4,g5⟩:=hh.map i es hl
   exact ⟨bk,ms,ck,g1,g2,g3,g4,fun j x y m hx hm=>let ⟨k1,k2,k3⟩:=g5 j x y m hx hm; ⟨k1.less hO,k2.less hO,k3⟩⟩
  ·rw [List.getElem?_append_right hi] at hl
   have hi0:i - H.length=0:=by
    rcases Nat.eq_zero_or_pos (i - H.length) with h | h
    ·exact h
    ·rw [List.getElem?_eq_none (by simp; omega)] at hl; cases hl
   rw [hi0] at hl
   simp at hl
theorem Zkb (s:Nat) (ek:Option Nat) (hs:st.env s = .nils) (l:List (Nat×AV)) (hl:Has st.env l):Le nt n0 st ⟨envL ((s,.osl ek st.H.length 0 0)::l),st.H ++ [.cells []]⟩:=fun b a w ρ _ hsim=>by
 obtain ⟨h1,h2,h3⟩:=hsim.ctx.heap.row0
 refine ⟨ρ,⟨⟨h1,hsim.ctx.xs,hsim.ctx.below,hsim.ctx.bs⟩,fun t=>?_,hsim.size,hsim.defers,hsim.keep.trans (Zh7 h2),hsim.rho⟩,h2⟩
 show Rep w (Own b.X ρ (st.H ++ [.cells []])) ρ (envL ((s,.osl ek st.H.length 0 0)::l) t) (a.tmps.getD t undef)
 by_cases ht:t=s
 ·subst ht
  have hr:=hsim.env t
  rw [hs] at hr
  simp only [envL,if_true]
  obtain ⟨A,hv⟩:=Zhe hr
  rw [hv]
  exact .osl0 ek _ 0 A
 ·simp only [envL,if_neg ht]
  rcases Yaw l t with g1 | ⟨p,g1,rfl,g3⟩
  ·rw [g1]; exact .any _
  ·rw [g3, ← Yiv hl p g1]; exact (hsim.env _).less h2
theorem Yl5 {f:Nat}{ids:List Nat}{xs ys:List AV}{r:AV}(h:SpecR P f [] ys r H') (hx:BVs H ids xs ys) (hy:BVs (kill ids H) [] ys ys) :
  SpecR P f H xs (r.gc (fun i=>some (i+H.length))) (kill ids H++H'.map (Blk.gc (fun i=>some (i+H.length)))):=by
 have hk:∀ (ids:List Nat) (H:Heap),(kill ids H).length=H.length:=by
  intro ids
  induction ids with
  | nil=>intro H; rfl
  | cons b r ih=>intro H; show (kill r (H.set b .dead)).length=_; rw [ih,List.length_set]
 have hf:=Z0h (H:=kill ids H) h hy
 rw [hk] at hf
 refine ⟨h.1,fun X B w0 w ρ vs hh hX hbel hB hr=>?_⟩
 obtain ⟨h1,hown⟩:=HSim.killed (ids:=ids) hh
 have hC:Ctx X B w0 w ρ H:=⟨hh,hX,hbel,hB⟩
 have hr':Reps w (Own X ρ (kill ids H)) ρ ys vs:=⟨(Z24 hC hx hr).1,fun i x v hx' hv=>((Z24 hC hx hr).2 i x v hx' hv).keep (Keep.refl _ _) (fun _ _ h=>by cases h)⟩
 refine (hf.2 X B w0 w ρ vs h1 hX hbel hB hr').mono fun e w' he=>?_
 obtain ⟨v',ρ',g1,g2⟩:=he
 exact ⟨v',ρ',g1,g2.of_less hown⟩
end GoAbs
