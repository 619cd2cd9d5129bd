/- Lemmas for the claim (contracts of the functions that it reaches, and what they compute), without conditions. -/
import Derived.Test.YtiapneoakbealaaGreatK11
set_option linter.unusedVariables false
set_option linter.unusedSimpArgs false
set_option maxRecDepth 10000
set_option maxHeartbeats 2000000
namespace GoAbs
open Go Go.RowKit
variable {X:Nat→Prop} {B:Nat} {w0 w w':World} {ρ ρ':Pl} {H H':Heap} {P:Program} {O:Nat→Prop}
inductive Ex where
 | normal
 | exit (id:Nat)
 | ret
def Ex.toExit:Ex→Exit
 | .normal => .normal
 | .exit id => .exit id
 | .ret => .ret
def Base.ok (b:Base) (n0:Nat):Prop:=∀ i p,b.ρS i=some p→i<n0
def T (P:Program) (nt n0:Nat) (cc:CC) (st:St) (Q:Ex→St→Prop):Prop :=
 ∀ code,cCode P nt code=some cc→∀ (b:Base) (a:Act) (w:World) (ρ:Pl),b.ok n0→Sim b nt st a w ρ→∀ Q':Exit→Act→World→Prop,
  (∀ e st' a' w' ρ',Q e st'→Sim b nt st' a' w' ρ'→Q' e.toExit a' w')→code.wp P Q' a w
def Le (nt n0:Nat) (st st':St):Prop:=∀ (b:Base) (a:Act) (w:World) (ρ:Pl),b.ok n0→Sim b nt st a w ρ→∃ ρ',Sim b nt st' a w ρ'∧∀ c,Own b.X ρ' st'.H c→Own b.X ρ st.H c
def thenQ (k:St→Prop) (Q:Ex→St→Prop):Ex→St→Prop
 | .normal,st=>k st
 | e,st=>Q e st
def blockQ (id:Nat) (Q:Ex→St→Prop):Ex→St→Prop
 | .exit id',st=>if id'=id then Q .normal st else Q (.exit id') st
 | e,st=>Q e st
variable {nt n0:Nat} {st st':St} {Q:Ex→St→Prop}
theorem Yft {cc:CC}{Q':Ex→St→Prop}(h:T P nt n0 cc st Q) (hq:∀ e st,Q e st→Q' e st):T P nt n0 cc st Q' :=
 fun code hc b a w ρ hb hs Q2 h2=>h code hc b a w ρ hb hs Q2 (fun e st' a' w' ρ' hQ hs'=>h2 e st' a' w' ρ' (hq _ _ hQ) hs')
theorem T_le {cc:CC}(hl:Le nt n0 st st') (h:T P nt n0 cc st' Q):T P nt n0 cc st Q:=fun code hc b a w ρ hb hs Q2 h2 =>
 let ⟨ρ',hs',_⟩:=hl b a w ρ hb hs
 h code hc b a w ρ' hb hs' Q2 h2
theorem Z8e {code:Code}{draw:Bool}{l:List IOp}(h:cCode P nt code=some (.rg draw l)):∃ id ops,code = .region id ops draw∧cRegion P nt ops draw=some l:=by
 cases code <;> simp only [cCode] at h <;> try cases h
 case region id ops d =>
  obtain ⟨x,hx,he⟩:=Option.map_eq_some_iff.1 h
  cases he
  exact ⟨id,ops,rfl,hx⟩
 all_goals (repeat' split at h) <;> first | cases h | (obtain ⟨x,hx,he⟩:=Option.map_eq_some_iff.1 h; cases he)
theorem Yyf (h:Q .normal st):T P nt n0 .skip st Q:=by
 intro code hc b a w ρ hb hs Q2 h2
 have:code = .skip:=by
  cases code <;> simp only [cCode] at hc <;> first | rfl | ((repeat' split at hc) <;> first | cases hc | (obtain ⟨x,hx,he⟩:=Option.map_eq_some_iff.1 hc; cases he))
 subst this
 exact wp_skip (h2 _ _ _ _ _ h hs)
theorem Xeg {id:Nat}(h:Q (.exit id) st):T P nt n0 (.exit id) st Q:=by
 intro code hc b a w ρ hb hs Q2 h2
 have:code = .exit id:=by
  cases code <;> simp only [cCode] at hc <;> first | (cases hc; rfl) | ((repeat' split at hc) <;> first | cases hc | (obtain ⟨x,hx,he⟩:=Option.map_eq_some_iff.1 hc; cases he))
 subst this
 exact wp_exit (h2 _ _ _ _ _ h hs)
theorem Xf0 (h:Q .ret st):T P nt n0 .ret st Q:=by
 intro code hc b a w ρ hb hs Q2 h2
 have:code = .ret:=by
  cases code <;> simp only [cCode] at hc <;> first | (cases hc; rfl) | ((repeat' split at hc) <;> first | cases hc | (obtain ⟨x,hx,he⟩:=Option.map_eq_some_iff.1 hc; cases he))
 subst this
 exact wp_ret (h2 _ _ _ _ _ h hs)
theorem Zbc {x y:CC}(h:T P nt n0 x st (thenQ (fun st'=>T P nt n0 y st' Q) Q)):T P nt n0 (.seq x y) st Q:=by
 intro code hc b a w ρ hb hs Q2 h2
 obtain ⟨c1,c2,rfl,e1,e2⟩:∃ c1 c2,code = .seq c1 c2∧cCode P nt c1=some x∧cCode P nt c2=some y:=by
  cases code <;> simp only [cCode] at hc
  case seq c1 c2 =>
   split at hc
   ·rename_i h1 h2; cases hc; exact ⟨c1,c2,rfl,h1,h2⟩
   ·cases hc
  all_goals ((repeat' split at hc) <;> first | cases hc | (obtain ⟨x,hx,he⟩:=Option.map_eq_some_iff.1 hc; cases he))
 refine wp_seq (h c1 e1 b a w ρ hb hs _ (fun e st' a' w' ρ' hQ hs'=>?_))
 cases e with
 | normal=>exact hQ c2 e2 b a' w' ρ' hb hs' Q2 h2
 | exit id=>exact h2 (.exit id) _ _ _ _ hQ hs'
 | ret=>exact h2 .ret _ _ _ _ hQ hs'
theorem Ylb {c:Ox}{x y:CC}(h:match c.ev st.env with | .bool t=>(t=true→T P nt n0 x st Q)∧(t=false→T P nt n0 y st Q) | _=>False):T P nt n0 (.cond c x y) st Q:=by
 intro code hc b a w ρ hb hs Q2 h2
 obtain ⟨o,c1,c2,rfl,e0,e1,e2⟩:∃ o c1 c2,code = .cond o c1 c2∧cOx o=some c∧cCode P nt c1=some x∧cCode P nt c2=some y:=by
  cases code <;> simp only [cCode] at hc
  case cond o c1 c2 =>
   split at hc
   ·rename_i h0 h1 h2; cases hc; exact ⟨o,c1,c2,rfl,h0,h1,h2⟩
   ·cases hc
  all_goals ((repeat' split at hc) <;> first | cases hc | (obtain ⟨x,hx,he⟩:=Option.map_eq_some_iff.1 hc; cases he))
 have hr:=Za4 hs.env e0
 split at h
 ·rename_i t ht
  rw [ht] at hr
  exact wp_cond_split (Zqc hr) (fun ht=>h.1 ht c1 e1 b a w ρ hb hs Q2 h2) (fun ht=>h.2 ht c2 e2 b a w ρ hb hs Q2 h2)
 ·exact h.elim
theorem Za8 {id:Nat}{x:CC}(h:T P nt n0 x st (blockQ id Q)):T P nt n0 (.block id x) st Q:=by
 intro code hc b a w ρ hb hs Q2 h2
 obtain ⟨c1,rfl,e1⟩:∃ c1,code = .block id c1∧cCode P nt c1=some x:=by
  cases code <;> simp only [cCode] at hc
  case block id' c1 =>
   obtain ⟨z,hz,he⟩:=Option.map_eq_some_iff.1 hc
   cases he
   exact ⟨c1,rfl,hz⟩
  all_goals ((repeat' split at hc) <;> first | cases hc | (obtain ⟨x,hx,he⟩:=Option.map_eq_some_iff.1 hc; cases he))
 refine wp_block (h c1 e1 b a w ρ hb hs _ (fun e st' a' w' ρ' hQ hs'=>?_))
 cases e with
 | normal=>exact h2 .normal _ _ _ _ hQ hs'
 | ret=>exact h2 .ret _ _ _ _ hQ hs'
 | exit id' =>
  simp only [blockQ] at hQ
  simp only [Ex.toExit,Exit.inBlock]
  by_cases hid:id'=id
  ·rw [if_pos hid] at hQ ⊢
   exact h2 .normal _ _ _ _ hQ hs'
  ·rw [if_neg hid] at hQ ⊢
   exact h2 (.exit id') _ _ _ _ hQ hs'
noncomputable def leastN (q:Nat→Prop):Nat:=Classical.epsilon fun n=>q n∧∀ m,q m→n≤m
theorem Yas {q:Nat→Prop}(h:∃ n,q n):q (leastN q)∧∀ m,q m→leastN q≤m:=by
 have:∃ n,q n∧∀ m,q m→n≤m:=by
  obtain ⟨n,hn⟩:=h
  induction n using Nat.strongRecOn with
  | _ n ih =>
   by_cases hx:∃ m,q m∧m<n
   ·obtain ⟨m,hm,hlt⟩:=hx
    exact ih m hlt hm
   ·exact ⟨n,hn,fun m hm=>Nat.le_of_not_lt fun hlt=>hx ⟨m,hm,hlt⟩⟩
 exact Classical.epsilon_spec this
theorem Yoj {q:Nat→Prop}(h:∃ n,q n):q (leastN q):=(Yas h).1
theorem Y0k {q:Nat→Prop}{n:Nat}(h:q n):leastN q≤n:=(Yas ⟨n,h⟩).2 n h
theorem Ykm {α:Type}(mk:α→St) (I:α→Prop) (μ:α→Nat) {x:CC}(x0:α) (h0:I x0) (hl:Le nt n0 st (mk x0))
  (round:∀ y,I y→T P nt n0 x (mk y) (thenQ (fun st'=>∃ z,I z∧μ z<μ y∧Le nt n0 st' (mk z)) Q)):T P nt n0 (.loop x) st Q:=by
 intro code hc b a w ρ hb hs Q2 h2
 obtain ⟨c1,rfl,e1⟩:∃ c1,code = .loop c1∧cCode P nt c1=some x:=by
  cases code <;> simp only [cCode] at hc
  case loop c1 =>
   obtain ⟨z,hz,he⟩:=Option.map_eq_some_iff.1 hc
   cases he
   exact ⟨c1,rfl,hz⟩
  all_goals ((repeat' split at hc) <;> first | cases hc | (obtain ⟨x,hx,he⟩:=Option.map_eq_some_iff.1 hc; cases he))
 let J:Nat→Act→World→Prop:=fun n a w=>∃ y ρ,I y∧μ y=n∧Sim b nt (mk y) a w ρ
 obtain ⟨ρ1,hs1,_⟩:=hl b a w ρ hb hs
 have hJ:∃ n,J n a w:=⟨μ x0,x0,ρ1,h0,rfl,hs1⟩
 refine wp_loop (fun a w=>∃ n,J n a w) (fun a w => @dite Nat (∃ n,J n a w) (Classical.propDecidable _) (fun h=>leastN (fun n=>J n a w)) (fun _=>0)) hJ (fun a w hJ=>?_)
 rw [dif_pos hJ]
 obtain ⟨y,ρ2,hI,hμ,hs2⟩:=Yoj hJ
 refine round y hI c1 e1 b a w ρ2 hb hs2 _ (fun e st' a' w' ρ' hQ hs'=>?_)
 cases e with
 | normal =>
  obtain ⟨z,hz,hlt,hle⟩:=hQ
  obtain ⟨ρ3,hs3,_⟩:=hle b a' w' ρ' hb hs'
  have hJ':J (μ z) a' w':=⟨z,ρ3,hz,rfl,hs3⟩
  refine ⟨⟨μ z,hJ'⟩,?_⟩
  rw [dif_pos ⟨μ z,hJ'⟩]
  exact Nat.lt_of_le_of_lt (Y0k hJ') (by rw [← hμ]; exact hlt)
 | exit id=>exact h2 (.exit id) _ _ _ _ hQ hs'
 | ret=>exact h2 .ret _ _ _ _ hQ hs'
end GoAbs
