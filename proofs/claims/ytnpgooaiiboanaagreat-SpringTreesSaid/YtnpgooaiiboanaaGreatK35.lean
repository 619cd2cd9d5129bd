/- Lemmas for the claim (contracts of the functions that it reaches, and what they compute), without conditions. -/
import Derived.Test.YtnpgooaiiboanaaGreatK34
set_option linter.unusedVariables false
set_option linter.unusedSimpArgs false
set_option maxRecDepth 10000
set_option maxHeartbeats 2000000
namespace GoAbs
open Go Go.Proofs
theorem Opens.mono {P : Program} {t : TypeId} {S S' : List AV → Prop} (h : Opens P t S) (hs : ∀ av, S av → S' av) : Opens P t S' := fun enc w base spare held fuel cs x hx => by
  obtain ⟨av, h1, h2⟩ := h enc w base spare held fuel cs x hx
  exact ⟨av, h1, hs av h2⟩
theorem opensSpr : Opens Tryz.prog 42 (fun av => ∃ s : Spr, av = sC s) := by
  refine Opens.mono (opens_st (n := 3) Tryz.underlying42 (by kernel_rfl) (opensF_cons (off := 0) (k := 1) rfl (by kernel_rfl) (by omega) (opens_int Tryz.underlying3) (opensF_cons (off := 1) (k := 1) rfl (by kernel_rfl) (by omega) (opens_int Tryz.underlying3) (opensF_cons (off := 2) (k := 1) rfl (by kernel_rfl) (by omega) (opens_str Tryz.underlying26) opensF_nil)))) ?_
  rintro av ⟨a, b, rfl, _, ⟨n, rfl, _⟩, c, d, rfl, _, ⟨m, rfl, _⟩, e, f, rfl, _, ⟨s, rfl, _⟩, rfl⟩
  obtain ⟨l, rfl⟩ := bs_of s
  exact ⟨(n, m, l), rfl⟩
theorem opensSprs : Opens Tryz.prog 22 (fun av => ∃ L : List Spr, av = [.sl (L.map sprAV)]) := by
  refine Opens.mono (opens_slA (n := 3) Tryz.underlying22 (by kernel_rfl) (by omega) opensSpr) ?_
  rintro av ⟨l, rfl, h⟩
  have : ∀ l : List (List AV), (∀ c, c ∈ l → c.length = 3 ∧ ∃ s : Spr, c = sC s) → ∃ L : List Spr, l.map AV.agg = L.map sprAV := by
    intro l
    induction l with
    | nil => intro _; exact ⟨[], rfl⟩
    | cons c l ih =>
      intro h
      obtain ⟨L, hL⟩ := ih (fun d hd => h d (by simp [hd]))
      obtain ⟨_, s, hs⟩ := h c (by simp)
      exact ⟨s :: L, by rw [List.map_cons, List.map_cons, hL, hs]; rfl⟩
  obtain ⟨L, hL⟩ := this l h
  exact ⟨L, by rw [hL]⟩
theorem opensNet : Opens Tryz.prog 24 (fun av => ∃ (n : Int) (L : List Spr), av = [.int .i64 n, .sl (L.map sprAV)]) := by
  refine Opens.mono (opens_st (n := 2) Tryz.underlying24 (by kernel_rfl) (opensF_cons (off := 0) (k := 1) rfl (by kernel_rfl) (by omega) (opens_int Tryz.underlying3) (opensF_cons (off := 1) (k := 1) rfl (by kernel_rfl) (by omega) opensSprs opensF_nil))) ?_
  rintro av ⟨a, b, rfl, _, ⟨n, rfl, _⟩, c, d, rfl, _, ⟨L, rfl⟩, rfl⟩
  exact ⟨n, L, rfl⟩
theorem calls_true {P : Program} {f : Nat} {xs : List AV} {vs : Array Value} {w : World} (h : SpecV P f xs (.bool true)) (hr : Reps w noX noPl xs vs) : Calls P f vs w fun e w' => e = .returned (.bool true) ∧ Go.RowKit.Below w.heap.size w w' :=
  (h.2 noX w vs (fun _ hb => hb.elim) hr).mono fun e w' he => by
    obtain ⟨v, rfl, hv, hb⟩ := he
    cases hv
    exact ⟨rfl, hb⟩
theorem reps1 {w : World} {x : AV} {v : Value} (h : Rep w noX noPl x v) : Reps w noX noPl [x] #[v] := ⟨rfl, fun i y u hy hu => by
  cases i with
  | zero => simp at hy hu; subst hy hu; exact h
  | succ i => simp at hy⟩
end GoAbs
