/- Lemmas for the claim (contracts of the functions that it reaches, and what they compute), without conditions. -/
import Derived.Test.YtnpgooaiiboanaaGreatK34
import Derived.Test.YtnpgooaiiboanaaGreatProg
import Derived.KernelRfl
set_option linter.unusedVariables false
set_option linter.unusedSimpArgs false
set_option maxRecDepth 10000
set_option maxHeartbeats 2000000
namespace GoAbs
theorem mget_elim_up {M : RM} {c i j : Nat} (hi : i ≤ c) : mget (elimCol M c M.length) i j = mget M i j := by
  by_cases hl : i < M.length
  · unfold mget
    rw [List.getD_eq_getElem?_getD (l := elimCol M c M.length), elimCol_get hl, if_neg (by omega)]
    rfl
  · unfold mget
    rw [List.getD_eq_getElem?_getD, List.getD_eq_getElem?_getD, List.getElem?_eq_none (by rw [elimCol_len]; omega), List.getElem?_eq_none (by omega)]
theorem tri_up : ∀ {k c : Nat} {M : RM} {d : Rat} {i j : Nat}, i ≤ c → mget (tri k c M d).2 i j = mget M i j
  | 0, _, _, _, _, _, _ => rfl
  | k + 1, c, M, d, i, j, hi => by
    unfold tri
    split
    · rfl
    · rw [tri_up (by omega), mget_elim_up hi]
theorem tri_aug {m : Nat} : ∀ {k c : Nat} {M : RM} {A : Mat} {d : Rat}, c + k = m → M.length = m → Wid (m + 1) M → Psd (List.range' (c + 1) k) A → dt (List.range' (c + 1) k) A ≠ 0 → (∀ i j, c ≤ i → i < m → c ≤ j → j < m → mget M i j = A (i + 1) (j + 1)) →
    NoSw k c M ∧ (∀ i, c ≤ i → i < m → mget (tri k c M d).2 i i ≠ 0) ∧ Wid (m + 1) (tri k c M d).2 ∧
    ∀ x : Nat → Rat, (∀ i, c ≤ i → i < m → sumL (List.range' (i + 1) (m - i)) (fun j => x j * mget (tri k c M d).2 i (j - 1)) = mget (tri k c M d).2 i m) →
      ∀ i, c ≤ i → i < m → sumL (List.range' (c + 1) k) (fun j => x j * mget M i (j - 1)) = mget M i m
  | 0, c, M, A, d, hk, _, hW, _, _, _ => ⟨trivial, fun i h1 h2 => by omega, hW, fun _ _ i h1 h2 => by omega⟩
  | k + 1, c, M, A, d, hk, hM, hW, hA, hd, hg => by
    have hr : c + 1 ∉ List.range' (c + 1 + 1) k := by rw [List.mem_range'_1]; omega
    rw [List.range'_succ] at hA hd ⊢
    obtain ⟨d1, d2⟩ := dt_cons hd
    have hp := hg c c (by omega) (by omega) (by omega) (by omega)
    have h0 : mget M c c ≠ 0 := by rw [hp]; exact d1
    obtain ⟨i1, i2, i3, i4⟩ := tri_aug (k := k) (c := c + 1) (M := elimCol M c M.length) (A := schur (c + 1) A) (d := d * mget M c c) (by omega) (by rw [elimCol_len, hM]) hW.elim (hA.schur hr) d2 (fun i j hi hil hj hjl => by
      rw [mget_elim hW (by omega) (by omega) (by omega) (by omega) h0, hg i j (by omega) hil (by omega) hjl, hg i c (by omega) hil (by omega) (by omega), hg c j (by omega) (by omega) (by omega) hjl, hp]
      rfl)
    unfold tri NoSw
    rw [if_neg h0]
    refine ⟨⟨fun h => absurd h h0, fun _ => i1⟩, fun i h1 h2 => ?_, i3, fun x hx => ?_⟩
    · by_cases hi : i = c
      · rw [hi, tri_up (by omega), mget_elim_up (by omega)]; exact h0
      · exact i2 i (by omega) h2
    · have ih := i4 x (fun i h1 h2 => hx i (by omega) h2)
      have hc := hx c (by omega) (by omega)
      rw [show m - c = k + 1 by omega, List.range'_succ, sumL_cons, tri_up (by omega), tri_up (by omega), mget_elim_up (by omega), mget_elim_up (by omega)] at hc
      have hcs : sumL (List.range' (c + 1 + 1) k) (fun j => x j * mget (tri k (c + 1) (elimCol M c M.length) (d * mget M c c)).2 c (j - 1)) = sumL (List.range' (c + 1 + 1) k) (fun j => x j * mget M c (j - 1)) :=
        sumL_congr (fun j _ => by rw [tri_up (by omega), mget_elim_up (by omega)])
      rw [hcs] at hc
      intro i h1 h2
      rw [sumL_cons]
      rw [Nat.add_sub_cancel] at hc ⊢
      by_cases hi : i = c
      · rw [hi]; exact hc
      · have hm := ih i (by omega) h2
        have e1 : sumL (List.range' (c + 1 + 1) k) (fun j => x j * mget (elimCol M c M.length) i (j - 1)) = sumL (List.range' (c + 1 + 1) k) (fun j => x j * mget M i (j - 1)) + (-(mget M i c / mget M c c)) * sumL (List.range' (c + 1 + 1) k) (fun j => x j * mget M c (j - 1)) := by
          rw [← sumL_mul, ← sumL_add]
          refine sumL_congr (fun j hj => ?_)
          have hj' := List.mem_range'_1.1 hj
          rw [mget_elim hW (by omega) (by omega) (by omega) (by omega) h0]
          grind
        rw [e1, mget_elim hW (by omega) (by omega) (by omega) (by omega) h0] at hm
        generalize sumL (List.range' (c + 1 + 1) k) (fun j => x j * mget M i (j - 1)) = s at *
        generalize sumL (List.range' (c + 1 + 1) k) (fun j => x j * mget M c (j - 1)) = t at *
        have ht : t = mget M c m - x (c + 1) * mget M c c := by grind
        rw [ht] at hm
        grind
theorem bsub_succ {A : RM} {n k : Nat} : bsub A n (k + 1) = bacc (A.getD (n - 1 - k) []) (bsub A n k) (n - 1 - k) n k / rget (A.getD (n - 1 - k) []) (n - 1 - k) :: bsub A n k := by rw [bsub]
theorem bsub_drop {A : RM} {n : Nat} : ∀ {d k : Nat}, (bsub A n (k + d)).drop d = bsub A n k
  | 0, k => rfl
  | d + 1, k => by
    rw [show k + (d + 1) = (k + d) + 1 by omega, bsub_succ, List.drop_succ_cons]
    exact bsub_drop
theorem bsub_get {A : RM} {n k s : Nat} (hk : k ≤ n) : rget (bsub A n k) s = rget (bsub A n n) (n - k + s) := by
  have h := bsub_drop (A := A) (n := n) (d := n - k) (k := k)
  rw [show k + (n - k) = n by omega] at h
  rw [← h]
  unfold rget
  rw [List.getD_eq_getElem?_getD, List.getD_eq_getElem?_getD, List.getElem?_drop]
theorem bacc_sum {row T : List Rat} {i n : Nat} : ∀ {t : Nat}, bacc row T i n t = rget row n - sumL (List.range' (i + 2) t) (fun j => rget T (j - i - 2) * rget row (j - 1))
  | 0 => by unfold bacc; rw [List.range'_zero, sumL_nil]; grind
  | t + 1 => by
    unfold bacc
    rw [bacc_sum, List.range'_1_concat, sumL_app, sumL_cons, sumL_nil, show i + 2 + t - i - 2 = t by omega, show i + 2 + t - 1 = i + 1 + t by omega]
    grind
def solX (A : RM) (n : Nat) : Nat → Rat := fun j => rget (0 :: bsub A n n) j
theorem solX_succ {A : RM} {n j : Nat} : solX A n (j + 1) = rget (bsub A n n) j := by unfold solX rget; rfl
theorem bsub_sol {A : RM} {n : Nat} (hp : ∀ i, i < n → mget A i i ≠ 0) : ∀ i, i < n → sumL (List.range' (i + 1) (n - i)) (fun j => solX A n j * mget A i (j - 1)) = mget A i n := fun i hi => by
  obtain ⟨k, hk⟩ : ∃ k, k = n - 1 - i := ⟨_, rfl⟩
  have hik : n - 1 - k = i := by omega
  have h1 : rget (bsub A n (k + 1)) 0 = bacc (A.getD i []) (bsub A n k) i n k / mget A i i := by
    rw [bsub_succ, hik]
    rfl
  rw [bsub_get (by omega), bacc_sum] at h1
  rw [show n - i = k + 1 by omega, List.range'_succ, sumL_cons, solX_succ, Nat.add_sub_cancel]
  rw [show n - (k + 1) + 0 = i by omega] at h1
  have h2 : sumL (List.range' (i + 1 + 1) k) (fun j => solX A n j * mget A i (j - 1)) = sumL (List.range' (i + 2) k) (fun j => rget (bsub A n k) (j - i - 2) * rget (A.getD i []) (j - 1)) := sumL_congr (fun j hj => by
    have hj' := List.mem_range'_1.1 hj
    rw [bsub_get (by omega), show n - k + (j - i - 2) = j - 1 by omega]
    obtain ⟨j', rfl⟩ : ∃ j', j = j' + 1 := ⟨j - 1, by omega⟩
    rw [solX_succ, Nat.add_sub_cancel]
    rfl)
  rw [h2, h1]
  have h3 := hp i hi
  show _ / _ * _ + _ = rget (A.getD i []) n
  generalize sumL _ _ = s
  grind
theorem aug_mget {M : RM} {r : List Rat} {m i : Nat} (hM : M.length = m) (hW : Wid m M) (hr : r.length = m) (hi : i < m) : (∀ j, j < m → mget (aug M r) i j = mget M i j) ∧ mget (aug M r) i m = rget r i := by
  have h := aug_get (M := M) (r := r) (getD_some (M := M) (i := i) (by omega)) (rget_some (r := r) (j := i) (by omega))
  have e : (aug M r).getD i [] = M.getD i [] ++ [rget r i] := by rw [List.getD_eq_getElem?_getD, h]; rfl
  have hl := hW.get (i := i) (by omega)
  refine ⟨fun j hj => ?_, ?_⟩
  · show rget ((aug M r).getD i []) j = rget (M.getD i []) j
    rw [e]; unfold rget
    rw [List.getD_eq_getElem?_getD, List.getElem?_append_left (by omega), ← List.getD_eq_getElem?_getD]
  · show rget ((aug M r).getD i []) m = _
    rw [e]; unfold rget
    rw [List.getD_eq_getElem?_getD, List.getElem?_append_right (by omega), hl, Nat.sub_self]; rfl
def triA (m : Nat) (E : List Sp) (r : List Rat) : RM := (tri m 0 (aug (lapl m E) r) 1).2
theorem net_solve {m : Nat} {E : List Sp} {r : List Rat} (hE : ∀ e, e ∈ E → e.1 ≤ m ∧ e.2.1 ≤ m ∧ e.1 ≠ e.2.1 ∧ 0 ≤ e.2.2) (hr : r.length = m) (hd : dt (List.range' 1 m) (Lm id E) ≠ 0) :
    NoSw m 0 (aug (lapl m E) r) ∧ (∀ i, i < m → rget ((triA m E r).getD i []) i ≠ 0) ∧ Wid (m + 1) (triA m E r) ∧
    ∀ i, i ∈ List.range' 1 m → sumL (List.range' 1 m) (fun j => solX (triA m E r) m j * Lm id E i j) = rget r (i - 1) := by
  obtain ⟨lW, lL⟩ := lapl_wid (m := m) (E := E)
  have hpos : Pos E := fun e he => (hE e he).2.2.2
  have hget := lapl_get (m := m) (E := E) (fun e he => ⟨(hE e he).1, (hE e he).2.1, (hE e he).2.2.1⟩)
  obtain ⟨a1, a2, a3, a4⟩ := tri_aug (m := m) (k := m) (c := 0) (M := aug (lapl m E) r) (A := Lm id E) (d := 1) (by omega) (by rw [aug_len (by omega), lL]) (aug_wid lW) (Lm_psd hpos) hd (fun i j _ hi _ hj => by
    rw [(aug_mget lL lW hr hi).1 j hj, hget])
  refine ⟨a1, fun i hi => a2 i (by omega) hi, a3, fun i hi => ?_⟩
  have hi' := List.mem_range'_1.1 hi
  have h := a4 (solX (triA m E r) m) (fun i _ hi => bsub_sol (A := triA m E r) (n := m) (fun i hi => a2 i (by omega) hi) i hi) (i - 1) (by omega) (by omega)
  rw [(aug_mget lL lW hr (by omega)).2] at h
  rw [← h]
  refine sumL_congr (fun j hj => ?_)
  have hj' := List.mem_range'_1.1 hj
  rw [(aug_mget lL lW hr (by omega)).1 (j - 1) (by omega), hget, show i - 1 + 1 = i by omega, show j - 1 + 1 = j by omega]
end GoAbs
namespace GoAbs
theorem bget_set {s : List Bool} {a i : Nat} {v : Bool} (ha : a < s.length) : bget (s.set a v) i = if i = a then v else bget s i := by
  unfold bget
  rw [List.getD_eq_getElem?_getD, List.getD_eq_getElem?_getD, List.getElem?_set]
  by_cases h : a = i
  · subst h; simp [ha]
  · rw [if_neg h, if_neg (fun e => h e.symm)]
theorem bget_see {s : List Bool} {a b i : Nat} (ha : a < s.length) : bget (seeA a b s) i = if i = a then (bget s a || bget s b) else bget s i := bget_set ha
def BLe (s t : List Bool) : Prop := ∀ i, bget s i = true → bget t i = true
theorem seeA_le {s : List Bool} {a b : Nat} (ha : a < s.length) : BLe s (seeA a b s) := fun i hi => by
  rw [bget_see ha]; split
  · rename_i h; subst h; rw [hi]; rfl
  · exact hi
theorem seeE_le {s : List Bool} {e : Sp} (h1 : e.1 < s.length) (h2 : e.2.1 < s.length) : BLe s (seeE s e) := fun i hi =>
  seeA_le (by rw [seeA_len]; exact h2) i (seeA_le h1 i hi)
theorem seeL_le {E : List Sp} : ∀ {s : List Bool}, InN s.length E → BLe s (E.foldl seeE s) := by
  induction E with
  | nil => intro s _ i hi; exact hi
  | cons e E ih =>
    intro s h i hi
    rw [List.foldl_cons]
    exact ih (by rw [seeE_len]; exact fun x hx => h x (by simp [hx])) i (seeE_le (h e (by simp)).1 (h e (by simp)).2 i hi)
theorem BLe.anti {s t : List Bool} (hl : s.length = t.length) (h1 : BLe s t) (h2 : BLe t s) : s = t := by
  apply List.ext_getElem?
  intro i
  by_cases hi : i < s.length
  · rw [bget_some hi, bget_some (by omega)]
    have a := h1 i
    have b := h2 i
    cases h : bget s i <;> cases h' : bget t i <;> simp_all
  · rw [List.getElem?_eq_none (by omega), List.getElem?_eq_none (by omega)]
theorem seeL_fix {E : List Sp} : ∀ {s : List Bool}, InN s.length E → E.foldl seeE s = s → ∀ e, e ∈ E → bget s e.1 = bget s e.2.1 := by
  induction E with
  | nil => intro s _ _ e he; simp at he
  | cons d E ih =>
    intro s hE hf
    rw [List.foldl_cons] at hf
    obtain ⟨d1, d2⟩ := hE d (by simp)
    have hE' : InN (seeE s d).length E := by rw [seeE_len]; exact fun x hx => hE x (by simp [hx])
    have e1 : seeE s d = s := BLe.anti seeE_len (fun i hi => by
      have := seeL_le hE' i hi
      rwa [hf] at this) (seeE_le d1 d2)
    have hd : bget s d.1 = bget s d.2.1 := by
      have g1 := congrArg (fun t => bget t d.1) e1
      have g2 := congrArg (fun t => bget t d.2.1) e1
      simp only [seeE] at g1 g2
      rw [bget_see (by rw [seeA_len]; exact d2), bget_see d1, bget_see d1] at g1 g2
      by_cases hh : d.1 = d.2.1
      · rw [hh]
      · rw [if_neg hh, if_pos rfl] at g1
        rw [if_pos rfl, if_neg (fun e => hh e.symm), if_pos rfl] at g2
        cases h : bget s d.1 <;> cases h' : bget s d.2.1 <;> simp_all
    intro e he
    rcases List.mem_cons.1 he with rfl | he
    · exact hd
    · rw [e1] at hf
      exact ih (fun x hx => hE x (by simp [hx])) hf e he
theorem count_lt : ∀ {s t : List Bool}, s.length = t.length → BLe s t → s = t ∨ s.count true < t.count true
  | [], [], _, _ => .inl rfl
  | [], _ :: _, h, _ => by simp at h
  | _ :: _, [], h, _ => by simp at h
  | a :: s, b :: t, h, hle => by
    have h0 : a = true → b = true := hle 0
    have ih := count_lt (s := s) (t := t) (by simpa using h) (fun i => hle (i + 1))
    rw [List.count_cons, List.count_cons]
    rcases ih with rfl | ih
    · cases a <;> cases b <;> simp_all
    · refine .inr ?_
      cases a <;> cases b <;> simp_all <;> omega
theorem start_get {n i : Nat} (hn : 1 ≤ n) : bget (start n) i = decide (i = 0) := by
  unfold start
  rw [bget_set (by simp; omega)]
  by_cases h : i = 0
  · rw [if_pos h, decide_eq_true h]
  · rw [if_neg h, decide_eq_false h]
    unfold bget
    rw [List.getD_eq_getElem?_getD, List.getElem?_replicate]
    split <;> rfl
theorem start_len {n : Nat} : (start n).length = n := by simp [start]
theorem seeN_grow {n : Nat} {E : List Sp} (hn : 1 ≤ n) (hE : InN n E) : ∀ k, seeN E (k + 1) (start n) = seeN E k (start n) ∨ k + 1 ≤ (seeN E k (start n)).count true
  | 0 => .inr (by
    show 0 + 1 ≤ (start n).count true
    have h := start_get (i := 0) hn
    have hl := start_len (n := n)
    revert h hl
    generalize start n = s
    intro h hl
    cases s with
    | nil => simp at hl; omega
    | cons b s =>
      have hb : b = true := h
      rw [hb, List.count_cons]; simp)
  | k + 1 => by
    have hl : (seeN E k (start n)).length = n := by rw [seeN_len, start_len]
    have h0 : seeN E (k + 1) (start n) = E.foldl seeE (seeN E k (start n)) := rfl
    rcases seeN_grow hn hE k with ih | ih
    · refine .inl ?_
      show E.foldl seeE (seeN E (k + 1) (start n)) = _
      rw [ih, ← h0, ih]
    · rcases count_lt (s := seeN E k (start n)) (t := seeN E (k + 1) (start n)) (by rw [seeN_len, seeN_len]) (by rw [h0]; exact seeL_le (by rw [hl]; exact hE)) with h | h
      · refine .inl ?_
        show E.foldl seeE (seeN E (k + 1) (start n)) = _
        rw [← h, ← h0, ← h]
      · exact .inr (by omega)
theorem conn_iff {n : Nat} {E : List Sp} (hn : 1 ≤ n) (hE : InN n E) : connB n E = decide (connE n E) := by
  have hinv : ∀ (lab : Nat → Nat), (∀ e, e ∈ E → lab e.1 = lab e.2.1) → ∀ k i, bget (seeN E k (start n)) i = true → lab i = lab 0 := fun lab hlab k => by
    have one : ∀ (s : List Bool), s.length = n → (∀ i, bget s i = true → lab i = lab 0) → ∀ e, e ∈ E → ∀ i, bget (seeE s e) i = true → lab i = lab 0 := fun s hs h e he i hi => by
      obtain ⟨d1, d2⟩ := hE e he
      have he' := hlab e he
      have B : ∀ i, bget (seeA e.1 e.2.1 s) i = if i = e.1 then (bget s e.1 || bget s e.2.1) else bget s i := fun i => bget_see (by rw [hs]; exact d1)
      unfold seeE at hi
      rw [bget_see (by rw [seeA_len, hs]; exact d2), B, B, B] at hi
      have k1 := h e.1
      have k2 := h e.2.1
      have k3 := h i
      clear h hlab B
      by_cases c1 : i = e.2.1 <;> by_cases c3 : i = e.1 <;> by_cases c2 : e.2.1 = e.1 <;> simp only [c1, c2, c3, if_true, if_false, Bool.or_eq_true] at * <;> grind
    have fold : ∀ (F : List Sp), (∀ e, e ∈ F → e ∈ E) → ∀ (s : List Bool), s.length = n → (∀ i, bget s i = true → lab i = lab 0) → ∀ i, bget (F.foldl seeE s) i = true → lab i = lab 0 := fun F => by
      induction F with
      | nil => intro _ s _ h; exact h
      | cons e F ih => intro hF s hs h; rw [List.foldl_cons]; exact ih (fun x hx => hF x (by simp [hx])) _ (by rw [seeE_len, hs]) (one s hs h e (hF e (by simp)))
    induction k with
    | zero => intro i hi; rw [show seeN E 0 (start n) = start n from rfl, start_get hn] at hi; rw [of_decide_eq_true hi]
    | succ k ih => exact fold E (fun _ h => h) _ (by rw [seeN_len, start_len]) ih
  have hl : (seeN E n (start n)).length = n := by rw [seeN_len, start_len]
  by_cases h : connE n E
  · rw [decide_eq_true h]
    have hfix : seeN E (n + 1) (start n) = seeN E n (start n) := by
      rcases seeN_grow hn hE n with h | h
      · exact h
      · have := List.count_le_length (a := true) (l := seeN E n (start n)); omega
    have hcl := seeL_fix (by rw [hl]; exact hE) hfix
    have h0 : bget (seeN E n (start n)) 0 = true := by
      have : ∀ k, bget (seeN E k (start n)) 0 = true := fun k => by
        induction k with
        | zero => exact (start_get hn).trans (by rfl)
        | succ k ih => exact seeL_le (by rw [seeN_len, start_len]; exact hE) 0 ih
      exact this n
    refine List.all_eq_true.2 fun b hb => ?_
    obtain ⟨i, hi, rfl⟩ := List.getElem_of_mem hb
    have hi' : i < n := by omega
    have := tieAll_inv (f := fun i => bget (seeN E n (start n)) i) (l := E) (p := id) (fun i j hij => by have : i = j := hij; rw [this]) hcl i 0 (h i hi')
    have h2 := bget_some hi
    rw [List.getElem?_eq_getElem hi] at h2
    have h3 := Option.some.inj h2
    show (seeN E n (start n))[i] = true
    rw [h3]
    exact this.trans h0
  · rw [decide_eq_false h]
    cases hc : connB n E with
    | false => rfl
    | true =>
      refine absurd (fun i hi => ?_) h
      have hb := List.all_eq_true.1 hc _ (List.getElem_mem (l := seeN E n (start n)) (n := i) (by omega))
      have h2 := bget_some (s := seeN E n (start n)) (i := i) (by omega)
      rw [List.getElem?_eq_getElem (by omega)] at h2
      have h3 := Option.some.inj h2
      exact hinv (tieAll E id) (fun e he => tieAll_ends he) n i (by rw [← h3]; exact hb)
end GoAbs
namespace GoAbs
open Go Go.Proofs
theorem sumL_pick {R : List Nat} {a : Nat} {x : Nat → Rat} (hn : R.Nodup) : sumL R (fun i => (if i = a then 1 else 0) * x i) = if a ∈ R then x a else 0 := by
  induction R with
  | nil => simp [sumL_nil]
  | cons r R ih =>
    obtain ⟨h1, h2⟩ := List.nodup_cons.1 hn
    rw [sumL_cons, ih h2]
    by_cases h : r = a
    · subst h; rw [if_pos rfl, if_neg h1, if_pos (by simp)]; grind
    · rw [if_neg h]
      by_cases h' : a ∈ R
      · rw [if_pos h', if_pos (by simp [h'])]; grind
      · have h2 : ¬ a = r := fun e => h e.symm
        rw [if_neg h', if_neg (by simp [h', h2])]; grind
theorem sumL_edge {m a b : Nat} {x : Nat → Rat} (ha : a ≤ m) (hb : b ≤ m) (h0 : x 0 = 0) : sumL (List.range' 1 m) (fun i => edge a b i * x i) = x a - x b := by
  have h1 : sumL (List.range' 1 m) (fun i => edge a b i * x i) = sumL (List.range' 1 m) (fun i => (if i = a then 1 else 0) * x i) + (-1) * sumL (List.range' 1 m) (fun i => (if i = b then 1 else 0) * x i) := by
    rw [← sumL_mul, ← sumL_add]
    exact sumL_congr (fun i _ => by unfold edge; grind)
  have pick : ∀ c, c ≤ m → (if c ∈ List.range' 1 m then x c else 0) = x c := fun c hc => by
    by_cases h : c = 0
    · subst h; rw [if_neg (by rw [List.mem_range'_1]; omega), h0]
    · rw [if_pos (by rw [List.mem_range'_1]; omega)]
  rw [h1, sumL_pick List.nodup_range', sumL_pick List.nodup_range', pick a ha, pick b hb]
  grind
theorem dt_Fsum {m : Nat} {E : List Sp} (hp : Pos E) (hE : InN (m + 1) E) : dt (List.range' 1 m) (Lm id E) = Fsum (m + 1) id m E := by
  have h := tree_sum hp hE (lab_id (n := m + 1) (by omega))
  rw [List.length_range', Nat.add_sub_cancel] at h
  exact h.symm
def oneF (n a b : Nat) (E : List Sp) : Rat := Fsum n (mrg id a b) (n - 2) E
theorem gt_Fsum {m a b : Nat} {E : List Sp} (hp : Pos E) (hE : InN (m + 1) E) (hm : 1 ≤ m) (ha : a ≤ m) (hb : b ≤ m) : gt (List.range' 1 m) (Lm id E) (edge a b) = oneF (m + 1) a b E := by
  obtain ⟨k, rfl⟩ : ∃ k, m = k + 1 := ⟨m - 1, by omega⟩
  have h1 := dt_Fsum (E := (a, b, 1) :: E) (m := k + 1) (fun s hs => by
    rcases List.mem_cons.1 hs with rfl | hs
    · show (0 : Rat) ≤ 1; decide
    · exact hp s hs) (fun s hs => by
    rcases List.mem_cons.1 hs with rfl | hs
    · exact ⟨by show a < _; omega, by show b < _; omega⟩
    · exact hE s hs)
  have h2 := dt_Fsum hp hE
  have h3 : Lm id ((a, b, (1 : Rat)) :: E) = up1 (Lm id E) 1 (edge a b) := rfl
  have h4 : Fsum (k + 1 + 1) id (k + 1) ((a, b, 1) :: E) = Fsum (k + 1 + 1) id (k + 1) E + 1 * Fsum (k + 1 + 1) (mrg id a b) k E := rfl
  rw [h3, dt_up1 List.nodup_range' (Lm_psd hp) (by decide), h4, h2] at h1
  unfold oneF
  rw [show k + 1 + 1 - 2 = k by omega]
  grind
theorem lab_one {n a b : Nat} (ha : a < n) (hb : b < n) (hab : a ≠ b) : ∃ g R, Lab n (mrg id a b) g R ∧ R.length = n - 2 := by
  have h := lab_id (n := n) (by omega)
  by_cases h0 : a = 0
  · have hb' : b ∈ List.range' 1 (n - 1) := by rw [List.mem_range'_1]; omega
    have := h.mrg0 hb'
    rw [h0]
    exact ⟨_, _, this, by rw [List.length_erase_of_mem hb', List.length_range']; omega⟩
  · have ha' : a ∈ List.range' 1 (n - 1) := by rw [List.mem_range'_1]; omega
    have hb' : b ∈ 0 :: List.range' 1 (n - 1) := by
      rw [List.mem_cons, List.mem_range'_1]; omega
    exact ⟨_, _, h.mrg ha' hb' (fun e => hab e.symm), by rw [List.length_erase_of_mem ha', List.length_range']; omega⟩
theorem conn_pos {n : Nat} {E : List Sp} (hn : 1 ≤ n) (hp : ∀ e, e ∈ E → 0 < e.2.2) (hE : InN n E) (hc : connE n E) : 0 < Fsum n id (n - 1) E := by
  have h := Fsum_pos hp hE (lab_id (n := n) (by omega)) hc
  rwa [List.length_range'] at h
theorem one_pos {n a b : Nat} {E : List Sp} (hp : ∀ e, e ∈ E → 0 < e.2.2) (hE : InN n E) (hc : connE n E) (ha : a < n) (hb : b < n) (hab : a ≠ b) : 0 < oneF n a b E := by
  obtain ⟨g, R, hL, hR⟩ := lab_one ha hb hab
  have h := Fsum_pos hp hE hL (fun i hi => tieAll_inv (f := tieAll E (mrg id a b)) (l := E) (p := id) (fun i j hij => by have : i = j := hij; rw [this]) (fun e he => tieAll_ends he) i 0 (hc i hi))
  rw [hR] at h
  exact h
def unitX (m a b : Nat) (E : List Sp) : List Rat := 0 :: bsub (triA m E ((unitF (m + 1) a b).drop 1)) m m
theorem unit_get {n a b i : Nat} (ha : a < n) (hb : b < n) (hab : a ≠ b) : rget (unitF n a b) i = edge a b i := by
  unfold unitF edge
  rw [rget_set (by simp; exact hb), rget_set (by simp; exact ha)]
  have h0 : rget (List.replicate n 0) i = 0 := by
    unfold rget
    rw [List.getD_eq_getElem?_getD, List.getElem?_replicate]
    split <;> rfl
  rw [h0]
  by_cases h1 : i = b
  · subst h1
    rw [if_pos rfl, if_pos rfl, if_neg (fun e => hab e.symm)]; grind
  · rw [if_neg h1, if_neg h1]; grind
theorem drop1_get {f : List Rat} {i : Nat} : rget (f.drop 1) i = rget f (i + 1) := by
  unfold rget
  rw [List.getD_eq_getElem?_getD, List.getD_eq_getElem?_getD, List.getElem?_drop, Nat.add_comm]
theorem pos_E {n : Nat} {E : List Sp} (ho : NetOk n E) : (∀ e, e ∈ E → 0 < e.2.2) ∧ Pos E ∧ InN n E :=
  ⟨fun e he => (ho.e e he).2.2.2.1, fun e he => Rat.le_of_lt (ho.e e he).2.2.2.1, fun e he => ⟨(ho.e e he).1, (ho.e e he).2.1⟩⟩
theorem unit_diff {m a b : Nat} {E : List Sp} (ho : NetOk (m + 1) E) (hc : connE (m + 1) E) (ha : a ≤ m) (hb : b ≤ m) (hab : a ≠ b) :
    rget (unitX m a b E) a - rget (unitX m a b E) b = oneF (m + 1) a b E / Fsum (m + 1) id m E := by
  obtain ⟨hp, hP, hI⟩ := pos_E ho
  have hm : 1 ≤ m := by have := ho.n2; omega
  have hD := conn_pos (n := m + 1) (by omega) hp hI hc
  rw [Nat.add_sub_cancel] at hD
  have hdt := dt_Fsum hP hI
  have hd0 : dt (List.range' 1 m) (Lm id E) ≠ 0 := by rw [hdt]; grind
  have hs := (net_solve (m := m) (E := E) (r := (unitF (m + 1) a b).drop 1) (fun e he => ⟨by have := (hI e he).1; omega, by have := (hI e he).2; omega, (ho.e e he).2.2.1, hP e he⟩) (by rw [List.length_drop, unitF_len]; omega) hd0).2.2.2
  have hg := gt_solve (R := List.range' 1 m) (A := Lm id E) (v := edge a b) (x := solX (triA m E ((unitF (m + 1) a b).drop 1)) m) (Lm_psd (R := []) hP).sym hd0 (fun i hi => by
    have hi' := List.mem_range'_1.1 hi
    rw [hs i hi, drop1_get, show i - 1 + 1 = i by omega, unit_get (by omega) (by omega) hab])
  rw [sumL_edge ha hb rfl, gt_Fsum hP hI hm ha hb, hdt] at hg
  show solX _ _ a - solX _ _ b = _
  have hD' : Fsum (m + 1) id m E ≠ 0 := by grind
  generalize solX _ _ a - solX _ _ b = y at *
  rw [← hg]; grind
theorem Rb.elim5 {k : Nat} {p r : List Rat} {c : Nat} (hr : Rb k r) (hp : Rb k p) (hl : p.length = r.length) (hc : c < r.length) (hk : 1 ≤ k) (h0 : rget p c ≠ 0) : Rb (5 * k) (GoAbs.elimRow p c r) := fun x hx => by
  unfold GoAbs.elimRow at hx
  split at hx
  · exact (hr x hx).mono (by omega)
  · unfold GoAbs.elimTo at hx
    obtain ⟨j, hj, rfl⟩ := List.mem_map.1 hx
    have hj' := List.mem_range.1 hj
    split
    · exact ((hr.get hj').sub2 (((hr.get hc).div2 (hp.get (by omega)) h0).mul2 (hp.get (by omega)))).mono (by omega)
    · exact (hr.get hj').mono (by omega)
theorem Mb.elim5 {k w : Nat} {M : RM} (h : Mb k M) (hw : Wid w M) {c I : Nat} (hcM : c < M.length) (hc : c < w) (hk : 1 ≤ k) (h0 : mget M c c ≠ 0) : Mb (5 * k) (elimCol M c I) := fun r hr => by
  unfold elimCol at hr
  obtain ⟨i, hi, rfl⟩ := List.mem_map.1 hr
  have hi' := List.mem_range.1 hi
  split
  · exact Rb.elim5 (h.get hi') (h.get hcM) (by rw [hw.get hcM, hw.get hi']) (by rw [hw.get hi']; exact hc) hk h0
  · exact (h.get hi').mono (by omega)
theorem tri_mb5 {w : Nat} : ∀ {k c l : Nat} {M : RM} {d : Rat}, c + k ≤ M.length → M.length ≤ w → Wid w M → Mb l M → 1 ≤ l → Mb (5 ^ k * l) (tri k c M d).2
  | 0, c, l, M, d, _, _, _, hM, _ => by simpa [tri] using hM
  | k + 1, c, l, M, d, hc, hw, hW, hM, hl => by
    unfold tri
    split
    · refine hM.mono ?_
      have : 1 ≤ 5 ^ (k + 1) := Nat.pow_pos (by omega)
      exact Nat.le_mul_of_pos_left l this
    · rename_i h0
      have := tri_mb5 (k := k) (c := c + 1) (d := d * mget M c c) (by rw [elimCol_len]; omega) (by rw [elimCol_len]; exact hw) (hW.elim (c := c) (I := M.length)) (hM.elim5 hW (by omega) (by omega) hl h0) (by omega)
      exact this.mono (by rw [Nat.pow_succ, Nat.mul_assoc]; exact Nat.le_refl _)
theorem bbit_5 {a k : Nat} (hk : k ≤ 5) : bbit a k ≤ 200 * (a + 1) := by
  have h : bbit a k ≤ bbit a 5 := bbit_mono hk
  have : bbit a 5 ≤ 200 * (a + 1) := by simp only [bbit]; omega
  omega
def moveX (m : Nat) (E : List Sp) (f : List Rat) : List Rat := 0 :: bsub (triA m E (f.drop 1)) m m
theorem move_full {m : Nat} {E : List Sp} {f : List Rat} (ho : NetOk (m + 1) E) (hm5 : m ≤ 5) (hEl : E.length ≤ 40) (hc : connE (m + 1) E) (hf : f.length = m + 1) (hfb : Rb 10947 f) :
    SpecV Tryz.prog n_net_move [.agg (netC (m + 1) E), .sl (condsR f)] (.sl (condsR (moveX m E f))) ∧ Rb 7000000000 (moveX m E f) := by
  obtain ⟨hp, hP, hI⟩ := pos_E ho
  have hm : 1 ≤ m := by have := ho.n2; omega
  have hD := conn_pos (n := m + 1) (by omega) hp hI hc
  rw [Nat.add_sub_cancel] at hD
  have hd0 : dt (List.range' 1 m) (Lm id E) ≠ 0 := by rw [dt_Fsum hP hI]; grind
  obtain ⟨lW, lL⟩ := lapl_wid (m := m) (E := E)
  obtain ⟨s1, s2, s3, s4⟩ := net_solve (m := m) (E := E) (r := f.drop 1) (fun e he => ⟨by have := (hI e he).1; omega, by have := (hI e he).2; omega, (ho.e e he).2.2.1, hP e he⟩) (by rw [List.length_drop]; omega) hd0
  have hMb : Mb 10947 (lapl m E) := (lapl_bits (fun e he => (ho.e e he).2.2.2.2.bits) (by omega)).mono (by omega)
  have hAb : Mb 10947 (aug (lapl m E) (f.drop 1)) := fun row hr => by
    unfold aug at hr
    rw [List.mem_iff_getElem?] at hr
    obtain ⟨i, hi⟩ := hr
    rw [List.getElem?_zipWith] at hi
    revert hi
    cases h1 : (lapl m E)[i]? with
    | none => intro hi; simp at hi
    | some r0 =>
      cases h2 : (f.drop 1)[i]? with
      | none => intro hi; simp at hi
      | some y =>
        intro hi
        simp at hi
        subst hi
        intro x hx
        rcases List.mem_append.1 hx with h | h
        · exact hMb r0 (List.mem_of_getElem? h1) x h
        · rw [List.mem_singleton] at h
          rw [h]
          exact hfb y (List.mem_of_mem_drop (List.mem_of_getElem? h2))
  have hAl : (aug (lapl m E) (f.drop 1)).length = m := by rw [aug_len (by rw [List.length_drop]; omega), lL]
  have h5 : 5 ^ m * 10947 ≤ 34209375 := Nat.le_trans (Nat.mul_le_mul_right _ (Nat.pow_le_pow_right (by omega) hm5)) (by decide)
  have h9 : 9 ^ m * 10947 ≤ 100000000000 := Nat.le_trans (Nat.mul_le_mul_right _ (Nat.pow_le_pow_right (by omega) hm5)) (by decide)
  have hT : Mb 34209375 (triA m E (f.drop 1)) := (tri_mb5 (w := m + 1) (k := m) (c := 0) (l := 10947) (d := 1) (by omega) (by omega) (aug_wid lW) hAb (by omega)).mono h5
  have hTl : (triA m E (f.drop 1)).length = m := by unfold triA; rw [tri_len, hAl]
  refine ⟨move_spec (k := 10947) (a := 34209375) (kE := 67) hm (by omega) (fun e he => ⟨(ho.e e he).1, (ho.e e he).2.1, (ho.e e he).2.2.2.2.bits⟩) (by omega) (by omega) (by omega) hf hAb (by omega) h9 s1 hT s3 s2 (fun k hk => ?_), fun x hx => ?_⟩
  · have hb : bbit 34209375 k ≤ 200 * (34209375 + 1) := bbit_5 (by omega)
    generalize bbit 34209375 k = y at *
    have : k * (34209375 + y + 1) ≤ 4 * (34209375 + y + 1) := Nat.mul_le_mul_right _ (by omega)
    omega
  · unfold moveX at hx
    rcases List.mem_cons.1 hx with h | h
    · rw [h]; exact Qb.zero (by omega)
    · have hb : bbit 34209375 m ≤ 200 * (34209375 + 1) := bbit_5 hm5
      exact (bsub_bits (n := m) hT s3 hTl s2 m (Nat.le_refl _) x h).mono (by omega)
theorem unit_bits {n a b : Nat} : Rb 10947 (unitF n a b) := fun x hx => by
  unfold unitF at hx
  have h1 : Qb 10947 (1 : Rat) := Qb.one (by omega)
  have h2 : Qb 10947 (-1 : Rat) := h1.neg
  rcases List.mem_or_eq_of_mem_set hx with h | h
  · rcases List.mem_or_eq_of_mem_set h with h | h
    · rw [(List.mem_replicate.1 h).2]; exact Qb.zero (by omega)
    · rw [h]; exact h1
  · rw [h]; exact h2
theorem load_full {m a b : Nat} {L : List Spr} {E : List Sp} (hE : E = L.map toE) (hL : L.length ≤ 40) (hl : ∀ s, s ∈ L → s.2.2.length ≤ 1000000000) (h : readR ((m + 1 : Nat) : Int) L = .tup [.agg (netC (m + 1) E), .int .i64 0]) (ho : NetOk (m + 1) E) (hm5 : m ≤ 5) (hc : connE (m + 1) E)
    (ha : a ≤ m) (hb : b ≤ m) (hab : a ≠ b) :
    SpecV Tryz.prog n_spring_load [.int .i64 ((m + 1 : Nat) : Int), .sl (L.map sprAV), .int .i64 (a : Int), .int .i64 (b : Int)] (.tup [.agg (netC (m + 1) E), .sl (condsR (unitX m a b E)), .int .i64 0]) := by
  have hEl : E.length ≤ 40 := by rw [hE, List.length_map]; exact hL
  obtain ⟨hp, hP, hI⟩ := pos_E ho
  have hcB : connB (m + 1) E = true := by rw [conn_iff (by omega) hI, decide_eq_true hc]
  obtain ⟨hmv, hxb⟩ := move_full ho hm5 hEl hc (f := unitF (m + 1) a b) unitF_len unit_bits
  exact load_ok (by omega) hl h (by omega) (by omega) hab (by omega) (by omega) hI (by omega) hcB hmv
theorem between_full {m a b : Nat} {L : List Spr} {E : List Sp} (hE : E = L.map toE) (hL : L.length ≤ 40) (hl : ∀ s, s ∈ L → s.2.2.length ≤ 1000000000) (h : readR ((m + 1 : Nat) : Int) L = .tup [.agg (netC (m + 1) E), .int .i64 0]) (ho : NetOk (m + 1) E) (hm5 : m ≤ 5) (hc : connE (m + 1) E)
    (ha : a ≤ m) (hb : b ≤ m) (hab : a ≠ b) :
    SpecV Tryz.prog n_spring_Between [.int .i64 ((m + 1 : Nat) : Int), .sl (L.map sprAV), .int .i64 (a : Int), .int .i64 (b : Int)] (numR (Fsum (m + 1) id m E / oneF (m + 1) a b E)) := by
  have hEl : E.length ≤ 40 := by rw [hE, List.length_map]; exact hL
  obtain ⟨hp, hP, hI⟩ := pos_E ho
  have hm : 1 ≤ m := by have := ho.n2; omega
  have hD := conn_pos (n := m + 1) (by omega) hp hI hc
  rw [Nat.add_sub_cancel] at hD
  have hG := one_pos hp hI hc (a := a) (b := b) (by omega) (by omega) hab
  have hd := unit_diff ho hc ha hb hab
  obtain ⟨hmv, hxb⟩ := move_full ho hm5 hEl hc (f := unitF (m + 1) a b) unitF_len unit_bits
  have hxl : (unitX m a b E).length = m + 1 := by unfold unitX; rw [List.length_cons, bsub_len]
  have hld := load_full hE hL hl h ho hm5 hc ha hb hab
  have hne : oneF (m + 1) a b E / Fsum (m + 1) id m E ≠ 0 := by
    intro e
    have h1 : oneF (m + 1) a b E = oneF (m + 1) a b E / Fsum (m + 1) id m E * Fsum (m + 1) id m E := by grind
    rw [e] at h1
    grind
  have hbt := between_ok (k := 7000000000) hld (by omega) (by omega) hxb (by omega) (by omega) (by rw [hd]; exact hne)
  rw [hd] at hbt
  have e : 1 / (oneF (m + 1) a b E / Fsum (m + 1) id m E) = Fsum (m + 1) id m E / oneF (m + 1) a b E := by grind
  rw [e] at hbt
  exact hbt
end GoAbs
namespace GoAbs
open Go Go.Proofs
def claw_SpringKirchhoff_r1 : List IOp := [oI 5 (.box (.t 2)) 0, oI 6 (.mv (.c (.bool false))) 1]
def claw_SpringKirchhoff_r2 : List IOp := [oI 16 (.mv (.t 0)) 0, oI 17 (.mv (.t 1)) 0, oI 18 (.fa 0 (.t 5)) 0, oI 19 (.ld none (.t 18)) 0, oI 20 (.fa 1 (.t 5)) 0, oI 21 (.ld none (.t 20)) 0, oI 22 (.fa 0 (.t 5)) 0, oI 23 (.ld none (.t 22)) 0, oI 24 (.bin .quo (.t 23) (cI 3)) 0, oI 25 (.fa 1 (.t 5)) 0, oI 26 (.ld none (.t 25)) 0, oI 27 (.bin .quo (.t 26) (cI 3)) 0, oI 28 (.bsl none 4 [.int .i64 0] [(0, .t 19), (1, .t 21), (2, .t 24), (3, .t 27)]) 0, oI 29 (.call 22 [.t 16, .t 17, .t 28]) 1, oI 7 (.alloc [.int .i64 0, .nils]) 1, ⟨none, .st 2 (.t 7) (.t 29), 2, [], [], none⟩]
def claw_SpringKirchhoff_r3 : List IOp := [oI 31 (.fa 0 (.t 7)) 0, oI 32 (.ld none (.t 31)) 0, oI 33 (.ld (some 2) (.t 5)) 0, oI 34 (.call 30 [.t 32, .t 33]) 0, oI 30 (.mv (.t 34)) 0, oI 35 (.ext 0 (.t 30)) 0, oI 36 (.ext 1 (.t 30)) 0, oI 8 (.mv (.t 35)) 0, oI 9 (.mv (.t 36)) 0]
def claw_SpringKirchhoff_r4 : List IOp := [oI 38 (.fa 0 (.t 7)) 0, oI 39 (.ld none (.t 38)) 0, oI 40 (.fa 1 (.t 7)) 0, oI 41 (.ld none (.t 40)) 0, oI 42 (.mv (.t 8)) 0, oI 43 (.mv (.t 9)) 0, oI 44 (.call 31 [.t 39, .t 41, .t 42, .t 43]) 0, oI 37 (.mv (.t 44)) 0, oI 45 (.ext 0 (.t 37)) 0, oI 46 (.ext 1 (.t 37)) 0, oI 10 (.mv (.t 45)) 0, oI 11 (.mv (.t 46)) 0]
def claw_SpringKirchhoff_r5 : List IOp := [oI 48 (.ld (some 2) (.t 7)) 0, oI 49 (.call 23 [.t 48]) 0, oI 47 (.mv (.t 49)) 0, oI 50 (.ext 0 (.t 47)) 0, oI 51 (.ext 1 (.t 47)) 0, oI 12 (.alloc [.bool false, .nils, .bool false, .nils]) 0, ⟨none, .st 4 (.t 12) (.t 50), 1, [], [], none⟩, oI 13 (.mv (.t 51)) 1]
def claw_SpringKirchhoff_r6 : List IOp := [oI 53 (.ld (some 2) (.t 7)) 0, oI 54 (.mv (.t 8)) 0, oI 55 (.mv (.t 9)) 0, oI 56 (.call 25 [.t 53, .t 54, .t 55]) 0, oI 57 (.call 23 [.t 56]) 0, oI 52 (.mv (.t 57)) 0, oI 58 (.ext 0 (.t 52)) 0, oI 59 (.ext 1 (.t 52)) 0, oI 14 (.alloc [.bool false, .nils, .bool false, .nils]) 0, ⟨none, .st 4 (.t 14) (.t 58), 1, [], [], none⟩, oI 15 (.mv (.t 59)) 1]
def claw_SpringKirchhoff_r7 : List IOp := [oI 60 (.mv (.t 11)) 0, oI 61 (.bin .eql (.t 60) (cI 0)) 0, oI 62 (.mv (.t 61)) 0, ⟨some 63, .mv (.t 13), 0, [], [], some (62, true)⟩, oI 64 (.pick (.t 62) (.t 63) (.c (.bool false))) 0, oI 65 (.mv (.t 64)) 0, ⟨some 66, .mv (.t 15), 0, [], [], some (65, true)⟩, oI 67 (.pick (.t 65) (.t 66) (.c (.bool false))) 0, oI 68 (.mv (.t 67)) 0, ⟨some 69, .mv (.t 10), 0, [], [], some (68, true)⟩, ⟨some 70, .ld (some 4) (.t 12), 0, [], [], some (68, true)⟩, ⟨some 71, .ld (some 4) (.t 14), 0, [], [], some (68, true)⟩, ⟨some 72, .call 32 [.t 70, .t 71], 0, [], [], some (68, true)⟩, ⟨some 73, .call 20 [.t 69, .t 72], 0, [], [], some (68, true)⟩, oI 74 (.pick (.t 68) (.t 73) (.c (.bool false))) 0, oI 75 (.mv (.t 74)) 0, ⟨some 76, .call 18 [], 0, [], [], some (75, true)⟩, oI 77 (.pick (.t 75) (.t 76) (.c (.bool false))) 0, oI 6 (.mv (.t 77)) 0]
def claw_SpringKirchhoff : CC := .seq (.rg false claw_SpringKirchhoff_r1) (.seq (.rg false claw_SpringKirchhoff_r2) (.seq (.rg false claw_SpringKirchhoff_r3) (.seq (.rg false claw_SpringKirchhoff_r4) (.seq (.rg false claw_SpringKirchhoff_r5) (.seq (.rg false claw_SpringKirchhoff_r6) (.seq (.rg false claw_SpringKirchhoff_r7) .ret))))))
abbrev n_law_SpringKirchhoff : Nat := 5
theorem ok_law_SpringKirchhoff : fnOk Tryz.prog 5 = some (78, claw_SpringKirchhoff, [.tmp 6]) := by kernel_rfl
end GoAbs
namespace GoAbs
open Go Go.Proofs
set_option exponentiation.threshold 20000
def pairA (n : Nat) (A : Int) : Nat := (A % (n : Int)).toNat
def pairB (n : Nat) (A B : Int) : Nat := ((A % (n : Int) + 1 + B % ((n : Int) - 1)) % (n : Int)).toNat
theorem pair_ok {n : Nat} {A B : Int} (hn : 2 ≤ n) : (pairA n A : Int) = A % n ∧ (pairB n A B : Int) = (A % n + 1 + B % ((n : Int) - 1)) % n ∧ pairA n A < n ∧ pairB n A B < n ∧ pairA n A ≠ pairB n A B := by
  have h1 := Int.emod_nonneg A (show (n : Int) ≠ 0 by omega)
  have h2 := Int.emod_lt_of_pos A (show (0 : Int) < n by omega)
  have h3 := Int.emod_nonneg B (show (n : Int) - 1 ≠ 0 by omega)
  have h4 := Int.emod_lt_of_pos B (show (0 : Int) < (n : Int) - 1 by omega)
  have h5 := Int.emod_nonneg (A % n + 1 + B % ((n : Int) - 1)) (show (n : Int) ≠ 0 by omega)
  have h6 := Int.emod_lt_of_pos (A % n + 1 + B % ((n : Int) - 1)) (show (0 : Int) < n by omega)
  have key : (A % n + 1 + B % ((n : Int) - 1)) % n ≠ A % n := by
    generalize A % (n : Int) = x at *
    generalize B % ((n : Int) - 1) = y at *
    rcases Int.lt_or_le (x + 1 + y) n with h | h
    · rw [Int.emod_eq_of_lt (by omega) h]; omega
    · have : (x + 1 + y) % n = x + 1 + y - n := by
        rw [← Int.sub_emod_right, Int.emod_eq_of_lt (by omega) (by omega)]
      rw [this]; omega
  unfold pairA pairB
  refine ⟨Int.toNat_of_nonneg h1, Int.toNat_of_nonneg h5, by omega, by omega, by omega⟩
theorem lpair {n : Nat} {A B : Int} (hn : 2 ≤ n) (hnl : n ≤ 1000) : SpecV Tryz.prog n_law_pair [.int .i64 (n : Int), .agg [.int .i64 A, .int .i64 B]] (.tup [.int .i64 (pairA n A : Int), .int .i64 (pairB n A B : Int)]) := by
  have hm : Tryz.prog.follows .mixedOrders = true := by kernel_rfl
  obtain ⟨e1, e2, l1, l2, _⟩ := pair_ok (n := n) (A := A) (B := B) hn
  have f1 := lfold (v := A) (n := (n : Int)) (by omega) (by omega)
  have f2 := lfold (v := B) (n := (n : Int) - 1) (by omega) (by omega)
  have h3 := Int.emod_nonneg B (show (n : Int) - 1 ≠ 0 by omega)
  have h4 := Int.emod_lt_of_pos B (show (0 : Int) < (n : Int) - 1 by omega)
  rw [← e1] at f1 e2
  have w1 : IntKind.i64.wrap ((n : Int) - 1) = (n : Int) - 1 := i64_id (by omega) (by omega)
  have w2 : IntKind.i64.wrap ((pairA n A : Int) + 1) = (pairA n A : Int) + 1 := i64_id (by omega) (by omega)
  have w3 : IntKind.i64.wrap ((pairA n A : Int) + 1 + B % ((n : Int) - 1)) = (pairA n A : Int) + 1 + B % ((n : Int) - 1) := i64_id (by omega) (by omega)
  have t1 : ((pairA n A : Int) + 1 + B % ((n : Int) - 1)).tmod n = (pairB n A B : Int) := by
    rw [Int.tmod_eq_emod_of_nonneg (by omega)]; exact e2.symm
  have n0 : (n : Int) ≠ 0 := by omega
  generalize pairA n A = x at *
  generalize pairB n A B = y at *
  refine specV_W ok_law_pair (by simp) ?_
  unfold claw_pair
  simp only [go_sem, claw_pair_r1, claw_pair_r2]
  refine call_P f1 (by simp only [go_sem]) ?_
  simp only [go_sem, claw_pair_r3, hm, w1]
  refine call_P f2 (by simp only [go_sem]) ?_
  simp only [go_sem, w1, w2, w3, n0, t1]
theorem made_conn {n : Nat} {X : List Spr} {p : List Int} (h2 : 2 ≤ n) : connE n ((madeL n X p).map toE) := fun i hi => by
  show tieAll ((madeL n X p).map toE) id i = tieAll ((madeL n X p).map toE) id 0
  induction i with
  | zero => rfl
  | succ i ih =>
    have hmem : toE (pathE p i) ∈ (madeL n X p).map toE := List.mem_map.2 ⟨pathE p i, by
      unfold madeL pathL
      exact List.mem_append.2 (.inl (List.mem_map.2 ⟨i, by rw [List.mem_range]; omega, rfl⟩)), rfl⟩
    have h := tieAll_ends (p := id) hmem
    have e1 : (toE (pathE p i)).1 = i := by simp [toE, pathE]
    have e2 : (toE (pathE p i)).2.1 = i + 1 := by simp [toE, pathE]
    rw [e1, e2] at h
    rw [← h]
    exact ih (by omega)
theorem oneF_trees {n a b : Nat} {L : List Spr} (h2 : 2 ≤ n) (h : NetL n L) (ha : a < n) (hb : b < n) (hab : a ≠ b) :
    oneF n a b (L.map toE) = treesF (n - 1) (oneS (min a b) (max a b) L) := by
  obtain ⟨hp, hI⟩ := h.pos
  have h1 := Fsum_one (n := n) (low := min a b) (high := max a b) (l := L.map toE) (a := a) (b := b) (w := 1) h2 (by omega) (by omega) (by omega) hp hI (by decide)
  obtain ⟨k, rfl⟩ : ∃ k, n = k + 2 := ⟨n - 2, by omega⟩
  have e1 : k + 2 - 1 = k + 1 := rfl
  have e2 : k + 2 - 2 = k := rfl
  rw [e1, e2, Fsum_FG (l := _ ++ _), FG_snoc, ← Fsum_FG, FG_tie ⟨ha, hb⟩ hI, ← one_map] at h1
  unfold oneF treesF
  rw [e1, e2, show k + 1 - 1 = k from rfl, Fsum_FG]
  have e3 : tieP (a, b, (1 : Rat)) id = mrg id a b := rfl
  rw [e3] at h1
  have e4 : ((a, b, (1 : Rat)) : MSp).2.2 = 1 := rfl
  rw [e4] at h1
  grind
theorem big_ok {n d : Int} {q : Rat} {k : Nat} (hk : 1 ≤ k) (hk2 : k ≤ 4000) (hd : d ≠ 0) (h : q = Rat.divInt n d) (h1 : n.natAbs < 10 ^ k) (h2 : d.natAbs < 10 ^ k) : NumOk q := by
  obtain ⟨g1, g2⟩ := divInt_le (n := n) hd
  rw [← h] at g1 g2
  exact ⟨Nat.le_trans (decL_le hk (Nat.lt_of_le_of_lt g1 h1)) hk2, .inr (Nat.le_trans (decL_le hk (Nat.lt_of_le_of_lt g2 h2)) hk2)⟩
theorem q_div {q w : Rat} : Rat.divInt (q.num * w.den) ((q.den : Int) * w.num) = q / w := by
  rw [Rat.div_def, ← Rat.num_divInt_den q, Rat.num_divInt_den]
  have : w⁻¹ = Rat.divInt w.den w.num := by rw [Rat.inv_def]
  rw [this]
  conv => rhs; rw [← Rat.num_divInt_den q]
  rw [Rat.divInt_mul_divInt]
theorem div_ok {q w : Rat} (hq : q.num.natAbs < 10 ^ 260 ∧ q.den < 10 ^ 260) (hw : w.num.natAbs < 10 ^ 260 ∧ w.den < 10 ^ 260) (h0 : 0 < w) : NumOk (q / w) ∧ Ib 1800 (q.num * w.den) ∧ Ib 1800 ((q.den : Int) * w.num) ∧ 0 < (q.den : Int) * w.num := by
  have hwn : 0 < w.num := num_pos'.2 h0
  have hqd := q.den_pos
  have hp : 0 < (q.den : Int) * w.num := Int.mul_pos (by omega) hwn
  obtain ⟨_, i1, i2⟩ := size_ok hq
  obtain ⟨_, i3, i4⟩ := size_ok hw
  have e : 10 ^ 260 * 10 ^ 260 = 10 ^ 520 := by decide +kernel
  refine ⟨big_ok (k := 520) (by omega) (by omega) (by omega) q_div.symm ?_ ?_, i1.mul i4, i2.mul i3, hp⟩
  · rw [Int.natAbs_mul, Int.natAbs_natCast, ← e]; exact Nat.mul_lt_mul'' hq.1 hw.2
  · rw [Int.natAbs_mul, Int.natAbs_natCast, ← e]; exact Nat.mul_lt_mul'' hq.2 hw.1
theorem NetL.between {n a b : Nat} {L : List Spr} (h : NetL n L) (h2 : 2 ≤ n) (h6 : n ≤ 6) (hc : connE n (L.map toE)) (ha : a < n) (hb : b < n) (hab : a ≠ b) :
    SpecV Tryz.prog n_spring_Between [.int .i64 (n : Int), .sl (L.map sprAV), .int .i64 (a : Int), .int .i64 (b : Int)] (.tup [.str (bs (numS (treesF n L / treesF (n - 1) (oneS (min a b) (max a b) L)))), .int .i64 0]) ∧
    0 < treesF n L ∧ 0 < treesF (n - 1) (oneS (min a b) (max a b) L) ∧ NumOk (treesF n L / treesF (n - 1) (oneS (min a b) (max a b) L)) := by
  obtain ⟨hr, ho⟩ := h.read h2 h6
  have hlen : ∀ s, s ∈ L → s.2.2.length ≤ 1000000000 := fun s hs => by
    obtain ⟨_, q, _, _, _, _, hl⟩ := h.ok s hs; omega
  obtain ⟨hp, _, hI⟩ := pos_E ho
  have hone := one_net h (low := min a b) (high := max a b) (by omega) (by omega)
  have hG := one_pos hp hI hc ha hb hab
  have hF := conn_pos (by omega) hp hI hc
  rw [oneF_trees h2 h ha hb hab] at hG
  have hok := (div_ok (q := treesF n L) (w := treesF (n - 1) (oneS (min a b) (max a b) L)) h.size hone.size hG).1
  obtain ⟨m, rfl⟩ : ∃ m, n = m + 1 := ⟨n - 1, by omega⟩
  have hbt := between_full rfl h.len hlen hr ho (by omega) hc (a := a) (b := b) (by omega) (by omega) hab
  rw [oneF_trees h2 h ha hb hab] at hbt
  have hF' : Fsum (m + 1) id m (L.map toE) = treesF (m + 1) L := rfl
  rw [hF'] at hbt
  unfold numR at hbt
  rw [if_pos hok] at hbt
  exact ⟨hbt, hF, hG, hok⟩
theorem bv_ivs {H : Heap} {ids : List Nat} {b : Nat} {p : List Int} (hb : H[b]? = some (.cells (ivs p))) (hi : b ∈ ids) : BV H ids (.osl none b 0 p.length) (.sl (ivs p)) := by
  refine .osl none b 0 p.length (ivs p) (ivs p) hb hi (ivs_len p) (fun x hx => ?_) (by rw [ivs_len]; simp [es]) (fun i x j y z hx hy hz => ?_)
  · obtain ⟨c, _, rfl⟩ := List.mem_map.1 hx; rfl
  · obtain ⟨c, _, rfl⟩ := List.mem_map.1 (List.mem_of_getElem? hx)
    have hj : j = 0 := by
      have := (List.getElem?_eq_some_iff.1 hy).1
      simp [AV.cells] at this; omega
    subst hj
    simp [AV.cells] at hy
    subst hy
    simp [es] at hz
    rw [hx] at hz
    cases hz
    exact .int _ _
theorem law_kirchhoff {b A B : Int} {X : List Spr} (h0 : 0 ≤ b) (h1 : b ≤ 255) : SpecV Tryz.prog n_law_SpringKirchhoff [.int .u8 b, .sl (X.map sprAV), .agg [.int .i64 A, .int .i64 B]] (.bool true) := by
  have hm : Tryz.prog.follows .mixedOrders = true := by kernel_rfl
  have hmk := lmade (X := X) (p := [A, B, IntKind.i64.wrap (A.tdiv 3), IntKind.i64.wrap (B.tdiv 3)]) h0 h1
  obtain ⟨_, n2, n6⟩ := madeN_spec b
  obtain ⟨hnet, hne⟩ := made_net (X := X) (p := [A, B, IntKind.i64.wrap (A.tdiv 3), IntKind.i64.wrap (B.tdiv 3)]) n2 n6
  have hc := made_conn (X := X) (p := [A, B, IntKind.i64.wrap (A.tdiv 3), IntKind.i64.wrap (B.tdiv 3)]) n2
  have hbv := bv_ivs (H := [.cells [.int .i64 A, .int .i64 B], .cells (ivs [A, B, IntKind.i64.wrap (A.tdiv 3), IntKind.i64.wrap (B.tdiv 3)])]) (ids := [1]) (b := 1) (p := [A, B, IntKind.i64.wrap (A.tdiv 3), IntKind.i64.wrap (B.tdiv 3)]) rfl (by simp)
  generalize madeN b = n at *
  generalize madeL n X _ = L at *
  have hpr := lpair (n := n) (A := A) (B := B) n2 (by omega)
  obtain ⟨_, _, ha, hb, hab⟩ := pair_ok (n := n) (A := A) (B := B) n2
  generalize pairA n A = x at *
  generalize pairB n A B = y at *
  obtain ⟨hbt, hF, hG, hok⟩ := hnet.between n2 n6 hc ha hb hab
  have hone := one_net hnet (low := min x y) (high := max x y) (by omega) (by omega)
  obtain ⟨_, d1, d2, d3⟩ := div_ok (q := treesF n L) (w := treesF (n - 1) (oneS (min x y) (max x y) L)) hnet.size hone.size hG
  have t1 := ltrees hnet (by omega) n6 (fun e => by omega)
  have t3 := ltrees hone (by omega) (by omega) (fun e => by
    have hn2 : n = 2 := by omega
    have lo : min x y = 0 := by omega
    have hi : max x y = 1 := by omega
    rw [lo, hi]
    have : ∀ t, t ∈ L → one1 0 1 t = [] := fun t ht => by
      obtain ⟨⟨a1, a2, a3, a4, a5⟩, _⟩ := hnet.ok t ht
      unfold one1
      have : t.1.toNat < 2 ∧ t.2.1.toNat < 2 := by omega
      rw [if_pos]
      unfold oneN; (repeat' split) <;> omega
    exact List.flatMap_eq_nil_iff.2 this)
  have w3 := lmerged (n := n) (a := x) (b := y) (L := L) (by have := hnet.len; omega) (by omega) (by omega) (fun t ht => (hnet.ok t ht).1)
  obtain ⟨_, z1, z2⟩ := size_ok (q := treesF n L) hnet.size
  obtain ⟨_, z3, z4⟩ := size_ok (q := treesF (n - 1) (oneS (min x y) (max x y) L)) hone.size
  generalize treesF n L = qa at *
  generalize treesF (n - 1) (oneS (min x y) (max x y) L) = qo at *
  have hdiv := rdivq (n1 := qa.num) (d1 := qa.den) (n2 := qo.num) (d2 := qo.den) (k := 900) z1 z2 z3 z4 (by omega)
  rw [if_neg (by omega)] at hdiv
  have his := ris (s := bs (numS (qa / qo))) d1 d2 d3 (by omega) (q := qa / qo) q_div
  rw [decide_eq_true ⟨hok, rfl⟩] at his
  refine specV_W ok_law_SpringKirchhoff (by simp) ?_
  unfold claw_SpringKirchhoff
  simp only [go_sem, claw_SpringKirchhoff_r1, claw_SpringKirchhoff_r2]
  refine call_F (ids := [1]) hmk (by simp only [go_sem]; exact hbv) ?_
  simp only [go_sem, claw_SpringKirchhoff_r3]
  refine call_P hpr (by simp only [go_sem]) ?_
  simp only [go_sem, claw_SpringKirchhoff_r4]
  refine call_P hbt (by simp only [go_sem]) ?_
  simp only [go_sem, claw_SpringKirchhoff_r5]
  refine call_P t1 (by simp only [go_sem]) ?_
  simp only [go_sem, qR, avR, rc_len, rc_drop, claw_SpringKirchhoff_r6]
  refine call_P w3 (by simp only [go_sem]) ?_
  simp only [go_sem]
  refine call_P t3 (by simp only [go_sem]) ?_
  simp only [go_sem, qR, avR, rc_len, rc_drop]
  simp only [go_sem, rc_len, rc_drop, rc_take, claw_SpringKirchhoff_r7, hm]
  refine call_P hdiv (by simp only [go_sem, avR, bvs_rc]) ?_
  simp only [go_sem]
  refine call_P his (by simp only [go_sem, avR, bvs_rc]) ?_
  simp only [go_sem]
  refine call_P llives (by simp only [go_sem]) ?_
  simp only [go_sem]
end GoAbs
