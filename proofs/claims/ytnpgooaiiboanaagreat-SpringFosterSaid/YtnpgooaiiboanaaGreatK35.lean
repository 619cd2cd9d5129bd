/- Lemmas for the claim (contracts of the functions that it reaches, and what they compute), without conditions. -/
import Derived.Test.YtnpgooaiiboanaaGreatK34
import Derived.Test.YtnpgooaiiboanaaGreatProg
import Derived.KernelRfl
set_option linter.unusedVariables false
set_option linter.unusedSimpArgs false
set_option maxRecDepth 10000
set_option maxHeartbeats 2000000
namespace GoAbs
theorem bget_set {s : List Bool} {a i : Nat} {v : Bool} (ha : a < s.length) : bget (s.set a v) i = if i = a then v else bget s i := by
  unfold bget
  rw [List.getD_eq_getElem?_getD, List.getD_eq_getElem?_getD, List.getElem?_set]
  by_cases h : a = i
  · subst h; simp [ha]
  · rw [if_neg h, if_neg (fun e => h e.symm)]
theorem bget_see {s : List Bool} {a b i : Nat} (ha : a < s.length) : bget (seeA a b s) i = if i = a then (bget s a || bget s b) else bget s i := bget_set ha
def BLe (s t : List Bool) : Prop := ∀ i, bget s i = true → bget t i = true
theorem seeA_le {s : List Bool} {a b : Nat} (ha : a < s.length) : BLe s (seeA a b s) := fun i hi => by
  rw [bget_see ha]; split
  · rename_i h; subst h; rw [hi]; rfl
  · exact hi
theorem seeE_le {s : List Bool} {e : Sp} (h1 : e.1 < s.length) (h2 : e.2.1 < s.length) : BLe s (seeE s e) := fun i hi =>
  seeA_le (by rw [seeA_len]; exact h2) i (seeA_le h1 i hi)
theorem seeL_le {E : List Sp} : ∀ {s : List Bool}, InN s.length E → BLe s (E.foldl seeE s) := by
  induction E with
  | nil => intro s _ i hi; exact hi
  | cons e E ih =>
    intro s h i hi
    rw [List.foldl_cons]
    exact ih (by rw [seeE_len]; exact fun x hx => h x (by simp [hx])) i (seeE_le (h e (by simp)).1 (h e (by simp)).2 i hi)
theorem BLe.anti {s t : List Bool} (hl : s.length = t.length) (h1 : BLe s t) (h2 : BLe t s) : s = t := by
  apply List.ext_getElem?
  intro i
  by_cases hi : i < s.length
  · rw [bget_some hi, bget_some (by omega)]
    have a := h1 i
    have b := h2 i
    cases h : bget s i <;> cases h' : bget t i <;> simp_all
  · rw [List.getElem?_eq_none (by omega), List.getElem?_eq_none (by omega)]
theorem seeL_fix {E : List Sp} : ∀ {s : List Bool}, InN s.length E → E.foldl seeE s = s → ∀ e, e ∈ E → bget s e.1 = bget s e.2.1 := by
  induction E with
  | nil => intro s _ _ e he; simp at he
  | cons d E ih =>
    intro s hE hf
    rw [List.foldl_cons] at hf
    obtain ⟨d1, d2⟩ := hE d (by simp)
    have hE' : InN (seeE s d).length E := by rw [seeE_len]; exact fun x hx => hE x (by simp [hx])
    have e1 : seeE s d = s := BLe.anti seeE_len (fun i hi => by
      have := seeL_le hE' i hi
      rwa [hf] at this) (seeE_le d1 d2)
    have hd : bget s d.1 = bget s d.2.1 := by
      have g1 := congrArg (fun t => bget t d.1) e1
      have g2 := congrArg (fun t => bget t d.2.1) e1
      simp only [seeE] at g1 g2
      rw [bget_see (by rw [seeA_len]; exact d2), bget_see d1, bget_see d1] at g1 g2
      by_cases hh : d.1 = d.2.1
      · rw [hh]
      · rw [if_neg hh, if_pos rfl] at g1
        rw [if_pos rfl, if_neg (fun e => hh e.symm), if_pos rfl] at g2
        cases h : bget s d.1 <;> cases h' : bget s d.2.1 <;> simp_all
    intro e he
    rcases List.mem_cons.1 he with rfl | he
    · exact hd
    · rw [e1] at hf
      exact ih (fun x hx => hE x (by simp [hx])) hf e he
theorem count_lt : ∀ {s t : List Bool}, s.length = t.length → BLe s t → s = t ∨ s.count true < t.count true
  | [], [], _, _ => .inl rfl
  | [], _ :: _, h, _ => by simp at h
  | _ :: _, [], h, _ => by simp at h
  | a :: s, b :: t, h, hle => by
    have h0 : a = true → b = true := hle 0
    have ih := count_lt (s := s) (t := t) (by simpa using h) (fun i => hle (i + 1))
    rw [List.count_cons, List.count_cons]
    rcases ih with rfl | ih
    · cases a <;> cases b <;> simp_all
    · refine .inr ?_
      cases a <;> cases b <;> simp_all <;> omega
theorem start_get {n i : Nat} (hn : 1 ≤ n) : bget (start n) i = decide (i = 0) := by
  unfold start
  rw [bget_set (by simp; omega)]
  by_cases h : i = 0
  · rw [if_pos h, decide_eq_true h]
  · rw [if_neg h, decide_eq_false h]
    unfold bget
    rw [List.getD_eq_getElem?_getD, List.getElem?_replicate]
    split <;> rfl
theorem start_len {n : Nat} : (start n).length = n := by simp [start]
theorem seeN_grow {n : Nat} {E : List Sp} (hn : 1 ≤ n) (hE : InN n E) : ∀ k, seeN E (k + 1) (start n) = seeN E k (start n) ∨ k + 1 ≤ (seeN E k (start n)).count true
  | 0 => .inr (by
    show 0 + 1 ≤ (start n).count true
    have h := start_get (i := 0) hn
    have hl := start_len (n := n)
    revert h hl
    generalize start n = s
    intro h hl
    cases s with
    | nil => simp at hl; omega
    | cons b s =>
      have hb : b = true := h
      rw [hb, List.count_cons]; simp)
  | k + 1 => by
    have hl : (seeN E k (start n)).length = n := by rw [seeN_len, start_len]
    have h0 : seeN E (k + 1) (start n) = E.foldl seeE (seeN E k (start n)) := rfl
    rcases seeN_grow hn hE k with ih | ih
    · refine .inl ?_
      show E.foldl seeE (seeN E (k + 1) (start n)) = _
      rw [ih, ← h0, ih]
    · rcases count_lt (s := seeN E k (start n)) (t := seeN E (k + 1) (start n)) (by rw [seeN_len, seeN_len]) (by rw [h0]; exact seeL_le (by rw [hl]; exact hE)) with h | h
      · refine .inl ?_
        show E.foldl seeE (seeN E (k + 1) (start n)) = _
        rw [← h, ← h0, ← h]
      · exact .inr (by omega)
theorem conn_iff {n : Nat} {E : List Sp} (hn : 1 ≤ n) (hE : InN n E) : connB n E = decide (connE n E) := by
  have hinv : ∀ (lab : Nat → Nat), (∀ e, e ∈ E → lab e.1 = lab e.2.1) → ∀ k i, bget (seeN E k (start n)) i = true → lab i = lab 0 := fun lab hlab k => by
    have one : ∀ (s : List Bool), s.length = n → (∀ i, bget s i = true → lab i = lab 0) → ∀ e, e ∈ E → ∀ i, bget (seeE s e) i = true → lab i = lab 0 := fun s hs h e he i hi => by
      obtain ⟨d1, d2⟩ := hE e he
      have he' := hlab e he
      have B : ∀ i, bget (seeA e.1 e.2.1 s) i = if i = e.1 then (bget s e.1 || bget s e.2.1) else bget s i := fun i => bget_see (by rw [hs]; exact d1)
      unfold seeE at hi
      rw [bget_see (by rw [seeA_len, hs]; exact d2), B, B, B] at hi
      have k1 := h e.1
      have k2 := h e.2.1
      have k3 := h i
      clear h hlab B
      by_cases c1 : i = e.2.1 <;> by_cases c3 : i = e.1 <;> by_cases c2 : e.2.1 = e.1 <;> simp only [c1, c2, c3, if_true, if_false, Bool.or_eq_true] at * <;> grind
    have fold : ∀ (F : List Sp), (∀ e, e ∈ F → e ∈ E) → ∀ (s : List Bool), s.length = n → (∀ i, bget s i = true → lab i = lab 0) → ∀ i, bget (F.foldl seeE s) i = true → lab i = lab 0 := fun F => by
      induction F with
      | nil => intro _ s _ h; exact h
      | cons e F ih => intro hF s hs h; rw [List.foldl_cons]; exact ih (fun x hx => hF x (by simp [hx])) _ (by rw [seeE_len, hs]) (one s hs h e (hF e (by simp)))
    induction k with
    | zero => intro i hi; rw [show seeN E 0 (start n) = start n from rfl, start_get hn] at hi; rw [of_decide_eq_true hi]
    | succ k ih => exact fold E (fun _ h => h) _ (by rw [seeN_len, start_len]) ih
  have hl : (seeN E n (start n)).length = n := by rw [seeN_len, start_len]
  by_cases h : connE n E
  · rw [decide_eq_true h]
    have hfix : seeN E (n + 1) (start n) = seeN E n (start n) := by
      rcases seeN_grow hn hE n with h | h
      · exact h
      · have := List.count_le_length (a := true) (l := seeN E n (start n)); omega
    have hcl := seeL_fix (by rw [hl]; exact hE) hfix
    have h0 : bget (seeN E n (start n)) 0 = true := by
      have : ∀ k, bget (seeN E k (start n)) 0 = true := fun k => by
        induction k with
        | zero => exact (start_get hn).trans (by rfl)
        | succ k ih => exact seeL_le (by rw [seeN_len, start_len]; exact hE) 0 ih
      exact this n
    refine List.all_eq_true.2 fun b hb => ?_
    obtain ⟨i, hi, rfl⟩ := List.getElem_of_mem hb
    have hi' : i < n := by omega
    have := tieAll_inv (f := fun i => bget (seeN E n (start n)) i) (l := E) (p := id) (fun i j hij => by have : i = j := hij; rw [this]) hcl i 0 (h i hi')
    have h2 := bget_some hi
    rw [List.getElem?_eq_getElem hi] at h2
    have h3 := Option.some.inj h2
    show (seeN E n (start n))[i] = true
    rw [h3]
    exact this.trans h0
  · rw [decide_eq_false h]
    cases hc : connB n E with
    | false => rfl
    | true =>
      refine absurd (fun i hi => ?_) h
      have hb := List.all_eq_true.1 hc _ (List.getElem_mem (l := seeN E n (start n)) (n := i) (by omega))
      have h2 := bget_some (s := seeN E n (start n)) (i := i) (by omega)
      rw [List.getElem?_eq_getElem (by omega)] at h2
      have h3 := Option.some.inj h2
      exact hinv (tieAll E id) (fun e he => tieAll_ends he) n i (by rw [← h3]; exact hb)
end GoAbs
namespace GoAbs
open Go Go.Proofs
theorem sumL_pick {R : List Nat} {a : Nat} {x : Nat → Rat} (hn : R.Nodup) : sumL R (fun i => (if i = a then 1 else 0) * x i) = if a ∈ R then x a else 0 := by
  induction R with
  | nil => simp [sumL_nil]
  | cons r R ih =>
    obtain ⟨h1, h2⟩ := List.nodup_cons.1 hn
    rw [sumL_cons, ih h2]
    by_cases h : r = a
    · subst h; rw [if_pos rfl, if_neg h1, if_pos (by simp)]; grind
    · rw [if_neg h]
      by_cases h' : a ∈ R
      · rw [if_pos h', if_pos (by simp [h'])]; grind
      · have h2 : ¬ a = r := fun e => h e.symm
        rw [if_neg h', if_neg (by simp [h', h2])]; grind
theorem sumL_edge {m a b : Nat} {x : Nat → Rat} (ha : a ≤ m) (hb : b ≤ m) (h0 : x 0 = 0) : sumL (List.range' 1 m) (fun i => edge a b i * x i) = x a - x b := by
  have h1 : sumL (List.range' 1 m) (fun i => edge a b i * x i) = sumL (List.range' 1 m) (fun i => (if i = a then 1 else 0) * x i) + (-1) * sumL (List.range' 1 m) (fun i => (if i = b then 1 else 0) * x i) := by
    rw [← sumL_mul, ← sumL_add]
    exact sumL_congr (fun i _ => by unfold edge; grind)
  have pick : ∀ c, c ≤ m → (if c ∈ List.range' 1 m then x c else 0) = x c := fun c hc => by
    by_cases h : c = 0
    · subst h; rw [if_neg (by rw [List.mem_range'_1]; omega), h0]
    · rw [if_pos (by rw [List.mem_range'_1]; omega)]
  rw [h1, sumL_pick List.nodup_range', sumL_pick List.nodup_range', pick a ha, pick b hb]
  grind
theorem dt_Fsum {m : Nat} {E : List Sp} (hp : Pos E) (hE : InN (m + 1) E) : dt (List.range' 1 m) (Lm id E) = Fsum (m + 1) id m E := by
  have h := tree_sum hp hE (lab_id (n := m + 1) (by omega))
  rw [List.length_range', Nat.add_sub_cancel] at h
  exact h.symm
def oneF (n a b : Nat) (E : List Sp) : Rat := Fsum n (mrg id a b) (n - 2) E
theorem gt_Fsum {m a b : Nat} {E : List Sp} (hp : Pos E) (hE : InN (m + 1) E) (hm : 1 ≤ m) (ha : a ≤ m) (hb : b ≤ m) : gt (List.range' 1 m) (Lm id E) (edge a b) = oneF (m + 1) a b E := by
  obtain ⟨k, rfl⟩ : ∃ k, m = k + 1 := ⟨m - 1, by omega⟩
  have h1 := dt_Fsum (E := (a, b, 1) :: E) (m := k + 1) (fun s hs => by
    rcases List.mem_cons.1 hs with rfl | hs
    · show (0 : Rat) ≤ 1; decide
    · exact hp s hs) (fun s hs => by
    rcases List.mem_cons.1 hs with rfl | hs
    · exact ⟨by show a < _; omega, by show b < _; omega⟩
    · exact hE s hs)
  have h2 := dt_Fsum hp hE
  have h3 : Lm id ((a, b, (1 : Rat)) :: E) = up1 (Lm id E) 1 (edge a b) := rfl
  have h4 : Fsum (k + 1 + 1) id (k + 1) ((a, b, 1) :: E) = Fsum (k + 1 + 1) id (k + 1) E + 1 * Fsum (k + 1 + 1) (mrg id a b) k E := rfl
  rw [h3, dt_up1 List.nodup_range' (Lm_psd hp) (by decide), h4, h2] at h1
  unfold oneF
  rw [show k + 1 + 1 - 2 = k by omega]
  grind
theorem lab_one {n a b : Nat} (ha : a < n) (hb : b < n) (hab : a ≠ b) : ∃ g R, Lab n (mrg id a b) g R ∧ R.length = n - 2 := by
  have h := lab_id (n := n) (by omega)
  by_cases h0 : a = 0
  · have hb' : b ∈ List.range' 1 (n - 1) := by rw [List.mem_range'_1]; omega
    have := h.mrg0 hb'
    rw [h0]
    exact ⟨_, _, this, by rw [List.length_erase_of_mem hb', List.length_range']; omega⟩
  · have ha' : a ∈ List.range' 1 (n - 1) := by rw [List.mem_range'_1]; omega
    have hb' : b ∈ 0 :: List.range' 1 (n - 1) := by
      rw [List.mem_cons, List.mem_range'_1]; omega
    exact ⟨_, _, h.mrg ha' hb' (fun e => hab e.symm), by rw [List.length_erase_of_mem ha', List.length_range']; omega⟩
theorem conn_pos {n : Nat} {E : List Sp} (hn : 1 ≤ n) (hp : ∀ e, e ∈ E → 0 < e.2.2) (hE : InN n E) (hc : connE n E) : 0 < Fsum n id (n - 1) E := by
  have h := Fsum_pos hp hE (lab_id (n := n) (by omega)) hc
  rwa [List.length_range'] at h
theorem one_pos {n a b : Nat} {E : List Sp} (hp : ∀ e, e ∈ E → 0 < e.2.2) (hE : InN n E) (hc : connE n E) (ha : a < n) (hb : b < n) (hab : a ≠ b) : 0 < oneF n a b E := by
  obtain ⟨g, R, hL, hR⟩ := lab_one ha hb hab
  have h := Fsum_pos hp hE hL (fun i hi => tieAll_inv (f := tieAll E (mrg id a b)) (l := E) (p := id) (fun i j hij => by have : i = j := hij; rw [this]) (fun e he => tieAll_ends he) i 0 (hc i hi))
  rw [hR] at h
  exact h
def unitX (m a b : Nat) (E : List Sp) : List Rat := 0 :: bsub (triA m E ((unitF (m + 1) a b).drop 1)) m m
theorem unit_get {n a b i : Nat} (ha : a < n) (hb : b < n) (hab : a ≠ b) : rget (unitF n a b) i = edge a b i := by
  unfold unitF edge
  rw [rget_set (by simp; exact hb), rget_set (by simp; exact ha)]
  have h0 : rget (List.replicate n 0) i = 0 := by
    unfold rget
    rw [List.getD_eq_getElem?_getD, List.getElem?_replicate]
    split <;> rfl
  rw [h0]
  by_cases h1 : i = b
  · subst h1
    rw [if_pos rfl, if_pos rfl, if_neg (fun e => hab e.symm)]; grind
  · rw [if_neg h1, if_neg h1]; grind
theorem drop1_get {f : List Rat} {i : Nat} : rget (f.drop 1) i = rget f (i + 1) := by
  unfold rget
  rw [List.getD_eq_getElem?_getD, List.getD_eq_getElem?_getD, List.getElem?_drop, Nat.add_comm]
theorem pos_E {n : Nat} {E : List Sp} (ho : NetOk n E) : (∀ e, e ∈ E → 0 < e.2.2) ∧ Pos E ∧ InN n E :=
  ⟨fun e he => (ho.e e he).2.2.2.1, fun e he => Rat.le_of_lt (ho.e e he).2.2.2.1, fun e he => ⟨(ho.e e he).1, (ho.e e he).2.1⟩⟩
theorem unit_diff {m a b : Nat} {E : List Sp} (ho : NetOk (m + 1) E) (hc : connE (m + 1) E) (ha : a ≤ m) (hb : b ≤ m) (hab : a ≠ b) :
    rget (unitX m a b E) a - rget (unitX m a b E) b = oneF (m + 1) a b E / Fsum (m + 1) id m E := by
  obtain ⟨hp, hP, hI⟩ := pos_E ho
  have hm : 1 ≤ m := by have := ho.n2; omega
  have hD := conn_pos (n := m + 1) (by omega) hp hI hc
  rw [Nat.add_sub_cancel] at hD
  have hdt := dt_Fsum hP hI
  have hd0 : dt (List.range' 1 m) (Lm id E) ≠ 0 := by rw [hdt]; grind
  have hs := (net_solve (m := m) (E := E) (r := (unitF (m + 1) a b).drop 1) (fun e he => ⟨by have := (hI e he).1; omega, by have := (hI e he).2; omega, (ho.e e he).2.2.1, hP e he⟩) (by rw [List.length_drop, unitF_len]; omega) hd0).2.2.2
  have hg := gt_solve (R := List.range' 1 m) (A := Lm id E) (v := edge a b) (x := solX (triA m E ((unitF (m + 1) a b).drop 1)) m) (Lm_psd (R := []) hP).sym hd0 (fun i hi => by
    have hi' := List.mem_range'_1.1 hi
    rw [hs i hi, drop1_get, show i - 1 + 1 = i by omega, unit_get (by omega) (by omega) hab])
  rw [sumL_edge ha hb rfl, gt_Fsum hP hI hm ha hb, hdt] at hg
  show solX _ _ a - solX _ _ b = _
  have hD' : Fsum (m + 1) id m E ≠ 0 := by grind
  generalize solX _ _ a - solX _ _ b = y at *
  rw [← hg]; grind
theorem Rb.elim5 {k : Nat} {p r : List Rat} {c : Nat} (hr : Rb k r) (hp : Rb k p) (hl : p.length = r.length) (hc : c < r.length) (hk : 1 ≤ k) (h0 : rget p c ≠ 0) : Rb (5 * k) (GoAbs.elimRow p c r) := fun x hx => by
  unfold GoAbs.elimRow at hx
  split at hx
  · exact (hr x hx).mono (by omega)
  · unfold GoAbs.elimTo at hx
    obtain ⟨j, hj, rfl⟩ := List.mem_map.1 hx
    have hj' := List.mem_range.1 hj
    split
    · exact ((hr.get hj').sub2 (((hr.get hc).div2 (hp.get (by omega)) h0).mul2 (hp.get (by omega)))).mono (by omega)
    · exact (hr.get hj').mono (by omega)
theorem Mb.elim5 {k w : Nat} {M : RM} (h : Mb k M) (hw : Wid w M) {c I : Nat} (hcM : c < M.length) (hc : c < w) (hk : 1 ≤ k) (h0 : mget M c c ≠ 0) : Mb (5 * k) (elimCol M c I) := fun r hr => by
  unfold elimCol at hr
  obtain ⟨i, hi, rfl⟩ := List.mem_map.1 hr
  have hi' := List.mem_range.1 hi
  split
  · exact Rb.elim5 (h.get hi') (h.get hcM) (by rw [hw.get hcM, hw.get hi']) (by rw [hw.get hi']; exact hc) hk h0
  · exact (h.get hi').mono (by omega)
theorem tri_mb5 {w : Nat} : ∀ {k c l : Nat} {M : RM} {d : Rat}, c + k ≤ M.length → M.length ≤ w → Wid w M → Mb l M → 1 ≤ l → Mb (5 ^ k * l) (tri k c M d).2
  | 0, c, l, M, d, _, _, _, hM, _ => by simpa [tri] using hM
  | k + 1, c, l, M, d, hc, hw, hW, hM, hl => by
    unfold tri
    split
    · refine hM.mono ?_
      have : 1 ≤ 5 ^ (k + 1) := Nat.pow_pos (by omega)
      exact Nat.le_mul_of_pos_left l this
    · rename_i h0
      have := tri_mb5 (k := k) (c := c + 1) (d := d * mget M c c) (by rw [elimCol_len]; omega) (by rw [elimCol_len]; exact hw) (hW.elim (c := c) (I := M.length)) (hM.elim5 hW (by omega) (by omega) hl h0) (by omega)
      exact this.mono (by rw [Nat.pow_succ, Nat.mul_assoc]; exact Nat.le_refl _)
theorem bbit_5 {a k : Nat} (hk : k ≤ 5) : bbit a k ≤ 200 * (a + 1) := by
  have h : bbit a k ≤ bbit a 5 := bbit_mono hk
  have : bbit a 5 ≤ 200 * (a + 1) := by simp only [bbit]; omega
  omega
def moveX (m : Nat) (E : List Sp) (f : List Rat) : List Rat := 0 :: bsub (triA m E (f.drop 1)) m m
theorem move_full {m : Nat} {E : List Sp} {f : List Rat} (ho : NetOk (m + 1) E) (hm5 : m ≤ 5) (hEl : E.length ≤ 40) (hc : connE (m + 1) E) (hf : f.length = m + 1) (hfb : Rb 10947 f) :
    SpecV Tryz.prog n_net_move [.agg (netC (m + 1) E), .sl (condsR f)] (.sl (condsR (moveX m E f))) ∧ Rb 7000000000 (moveX m E f) := by
  obtain ⟨hp, hP, hI⟩ := pos_E ho
  have hm : 1 ≤ m := by have := ho.n2; omega
  have hD := conn_pos (n := m + 1) (by omega) hp hI hc
  rw [Nat.add_sub_cancel] at hD
  have hd0 : dt (List.range' 1 m) (Lm id E) ≠ 0 := by rw [dt_Fsum hP hI]; grind
  obtain ⟨lW, lL⟩ := lapl_wid (m := m) (E := E)
  obtain ⟨s1, s2, s3, s4⟩ := net_solve (m := m) (E := E) (r := f.drop 1) (fun e he => ⟨by have := (hI e he).1; omega, by have := (hI e he).2; omega, (ho.e e he).2.2.1, hP e he⟩) (by rw [List.length_drop]; omega) hd0
  have hMb : Mb 10947 (lapl m E) := (lapl_bits (fun e he => (ho.e e he).2.2.2.2.bits) (by omega)).mono (by omega)
  have hAb : Mb 10947 (aug (lapl m E) (f.drop 1)) := fun row hr => by
    unfold aug at hr
    rw [List.mem_iff_getElem?] at hr
    obtain ⟨i, hi⟩ := hr
    rw [List.getElem?_zipWith] at hi
    revert hi
    cases h1 : (lapl m E)[i]? with
    | none => intro hi; simp at hi
    | some r0 =>
      cases h2 : (f.drop 1)[i]? with
      | none => intro hi; simp at hi
      | some y =>
        intro hi
        simp at hi
        subst hi
        intro x hx
        rcases List.mem_append.1 hx with h | h
        · exact hMb r0 (List.mem_of_getElem? h1) x h
        · rw [List.mem_singleton] at h
          rw [h]
          exact hfb y (List.mem_of_mem_drop (List.mem_of_getElem? h2))
  have hAl : (aug (lapl m E) (f.drop 1)).length = m := by rw [aug_len (by rw [List.length_drop]; omega), lL]
  have h5 : 5 ^ m * 10947 ≤ 34209375 := Nat.le_trans (Nat.mul_le_mul_right _ (Nat.pow_le_pow_right (by omega) hm5)) (by decide)
  have h9 : 9 ^ m * 10947 ≤ 100000000000 := Nat.le_trans (Nat.mul_le_mul_right _ (Nat.pow_le_pow_right (by omega) hm5)) (by decide)
  have hT : Mb 34209375 (triA m E (f.drop 1)) := (tri_mb5 (w := m + 1) (k := m) (c := 0) (l := 10947) (d := 1) (by omega) (by omega) (aug_wid lW) hAb (by omega)).mono h5
  have hTl : (triA m E (f.drop 1)).length = m := by unfold triA; rw [tri_len, hAl]
  refine ⟨move_spec (k := 10947) (a := 34209375) (kE := 67) hm (by omega) (fun e he => ⟨(ho.e e he).1, (ho.e e he).2.1, (ho.e e he).2.2.2.2.bits⟩) (by omega) (by omega) (by omega) hf hAb (by omega) h9 s1 hT s3 s2 (fun k hk => ?_), fun x hx => ?_⟩
  · have hb : bbit 34209375 k ≤ 200 * (34209375 + 1) := bbit_5 (by omega)
    generalize bbit 34209375 k = y at *
    have : k * (34209375 + y + 1) ≤ 4 * (34209375 + y + 1) := Nat.mul_le_mul_right _ (by omega)
    omega
  · unfold moveX at hx
    rcases List.mem_cons.1 hx with h | h
    · rw [h]; exact Qb.zero (by omega)
    · have hb : bbit 34209375 m ≤ 200 * (34209375 + 1) := bbit_5 hm5
      exact (bsub_bits (n := m) hT s3 hTl s2 m (Nat.le_refl _) x h).mono (by omega)
theorem unit_bits {n a b : Nat} : Rb 10947 (unitF n a b) := fun x hx => by
  unfold unitF at hx
  have h1 : Qb 10947 (1 : Rat) := Qb.one (by omega)
  have h2 : Qb 10947 (-1 : Rat) := h1.neg
  rcases List.mem_or_eq_of_mem_set hx with h | h
  · rcases List.mem_or_eq_of_mem_set h with h | h
    · rw [(List.mem_replicate.1 h).2]; exact Qb.zero (by omega)
    · rw [h]; exact h1
  · rw [h]; exact h2
theorem load_full {m a b : Nat} {L : List Spr} {E : List Sp} (hE : E = L.map toE) (hL : L.length ≤ 40) (hl : ∀ s, s ∈ L → s.2.2.length ≤ 1000000000) (h : readR ((m + 1 : Nat) : Int) L = .tup [.agg (netC (m + 1) E), .int .i64 0]) (ho : NetOk (m + 1) E) (hm5 : m ≤ 5) (hc : connE (m + 1) E)
    (ha : a ≤ m) (hb : b ≤ m) (hab : a ≠ b) :
    SpecV Tryz.prog n_spring_load [.int .i64 ((m + 1 : Nat) : Int), .sl (L.map sprAV), .int .i64 (a : Int), .int .i64 (b : Int)] (.tup [.agg (netC (m + 1) E), .sl (condsR (unitX m a b E)), .int .i64 0]) := by
  have hEl : E.length ≤ 40 := by rw [hE, List.length_map]; exact hL
  obtain ⟨hp, hP, hI⟩ := pos_E ho
  have hcB : connB (m + 1) E = true := by rw [conn_iff (by omega) hI, decide_eq_true hc]
  obtain ⟨hmv, hxb⟩ := move_full ho hm5 hEl hc (f := unitF (m + 1) a b) unitF_len unit_bits
  exact load_ok (by omega) hl h (by omega) (by omega) hab (by omega) (by omega) hI (by omega) hcB hmv
theorem between_full {m a b : Nat} {L : List Spr} {E : List Sp} (hE : E = L.map toE) (hL : L.length ≤ 40) (hl : ∀ s, s ∈ L → s.2.2.length ≤ 1000000000) (h : readR ((m + 1 : Nat) : Int) L = .tup [.agg (netC (m + 1) E), .int .i64 0]) (ho : NetOk (m + 1) E) (hm5 : m ≤ 5) (hc : connE (m + 1) E)
    (ha : a ≤ m) (hb : b ≤ m) (hab : a ≠ b) :
    SpecV Tryz.prog n_spring_Between [.int .i64 ((m + 1 : Nat) : Int), .sl (L.map sprAV), .int .i64 (a : Int), .int .i64 (b : Int)] (numR (Fsum (m + 1) id m E / oneF (m + 1) a b E)) := by
  have hEl : E.length ≤ 40 := by rw [hE, List.length_map]; exact hL
  obtain ⟨hp, hP, hI⟩ := pos_E ho
  have hm : 1 ≤ m := by have := ho.n2; omega
  have hD := conn_pos (n := m + 1) (by omega) hp hI hc
  rw [Nat.add_sub_cancel] at hD
  have hG := one_pos hp hI hc (a := a) (b := b) (by omega) (by omega) hab
  have hd := unit_diff ho hc ha hb hab
  obtain ⟨hmv, hxb⟩ := move_full ho hm5 hEl hc (f := unitF (m + 1) a b) unitF_len unit_bits
  have hxl : (unitX m a b E).length = m + 1 := by unfold unitX; rw [List.length_cons, bsub_len]
  have hld := load_full hE hL hl h ho hm5 hc ha hb hab
  have hne : oneF (m + 1) a b E / Fsum (m + 1) id m E ≠ 0 := by
    intro e
    have h1 : oneF (m + 1) a b E = oneF (m + 1) a b E / Fsum (m + 1) id m E * Fsum (m + 1) id m E := by grind
    rw [e] at h1
    grind
  have hbt := between_ok (k := 7000000000) hld (by omega) (by omega) hxb (by omega) (by omega) (by rw [hd]; exact hne)
  rw [hd] at hbt
  have e : 1 / (oneF (m + 1) a b E / Fsum (m + 1) id m E) = Fsum (m + 1) id m E / oneF (m + 1) a b E := by grind
  rw [e] at hbt
  exact hbt
end GoAbs
namespace GoAbs
open Go Go.Proofs
def claw_SpringFoster_r1 : List IOp := [oI 6 (.mv (.c (.bool false))) 0]
def claw_SpringFoster_r2 : List IOp := [oI 13 (.mv (.t 0)) 0, oI 14 (.mv (.t 1)) 0, oI 15 (.mv (.t 2)) 0, oI 16 (.call 22 [.t 13, .t 14, .t 15]) 0, oI 7 (.alloc [.int .i64 0, .nils]) 0, ⟨none, .st 2 (.t 7) (.t 16), 1, [], [], none⟩]
def claw_SpringFoster_r3 : List IOp := [oI 17 (.call 33 [cI 0]) 0, oI 8 (.alloc [.bool false, .nils, .bool false, .nils]) 0, ⟨none, .st 4 (.t 8) (.t 17), 1, [], [], none⟩]
def claw_SpringFoster_r4 : List IOp := [oI 9 (.mv (cI 0)) 0]
def claw_SpringFoster_r5 : List IOp := [oI 18 (.mv (.t 9)) 0, oI 19 (.fa 1 (.t 7)) 0, oI 20 (.ld none (.t 19)) 0, oI 21 (.len (.t 20)) 0, oI 22 (.bin .lss (.t 18) (.t 21)) 0]
def claw_SpringFoster_r6 : List IOp := [oI 25 (.fa 1 (.t 7)) 0, oI 26 (.ld none (.t 25)) 0, oI 27 (.mv (.t 9)) 0, oI 28 (.idx 3 (.t 26) (.t 27)) 0, oI 29 (.ld (some 3) (.t 28)) 0, oI 10 (.alloc [.int .i64 0, .int .i64 0, .str ⟨#[]⟩]) 0, ⟨none, .st 3 (.t 10) (.t 29), 1, [], [], none⟩]
def claw_SpringFoster_r7 : List IOp := [oI 31 (.fa 0 (.t 7)) 0, oI 32 (.ld none (.t 31)) 0, oI 33 (.fa 1 (.t 7)) 0, oI 34 (.ld none (.t 33)) 0, oI 35 (.fa 0 (.t 10)) 0, oI 36 (.ld none (.t 35)) 0, oI 37 (.fa 1 (.t 10)) 0, oI 38 (.ld none (.t 37)) 0, oI 39 (.call 31 [.t 32, .t 34, .t 36, .t 38]) 0, oI 30 (.mv (.t 39)) 0, oI 40 (.ext 0 (.t 30)) 0, oI 41 (.ext 1 (.t 30)) 0, oI 11 (.mv (.t 40)) 0, oI 12 (.mv (.t 41)) 0]
def claw_SpringFoster_r8 : List IOp := [oI 42 (.mv (.t 12)) 0, oI 43 (.bin .neq (.t 42) (cI 0)) 0, oI 44 (.mv (.t 43)) 0, ⟨some 45, .mv (.t 11), 0, [], [], some (44, false)⟩, ⟨some 46, .call 34 [.t 45], 0, [], [], some (44, false)⟩, ⟨some 47, .un .not (.t 46), 0, [], [], some (44, false)⟩, oI 48 (.pick (.t 44) (.c (.bool true)) (.t 47)) 0, oI 49 (.mv (.t 48)) 0, ⟨some 50, .mv (.t 11), 0, [], [], some (49, false)⟩, ⟨some 51, .call 29 [.t 50], 0, [], [], some (49, false)⟩, ⟨some 52, .call 35 [.t 51], 0, [], [], some (49, false)⟩, oI 53 (.pick (.t 49) (.c (.bool true)) (.t 52)) 0]
def claw_SpringFoster_r9 : List IOp := [oI 6 (.mv (.c (.bool false))) 0]
def claw_SpringFoster_r10 : List IOp := [oI 54 (.ld (some 4) (.t 8)) 0, oI 55 (.fa 2 (.t 10)) 0, oI 56 (.ld none (.t 55)) 0, oI 57 (.call 29 [.t 56]) 0, oI 58 (.mv (.t 11)) 0, oI 59 (.call 29 [.t 58]) 0, oI 60 (.call 32 [.t 57, .t 59]) 0, oI 61 (.callw 27 [.t 54, .t 60]) 0, oI 62 (.callw 36 [.t 61]) 0, ⟨none, .st 4 (.t 8) (.t 62), 0, [], [], none⟩]
@[go_sem ↓] theorem claw_SpringFoster_r10_k : autoK claw_SpringFoster_r10 = (0, 1) := by kernel_rfl
@[go_sem] theorem claw_SpringFoster_r10_k1 : autoK [oI 54 (.ld (some 4) (.t 8)) 0, oI 55 (.fa 2 (.t 10)) 0, oI 56 (.ld none (.t 55)) 0, oI 57 (.call 29 [.t 56]) 0, oI 58 (.mv (.t 11)) 0, oI 59 (.call 29 [.t 58]) 0, oI 60 (.call 32 [.t 57, .t 59]) 0, oI 61 (.callw 27 [.t 54, .t 60]) 0, oI 62 (.callw 36 [.t 61]) 0, ⟨none, .st 4 (.t 8) (.t 62), 0, [], [], none⟩] = (0, 1) := claw_SpringFoster_r10_k
def claw_SpringFoster_r11 : List IOp := [oI 23 (.mv (.t 9)) 0, oI 24 (.bin .add (.t 23) (cI 1)) 0, oI 9 (.mv (.t 24)) 0]
def claw_SpringFoster_L1 : CC := .seq (.seq (.rg false claw_SpringFoster_r5) (.cond (.t 22) .skip (.exit 0))) (.seq (.block 1 (.seq (.rg false claw_SpringFoster_r6) (.seq (.rg false claw_SpringFoster_r7) (.seq (.seq (.rg false claw_SpringFoster_r8) (.cond (.t 53) (.seq (.rg false claw_SpringFoster_r9) .ret) .skip)) (.rg true claw_SpringFoster_r10))))) (.rg false claw_SpringFoster_r11))
def claw_SpringFoster_r12 : List IOp := [oI 63 (.ld (some 4) (.t 8)) 0, oI 64 (.fa 0 (.t 7)) 0, oI 65 (.ld none (.t 64)) 0, oI 66 (.bin .sub (.t 65) (cI 1)) 0, oI 67 (.call 33 [.t 66]) 0, oI 68 (.callw 26 [.t 63, .t 67]) 0, oI 69 (.bin .eql (.t 68) (cI 0)) 0, oI 70 (.mv (.t 69)) 0, ⟨some 71, .callw 18 [], 0, [], [], some (70, true)⟩, oI 72 (.pick (.t 70) (.t 71) (.c (.bool false))) 0, oI 6 (.mv (.t 72)) 0]
@[go_sem ↓] theorem claw_SpringFoster_r12_k : autoK claw_SpringFoster_r12 = (0, 0) := by kernel_rfl
@[go_sem] theorem claw_SpringFoster_r12_k1 : autoK [oI 63 (.ld (some 4) (.t 8)) 0, oI 64 (.fa 0 (.t 7)) 0, oI 65 (.ld none (.t 64)) 0, oI 66 (.bin .sub (.t 65) (cI 1)) 0, oI 67 (.call 33 [.t 66]) 0, oI 68 (.callw 26 [.t 63, .t 67]) 0, oI 69 (.bin .eql (.t 68) (cI 0)) 0, oI 70 (.mv (.t 69)) 0, ⟨some 71, .callw 18 [], 0, [], [], some (70, true)⟩, oI 72 (.pick (.t 70) (.t 71) (.c (.bool false))) 0, oI 6 (.mv (.t 72)) 0] = (0, 0) := claw_SpringFoster_r12_k
def claw_SpringFoster : CC := .seq (.rg false claw_SpringFoster_r1) (.seq (.rg false claw_SpringFoster_r2) (.seq (.rg false claw_SpringFoster_r3) (.seq (.seq (.rg false claw_SpringFoster_r4) (.block 0 (.loop claw_SpringFoster_L1))) (.seq (.rg true claw_SpringFoster_r12) .ret))))
abbrev n_law_SpringFoster : Nat := 6
theorem ok_law_SpringFoster : fnOk Tryz.prog 6 = some (73, claw_SpringFoster, [.tmp 6]) := by kernel_rfl
end GoAbs
namespace GoAbs
open Go Go.Proofs
set_option exponentiation.threshold 20000
theorem made_conn {n : Nat} {X : List Spr} {p : List Int} (h2 : 2 ≤ n) : connE n ((madeL n X p).map toE) := fun i hi => by
  show tieAll ((madeL n X p).map toE) id i = tieAll ((madeL n X p).map toE) id 0
  induction i with
  | zero => rfl
  | succ i ih =>
    have hmem : toE (pathE p i) ∈ (madeL n X p).map toE := List.mem_map.2 ⟨pathE p i, by
      unfold madeL pathL
      exact List.mem_append.2 (.inl (List.mem_map.2 ⟨i, by rw [List.mem_range]; omega, rfl⟩)), rfl⟩
    have h := tieAll_ends (p := id) hmem
    have e1 : (toE (pathE p i)).1 = i := by simp [toE, pathE]
    have e2 : (toE (pathE p i)).2.1 = i + 1 := by simp [toE, pathE]
    rw [e1, e2] at h
    rw [← h]
    exact ih (by omega)
theorem oneF_trees {n a b : Nat} {L : List Spr} (h2 : 2 ≤ n) (h : NetL n L) (ha : a < n) (hb : b < n) (hab : a ≠ b) :
    oneF n a b (L.map toE) = treesF (n - 1) (oneS (min a b) (max a b) L) := by
  obtain ⟨hp, hI⟩ := h.pos
  have h1 := Fsum_one (n := n) (low := min a b) (high := max a b) (l := L.map toE) (a := a) (b := b) (w := 1) h2 (by omega) (by omega) (by omega) hp hI (by decide)
  obtain ⟨k, rfl⟩ : ∃ k, n = k + 2 := ⟨n - 2, by omega⟩
  have e1 : k + 2 - 1 = k + 1 := rfl
  have e2 : k + 2 - 2 = k := rfl
  rw [e1, e2, Fsum_FG (l := _ ++ _), FG_snoc, ← Fsum_FG, FG_tie ⟨ha, hb⟩ hI, ← one_map] at h1
  unfold oneF treesF
  rw [e1, e2, show k + 1 - 1 = k from rfl, Fsum_FG]
  have e3 : tieP (a, b, (1 : Rat)) id = mrg id a b := rfl
  rw [e3] at h1
  have e4 : ((a, b, (1 : Rat)) : MSp).2.2 = 1 := rfl
  rw [e4] at h1
  grind
theorem big_ok {n d : Int} {q : Rat} {k : Nat} (hk : 1 ≤ k) (hk2 : k ≤ 4000) (hd : d ≠ 0) (h : q = Rat.divInt n d) (h1 : n.natAbs < 10 ^ k) (h2 : d.natAbs < 10 ^ k) : NumOk q := by
  obtain ⟨g1, g2⟩ := divInt_le (n := n) hd
  rw [← h] at g1 g2
  exact ⟨Nat.le_trans (decL_le hk (Nat.lt_of_le_of_lt g1 h1)) hk2, .inr (Nat.le_trans (decL_le hk (Nat.lt_of_le_of_lt g2 h2)) hk2)⟩
theorem q_div {q w : Rat} : Rat.divInt (q.num * w.den) ((q.den : Int) * w.num) = q / w := by
  rw [Rat.div_def, ← Rat.num_divInt_den q, Rat.num_divInt_den]
  have : w⁻¹ = Rat.divInt w.den w.num := by rw [Rat.inv_def]
  rw [this]
  conv => rhs; rw [← Rat.num_divInt_den q]
  rw [Rat.divInt_mul_divInt]
theorem div_ok {q w : Rat} (hq : q.num.natAbs < 10 ^ 260 ∧ q.den < 10 ^ 260) (hw : w.num.natAbs < 10 ^ 260 ∧ w.den < 10 ^ 260) (h0 : 0 < w) : NumOk (q / w) ∧ Ib 1800 (q.num * w.den) ∧ Ib 1800 ((q.den : Int) * w.num) ∧ 0 < (q.den : Int) * w.num := by
  have hwn : 0 < w.num := num_pos'.2 h0
  have hqd := q.den_pos
  have hp : 0 < (q.den : Int) * w.num := Int.mul_pos (by omega) hwn
  obtain ⟨_, i1, i2⟩ := size_ok hq
  obtain ⟨_, i3, i4⟩ := size_ok hw
  have e : 10 ^ 260 * 10 ^ 260 = 10 ^ 520 := by decide +kernel
  refine ⟨big_ok (k := 520) (by omega) (by omega) (by omega) q_div.symm ?_ ?_, i1.mul i4, i2.mul i3, hp⟩
  · rw [Int.natAbs_mul, Int.natAbs_natCast, ← e]; exact Nat.mul_lt_mul'' hq.1 hw.2
  · rw [Int.natAbs_mul, Int.natAbs_natCast, ← e]; exact Nat.mul_lt_mul'' hq.2 hw.1
theorem NetL.between {n a b : Nat} {L : List Spr} (h : NetL n L) (h2 : 2 ≤ n) (h6 : n ≤ 6) (hc : connE n (L.map toE)) (ha : a < n) (hb : b < n) (hab : a ≠ b) :
    SpecV Tryz.prog n_spring_Between [.int .i64 (n : Int), .sl (L.map sprAV), .int .i64 (a : Int), .int .i64 (b : Int)] (.tup [.str (bs (numS (treesF n L / treesF (n - 1) (oneS (min a b) (max a b) L)))), .int .i64 0]) ∧
    0 < treesF n L ∧ 0 < treesF (n - 1) (oneS (min a b) (max a b) L) ∧ NumOk (treesF n L / treesF (n - 1) (oneS (min a b) (max a b) L)) := by
  obtain ⟨hr, ho⟩ := h.read h2 h6
  have hlen : ∀ s, s ∈ L → s.2.2.length ≤ 1000000000 := fun s hs => by
    obtain ⟨_, q, _, _, _, _, hl⟩ := h.ok s hs; omega
  obtain ⟨hp, _, hI⟩ := pos_E ho
  have hone := one_net h (low := min a b) (high := max a b) (by omega) (by omega)
  have hG := one_pos hp hI hc ha hb hab
  have hF := conn_pos (by omega) hp hI hc
  rw [oneF_trees h2 h ha hb hab] at hG
  have hok := (div_ok (q := treesF n L) (w := treesF (n - 1) (oneS (min a b) (max a b) L)) h.size hone.size hG).1
  obtain ⟨m, rfl⟩ : ∃ m, n = m + 1 := ⟨n - 1, by omega⟩
  have hbt := between_full rfl h.len hlen hr ho (by omega) hc (a := a) (b := b) (by omega) (by omega) hab
  rw [oneF_trees h2 h ha hb hab] at hbt
  have hF' : Fsum (m + 1) id m (L.map toE) = treesF (m + 1) L := rfl
  rw [hF'] at hbt
  unfold numR at hbt
  rw [if_pos hok] at hbt
  exact ⟨hbt, hF, hG, hok⟩
end GoAbs
namespace GoAbs
open Go Go.Proofs
set_option exponentiation.threshold 20000
theorem sumL_map {R : List Nat} {g : Nat → Nat} {f : Nat → Rat} : sumL (R.map g) f = sumL R (fun i => f (g i)) := by
  induction R with
  | nil => rfl
  | cons r R ih => rw [List.map_cons, sumL_cons, sumL_cons, ih]
theorem FG_del {f : (Nat → Nat) → Rat} : ∀ {l : List MSp} {k : Nat} {p : Nat → Nat}, sumL (List.range l.length) (fun i => FG f p k (l.eraseIdx i)) = ((l.length : Rat) - (k : Rat)) * FG f p k l
  | l, 0, p => by
    have : ∀ R : List Nat, sumL R (fun i => FG f p 0 (l.eraseIdx i)) = (R.length : Rat) * f p := fun R => by
      induction R with
      | nil => rw [sumL_nil]; simp
      | cons r R ih => rw [sumL_cons, ih, FG_zero, List.length_cons, Rat.natCast_add]; grind
    rw [this, FG_zero, List.length_range]; grind
  | [], k + 1, p => by rw [FG_nil]; show sumL [] _ = _; rw [sumL_nil]; grind
  | s :: l, k + 1, p => by
    rw [List.length_cons, List.range_succ_eq_map, sumL_cons, sumL_map]
    have h : sumL (List.range l.length) (fun i => FG f p (k + 1) ((s :: l).eraseIdx (i + 1))) = sumL (List.range l.length) (fun i => FG f p (k + 1) (l.eraseIdx i)) + s.2.2 * sumL (List.range l.length) (fun i => FG f (tieP s p) k (l.eraseIdx i)) := by
      rw [← sumL_mul, ← sumL_add]
      exact sumL_congr (fun i _ => by rw [List.eraseIdx_cons_succ, FG_cons])
    have h0 : sumL (List.range l.length) (fun i => FG f p (k + 1) ((s :: l).eraseIdx i.succ)) = sumL (List.range l.length) (fun i => FG f p (k + 1) ((s :: l).eraseIdx (i + 1))) := rfl
    rw [h0, h, FG_del, FG_del, FG_cons, List.eraseIdx_cons_zero, Rat.natCast_add, Rat.natCast_add]
    grind
theorem up1_up1 {A : Mat} {K J : Rat} {v : Nat → Rat} : up1 (up1 A K v) J v = up1 A (K + J) v := by funext i j; unfold up1; grind
theorem Lm_mid {p : Nat → Nat} {s : MSp} {l1 l2 : List MSp} : Lm p (l1 ++ s :: l2) = up1 (Lm p (l1 ++ l2)) s.2.2 (edge (p s.1) (p s.2.1)) := by
  induction l1 with
  | nil => rfl
  | cons t l1 ih =>
    show up1 (Lm p (l1 ++ s :: l2)) t.2.2 _ = up1 (up1 (Lm p (l1 ++ l2)) t.2.2 _) s.2.2 _
    rw [ih]
    funext i j
    unfold up1
    grind
theorem erase_split {α : Type} {l : List α} {i : Nat} {s : α} (h : l[i]? = some s) : l = l.take i ++ s :: l.drop (i + 1) ∧ l.eraseIdx i = l.take i ++ l.drop (i + 1) := by
  obtain ⟨hi, rfl⟩ := List.getElem?_eq_some_iff.1 h
  refine ⟨?_, List.eraseIdx_eq_take_drop_succ l i⟩
  rw [← List.drop_eq_getElem_cons, List.take_append_drop]
theorem foster_one {m i : Nat} {E : List Sp} {s : Sp} (hm : 1 ≤ m) (hp : Pos E) (hI : InN (m + 1) E) (hs : E[i]? = some s) :
    s.2.2 * oneF (m + 1) s.1 s.2.1 E = Fsum (m + 1) id m E - Fsum (m + 1) id m (E.eraseIdx i) := by
  obtain ⟨e1, e2⟩ := erase_split hs
  have hmem := List.mem_of_getElem? hs
  have hp' : Pos (E.eraseIdx i) := fun t ht => hp t (List.mem_of_mem_eraseIdx ht)
  have hI' : InN (m + 1) (E.eraseIdx i) := fun t ht => hI t (List.mem_of_mem_eraseIdx ht)
  obtain ⟨ha, hb⟩ := hI s hmem
  rw [← dt_Fsum hp hI, ← dt_Fsum hp' hI', ← gt_Fsum hp hI hm (by omega) (by omega)]
  have hL : Lm id E = up1 (Lm id (E.eraseIdx i)) s.2.2 (edge s.1 s.2.1) := by
    rw [e2]
    conv => lhs; rw [e1]
    exact Lm_mid
  have hps := Lm_psd (R := List.range' 1 m) (p := id) hp'
  have hk := hp s hmem
  rw [hL]
  have k1 := dt_up1 (K := s.2.2) (v := edge s.1 s.2.1) List.nodup_range' hps hk
  have k2 := dt_up1 (K := 1) (v := edge s.1 s.2.1) List.nodup_range' (hps.up1 (v := edge s.1 s.2.1) hk) (by decide)
  have k3 := dt_up1 (K := s.2.2 + 1) (v := edge s.1 s.2.1) List.nodup_range' hps (by grind)
  rw [up1_up1] at k2
  grind
theorem foster {m : Nat} {E : List Sp} (hm : 1 ≤ m) (hp : Pos E) (hI : InN (m + 1) E) :
    sumL (List.range E.length) (fun i => (E.getD i (0, 0, 0)).2.2 * oneF (m + 1) (E.getD i (0, 0, 0)).1 (E.getD i (0, 0, 0)).2.1 E) = (m : Rat) * Fsum (m + 1) id m E := by
  have h1 : sumL (List.range E.length) (fun i => (E.getD i (0, 0, 0)).2.2 * oneF (m + 1) (E.getD i (0, 0, 0)).1 (E.getD i (0, 0, 0)).2.1 E) = sumL (List.range E.length) (fun _ => Fsum (m + 1) id m E) + (-1) * sumL (List.range E.length) (fun i => FG (allOne (m + 1)) id m (E.eraseIdx i)) := by
    rw [← sumL_mul, ← sumL_add]
    refine sumL_congr (fun i hi => ?_)
    have hi' := List.mem_range.1 hi
    have hs : E[i]? = some (E.getD i (0, 0, 0)) := by rw [List.getD_eq_getElem?_getD, List.getElem?_eq_getElem hi']; rfl
    rw [foster_one hm hp hI hs, Fsum_FG (l := E.eraseIdx i)]
    grind
  have h2 : ∀ R : List Nat, sumL R (fun _ => Fsum (m + 1) id m E) = (R.length : Rat) * Fsum (m + 1) id m E := fun R => by
    induction R with
    | nil => rw [sumL_nil]; simp
    | cons r R ih => rw [sumL_cons, ih, List.length_cons, Rat.natCast_add]; grind
  rw [h1, FG_del, h2, List.length_range, ← Fsum_FG]
  grind
def fosQ (n : Nat) (E : List Sp) (i : Nat) : Rat := (E.getD i (0, 0, 0)).2.2 / (Fsum n id (n - 1) E / oneF n (E.getD i (0, 0, 0)).1 (E.getD i (0, 0, 0)).2.1 E)
def fosS (n : Nat) (E : List Sp) (j : Nat) : Rat := sumL (List.range j) (fosQ n E)
theorem fosS_succ {n j : Nat} {E : List Sp} : fosS n E (j + 1) = fosS n E j + fosQ n E j := by
  unfold fosS; rw [List.range_succ, sumL_app, sumL_cons, sumL_nil]; grind
theorem foster_sum {n : Nat} {E : List Sp} (h2 : 2 ≤ n) (hp : Pos E) (hI : InN n E) (hD : 0 < Fsum n id (n - 1) E) : fosS n E E.length = ((n - 1 : Nat) : Rat) := by
  obtain ⟨m, rfl⟩ : ∃ m, n = m + 1 := ⟨n - 1, by omega⟩
  have h := foster (m := m) (by omega) hp hI
  rw [Nat.add_sub_cancel] at hD ⊢
  have hD0 : Fsum (m + 1) id m E ≠ 0 := by grind
  unfold fosS
  have e : sumL (List.range E.length) (fosQ (m + 1) E) = (1 / Fsum (m + 1) id m E) * sumL (List.range E.length) (fun i => (E.getD i (0, 0, 0)).2.2 * oneF (m + 1) (E.getD i (0, 0, 0)).1 (E.getD i (0, 0, 0)).2.1 E) := by
    rw [← sumL_mul]
    refine sumL_congr (fun i _ => ?_)
    unfold fosQ
    rw [Nat.add_sub_cancel]
    grind
  rw [e, h]
  grind
end GoAbs
namespace GoAbs
open Go Go.Proofs
set_option exponentiation.threshold 20000
theorem Qb.ib {k : Nat} {q : Rat} (h : Qb k q) : Ib k q.num ∧ Ib k (q.den : Int) := ⟨h.n, by show (q.den : Int).natAbs < _; rw [Int.natAbs_natCast]; exact h.d⟩
theorem NetL.betweenF {n a b : Nat} {L : List Spr} (h : NetL n L) (h2 : 2 ≤ n) (h6 : n ≤ 6) (hc : connE n (L.map toE)) (ha : a < n) (hb : b < n) (hab : a ≠ b) :
    SpecV Tryz.prog n_spring_Between [.int .i64 (n : Int), .sl (L.map sprAV), .int .i64 (a : Int), .int .i64 (b : Int)] (.tup [.str (bs (numS (treesF n L / oneF n a b (L.map toE)))), .int .i64 0]) ∧
    0 < treesF n L ∧ 0 < oneF n a b (L.map toE) ∧ NumOk (treesF n L / oneF n a b (L.map toE)) ∧ Qb 1800 (treesF n L / oneF n a b (L.map toE)) := by
  have hone := one_net h (low := min a b) (high := max a b) (by omega) (by omega)
  have hb := h.between h2 h6 hc ha hb hab
  rw [← oneF_trees h2 h ha (by omega) hab] at hb
  obtain ⟨h1, h3, h4, h5⟩ := hb
  refine ⟨h1, h3, h4, h5, ?_⟩
  have k1 : Qb 900 (treesF n L) := by
    have c : 10 ^ 260 < 2 ^ 900 := by decide +kernel
    exact ⟨Nat.lt_trans h.size.1 c, Nat.lt_trans h.size.2 c⟩
  have k2 : Qb 900 (oneF n a b (L.map toE)) := by
    rw [oneF_trees h2 h ha (by omega) hab]
    have c : 10 ^ 260 < 2 ^ 900 := by decide +kernel
    exact ⟨Nat.lt_trans hone.size.1 c, Nat.lt_trans hone.size.2 c⟩
  exact k1.div2 k2 (by grind)
theorem foster_L1 {n : Nat} {L : List Spr} {ls : List AV} (hls : ls = L.map sprAV) (hnet : NetL n L) (h2 : 2 ≤ n) (h6 : n ≤ 6) (hc : connE n (L.map toE)) {K : Ex → St → Prop}
    (hK : ∀ e : Nat → AV, e 7 = .ptr 0 0 → e 8 = .ptr 1 0 → K (.exit 0) ⟨e, [.cells [.int .i64 (n : Int), .sl ls], .cells (rc (fosS n (L.map toE) L.length).num (fosS n (L.map toE) L.length).den)]⟩) :
    T Tryz.prog 73 0 (.loop claw_SpringFoster_L1) ⟨envL [(7, .ptr 0 0), (8, .ptr 1 0), (9, .int .i64 0)], [.cells [.int .i64 (n : Int), .sl ls], .cells (rc 0 1)]⟩ K := by
  have hm : Tryz.prog.follows .mixedOrders = true := by kernel_rfl
  have hl40 := hnet.len
  have bits : ∀ j, j ≤ L.length → Qb (2000 * j + 1) (fosS n (L.map toE) j) := fun j => by
    induction j with
    | zero => intro _; exact Qb.zero (by omega)
    | succ j ih =>
      intro hj
      rw [fosS_succ]
      obtain ⟨⟨a0, a1, b0, b1, ab⟩, q, hq, hq0, hq1, hq2, hlen⟩ := hnet.ok _ (List.getElem_mem (l := L) (n := j) (by omega))
      have hE : (L.map toE).getD j (0, 0, 0) = toE L[j] := by rw [List.getD_eq_getElem?_getD, List.getElem?_map, List.getElem?_eq_getElem (by omega)]; rfl
      have hb := (hnet.betweenF h2 h6 hc (a := (toE L[j]).1) (b := (toE L[j]).2.1) (by show L[j].1.toNat < n; omega) (by show L[j].2.1.toNat < n; omega) (by show L[j].1.toNat ≠ L[j].2.1.toNat; omega))
      have hk : (toE L[j]).2.2 = q := by simp [toE, hq]
      have c20 : (1000000 : Nat) < 2 ^ 20 := by decide
      have hqb : Qb 20 q := ⟨Nat.lt_of_le_of_lt hq1 c20, Nat.lt_of_le_of_lt hq2 c20⟩
      have hne : treesF n L / oneF n (toE L[j]).1 (toE L[j]).2.1 (L.map toE) ≠ 0 := by
        obtain ⟨_, g1, g2, _⟩ := hb
        intro e
        have : treesF n L = treesF n L / oneF n (toE L[j]).1 (toE L[j]).2.1 (L.map toE) * oneF n (toE L[j]).1 (toE L[j]).2.1 (L.map toE) := by grind
        rw [e] at this; grind
      have hf : fosQ n (L.map toE) j = q / (treesF n L / oneF n (toE L[j]).1 (toE L[j]).2.1 (L.map toE)) := by
        unfold fosQ treesF; rw [hE, hk]
      rw [hf]
      exact ((ih (by omega)).add2 (hqb.div2 hb.2.2.2.2 hne)).mono (by omega)
  refine T_rounds (fun i : Nat => ⟨envL [(7, .ptr 0 0), (8, .ptr 1 0), (9, .int .i64 (i : Int))], [.cells [.int .i64 (n : Int), .sl ls], .cells (rc (fosS n (L.map toE) i).num (fosS n (L.map toE) i).den)]⟩)
    (fun i => i ≤ L.length) (fun i => L.length - i) 0 (by omega) (Le_keep _ (by simp only [go_sem]; simp)) (fun i hi N hN => ?_)
  unfold claw_SpringFoster_L1
  have hlsl : ls.length = L.length := by rw [hls, List.length_map]
  by_cases hin : i < L.length
  · obtain ⟨s, hs⟩ : ∃ s : Spr, L[i]? = some s := ⟨_, List.getElem?_eq_getElem hin⟩
    obtain ⟨⟨a0, a1, b0, b1, ab⟩, q, hq, hq0, hq1, hq2, hlen⟩ := hnet.ok s (List.mem_of_getElem? hs)
    obtain ⟨x, hx⟩ : ∃ x : Nat, s.1 = x := ⟨s.1.toNat, by omega⟩
    obtain ⟨y, hy⟩ : ∃ y : Nat, s.2.1 = y := ⟨s.2.1.toNat, by omega⟩
    have hsC : sC s = [.int .i64 (x : Int), .int .i64 (y : Int), .str (bs s.2.2)] := by unfold sC; rw [hx, hy]
    have hlsx : ls[i]? = some (.agg (sC s)) := by rw [hls, List.getElem?_map, hs]; rfl
    have hE : (L.map toE).getD i (0, 0, 0) = toE s := by rw [List.getD_eq_getElem?_getD, List.getElem?_map, hs]; rfl
    obtain ⟨hbt, hF, hG, hok, hqb⟩ := hnet.betweenF h2 h6 hc (a := x) (b := y) (by omega) (by omega) (by omega)
    have hk : (toE s).2.2 = q := by simp [toE, hq]
    have hf : fosQ n (L.map toE) i = q / (treesF n L / oneF n x y (L.map toE)) := by
      unfold fosQ treesF
      rw [hE, hk, show (toE s).1 = x by unfold toE; rw [hx]; rfl, show (toE s).2.1 = y by unfold toE; rw [hy]; rfl]
    have hstep := fosS_succ (n := n) (j := i) (E := L.map toE)
    rw [hf] at hstep
    have hpos : 0 < treesF n L / oneF n x y (L.map toE) := by
      rw [Rat.div_def]; exact Rat.mul_pos hF (Rat.inv_pos.2 hG)
    rw [← hls] at hbt
    generalize treesF n L / oneF n x y (L.map toE) = r at *
    have hrn : 0 < r.num := num_pos'.2 hpos
    have c20 : (1000000 : Nat) < 2 ^ 20 := by decide
    have hqq : Qb 20 q := ⟨Nat.lt_of_le_of_lt hq1 c20, Nat.lt_of_le_of_lt hq2 c20⟩
    obtain ⟨i1, i2⟩ := hqq.ib
    obtain ⟨i3, i4⟩ := hqb.ib
    obtain ⟨i5, i6⟩ := (bits i hi).ib
    generalize fosS n (L.map toE) i = S at *
    generalize hS : fosS n (L.map toE) (i + 1) = S' at *
    have hqd := q.den_pos
    have hsd := S.den_pos
    have hvl := rvalid (l := numS r) (by have := numS_len hok; omega)
    have hpr := parse_numS hok
    rw [hpr] at hvl
    have hor := rof (l := numS r) (by have := numS_len hok; omega) hpr
    have hz := rzero (n := r.num) (d := r.den)
    rw [decide_eq_false (by omega)] at hz
    have hos := rof (l := s.2.2) (by omega) hq
    have hdp : 0 < (q.den : Int) * r.num := Int.mul_pos (by omega) hrn
    have hdiv := rdivq (n1 := q.num) (d1 := q.den) (n2 := r.num) (d2 := r.den) (k := 1800) (i1.mono (by omega)) (i2.mono (by omega)) i3 i4 (by omega)
    rw [if_neg (by omega)] at hdiv
    have j1 : Ib 1820 (q.num * r.den) := (i1.mul i4).mono (by omega)
    have j2 : Ib 1820 ((q.den : Int) * r.num) := (i2.mul i3).mono (by omega)
    have hadd := raddq (n1 := S.num) (d1 := S.den) (n2 := q.num * r.den) (d2 := (q.den : Int) * r.num) (k := 100000) (i5.mono (by omega)) (i6.mono (by omega)) (j1.mono (by omega)) (j2.mono (by omega)) (by omega)
    have j3 : Ib 200000 (S.num * ((q.den : Int) * r.num) + q.num * r.den * S.den) := (Ib.add (k := 100000) ((i5.mul j2).mono (by omega)) ((j1.mul i6).mono (by omega))).mono (by omega)
    have j4 : Ib 200000 ((S.den : Int) * ((q.den : Int) * r.num)) := (i6.mul j2).mono (by omega)
    have hlow := rlow j3 j4 (Int.mul_pos (by omega) hdp) (by omega)
    rw [q_add (q := S) (w := q / r) (by omega) q_div.symm, ← hstep] at hlow
    have q1 : (i : Int) < (L.length : Int) := by omega
    have q0 : (0 : Int) ≤ (i : Int) := by omega
    have e1 : IntKind.i64.wrap ((i : Int) + 1) = ((i + 1 : Nat) : Int) := by rw [i64_id (by omega) (by omega)]; omega
    rw [hsC] at hlsx
    simp only [go_sem, claw_SpringFoster_r5, claw_SpringFoster_r6, claw_SpringFoster_r7, claw_SpringFoster_r8, claw_SpringFoster_r10, claw_SpringFoster_r11, q0, q1, hlsl, hlsx]
    refine call_P hbt (by simp only [go_sem]) ?_
    simp only [go_sem]
    refine call_P hvl (by simp only [go_sem]) ?_
    simp only [go_sem, Option.isSome_some, Bool.not_true]
    refine call_P hor (by simp only [go_sem]) ?_
    simp only [go_sem]
    refine call_P hz (by simp only [go_sem, avR, bvs_rc]) ?_
    simp only [go_sem, hm, rc_len, rc_take, rc_drop]
    refine call_P hos (by simp only [go_sem]) ?_
    simp only [go_sem]
    refine call_P hor (by simp only [go_sem]) ?_
    simp only [go_sem]
    refine call_P hdiv (by simp only [go_sem, avR, bvs_rc]) ?_
    simp only [go_sem]
    refine call_P hadd (by simp only [go_sem, avR, bvs_rc]) ?_
    simp only [go_sem]
    refine call_P hlow (by simp only [go_sem, avR, bvs_rc]) ?_
    simp only [go_sem, avR, rc_len, rc_take, rc_drop, e1]
    refine hN (i + 1) _ (by omega) (by omega) (Le_eq (Le_gc [0, 1] (by decide) (fun i hi => by omega) [(7, .ptr 0 0), (8, .ptr 1 0), (9, .int .i64 ((i + 1 : Nat) : Int))] (by simp only [go_sem])) ?_)
    rw [hS]; rfl
  · have hie : i = L.length := by omega
    have q1 : ¬ (i : Int) < (L.length : Int) := by omega
    simp only [go_sem, claw_SpringFoster_r5, q1, hlsl]
    rw [hie]
    exact hK _ (by simp only [go_sem]) (by simp only [go_sem])
theorem law_foster {b : Int} {X : List Spr} {p : List Int} (h0 : 0 ≤ b) (h1 : b ≤ 255) : SpecV Tryz.prog n_law_SpringFoster [.int .u8 b, .sl (X.map sprAV), .sl (ivs p)] (.bool true) := by
  have hm : Tryz.prog.follows .mixedOrders = true := by kernel_rfl
  have hmk := lmade (X := X) (p := p) h0 h1
  obtain ⟨_, n2, n6⟩ := madeN_spec b
  obtain ⟨hnet, hne⟩ := made_net (X := X) (p := p) n2 n6
  have hc := made_conn (X := X) (p := p) n2
  generalize madeN b = n at *
  generalize madeL n X _ = L at *
  obtain ⟨hp, hI⟩ := hnet.pos
  have hD := conn_pos (by omega) (fun e he => by
    obtain ⟨s, hs, rfl⟩ := List.mem_map.1 he
    obtain ⟨_, q, hq, hq0, _⟩ := hnet.ok s hs
    have : (toE s).2.2 = q := by simp [toE, hq]
    rw [this]; exact hq0) hI hc
  have hsum := foster_sum n2 hp hI hD
  rw [List.length_map] at hsum
  have w1 : IntKind.i64.wrap ((n : Int) - 1) = ((n - 1 : Nat) : Int) := by rw [i64_id (by omega) (by omega)]; omega
  have hz := rwhole (v := 0) (by decide)
  have hw := rwhole (v := ((n - 1 : Nat) : Int)) (by omega)
  have hib : Ib 10 ((n - 1 : Nat) : Int) := by show Int.natAbs _ < 2 ^ 10; omega
  have hcmp := rcmpq (n1 := ((n - 1 : Nat) : Int)) (d1 := 1) (n2 := ((n - 1 : Nat) : Int)) (d2 := 1) (k := 10) hib (by show (1 : Int).natAbs < 2 ^ 10; decide) hib (by show (1 : Int).natAbs < 2 ^ 10; decide) (by omega)
  rw [if_pos rfl] at hcmp
  refine specV_T ok_law_SpringFoster (by simp) (T_cut 4 rfl ?_)
  unfold claw_SpringFoster
  simp only [go_sem, claw_SpringFoster_r1, claw_SpringFoster_r2, claw_SpringFoster_r3, claw_SpringFoster_r4]
  refine call_P hmk (by simp only [go_sem]) ?_
  simp only [go_sem]
  refine call_P hz (by simp only [go_sem]) ?_
  simp only [go_sem, avR, rc_len, rc_drop]
  refine T_keep [(7, .ptr 0 0), (8, .ptr 1 0), (9, .int .i64 0)] (by simp only [go_sem]) ?_
  refine foster_L1 rfl hnet n2 n6 hc (fun e e7 e8 => ?_)
  rw [hsum]
  have en : (((n - 1 : Nat) : Rat)).num = ((n - 1 : Nat) : Int) := rfl
  have ed : (((n - 1 : Nat) : Rat)).den = 1 := rfl
  rw [en, ed]
  simp only [go_sem, claw_SpringFoster_r12, e7, e8, hm, rc_len, rc_take, rc_drop, w1]
  refine call_P hw (by simp only [go_sem]) ?_
  simp only [go_sem]
  refine call_P hcmp (by simp only [go_sem, avR, bvs_rc]) ?_
  simp only [go_sem]
  refine call_P llives (by simp only [go_sem]) ?_
  simp only [go_sem]
  refine T_W ?_
  simp only [go_sem]
end GoAbs
