/- Lemmas for the claim (contracts of the functions that it reaches, and what they compute), without conditions. -/
import Derived.Test.YtnpgooaiiboanaaGreatK34
import Derived.Test.YtnpgooaiiboanaaGreatProg
import Derived.KernelRfl
set_option linter.unusedVariables false
set_option linter.unusedSimpArgs false
set_option maxRecDepth 10000
set_option maxHeartbeats 2000000
namespace GoAbs
theorem bget_set {s : List Bool} {a i : Nat} {v : Bool} (ha : a < s.length) : bget (s.set a v) i = if i = a then v else bget s i := by
  unfold bget
  rw [List.getD_eq_getElem?_getD, List.getD_eq_getElem?_getD, List.getElem?_set]
  by_cases h : a = i
  · subst h; simp [ha]
  · rw [if_neg h, if_neg (fun e => h e.symm)]
theorem bget_see {s : List Bool} {a b i : Nat} (ha : a < s.length) : bget (seeA a b s) i = if i = a then (bget s a || bget s b) else bget s i := bget_set ha
def BLe (s t : List Bool) : Prop := ∀ i, bget s i = true → bget t i = true
theorem seeA_le {s : List Bool} {a b : Nat} (ha : a < s.length) : BLe s (seeA a b s) := fun i hi => by
  rw [bget_see ha]; split
  · rename_i h; subst h; rw [hi]; rfl
  · exact hi
theorem seeE_le {s : List Bool} {e : Sp} (h1 : e.1 < s.length) (h2 : e.2.1 < s.length) : BLe s (seeE s e) := fun i hi =>
  seeA_le (by rw [seeA_len]; exact h2) i (seeA_le h1 i hi)
theorem seeL_le {E : List Sp} : ∀ {s : List Bool}, InN s.length E → BLe s (E.foldl seeE s) := by
  induction E with
  | nil => intro s _ i hi; exact hi
  | cons e E ih =>
    intro s h i hi
    rw [List.foldl_cons]
    exact ih (by rw [seeE_len]; exact fun x hx => h x (by simp [hx])) i (seeE_le (h e (by simp)).1 (h e (by simp)).2 i hi)
theorem BLe.anti {s t : List Bool} (hl : s.length = t.length) (h1 : BLe s t) (h2 : BLe t s) : s = t := by
  apply List.ext_getElem?
  intro i
  by_cases hi : i < s.length
  · rw [bget_some hi, bget_some (by omega)]
    have a := h1 i
    have b := h2 i
    cases h : bget s i <;> cases h' : bget t i <;> simp_all
  · rw [List.getElem?_eq_none (by omega), List.getElem?_eq_none (by omega)]
theorem seeL_fix {E : List Sp} : ∀ {s : List Bool}, InN s.length E → E.foldl seeE s = s → ∀ e, e ∈ E → bget s e.1 = bget s e.2.1 := by
  induction E with
  | nil => intro s _ _ e he; simp at he
  | cons d E ih =>
    intro s hE hf
    rw [List.foldl_cons] at hf
    obtain ⟨d1, d2⟩ := hE d (by simp)
    have hE' : InN (seeE s d).length E := by rw [seeE_len]; exact fun x hx => hE x (by simp [hx])
    have e1 : seeE s d = s := BLe.anti seeE_len (fun i hi => by
      have := seeL_le hE' i hi
      rwa [hf] at this) (seeE_le d1 d2)
    have hd : bget s d.1 = bget s d.2.1 := by
      have g1 := congrArg (fun t => bget t d.1) e1
      have g2 := congrArg (fun t => bget t d.2.1) e1
      simp only [seeE] at g1 g2
      rw [bget_see (by rw [seeA_len]; exact d2), bget_see d1, bget_see d1] at g1 g2
      by_cases hh : d.1 = d.2.1
      · rw [hh]
      · rw [if_neg hh, if_pos rfl] at g1
        rw [if_pos rfl, if_neg (fun e => hh e.symm), if_pos rfl] at g2
        cases h : bget s d.1 <;> cases h' : bget s d.2.1 <;> simp_all
    intro e he
    rcases List.mem_cons.1 he with rfl | he
    · exact hd
    · rw [e1] at hf
      exact ih (fun x hx => hE x (by simp [hx])) hf e he
theorem count_lt : ∀ {s t : List Bool}, s.length = t.length → BLe s t → s = t ∨ s.count true < t.count true
  | [], [], _, _ => .inl rfl
  | [], _ :: _, h, _ => by simp at h
  | _ :: _, [], h, _ => by simp at h
  | a :: s, b :: t, h, hle => by
    have h0 : a = true → b = true := hle 0
    have ih := count_lt (s := s) (t := t) (by simpa using h) (fun i => hle (i + 1))
    rw [List.count_cons, List.count_cons]
    rcases ih with rfl | ih
    · cases a <;> cases b <;> simp_all
    · refine .inr ?_
      cases a <;> cases b <;> simp_all <;> omega
theorem start_get {n i : Nat} (hn : 1 ≤ n) : bget (start n) i = decide (i = 0) := by
  unfold start
  rw [bget_set (by simp; omega)]
  by_cases h : i = 0
  · rw [if_pos h, decide_eq_true h]
  · rw [if_neg h, decide_eq_false h]
    unfold bget
    rw [List.getD_eq_getElem?_getD, List.getElem?_replicate]
    split <;> rfl
theorem start_len {n : Nat} : (start n).length = n := by simp [start]
theorem seeN_grow {n : Nat} {E : List Sp} (hn : 1 ≤ n) (hE : InN n E) : ∀ k, seeN E (k + 1) (start n) = seeN E k (start n) ∨ k + 1 ≤ (seeN E k (start n)).count true
  | 0 => .inr (by
    show 0 + 1 ≤ (start n).count true
    have h := start_get (i := 0) hn
    have hl := start_len (n := n)
    revert h hl
    generalize start n = s
    intro h hl
    cases s with
    | nil => simp at hl; omega
    | cons b s =>
      have hb : b = true := h
      rw [hb, List.count_cons]; simp)
  | k + 1 => by
    have hl : (seeN E k (start n)).length = n := by rw [seeN_len, start_len]
    have h0 : seeN E (k + 1) (start n) = E.foldl seeE (seeN E k (start n)) := rfl
    rcases seeN_grow hn hE k with ih | ih
    · refine .inl ?_
      show E.foldl seeE (seeN E (k + 1) (start n)) = _
      rw [ih, ← h0, ih]
    · rcases count_lt (s := seeN E k (start n)) (t := seeN E (k + 1) (start n)) (by rw [seeN_len, seeN_len]) (by rw [h0]; exact seeL_le (by rw [hl]; exact hE)) with h | h
      · refine .inl ?_
        show E.foldl seeE (seeN E (k + 1) (start n)) = _
        rw [← h, ← h0, ← h]
      · exact .inr (by omega)
theorem conn_iff {n : Nat} {E : List Sp} (hn : 1 ≤ n) (hE : InN n E) : connB n E = decide (connE n E) := by
  have hinv : ∀ (lab : Nat → Nat), (∀ e, e ∈ E → lab e.1 = lab e.2.1) → ∀ k i, bget (seeN E k (start n)) i = true → lab i = lab 0 := fun lab hlab k => by
    have one : ∀ (s : List Bool), s.length = n → (∀ i, bget s i = true → lab i = lab 0) → ∀ e, e ∈ E → ∀ i, bget (seeE s e) i = true → lab i = lab 0 := fun s hs h e he i hi => by
      obtain ⟨d1, d2⟩ := hE e he
      have he' := hlab e he
      have B : ∀ i, bget (seeA e.1 e.2.1 s) i = if i = e.1 then (bget s e.1 || bget s e.2.1) else bget s i := fun i => bget_see (by rw [hs]; exact d1)
      unfold seeE at hi
      rw [bget_see (by rw [seeA_len, hs]; exact d2), B, B, B] at hi
      have k1 := h e.1
      have k2 := h e.2.1
      have k3 := h i
      clear h hlab B
      by_cases c1 : i = e.2.1 <;> by_cases c3 : i = e.1 <;> by_cases c2 : e.2.1 = e.1 <;> simp only [c1, c2, c3, if_true, if_false, Bool.or_eq_true] at * <;> grind
    have fold : ∀ (F : List Sp), (∀ e, e ∈ F → e ∈ E) → ∀ (s : List Bool), s.length = n → (∀ i, bget s i = true → lab i = lab 0) → ∀ i, bget (F.foldl seeE s) i = true → lab i = lab 0 := fun F => by
      induction F with
      | nil => intro _ s _ h; exact h
      | cons e F ih => intro hF s hs h; rw [List.foldl_cons]; exact ih (fun x hx => hF x (by simp [hx])) _ (by rw [seeE_len, hs]) (one s hs h e (hF e (by simp)))
    induction k with
    | zero => intro i hi; rw [show seeN E 0 (start n) = start n from rfl, start_get hn] at hi; rw [of_decide_eq_true hi]
    | succ k ih => exact fold E (fun _ h => h) _ (by rw [seeN_len, start_len]) ih
  have hl : (seeN E n (start n)).length = n := by rw [seeN_len, start_len]
  by_cases h : connE n E
  · rw [decide_eq_true h]
    have hfix : seeN E (n + 1) (start n) = seeN E n (start n) := by
      rcases seeN_grow hn hE n with h | h
      · exact h
      · have := List.count_le_length (a := true) (l := seeN E n (start n)); omega
    have hcl := seeL_fix (by rw [hl]; exact hE) hfix
    have h0 : bget (seeN E n (start n)) 0 = true := by
      have : ∀ k, bget (seeN E k (start n)) 0 = true := fun k => by
        induction k with
        | zero => exact (start_get hn).trans (by rfl)
        | succ k ih => exact seeL_le (by rw [seeN_len, start_len]; exact hE) 0 ih
      exact this n
    refine List.all_eq_true.2 fun b hb => ?_
    obtain ⟨i, hi, rfl⟩ := List.getElem_of_mem hb
    have hi' : i < n := by omega
    have := tieAll_inv (f := fun i => bget (seeN E n (start n)) i) (l := E) (p := id) (fun i j hij => by have : i = j := hij; rw [this]) hcl i 0 (h i hi')
    have h2 := bget_some hi
    rw [List.getElem?_eq_getElem hi] at h2
    have h3 := Option.some.inj h2
    show (seeN E n (start n))[i] = true
    rw [h3]
    exact this.trans h0
  · rw [decide_eq_false h]
    cases hc : connB n E with
    | false => rfl
    | true =>
      refine absurd (fun i hi => ?_) h
      have hb := List.all_eq_true.1 hc _ (List.getElem_mem (l := seeN E n (start n)) (n := i) (by omega))
      have h2 := bget_some (s := seeN E n (start n)) (i := i) (by omega)
      rw [List.getElem?_eq_getElem (by omega)] at h2
      have h3 := Option.some.inj h2
      exact hinv (tieAll E id) (fun e he => tieAll_ends he) n i (by rw [← h3]; exact hb)
end GoAbs
namespace GoAbs
open Go Go.Proofs
theorem sumL_pick {R : List Nat} {a : Nat} {x : Nat → Rat} (hn : R.Nodup) : sumL R (fun i => (if i = a then 1 else 0) * x i) = if a ∈ R then x a else 0 := by
  induction R with
  | nil => simp [sumL_nil]
  | cons r R ih =>
    obtain ⟨h1, h2⟩ := List.nodup_cons.1 hn
    rw [sumL_cons, ih h2]
    by_cases h : r = a
    · subst h; rw [if_pos rfl, if_neg h1, if_pos (by simp)]; grind
    · rw [if_neg h]
      by_cases h' : a ∈ R
      · rw [if_pos h', if_pos (by simp [h'])]; grind
      · have h2 : ¬ a = r := fun e => h e.symm
        rw [if_neg h', if_neg (by simp [h', h2])]; grind
theorem sumL_edge {m a b : Nat} {x : Nat → Rat} (ha : a ≤ m) (hb : b ≤ m) (h0 : x 0 = 0) : sumL (List.range' 1 m) (fun i => edge a b i * x i) = x a - x b := by
  have h1 : sumL (List.range' 1 m) (fun i => edge a b i * x i) = sumL (List.range' 1 m) (fun i => (if i = a then 1 else 0) * x i) + (-1) * sumL (List.range' 1 m) (fun i => (if i = b then 1 else 0) * x i) := by
    rw [← sumL_mul, ← sumL_add]
    exact sumL_congr (fun i _ => by unfold edge; grind)
  have pick : ∀ c, c ≤ m → (if c ∈ List.range' 1 m then x c else 0) = x c := fun c hc => by
    by_cases h : c = 0
    · subst h; rw [if_neg (by rw [List.mem_range'_1]; omega), h0]
    · rw [if_pos (by rw [List.mem_range'_1]; omega)]
  rw [h1, sumL_pick List.nodup_range', sumL_pick List.nodup_range', pick a ha, pick b hb]
  grind
theorem dt_Fsum {m : Nat} {E : List Sp} (hp : Pos E) (hE : InN (m + 1) E) : dt (List.range' 1 m) (Lm id E) = Fsum (m + 1) id m E := by
  have h := tree_sum hp hE (lab_id (n := m + 1) (by omega))
  rw [List.length_range', Nat.add_sub_cancel] at h
  exact h.symm
def oneF (n a b : Nat) (E : List Sp) : Rat := Fsum n (mrg id a b) (n - 2) E
theorem gt_Fsum {m a b : Nat} {E : List Sp} (hp : Pos E) (hE : InN (m + 1) E) (hm : 1 ≤ m) (ha : a ≤ m) (hb : b ≤ m) : gt (List.range' 1 m) (Lm id E) (edge a b) = oneF (m + 1) a b E := by
  obtain ⟨k, rfl⟩ : ∃ k, m = k + 1 := ⟨m - 1, by omega⟩
  have h1 := dt_Fsum (E := (a, b, 1) :: E) (m := k + 1) (fun s hs => by
    rcases List.mem_cons.1 hs with rfl | hs
    · show (0 : Rat) ≤ 1; decide
    · exact hp s hs) (fun s hs => by
    rcases List.mem_cons.1 hs with rfl | hs
    · exact ⟨by show a < _; omega, by show b < _; omega⟩
    · exact hE s hs)
  have h2 := dt_Fsum hp hE
  have h3 : Lm id ((a, b, (1 : Rat)) :: E) = up1 (Lm id E) 1 (edge a b) := rfl
  have h4 : Fsum (k + 1 + 1) id (k + 1) ((a, b, 1) :: E) = Fsum (k + 1 + 1) id (k + 1) E + 1 * Fsum (k + 1 + 1) (mrg id a b) k E := rfl
  rw [h3, dt_up1 List.nodup_range' (Lm_psd hp) (by decide), h4, h2] at h1
  unfold oneF
  rw [show k + 1 + 1 - 2 = k by omega]
  grind
theorem lab_one {n a b : Nat} (ha : a < n) (hb : b < n) (hab : a ≠ b) : ∃ g R, Lab n (mrg id a b) g R ∧ R.length = n - 2 := by
  have h := lab_id (n := n) (by omega)
  by_cases h0 : a = 0
  · have hb' : b ∈ List.range' 1 (n - 1) := by rw [List.mem_range'_1]; omega
    have := h.mrg0 hb'
    rw [h0]
    exact ⟨_, _, this, by rw [List.length_erase_of_mem hb', List.length_range']; omega⟩
  · have ha' : a ∈ List.range' 1 (n - 1) := by rw [List.mem_range'_1]; omega
    have hb' : b ∈ 0 :: List.range' 1 (n - 1) := by
      rw [List.mem_cons, List.mem_range'_1]; omega
    exact ⟨_, _, h.mrg ha' hb' (fun e => hab e.symm), by rw [List.length_erase_of_mem ha', List.length_range']; omega⟩
theorem conn_pos {n : Nat} {E : List Sp} (hn : 1 ≤ n) (hp : ∀ e, e ∈ E → 0 < e.2.2) (hE : InN n E) (hc : connE n E) : 0 < Fsum n id (n - 1) E := by
  have h := Fsum_pos hp hE (lab_id (n := n) (by omega)) hc
  rwa [List.length_range'] at h
theorem one_pos {n a b : Nat} {E : List Sp} (hp : ∀ e, e ∈ E → 0 < e.2.2) (hE : InN n E) (hc : connE n E) (ha : a < n) (hb : b < n) (hab : a ≠ b) : 0 < oneF n a b E := by
  obtain ⟨g, R, hL, hR⟩ := lab_one ha hb hab
  have h := Fsum_pos hp hE hL (fun i hi => tieAll_inv (f := tieAll E (mrg id a b)) (l := E) (p := id) (fun i j hij => by have : i = j := hij; rw [this]) (fun e he => tieAll_ends he) i 0 (hc i hi))
  rw [hR] at h
  exact h
def unitX (m a b : Nat) (E : List Sp) : List Rat := 0 :: bsub (triA m E ((unitF (m + 1) a b).drop 1)) m m
theorem unit_get {n a b i : Nat} (ha : a < n) (hb : b < n) (hab : a ≠ b) : rget (unitF n a b) i = edge a b i := by
  unfold unitF edge
  rw [rget_set (by simp; exact hb), rget_set (by simp; exact ha)]
  have h0 : rget (List.replicate n 0) i = 0 := by
    unfold rget
    rw [List.getD_eq_getElem?_getD, List.getElem?_replicate]
    split <;> rfl
  rw [h0]
  by_cases h1 : i = b
  · subst h1
    rw [if_pos rfl, if_pos rfl, if_neg (fun e => hab e.symm)]; grind
  · rw [if_neg h1, if_neg h1]; grind
theorem drop1_get {f : List Rat} {i : Nat} : rget (f.drop 1) i = rget f (i + 1) := by
  unfold rget
  rw [List.getD_eq_getElem?_getD, List.getD_eq_getElem?_getD, List.getElem?_drop, Nat.add_comm]
theorem pos_E {n : Nat} {E : List Sp} (ho : NetOk n E) : (∀ e, e ∈ E → 0 < e.2.2) ∧ Pos E ∧ InN n E :=
  ⟨fun e he => (ho.e e he).2.2.2.1, fun e he => Rat.le_of_lt (ho.e e he).2.2.2.1, fun e he => ⟨(ho.e e he).1, (ho.e e he).2.1⟩⟩
theorem unit_diff {m a b : Nat} {E : List Sp} (ho : NetOk (m + 1) E) (hc : connE (m + 1) E) (ha : a ≤ m) (hb : b ≤ m) (hab : a ≠ b) :
    rget (unitX m a b E) a - rget (unitX m a b E) b = oneF (m + 1) a b E / Fsum (m + 1) id m E := by
  obtain ⟨hp, hP, hI⟩ := pos_E ho
  have hm : 1 ≤ m := by have := ho.n2; omega
  have hD := conn_pos (n := m + 1) (by omega) hp hI hc
  rw [Nat.add_sub_cancel] at hD
  have hdt := dt_Fsum hP hI
  have hd0 : dt (List.range' 1 m) (Lm id E) ≠ 0 := by rw [hdt]; grind
  have hs := (net_solve (m := m) (E := E) (r := (unitF (m + 1) a b).drop 1) (fun e he => ⟨by have := (hI e he).1; omega, by have := (hI e he).2; omega, (ho.e e he).2.2.1, hP e he⟩) (by rw [List.length_drop, unitF_len]; omega) hd0).2.2.2
  have hg := gt_solve (R := List.range' 1 m) (A := Lm id E) (v := edge a b) (x := solX (triA m E ((unitF (m + 1) a b).drop 1)) m) (Lm_psd (R := []) hP).sym hd0 (fun i hi => by
    have hi' := List.mem_range'_1.1 hi
    rw [hs i hi, drop1_get, show i - 1 + 1 = i by omega, unit_get (by omega) (by omega) hab])
  rw [sumL_edge ha hb rfl, gt_Fsum hP hI hm ha hb, hdt] at hg
  show solX _ _ a - solX _ _ b = _
  have hD' : Fsum (m + 1) id m E ≠ 0 := by grind
  generalize solX _ _ a - solX _ _ b = y at *
  rw [← hg]; grind
theorem Rb.elim5 {k : Nat} {p r : List Rat} {c : Nat} (hr : Rb k r) (hp : Rb k p) (hl : p.length = r.length) (hc : c < r.length) (hk : 1 ≤ k) (h0 : rget p c ≠ 0) : Rb (5 * k) (GoAbs.elimRow p c r) := fun x hx => by
  unfold GoAbs.elimRow at hx
  split at hx
  · exact (hr x hx).mono (by omega)
  · unfold GoAbs.elimTo at hx
    obtain ⟨j, hj, rfl⟩ := List.mem_map.1 hx
    have hj' := List.mem_range.1 hj
    split
    · exact ((hr.get hj').sub2 (((hr.get hc).div2 (hp.get (by omega)) h0).mul2 (hp.get (by omega)))).mono (by omega)
    · exact (hr.get hj').mono (by omega)
theorem Mb.elim5 {k w : Nat} {M : RM} (h : Mb k M) (hw : Wid w M) {c I : Nat} (hcM : c < M.length) (hc : c < w) (hk : 1 ≤ k) (h0 : mget M c c ≠ 0) : Mb (5 * k) (elimCol M c I) := fun r hr => by
  unfold elimCol at hr
  obtain ⟨i, hi, rfl⟩ := List.mem_map.1 hr
  have hi' := List.mem_range.1 hi
  split
  · exact Rb.elim5 (h.get hi') (h.get hcM) (by rw [hw.get hcM, hw.get hi']) (by rw [hw.get hi']; exact hc) hk h0
  · exact (h.get hi').mono (by omega)
theorem tri_mb5 {w : Nat} : ∀ {k c l : Nat} {M : RM} {d : Rat}, c + k ≤ M.length → M.length ≤ w → Wid w M → Mb l M → 1 ≤ l → Mb (5 ^ k * l) (tri k c M d).2
  | 0, c, l, M, d, _, _, _, hM, _ => by simpa [tri] using hM
  | k + 1, c, l, M, d, hc, hw, hW, hM, hl => by
    unfold tri
    split
    · refine hM.mono ?_
      have : 1 ≤ 5 ^ (k + 1) := Nat.pow_pos (by omega)
      exact Nat.le_mul_of_pos_left l this
    · rename_i h0
      have := tri_mb5 (k := k) (c := c + 1) (d := d * mget M c c) (by rw [elimCol_len]; omega) (by rw [elimCol_len]; exact hw) (hW.elim (c := c) (I := M.length)) (hM.elim5 hW (by omega) (by omega) hl h0) (by omega)
      exact this.mono (by rw [Nat.pow_succ, Nat.mul_assoc]; exact Nat.le_refl _)
theorem bbit_5 {a k : Nat} (hk : k ≤ 5) : bbit a k ≤ 200 * (a + 1) := by
  have h : bbit a k ≤ bbit a 5 := bbit_mono hk
  have : bbit a 5 ≤ 200 * (a + 1) := by simp only [bbit]; omega
  omega
def moveX (m : Nat) (E : List Sp) (f : List Rat) : List Rat := 0 :: bsub (triA m E (f.drop 1)) m m
theorem move_full {m : Nat} {E : List Sp} {f : List Rat} (ho : NetOk (m + 1) E) (hm5 : m ≤ 5) (hEl : E.length ≤ 40) (hc : connE (m + 1) E) (hf : f.length = m + 1) (hfb : Rb 10947 f) :
    SpecV Tryz.prog n_net_move [.agg (netC (m + 1) E), .sl (condsR f)] (.sl (condsR (moveX m E f))) ∧ Rb 7000000000 (moveX m E f) := by
  obtain ⟨hp, hP, hI⟩ := pos_E ho
  have hm : 1 ≤ m := by have := ho.n2; omega
  have hD := conn_pos (n := m + 1) (by omega) hp hI hc
  rw [Nat.add_sub_cancel] at hD
  have hd0 : dt (List.range' 1 m) (Lm id E) ≠ 0 := by rw [dt_Fsum hP hI]; grind
  obtain ⟨lW, lL⟩ := lapl_wid (m := m) (E := E)
  obtain ⟨s1, s2, s3, s4⟩ := net_solve (m := m) (E := E) (r := f.drop 1) (fun e he => ⟨by have := (hI e he).1; omega, by have := (hI e he).2; omega, (ho.e e he).2.2.1, hP e he⟩) (by rw [List.length_drop]; omega) hd0
  have hMb : Mb 10947 (lapl m E) := (lapl_bits (fun e he => (ho.e e he).2.2.2.2.bits) (by omega)).mono (by omega)
  have hAb : Mb 10947 (aug (lapl m E) (f.drop 1)) := fun row hr => by
    unfold aug at hr
    rw [List.mem_iff_getElem?] at hr
    obtain ⟨i, hi⟩ := hr
    rw [List.getElem?_zipWith] at hi
    revert hi
    cases h1 : (lapl m E)[i]? with
    | none => intro hi; simp at hi
    | some r0 =>
      cases h2 : (f.drop 1)[i]? with
      | none => intro hi; simp at hi
      | some y =>
        intro hi
        simp at hi
        subst hi
        intro x hx
        rcases List.mem_append.1 hx with h | h
        · exact hMb r0 (List.mem_of_getElem? h1) x h
        · rw [List.mem_singleton] at h
          rw [h]
          exact hfb y (List.mem_of_mem_drop (List.mem_of_getElem? h2))
  have hAl : (aug (lapl m E) (f.drop 1)).length = m := by rw [aug_len (by rw [List.length_drop]; omega), lL]
  have h5 : 5 ^ m * 10947 ≤ 34209375 := Nat.le_trans (Nat.mul_le_mul_right _ (Nat.pow_le_pow_right (by omega) hm5)) (by decide)
  have h9 : 9 ^ m * 10947 ≤ 100000000000 := Nat.le_trans (Nat.mul_le_mul_right _ (Nat.pow_le_pow_right (by omega) hm5)) (by decide)
  have hT : Mb 34209375 (triA m E (f.drop 1)) := (tri_mb5 (w := m + 1) (k := m) (c := 0) (l := 10947) (d := 1) (by omega) (by omega) (aug_wid lW) hAb (by omega)).mono h5
  have hTl : (triA m E (f.drop 1)).length = m := by unfold triA; rw [tri_len, hAl]
  refine ⟨move_spec (k := 10947) (a := 34209375) (kE := 67) hm (by omega) (fun e he => ⟨(ho.e e he).1, (ho.e e he).2.1, (ho.e e he).2.2.2.2.bits⟩) (by omega) (by omega) (by omega) hf hAb (by omega) h9 s1 hT s3 s2 (fun k hk => ?_), fun x hx => ?_⟩
  · have hb : bbit 34209375 k ≤ 200 * (34209375 + 1) := bbit_5 (by omega)
    generalize bbit 34209375 k = y at *
    have : k * (34209375 + y + 1) ≤ 4 * (34209375 + y + 1) := Nat.mul_le_mul_right _ (by omega)
    omega
  · unfold moveX at hx
    rcases List.mem_cons.1 hx with h | h
    · rw [h]; exact Qb.zero (by omega)
    · have hb : bbit 34209375 m ≤ 200 * (34209375 + 1) := bbit_5 hm5
      exact (bsub_bits (n := m) hT s3 hTl s2 m (Nat.le_refl _) x h).mono (by omega)
theorem unit_bits {n a b : Nat} : Rb 10947 (unitF n a b) := fun x hx => by
  unfold unitF at hx
  have h1 : Qb 10947 (1 : Rat) := Qb.one (by omega)
  have h2 : Qb 10947 (-1 : Rat) := h1.neg
  rcases List.mem_or_eq_of_mem_set hx with h | h
  · rcases List.mem_or_eq_of_mem_set h with h | h
    · rw [(List.mem_replicate.1 h).2]; exact Qb.zero (by omega)
    · rw [h]; exact h1
  · rw [h]; exact h2
theorem load_full {m a b : Nat} {L : List Spr} {E : List Sp} (hE : E = L.map toE) (hL : L.length ≤ 40) (hl : ∀ s, s ∈ L → s.2.2.length ≤ 1000000000) (h : readR ((m + 1 : Nat) : Int) L = .tup [.agg (netC (m + 1) E), .int .i64 0]) (ho : NetOk (m + 1) E) (hm5 : m ≤ 5) (hc : connE (m + 1) E)
    (ha : a ≤ m) (hb : b ≤ m) (hab : a ≠ b) :
    SpecV Tryz.prog n_spring_load [.int .i64 ((m + 1 : Nat) : Int), .sl (L.map sprAV), .int .i64 (a : Int), .int .i64 (b : Int)] (.tup [.agg (netC (m + 1) E), .sl (condsR (unitX m a b E)), .int .i64 0]) := by
  have hEl : E.length ≤ 40 := by rw [hE, List.length_map]; exact hL
  obtain ⟨hp, hP, hI⟩ := pos_E ho
  have hcB : connB (m + 1) E = true := by rw [conn_iff (by omega) hI, decide_eq_true hc]
  obtain ⟨hmv, hxb⟩ := move_full ho hm5 hEl hc (f := unitF (m + 1) a b) unitF_len unit_bits
  exact load_ok (by omega) hl h (by omega) (by omega) hab (by omega) (by omega) hI (by omega) hcB hmv
theorem between_full {m a b : Nat} {L : List Spr} {E : List Sp} (hE : E = L.map toE) (hL : L.length ≤ 40) (hl : ∀ s, s ∈ L → s.2.2.length ≤ 1000000000) (h : readR ((m + 1 : Nat) : Int) L = .tup [.agg (netC (m + 1) E), .int .i64 0]) (ho : NetOk (m + 1) E) (hm5 : m ≤ 5) (hc : connE (m + 1) E)
    (ha : a ≤ m) (hb : b ≤ m) (hab : a ≠ b) :
    SpecV Tryz.prog n_spring_Between [.int .i64 ((m + 1 : Nat) : Int), .sl (L.map sprAV), .int .i64 (a : Int), .int .i64 (b : Int)] (numR (Fsum (m + 1) id m E / oneF (m + 1) a b E)) := by
  have hEl : E.length ≤ 40 := by rw [hE, List.length_map]; exact hL
  obtain ⟨hp, hP, hI⟩ := pos_E ho
  have hm : 1 ≤ m := by have := ho.n2; omega
  have hD := conn_pos (n := m + 1) (by omega) hp hI hc
  rw [Nat.add_sub_cancel] at hD
  have hG := one_pos hp hI hc (a := a) (b := b) (by omega) (by omega) hab
  have hd := unit_diff ho hc ha hb hab
  obtain ⟨hmv, hxb⟩ := move_full ho hm5 hEl hc (f := unitF (m + 1) a b) unitF_len unit_bits
  have hxl : (unitX m a b E).length = m + 1 := by unfold unitX; rw [List.length_cons, bsub_len]
  have hld := load_full hE hL hl h ho hm5 hc ha hb hab
  have hne : oneF (m + 1) a b E / Fsum (m + 1) id m E ≠ 0 := by
    intro e
    have h1 : oneF (m + 1) a b E = oneF (m + 1) a b E / Fsum (m + 1) id m E * Fsum (m + 1) id m E := by grind
    rw [e] at h1
    grind
  have hbt := between_ok (k := 7000000000) hld (by omega) (by omega) hxb (by omega) (by omega) (by rw [hd]; exact hne)
  rw [hd] at hbt
  have e : 1 / (oneF (m + 1) a b E / Fsum (m + 1) id m E) = Fsum (m + 1) id m E / oneF (m + 1) a b E := by grind
  rw [e] at hbt
  exact hbt
end GoAbs
namespace GoAbs
open Go Go.Proofs
def claw_SpringRayleigh_r1 : List IOp := [oI 5 (.box (.t 2)) 0, oI 6 (.mv (.c (.bool false))) 1]
def claw_SpringRayleigh_r2 : List IOp := [oI 25 (.mv (.t 0)) 0, oI 26 (.mv (.t 1)) 0, oI 27 (.fa 0 (.t 5)) 0, oI 28 (.ld none (.t 27)) 0, oI 29 (.bin .quo (.t 28) (cI 2)) 0, oI 30 (.fa 1 (.t 5)) 0, oI 31 (.ld none (.t 30)) 0, oI 32 (.bin .quo (.t 31) (cI 2)) 0, oI 33 (.fa 0 (.t 5)) 0, oI 34 (.ld none (.t 33)) 0, oI 35 (.bsl none 3 [.int .i64 0] [(0, .t 29), (1, .t 32), (2, .t 34)]) 0, oI 36 (.call 22 [.t 25, .t 26, .t 35]) 1, oI 7 (.alloc [.int .i64 0, .nils]) 1, ⟨none, .st 2 (.t 7) (.t 36), 2, [], [], none⟩]
def claw_SpringRayleigh_r3 : List IOp := [oI 38 (.fa 0 (.t 7)) 0, oI 39 (.ld none (.t 38)) 0, oI 40 (.ld (some 2) (.t 5)) 0, oI 41 (.call 30 [.t 39, .t 40]) 0, oI 37 (.mv (.t 41)) 0, oI 42 (.ext 0 (.t 37)) 0, oI 43 (.ext 1 (.t 37)) 0, oI 8 (.mv (.t 42)) 0, oI 9 (.mv (.t 43)) 0]
def claw_SpringRayleigh_r4 : List IOp := [oI 44 (.fa 0 (.t 5)) 0, oI 45 (.ld none (.t 44)) 0, oI 46 (.bin .quo (.t 45) (cI 11)) 0, oI 47 (.fa 1 (.t 7)) 0, oI 48 (.ld none (.t 47)) 0, oI 49 (.len (.t 48)) 0, oI 50 (.call 37 [.t 46, .t 49]) 0, oI 10 (.mv (.t 50)) 0]
def claw_SpringRayleigh_r5 : List IOp := [oI 51 (.fa 0 (.t 7)) 0, oI 52 (.ld none (.t 51)) 0, oI 53 (.build [.int .i64 0, .nils] [(0, 1, .t 52)]) 0, oI 54 (.fa 0 (.t 7)) 0, ⟨some 55, .ld none (.t 54), 0, [], [3], none⟩, oI 56 (.build [.int .i64 0, .nils] [(0, 1, .t 55)]) 0, oI 57 (.fa 0 (.t 7)) 0, ⟨some 58, .ld none (.t 57), 0, [], [3, 3], none⟩, oI 59 (.build [.int .i64 0, .nils] [(0, 1, .t 58)]) 0, oI 11 (.alloc [.int .i64 0, .nils]) 0, oI 12 (.alloc [.int .i64 0, .nils]) 1, oI 13 (.alloc [.int .i64 0, .nils]) 2, ⟨none, .st 2 (.t 11) (.t 53), 3, [0, 1, 2], [], none⟩, ⟨none, .st 2 (.t 12) (.t 56), 3, [0, 1, 2], [], none⟩, ⟨none, .st 2 (.t 13) (.t 59), 3, [0, 1, 2], [], none⟩]
@[go_sem ↓] theorem claw_SpringRayleigh_r5_k : autoK claw_SpringRayleigh_r5 = (3, 2) := by kernel_rfl
@[go_sem] theorem claw_SpringRayleigh_r5_k1 : autoK [oI 51 (.fa 0 (.t 7)) 0, oI 52 (.ld none (.t 51)) 0, oI 53 (.build [.int .i64 0, .nils] [(0, 1, .t 52)]) 0, oI 54 (.fa 0 (.t 7)) 0, ⟨some 55, .ld none (.t 54), 0, [], [3], none⟩, oI 56 (.build [.int .i64 0, .nils] [(0, 1, .t 55)]) 0, oI 57 (.fa 0 (.t 7)) 0, ⟨some 58, .ld none (.t 57), 0, [], [3, 3], none⟩, oI 59 (.build [.int .i64 0, .nils] [(0, 1, .t 58)]) 0, oI 11 (.alloc [.int .i64 0, .nils]) 0, oI 12 (.alloc [.int .i64 0, .nils]) 1, oI 13 (.alloc [.int .i64 0, .nils]) 2, ⟨none, .st 2 (.t 11) (.t 53), 3, [0, 1, 2], [], none⟩, ⟨none, .st 2 (.t 12) (.t 56), 3, [0, 1, 2], [], none⟩, ⟨none, .st 2 (.t 13) (.t 59), 3, [0, 1, 2], [], none⟩] = (3, 2) := claw_SpringRayleigh_r5_k
def claw_SpringRayleigh_r6 : List IOp := [oI 60 (.bsl (some 3) 0 [.int .i64 0, .int .i64 0, .str ⟨#[]⟩] []) 0, oI 61 (.fa 1 (.t 7)) 1, oI 62 (.ld none (.t 61)) 1, ⟨some 63, .app (some 3) 32 (.t 60) (.t 62), 1, [0], [], none⟩, oI 64 (.fa 1 (.t 7)) 2, ⟨some 65, .ld none (.t 64), 2, [], [1], none⟩, oI 66 (.mv (.t 10)) 2, oI 67 (.idx 3 (.t 65) (.t 66)) 2, oI 68 (.fa 0 (.t 67)) 2, ⟨some 69, .ld none (.t 68), 2, [], [1], none⟩, oI 70 (.fa 1 (.t 7)) 2, ⟨some 71, .ld none (.t 70), 2, [], [1], none⟩, oI 72 (.mv (.t 10)) 2, oI 73 (.idx 3 (.t 71) (.t 72)) 2, oI 74 (.fa 0 (.t 73)) 2, ⟨some 75, .ld none (.t 74), 2, [], [1], none⟩, oI 76 (.bin .add (.t 75) (cI 1)) 2, oI 77 (.fa 0 (.t 7)) 2, ⟨some 78, .ld none (.t 77), 2, [], [1], none⟩, oI 79 (.bin .rem (.t 76) (.t 78)) 2, oI 80 (.fa 1 (.t 5)) 2, ⟨some 81, .ld none (.t 80), 2, [], [1], none⟩, ⟨some 82, .call 38 [.t 81], 2, [0, 1], [], none⟩, ⟨some 83, .build [.int .i64 0, .int .i64 0, .str ⟨#[]⟩] [(0, 1, .t 69), (1, 1, .t 79), (2, 1, .t 82)], 2, [0, 1], [], none⟩, ⟨some 84, .bsl (some 3) 1 [.int .i64 0, .int .i64 0, .str ⟨#[]⟩] [(0, .t 83)], 2, [0, 1], [], none⟩, ⟨some 85, .app (some 3) 32 (.t 63) (.t 84), 3, [0, 1, 2], [], none⟩, ⟨some 86, .fa 1 (.t 11), 4, [0, 1, 2, 3], [], none⟩, ⟨none, .st 1 (.t 86) (.t 85), 4, [0, 1, 2, 3], [], none⟩]
@[go_sem ↓] theorem claw_SpringRayleigh_r6_k : autoK claw_SpringRayleigh_r6 = (4, 2) := by kernel_rfl
@[go_sem] theorem claw_SpringRayleigh_r6_k1 : autoK [oI 60 (.bsl (some 3) 0 [.int .i64 0, .int .i64 0, .str ⟨#[]⟩] []) 0, oI 61 (.fa 1 (.t 7)) 1, oI 62 (.ld none (.t 61)) 1, ⟨some 63, .app (some 3) 32 (.t 60) (.t 62), 1, [0], [], none⟩, oI 64 (.fa 1 (.t 7)) 2, ⟨some 65, .ld none (.t 64), 2, [], [1], none⟩, oI 66 (.mv (.t 10)) 2, oI 67 (.idx 3 (.t 65) (.t 66)) 2, oI 68 (.fa 0 (.t 67)) 2, ⟨some 69, .ld none (.t 68), 2, [], [1], none⟩, oI 70 (.fa 1 (.t 7)) 2, ⟨some 71, .ld none (.t 70), 2, [], [1], none⟩, oI 72 (.mv (.t 10)) 2, oI 73 (.idx 3 (.t 71) (.t 72)) 2, oI 74 (.fa 0 (.t 73)) 2, ⟨some 75, .ld none (.t 74), 2, [], [1], none⟩, oI 76 (.bin .add (.t 75) (cI 1)) 2, oI 77 (.fa 0 (.t 7)) 2, ⟨some 78, .ld none (.t 77), 2, [], [1], none⟩, oI 79 (.bin .rem (.t 76) (.t 78)) 2, oI 80 (.fa 1 (.t 5)) 2, ⟨some 81, .ld none (.t 80), 2, [], [1], none⟩, ⟨some 82, .call 38 [.t 81], 2, [0, 1], [], none⟩, ⟨some 83, .build [.int .i64 0, .int .i64 0, .str ⟨#[]⟩] [(0, 1, .t 69), (1, 1, .t 79), (2, 1, .t 82)], 2, [0, 1], [], none⟩, ⟨some 84, .bsl (some 3) 1 [.int .i64 0, .int .i64 0, .str ⟨#[]⟩] [(0, .t 83)], 2, [0, 1], [], none⟩, ⟨some 85, .app (some 3) 32 (.t 63) (.t 84), 3, [0, 1, 2], [], none⟩, ⟨some 86, .fa 1 (.t 11), 4, [0, 1, 2, 3], [], none⟩, ⟨none, .st 1 (.t 86) (.t 85), 4, [0, 1, 2, 3], [], none⟩] = (4, 2) := claw_SpringRayleigh_r6_k
def claw_SpringRayleigh_r7 : List IOp := [oI 14 (.mv (cI 0)) 0]
def claw_SpringRayleigh_r8 : List IOp := [oI 87 (.mv (.t 14)) 0, oI 88 (.fa 1 (.t 7)) 0, oI 89 (.ld none (.t 88)) 0, oI 90 (.len (.t 89)) 0, oI 91 (.bin .lss (.t 87) (.t 90)) 0]
def claw_SpringRayleigh_r9 : List IOp := [oI 94 (.fa 1 (.t 7)) 0, oI 95 (.ld none (.t 94)) 0, oI 96 (.mv (.t 14)) 0, oI 97 (.idx 3 (.t 95) (.t 96)) 0, oI 98 (.ld (some 3) (.t 97)) 0, oI 99 (.fa 1 (.t 7)) 0, ⟨some 100, .ld none (.t 99), 0, [], [2], none⟩, oI 101 (.mv (.t 14)) 0, oI 102 (.idx 3 (.t 100) (.t 101)) 0, ⟨some 103, .ld (some 3) (.t 102), 0, [], [2], none⟩, oI 15 (.alloc [.int .i64 0, .int .i64 0, .str ⟨#[]⟩]) 0, oI 16 (.alloc [.int .i64 0, .int .i64 0, .str ⟨#[]⟩]) 1, ⟨none, .st 3 (.t 15) (.t 98), 2, [0, 1], [], none⟩, ⟨none, .st 3 (.t 16) (.t 103), 2, [0, 1], [], none⟩]
@[go_sem ↓] theorem claw_SpringRayleigh_r9_k : autoK claw_SpringRayleigh_r9 = (2, 2) := by kernel_rfl
@[go_sem] theorem claw_SpringRayleigh_r9_k1 : autoK [oI 94 (.fa 1 (.t 7)) 0, oI 95 (.ld none (.t 94)) 0, oI 96 (.mv (.t 14)) 0, oI 97 (.idx 3 (.t 95) (.t 96)) 0, oI 98 (.ld (some 3) (.t 97)) 0, oI 99 (.fa 1 (.t 7)) 0, ⟨some 100, .ld none (.t 99), 0, [], [2], none⟩, oI 101 (.mv (.t 14)) 0, oI 102 (.idx 3 (.t 100) (.t 101)) 0, ⟨some 103, .ld (some 3) (.t 102), 0, [], [2], none⟩, oI 15 (.alloc [.int .i64 0, .int .i64 0, .str ⟨#[]⟩]) 0, oI 16 (.alloc [.int .i64 0, .int .i64 0, .str ⟨#[]⟩]) 1, ⟨none, .st 3 (.t 15) (.t 98), 2, [0, 1], [], none⟩, ⟨none, .st 3 (.t 16) (.t 103), 2, [0, 1], [], none⟩] = (2, 2) := claw_SpringRayleigh_r9_k
def claw_SpringRayleigh_r10 : List IOp := [oI 105 (.fa 2 (.t 15)) 0, oI 106 (.ld none (.t 105)) 0, oI 107 (.call 29 [.t 106]) 0, oI 108 (.call 33 [cI 3]) 0, oI 109 (.call 28 [.t 107, .t 108]) 0, oI 110 (.call 39 [.t 109]) 0, oI 104 (.mv (.t 110)) 0, oI 111 (.ext 0 (.t 104)) 0, oI 112 (.ext 1 (.t 104)) 0, oI 113 (.fa 2 (.t 16)) 0, ⟨none, .st 1 (.t 113) (.t 111), 0, [], [], none⟩]
def claw_SpringRayleigh_r11 : List IOp := [oI 114 (.fa 1 (.t 13)) 0, oI 115 (.ld none (.t 114)) 0, oI 116 (.ld (some 3) (.t 16)) 0, oI 117 (.bsl (some 3) 1 [.int .i64 0, .int .i64 0, .str ⟨#[]⟩] [(0, .t 116)]) 0, oI 118 (.app (some 3) 32 (.t 115) (.t 117)) 1, oI 119 (.fa 1 (.t 13)) 2, ⟨none, .st 1 (.t 119) (.t 118), 2, [], [], none⟩]
def claw_SpringRayleigh_r12 : List IOp := [oI 120 (.mv (.t 14)) 0, oI 121 (.mv (.t 10)) 0, oI 122 (.bin .eql (.t 120) (.t 121)) 0]
def claw_SpringRayleigh_r13 : List IOp := [oI 123 (.fa 2 (.t 16)) 0, oI 124 (.ld none (.t 123)) 0, oI 125 (.fa 2 (.t 15)) 0, ⟨none, .st 1 (.t 125) (.t 124), 0, [], [], none⟩]
def claw_SpringRayleigh_r14 : List IOp := [oI 126 (.fa 1 (.t 12)) 0, oI 127 (.ld none (.t 126)) 0, oI 128 (.ld (some 3) (.t 15)) 0, oI 129 (.bsl (some 3) 1 [.int .i64 0, .int .i64 0, .str ⟨#[]⟩] [(0, .t 128)]) 0, oI 130 (.app (some 3) 32 (.t 127) (.t 129)) 1, oI 131 (.fa 1 (.t 12)) 2, ⟨none, .st 1 (.t 131) (.t 130), 2, [], [], none⟩]
def claw_SpringRayleigh_r15 : List IOp := [oI 92 (.mv (.t 14)) 0, oI 93 (.bin .add (.t 92) (cI 1)) 0, oI 14 (.mv (.t 93)) 0]
def claw_SpringRayleigh_L1 : CC := .seq (.seq (.rg false claw_SpringRayleigh_r8) (.cond (.t 91) .skip (.exit 0))) (.seq (.block 1 (.seq (.rg true claw_SpringRayleigh_r9) (.seq (.rg false claw_SpringRayleigh_r10) (.seq (.rg false claw_SpringRayleigh_r11) (.seq (.seq (.rg false claw_SpringRayleigh_r12) (.cond (.t 122) (.rg false claw_SpringRayleigh_r13) .skip)) (.rg false claw_SpringRayleigh_r14)))))) (.rg false claw_SpringRayleigh_r15))
def claw_SpringRayleigh_r16 : List IOp := [oI 133 (.fa 0 (.t 7)) 0, oI 134 (.ld none (.t 133)) 0, oI 135 (.fa 1 (.t 7)) 0, oI 136 (.ld none (.t 135)) 0, oI 137 (.mv (.t 8)) 0, oI 138 (.mv (.t 9)) 0, oI 139 (.call 31 [.t 134, .t 136, .t 137, .t 138]) 0, oI 132 (.mv (.t 139)) 0, oI 140 (.ext 0 (.t 132)) 0, oI 141 (.ext 1 (.t 132)) 0, oI 17 (.mv (.t 140)) 0, oI 18 (.mv (.t 141)) 0]
def claw_SpringRayleigh_r17 : List IOp := [oI 143 (.fa 0 (.t 7)) 0, oI 144 (.ld none (.t 143)) 0, oI 145 (.fa 1 (.t 11)) 0, oI 146 (.ld none (.t 145)) 0, oI 147 (.mv (.t 8)) 0, oI 148 (.mv (.t 9)) 0, oI 149 (.call 31 [.t 144, .t 146, .t 147, .t 148]) 0, oI 142 (.mv (.t 149)) 0, oI 150 (.ext 0 (.t 142)) 0, oI 151 (.ext 1 (.t 142)) 0, oI 19 (.mv (.t 150)) 0, oI 20 (.mv (.t 151)) 0]
def claw_SpringRayleigh_r18 : List IOp := [oI 153 (.fa 0 (.t 7)) 0, oI 154 (.ld none (.t 153)) 0, oI 155 (.fa 1 (.t 12)) 0, oI 156 (.ld none (.t 155)) 0, oI 157 (.mv (.t 8)) 0, oI 158 (.mv (.t 9)) 0, oI 159 (.call 31 [.t 154, .t 156, .t 157, .t 158]) 0, oI 152 (.mv (.t 159)) 0, oI 160 (.ext 0 (.t 152)) 0, oI 161 (.ext 1 (.t 152)) 0, oI 21 (.mv (.t 160)) 0, oI 22 (.mv (.t 161)) 0]
def claw_SpringRayleigh_r19 : List IOp := [oI 163 (.fa 0 (.t 7)) 0, oI 164 (.ld none (.t 163)) 0, oI 165 (.fa 1 (.t 13)) 0, oI 166 (.ld none (.t 165)) 0, oI 167 (.mv (.t 8)) 0, oI 168 (.mv (.t 9)) 0, oI 169 (.call 31 [.t 164, .t 166, .t 167, .t 168]) 0, oI 162 (.mv (.t 169)) 0, oI 170 (.ext 0 (.t 162)) 0, oI 171 (.ext 1 (.t 162)) 0, oI 23 (.mv (.t 170)) 0, oI 24 (.mv (.t 171)) 0]
def claw_SpringRayleigh_r20 : List IOp := [oI 172 (.mv (.t 18)) 0, oI 173 (.bin .neq (.t 172) (cI 0)) 0, oI 174 (.mv (.t 173)) 0, ⟨some 175, .mv (.t 20), 0, [], [], some (174, false)⟩, ⟨some 176, .bin .neq (.t 175) (cI 0), 0, [], [], some (174, false)⟩, oI 177 (.pick (.t 174) (.c (.bool true)) (.t 176)) 0, oI 178 (.mv (.t 177)) 0, ⟨some 179, .mv (.t 22), 0, [], [], some (178, false)⟩, ⟨some 180, .bin .neq (.t 179) (cI 0), 0, [], [], some (178, false)⟩, oI 181 (.pick (.t 178) (.c (.bool true)) (.t 180)) 0, oI 182 (.mv (.t 181)) 0, ⟨some 183, .mv (.t 24), 0, [], [], some (182, false)⟩, ⟨some 184, .bin .neq (.t 183) (cI 0), 0, [], [], some (182, false)⟩, oI 185 (.pick (.t 182) (.c (.bool true)) (.t 184)) 0, oI 186 (.mv (.t 185)) 0, ⟨some 187, .mv (.t 17), 0, [], [], some (186, false)⟩, ⟨some 188, .call 34 [.t 187], 0, [], [], some (186, false)⟩, ⟨some 189, .un .not (.t 188), 0, [], [], some (186, false)⟩, oI 190 (.pick (.t 186) (.c (.bool true)) (.t 189)) 0, oI 191 (.mv (.t 190)) 0, ⟨some 192, .mv (.t 19), 0, [], [], some (191, false)⟩, ⟨some 193, .call 34 [.t 192], 0, [], [], some (191, false)⟩, ⟨some 194, .un .not (.t 193), 0, [], [], some (191, false)⟩, oI 195 (.pick (.t 191) (.c (.bool true)) (.t 194)) 0, oI 196 (.mv (.t 195)) 0, ⟨some 197, .mv (.t 21), 0, [], [], some (196, false)⟩, ⟨some 198, .call 34 [.t 197], 0, [], [], some (196, false)⟩, ⟨some 199, .un .not (.t 198), 0, [], [], some (196, false)⟩, oI 200 (.pick (.t 196) (.c (.bool true)) (.t 199)) 0, oI 201 (.mv (.t 200)) 0, ⟨some 202, .call 18 [], 0, [], [], some (201, false)⟩, ⟨some 203, .un .not (.t 202), 0, [], [], some (201, false)⟩, oI 204 (.pick (.t 201) (.c (.bool true)) (.t 203)) 0]
def claw_SpringRayleigh_r21 : List IOp := [oI 6 (.mv (.c (.bool false))) 0]
def claw_SpringRayleigh_r22 : List IOp := [oI 205 (.mv (.t 17)) 0, oI 206 (.call 29 [.t 205]) 0, oI 207 (.mv (.t 19)) 0, oI 208 (.call 29 [.t 207]) 0, oI 209 (.call 26 [.t 206, .t 208]) 0, oI 210 (.bin .leq (.t 209) (cI 0)) 0, oI 211 (.mv (.t 210)) 0, ⟨some 212, .mv (.t 17), 0, [], [], some (211, true)⟩, ⟨some 213, .call 29 [.t 212], 0, [], [], some (211, true)⟩, ⟨some 214, .mv (.t 21), 0, [], [], some (211, true)⟩, ⟨some 215, .call 29 [.t 214], 0, [], [], some (211, true)⟩, ⟨some 216, .call 26 [.t 213, .t 215], 0, [], [], some (211, true)⟩, ⟨some 217, .bin .leq (.t 216) (cI 0), 0, [], [], some (211, true)⟩, oI 218 (.pick (.t 211) (.t 217) (.c (.bool false))) 0, oI 219 (.mv (.t 218)) 0, ⟨some 220, .mv (.t 23), 0, [], [], some (219, true)⟩, ⟨some 221, .mv (.t 17), 0, [], [], some (219, true)⟩, ⟨some 222, .call 29 [.t 221], 0, [], [], some (219, true)⟩, ⟨some 223, .call 33 [cI 3], 0, [], [], some (219, true)⟩, ⟨some 224, .call 28 [.t 222, .t 223], 0, [], [], some (219, true)⟩, ⟨some 225, .call 20 [.t 220, .t 224], 0, [], [], some (219, true)⟩, oI 226 (.pick (.t 219) (.t 225) (.c (.bool false))) 0, oI 6 (.mv (.t 226)) 0]
def claw_SpringRayleigh : CC := .seq (.rg false claw_SpringRayleigh_r1) (.seq (.rg false claw_SpringRayleigh_r2) (.seq (.rg false claw_SpringRayleigh_r3) (.seq (.rg false claw_SpringRayleigh_r4) (.seq (.rg true claw_SpringRayleigh_r5) (.seq (.rg true claw_SpringRayleigh_r6) (.seq (.seq (.rg false claw_SpringRayleigh_r7) (.block 0 (.loop claw_SpringRayleigh_L1))) (.seq (.rg false claw_SpringRayleigh_r16) (.seq (.rg false claw_SpringRayleigh_r17) (.seq (.rg false claw_SpringRayleigh_r18) (.seq (.rg false claw_SpringRayleigh_r19) (.seq (.seq (.rg false claw_SpringRayleigh_r20) (.cond (.t 204) (.seq (.rg false claw_SpringRayleigh_r21) .ret) .skip)) (.seq (.rg false claw_SpringRayleigh_r22) .ret))))))))))))
abbrev n_law_SpringRayleigh : Nat := 7
theorem ok_law_SpringRayleigh : fnOk Tryz.prog 7 = some (227, claw_SpringRayleigh, [.tmp 6]) := by kernel_rfl
end GoAbs
namespace GoAbs
open Go Go.Proofs
set_option exponentiation.threshold 20000
def pairA (n : Nat) (A : Int) : Nat := (A % (n : Int)).toNat
def pairB (n : Nat) (A B : Int) : Nat := ((A % (n : Int) + 1 + B % ((n : Int) - 1)) % (n : Int)).toNat
theorem pair_ok {n : Nat} {A B : Int} (hn : 2 ≤ n) : (pairA n A : Int) = A % n ∧ (pairB n A B : Int) = (A % n + 1 + B % ((n : Int) - 1)) % n ∧ pairA n A < n ∧ pairB n A B < n ∧ pairA n A ≠ pairB n A B := by
  have h1 := Int.emod_nonneg A (show (n : Int) ≠ 0 by omega)
  have h2 := Int.emod_lt_of_pos A (show (0 : Int) < n by omega)
  have h3 := Int.emod_nonneg B (show (n : Int) - 1 ≠ 0 by omega)
  have h4 := Int.emod_lt_of_pos B (show (0 : Int) < (n : Int) - 1 by omega)
  have h5 := Int.emod_nonneg (A % n + 1 + B % ((n : Int) - 1)) (show (n : Int) ≠ 0 by omega)
  have h6 := Int.emod_lt_of_pos (A % n + 1 + B % ((n : Int) - 1)) (show (0 : Int) < n by omega)
  have key : (A % n + 1 + B % ((n : Int) - 1)) % n ≠ A % n := by
    generalize A % (n : Int) = x at *
    generalize B % ((n : Int) - 1) = y at *
    rcases Int.lt_or_le (x + 1 + y) n with h | h
    · rw [Int.emod_eq_of_lt (by omega) h]; omega
    · have : (x + 1 + y) % n = x + 1 + y - n := by
        rw [← Int.sub_emod_right, Int.emod_eq_of_lt (by omega) (by omega)]
      rw [this]; omega
  unfold pairA pairB
  refine ⟨Int.toNat_of_nonneg h1, Int.toNat_of_nonneg h5, by omega, by omega, by omega⟩
theorem lpair {n : Nat} {A B : Int} (hn : 2 ≤ n) (hnl : n ≤ 1000) : SpecV Tryz.prog n_law_pair [.int .i64 (n : Int), .agg [.int .i64 A, .int .i64 B]] (.tup [.int .i64 (pairA n A : Int), .int .i64 (pairB n A B : Int)]) := by
  have hm : Tryz.prog.follows .mixedOrders = true := by kernel_rfl
  obtain ⟨e1, e2, l1, l2, _⟩ := pair_ok (n := n) (A := A) (B := B) hn
  have f1 := lfold (v := A) (n := (n : Int)) (by omega) (by omega)
  have f2 := lfold (v := B) (n := (n : Int) - 1) (by omega) (by omega)
  have h3 := Int.emod_nonneg B (show (n : Int) - 1 ≠ 0 by omega)
  have h4 := Int.emod_lt_of_pos B (show (0 : Int) < (n : Int) - 1 by omega)
  rw [← e1] at f1 e2
  have w1 : IntKind.i64.wrap ((n : Int) - 1) = (n : Int) - 1 := i64_id (by omega) (by omega)
  have w2 : IntKind.i64.wrap ((pairA n A : Int) + 1) = (pairA n A : Int) + 1 := i64_id (by omega) (by omega)
  have w3 : IntKind.i64.wrap ((pairA n A : Int) + 1 + B % ((n : Int) - 1)) = (pairA n A : Int) + 1 + B % ((n : Int) - 1) := i64_id (by omega) (by omega)
  have t1 : ((pairA n A : Int) + 1 + B % ((n : Int) - 1)).tmod n = (pairB n A B : Int) := by
    rw [Int.tmod_eq_emod_of_nonneg (by omega)]; exact e2.symm
  have n0 : (n : Int) ≠ 0 := by omega
  generalize pairA n A = x at *
  generalize pairB n A B = y at *
  refine specV_W ok_law_pair (by simp) ?_
  unfold claw_pair
  simp only [go_sem, claw_pair_r1, claw_pair_r2]
  refine call_P f1 (by simp only [go_sem]) ?_
  simp only [go_sem, claw_pair_r3, hm, w1]
  refine call_P f2 (by simp only [go_sem]) ?_
  simp only [go_sem, w1, w2, w3, n0, t1]
theorem made_conn {n : Nat} {X : List Spr} {p : List Int} (h2 : 2 ≤ n) : connE n ((madeL n X p).map toE) := fun i hi => by
  show tieAll ((madeL n X p).map toE) id i = tieAll ((madeL n X p).map toE) id 0
  induction i with
  | zero => rfl
  | succ i ih =>
    have hmem : toE (pathE p i) ∈ (madeL n X p).map toE := List.mem_map.2 ⟨pathE p i, by
      unfold madeL pathL
      exact List.mem_append.2 (.inl (List.mem_map.2 ⟨i, by rw [List.mem_range]; omega, rfl⟩)), rfl⟩
    have h := tieAll_ends (p := id) hmem
    have e1 : (toE (pathE p i)).1 = i := by simp [toE, pathE]
    have e2 : (toE (pathE p i)).2.1 = i + 1 := by simp [toE, pathE]
    rw [e1, e2] at h
    rw [← h]
    exact ih (by omega)
theorem oneF_trees {n a b : Nat} {L : List Spr} (h2 : 2 ≤ n) (h : NetL n L) (ha : a < n) (hb : b < n) (hab : a ≠ b) :
    oneF n a b (L.map toE) = treesF (n - 1) (oneS (min a b) (max a b) L) := by
  obtain ⟨hp, hI⟩ := h.pos
  have h1 := Fsum_one (n := n) (low := min a b) (high := max a b) (l := L.map toE) (a := a) (b := b) (w := 1) h2 (by omega) (by omega) (by omega) hp hI (by decide)
  obtain ⟨k, rfl⟩ : ∃ k, n = k + 2 := ⟨n - 2, by omega⟩
  have e1 : k + 2 - 1 = k + 1 := rfl
  have e2 : k + 2 - 2 = k := rfl
  rw [e1, e2, Fsum_FG (l := _ ++ _), FG_snoc, ← Fsum_FG, FG_tie ⟨ha, hb⟩ hI, ← one_map] at h1
  unfold oneF treesF
  rw [e1, e2, show k + 1 - 1 = k from rfl, Fsum_FG]
  have e3 : tieP (a, b, (1 : Rat)) id = mrg id a b := rfl
  rw [e3] at h1
  have e4 : ((a, b, (1 : Rat)) : MSp).2.2 = 1 := rfl
  rw [e4] at h1
  grind
theorem big_ok {n d : Int} {q : Rat} {k : Nat} (hk : 1 ≤ k) (hk2 : k ≤ 4000) (hd : d ≠ 0) (h : q = Rat.divInt n d) (h1 : n.natAbs < 10 ^ k) (h2 : d.natAbs < 10 ^ k) : NumOk q := by
  obtain ⟨g1, g2⟩ := divInt_le (n := n) hd
  rw [← h] at g1 g2
  exact ⟨Nat.le_trans (decL_le hk (Nat.lt_of_le_of_lt g1 h1)) hk2, .inr (Nat.le_trans (decL_le hk (Nat.lt_of_le_of_lt g2 h2)) hk2)⟩
theorem q_div {q w : Rat} : Rat.divInt (q.num * w.den) ((q.den : Int) * w.num) = q / w := by
  rw [Rat.div_def, ← Rat.num_divInt_den q, Rat.num_divInt_den]
  have : w⁻¹ = Rat.divInt w.den w.num := by rw [Rat.inv_def]
  rw [this]
  conv => rhs; rw [← Rat.num_divInt_den q]
  rw [Rat.divInt_mul_divInt]
theorem div_ok {q w : Rat} (hq : q.num.natAbs < 10 ^ 260 ∧ q.den < 10 ^ 260) (hw : w.num.natAbs < 10 ^ 260 ∧ w.den < 10 ^ 260) (h0 : 0 < w) : NumOk (q / w) ∧ Ib 1800 (q.num * w.den) ∧ Ib 1800 ((q.den : Int) * w.num) ∧ 0 < (q.den : Int) * w.num := by
  have hwn : 0 < w.num := num_pos'.2 h0
  have hqd := q.den_pos
  have hp : 0 < (q.den : Int) * w.num := Int.mul_pos (by omega) hwn
  obtain ⟨_, i1, i2⟩ := size_ok hq
  obtain ⟨_, i3, i4⟩ := size_ok hw
  have e : 10 ^ 260 * 10 ^ 260 = 10 ^ 520 := by decide +kernel
  refine ⟨big_ok (k := 520) (by omega) (by omega) (by omega) q_div.symm ?_ ?_, i1.mul i4, i2.mul i3, hp⟩
  · rw [Int.natAbs_mul, Int.natAbs_natCast, ← e]; exact Nat.mul_lt_mul'' hq.1 hw.2
  · rw [Int.natAbs_mul, Int.natAbs_natCast, ← e]; exact Nat.mul_lt_mul'' hq.2 hw.1
theorem NetL.between {n a b : Nat} {L : List Spr} (h : NetL n L) (h2 : 2 ≤ n) (h6 : n ≤ 6) (hc : connE n (L.map toE)) (ha : a < n) (hb : b < n) (hab : a ≠ b) :
    SpecV Tryz.prog n_spring_Between [.int .i64 (n : Int), .sl (L.map sprAV), .int .i64 (a : Int), .int .i64 (b : Int)] (.tup [.str (bs (numS (treesF n L / treesF (n - 1) (oneS (min a b) (max a b) L)))), .int .i64 0]) ∧
    0 < treesF n L ∧ 0 < treesF (n - 1) (oneS (min a b) (max a b) L) ∧ NumOk (treesF n L / treesF (n - 1) (oneS (min a b) (max a b) L)) := by
  obtain ⟨hr, ho⟩ := h.read h2 h6
  have hlen : ∀ s, s ∈ L → s.2.2.length ≤ 1000000000 := fun s hs => by
    obtain ⟨_, q, _, _, _, _, hl⟩ := h.ok s hs; omega
  obtain ⟨hp, _, hI⟩ := pos_E ho
  have hone := one_net h (low := min a b) (high := max a b) (by omega) (by omega)
  have hG := one_pos hp hI hc ha hb hab
  have hF := conn_pos (by omega) hp hI hc
  rw [oneF_trees h2 h ha hb hab] at hG
  have hok := (div_ok (q := treesF n L) (w := treesF (n - 1) (oneS (min a b) (max a b) L)) h.size hone.size hG).1
  obtain ⟨m, rfl⟩ : ∃ m, n = m + 1 := ⟨n - 1, by omega⟩
  have hbt := between_full rfl h.len hlen hr ho (by omega) hc (a := a) (b := b) (by omega) (by omega) hab
  rw [oneF_trees h2 h ha hb hab] at hbt
  have hF' : Fsum (m + 1) id m (L.map toE) = treesF (m + 1) L := rfl
  rw [hF'] at hbt
  unfold numR at hbt
  rw [if_pos hok] at hbt
  exact ⟨hbt, hF, hG, hok⟩
theorem bv_ivs {H : Heap} {ids : List Nat} {b : Nat} {p : List Int} (hb : H[b]? = some (.cells (ivs p))) (hi : b ∈ ids) : BV H ids (.osl none b 0 p.length) (.sl (ivs p)) := by
  refine .osl none b 0 p.length (ivs p) (ivs p) hb hi (ivs_len p) (fun x hx => ?_) (by rw [ivs_len]; simp [es]) (fun i x j y z hx hy hz => ?_)
  · obtain ⟨c, _, rfl⟩ := List.mem_map.1 hx; rfl
  · obtain ⟨c, _, rfl⟩ := List.mem_map.1 (List.mem_of_getElem? hx)
    have hj : j = 0 := by
      have := (List.getElem?_eq_some_iff.1 hy).1
      simp [AV.cells] at this; omega
    subst hj
    simp [AV.cells] at hy
    subst hy
    simp [es] at hz
    rw [hx] at hz
    cases hz
    exact .int _ _
end GoAbs
namespace GoAbs
open Go Go.Proofs
set_option exponentiation.threshold 20000
theorem up1_up1 {A : Mat} {K J : Rat} {v : Nat → Rat} : up1 (up1 A K v) J v = up1 A (K + J) v := by funext i j; unfold up1; grind
theorem Lm_mid {p : Nat → Nat} {s : MSp} {l1 l2 : List MSp} : Lm p (l1 ++ s :: l2) = up1 (Lm p (l1 ++ l2)) s.2.2 (edge (p s.1) (p s.2.1)) := by
  induction l1 with
  | nil => rfl
  | cons t l1 ih =>
    show up1 (Lm p (l1 ++ s :: l2)) t.2.2 _ = up1 (up1 (Lm p (l1 ++ l2)) t.2.2 _) s.2.2 _
    rw [ih]
    funext i j
    unfold up1
    grind
theorem erase_split {α : Type} {l : List α} {i : Nat} {s : α} (h : l[i]? = some s) : l = l.take i ++ s :: l.drop (i + 1) ∧ l.eraseIdx i = l.take i ++ l.drop (i + 1) := by
  obtain ⟨hi, rfl⟩ := List.getElem?_eq_some_iff.1 h
  refine ⟨?_, List.eraseIdx_eq_take_drop_succ l i⟩
  rw [← List.drop_eq_getElem_cons, List.take_append_drop]
end GoAbs
namespace GoAbs
open Go Go.Proofs
set_option exponentiation.threshold 20000
theorem Qb.ib {k : Nat} {q : Rat} (h : Qb k q) : Ib k q.num ∧ Ib k (q.den : Int) := ⟨h.n, by show (q.den : Int).natAbs < _; rw [Int.natAbs_natCast]; exact h.d⟩
theorem NetL.betweenF {n a b : Nat} {L : List Spr} (h : NetL n L) (h2 : 2 ≤ n) (h6 : n ≤ 6) (hc : connE n (L.map toE)) (ha : a < n) (hb : b < n) (hab : a ≠ b) :
    SpecV Tryz.prog n_spring_Between [.int .i64 (n : Int), .sl (L.map sprAV), .int .i64 (a : Int), .int .i64 (b : Int)] (.tup [.str (bs (numS (treesF n L / oneF n a b (L.map toE)))), .int .i64 0]) ∧
    0 < treesF n L ∧ 0 < oneF n a b (L.map toE) ∧ NumOk (treesF n L / oneF n a b (L.map toE)) ∧ Qb 1800 (treesF n L / oneF n a b (L.map toE)) := by
  have hone := one_net h (low := min a b) (high := max a b) (by omega) (by omega)
  have hb := h.between h2 h6 hc ha hb hab
  rw [← oneF_trees h2 h ha (by omega) hab] at hb
  obtain ⟨h1, h3, h4, h5⟩ := hb
  refine ⟨h1, h3, h4, h5, ?_⟩
  have k1 : Qb 900 (treesF n L) := by
    have c : 10 ^ 260 < 2 ^ 900 := by decide +kernel
    exact ⟨Nat.lt_trans h.size.1 c, Nat.lt_trans h.size.2 c⟩
  have k2 : Qb 900 (oneF n a b (L.map toE)) := by
    rw [oneF_trees h2 h ha (by omega) hab]
    have c : 10 ^ 260 < 2 ^ 900 := by decide +kernel
    exact ⟨Nat.lt_trans hone.size.1 c, Nat.lt_trans hone.size.2 c⟩
  exact k1.div2 k2 (by grind)
end GoAbs
namespace GoAbs
open Go Go.Proofs
set_option exponentiation.threshold 20000
theorem sumL_swap {R S : List Nat} {f : Nat → Nat → Rat} : sumL R (fun i => sumL S (fun j => f i j)) = sumL S (fun j => sumL R (fun i => f i j)) := by
  induction R with
  | nil => rw [sumL_nil]; exact (sumL_zero (fun i _ => sumL_nil)).symm
  | cons r R ih => rw [sumL_cons, ih, ← sumL_add]; exact sumL_congr (fun j _ => by rw [sumL_cons])
theorem ray {R : List Nat} {A : Mat} {v u x y : Nat → Rat} {w : Rat} (hp : Psd R A) (hw : 0 ≤ w) (hx : ∀ i, i ∈ R → sumL R (fun j => x j * A i j) = v i) (hy : ∀ i, i ∈ R → sumL R (fun j => y j * up1 A w u i j) = v i) :
    sumL R (fun i => v i * y i) ≤ sumL R (fun i => v i * x i) := by
  obtain ⟨X, hX⟩ : ∃ X, X = sumL R (fun j => x j * u j) := ⟨_, rfl⟩
  obtain ⟨Y, hY⟩ : ∃ Y, Y = sumL R (fun j => y j * u j) := ⟨_, rfl⟩
  have hy' : ∀ i, i ∈ R → sumL R (fun j => y j * A i j) = v i - w * Y * u i := fun i hi => by
    have h := hy i hi
    have e : sumL R (fun j => y j * up1 A w u i j) = sumL R (fun j => y j * A i j) + (w * u i) * sumL R (fun j => y j * u j) := by
      rw [← sumL_mul, ← sumL_add]
      exact sumL_congr (fun j _ => by unfold up1; grind)
    rw [e, ← hY] at h
    grind
  have hq := hp.pos (fun i => x i - y i)
  have e1 : Qf R A (fun i => x i - y i) = (w * Y) * (X - Y) := by
    unfold Qf
    have inner : ∀ i, i ∈ R → sumL R (fun j => (x j - y j) * A i j) = w * Y * u i := fun i hi => by
      have e : sumL R (fun j => (x j - y j) * A i j) = sumL R (fun j => x j * A i j) + (-1) * sumL R (fun j => y j * A i j) := by
        rw [← sumL_mul, ← sumL_add]
        exact sumL_congr (fun j _ => by grind)
      rw [e, hx i hi, hy' i hi]; grind
    have e : sumL R (fun i => (x i - y i) * sumL R (fun j => (x j - y j) * A i j)) = (w * Y) * (sumL R (fun j => x j * u j) + (-1) * sumL R (fun j => y j * u j)) := by
      rw [← sumL_mul, ← sumL_add, ← sumL_mul]
      exact sumL_congr (fun i hi => by rw [inner i hi]; grind)
    rw [e, ← hX, ← hY]; grind
  rw [e1] at hq
  have hs : sumL R (fun i => v i * x i) = sumL R (fun i => x i * sumL R (fun j => y j * A i j)) + (w * Y) * X := by
    rw [hX, ← sumL_mul, ← sumL_add]
    exact sumL_congr (fun i hi => by rw [hy' i hi]; grind)
  have ht : sumL R (fun i => v i * y i) = sumL R (fun i => y i * sumL R (fun j => x j * A i j)) := sumL_congr (fun i hi => by rw [hx i hi]; grind)
  have hsw : sumL R (fun i => x i * sumL R (fun j => y j * A i j)) = sumL R (fun i => y i * sumL R (fun j => x j * A i j)) := by
    have a1 : sumL R (fun i => x i * sumL R (fun j => y j * A i j)) = sumL R (fun i => sumL R (fun j => x i * (y j * A i j))) := sumL_congr (fun i _ => by rw [sumL_mul])
    have a2 : sumL R (fun i => y i * sumL R (fun j => x j * A i j)) = sumL R (fun i => sumL R (fun j => y i * (x j * A i j))) := sumL_congr (fun i _ => by rw [sumL_mul])
    rw [a1, a2, sumL_swap]
    exact sumL_congr (fun i _ => sumL_congr (fun j _ => by rw [hp.sym j i]; grind))
  rw [hs, ht, hsw]
  have h3 := Rat.mul_nonneg hw (rat_sq Y)
  grind
theorem unit_sol {n a b : Nat} {E : List Sp} (ho : NetOk n E) (hc : connE n E) (ha : a < n) (hb : b < n) (hab : a ≠ b) :
    ∃ x : Nat → Rat, (∀ i, i ∈ List.range' 1 (n - 1) → sumL (List.range' 1 (n - 1)) (fun j => x j * Lm id E i j) = edge a b i) ∧ sumL (List.range' 1 (n - 1)) (fun i => edge a b i * x i) = oneF n a b E / Fsum n id (n - 1) E ∧ 0 < oneF n a b E ∧ 0 < Fsum n id (n - 1) E := by
  obtain ⟨hp, hP, hI⟩ := pos_E ho
  obtain ⟨m, rfl⟩ : ∃ m, n = m + 1 := ⟨n - 1, by omega⟩
  have hm : 1 ≤ m := by have := ho.n2; omega
  have hD := conn_pos (n := m + 1) (by omega) hp hI hc
  have hG := one_pos hp hI hc ha hb hab
  rw [Nat.add_sub_cancel] at hD ⊢
  have hdt := dt_Fsum hP hI
  have hd0 : dt (List.range' 1 m) (Lm id E) ≠ 0 := by rw [hdt]; grind
  have hs := (net_solve (m := m) (E := E) (r := (unitF (m + 1) a b).drop 1) (fun e he => ⟨by have := (hI e he).1; omega, by have := (hI e he).2; omega, (ho.e e he).2.2.1, hP e he⟩) (by rw [List.length_drop, unitF_len]; omega) hd0).2.2.2
  have hs' : ∀ i, i ∈ List.range' 1 m → sumL (List.range' 1 m) (fun j => solX (triA m E ((unitF (m + 1) a b).drop 1)) m j * Lm id E i j) = edge a b i := fun i hi => by
    have hi' := List.mem_range'_1.1 hi
    rw [hs i hi, drop1_get, show i - 1 + 1 = i by omega, unit_get ha hb hab]
  have hg := gt_solve (R := List.range' 1 m) (A := Lm id E) (v := edge a b) (Lm_psd (R := []) hP).sym hd0 hs'
  rw [gt_Fsum hP hI hm (by omega) (by omega), hdt] at hg
  refine ⟨_, hs', ?_, hG, hD⟩
  rw [← hg]
  grind
theorem res_le {n a b c d : Nat} {E E' : List Sp} {w : Rat} (ho : NetOk n E) (hc : connE n E) (ho' : NetOk n E') (hc' : connE n E') (ha : a < n) (hb : b < n) (hab : a ≠ b) (hw : 0 ≤ w) (hL : Lm id E' = up1 (Lm id E) w (edge c d)) :
    Fsum n id (n - 1) E / oneF n a b E ≤ Fsum n id (n - 1) E' / oneF n a b E' := by
  obtain ⟨x, x1, x2, x3, x4⟩ := unit_sol ho hc ha hb hab
  obtain ⟨y, y1, y2, y3, y4⟩ := unit_sol ho' hc' ha hb hab
  rw [hL] at y1
  have h := ray (Lm_psd (pos_E ho).2.1) hw x1 y1
  rw [x2, y2] at h
  generalize oneF n a b E = G at *
  generalize oneF n a b E' = G' at *
  generalize Fsum n id (n - 1) E = D at *
  generalize Fsum n id (n - 1) E' = D' at *
  have h1 := Rat.mul_pos x4 y4
  have h2 : G' * D ≤ G * D' := by
    have k := Rat.mul_le_mul_of_nonneg_right h (Rat.le_of_lt h1)
    have k1 : G' / D' * (D * D') = G' * D := by grind
    have k2 : G / D * (D * D') = G * D' := by grind
    rwa [k1, k2] at k
  have h3 := Rat.inv_pos.2 (Rat.mul_pos x3 y3)
  have k := Rat.mul_le_mul_of_nonneg_right h2 (Rat.le_of_lt h3)
  have k1 : G' * D * (G * G')⁻¹ = D / G := by grind
  have k2 : G * D' * (G * G')⁻¹ = D' / G' := by grind
  rwa [k1, k2] at k
def sc3 (s : MSp) : MSp := (s.1, s.2.1, 3 * s.2.2)
theorem Fsum_sc {n : Nat} : ∀ {l : List MSp} {k : Nat} {p : Nat → Nat}, Fsum n p k (l.map sc3) = 3 ^ k * Fsum n p k l
  | l, 0, p => by
    have : ∀ l, Fsum n p 0 l = if ∀ i, i < n → p i = p 0 then 1 else 0 := fun l => by cases l <;> rfl
    rw [this, this, Rat.pow_zero]; grind
  | [], k + 1, p => by show (0 : Rat) = _ * 0; grind
  | s :: l, k + 1, p => by
    show Fsum n p (k + 1) (l.map sc3) + 3 * s.2.2 * Fsum n (mrg p (p s.1) (p s.2.1)) k (l.map sc3) = 3 ^ (k + 1) * (Fsum n p (k + 1) l + s.2.2 * Fsum n (mrg p (p s.1) (p s.2.1)) k l)
    rw [Fsum_sc, Fsum_sc, Rat.pow_succ]
    grind
theorem res_sc {n a b : Nat} {E : List Sp} (h2 : 2 ≤ n) (hG : 0 < oneF n a b E) : Fsum n id (n - 1) (E.map sc3) / oneF n a b (E.map sc3) = Fsum n id (n - 1) E / oneF n a b E * 3 := by
  obtain ⟨k, rfl⟩ : ∃ k, n = k + 2 := ⟨n - 2, by omega⟩
  unfold oneF at *
  rw [Fsum_sc, Fsum_sc]
  have e1 : k + 2 - 1 = k + 1 := rfl
  have e2 : k + 2 - 2 = k := rfl
  rw [e1, e2, Rat.pow_succ]
  rw [e2] at hG
  have h3 : (3 : Rat) ^ k ≠ 0 := by
    have : ∀ k : Nat, 0 < (3 : Rat) ^ k := fun k => by
      induction k with
      | zero => rw [Rat.pow_zero]; decide
      | succ k ih => rw [Rat.pow_succ]; exact Rat.mul_pos ih (by decide)
    have := this k
    grind
  generalize Fsum (k + 2) id (k + 1) E = D
  generalize Fsum (k + 2) (mrg id a b) k E = G at *
  generalize (3 : Rat) ^ k = z at *
  have hG0 : G ≠ 0 := by grind
  grind
theorem conn_mono {n : Nat} {E E' : List Sp} (h : ∀ e, e ∈ E → ∃ e', e' ∈ E' ∧ e'.1 = e.1 ∧ e'.2.1 = e.2.1) (hc : connE n E) : connE n E' := fun i hi =>
  tieAll_inv (f := tieAll E' id) (l := E) (p := id) (fun i j hij => by have : i = j := hij; rw [this]) (fun e he => by
    obtain ⟨e', h1, h2, h3⟩ := h e he
    have := tieAll_ends (p := id) h1
    rwa [h2, h3] at this) i 0 (hc i hi)
end GoAbs
namespace GoAbs
open Go Go.Proofs
set_option exponentiation.threshold 20000
theorem made_small {n : Nat} {X : List Spr} {p : List Int} (h2 : 2 ≤ n) (h6 : n ≤ 6) : (madeL n X p).length ≤ 11 ∧ ∀ s, s ∈ madeL n X p → ∃ v, s.2.2 = numS (numQ v) := by
  have hex : ∀ Y : List Spr, (extraL n Y).length ≤ Y.length := fun Y => by
    induction Y with
    | nil => exact Nat.le_refl 0
    | cons s Y ih =>
      show (extra1 n s ++ extraL n Y).length ≤ _
      have : (extra1 n s).length ≤ 1 := by unfold extra1; split <;> simp
      rw [List.length_append, List.length_cons]; omega
  have h3 := hex (X.take 6)
  have h4 : (X.take 6).length ≤ 6 := by rw [List.length_take]; omega
  refine ⟨by unfold madeL; rw [List.length_append, pathL_len]; omega, fun s hs => ?_⟩
  unfold madeL at hs
  rcases List.mem_append.1 hs with hs | hs
  · obtain ⟨i, hi, rfl⟩ := List.mem_map.1 hs
    exact ⟨_, rfl⟩
  · obtain ⟨t, _, ht⟩ := List.mem_flatMap.1 hs
    unfold extra1 at ht
    split at ht
    · simp at ht
    · simp at ht
      subst ht
      exact ⟨_, rfl⟩
def tr3 (s : Spr) : Spr := (s.1, s.2.1, numS (3 * (toE s).2.2))
theorem tr3_ok {s : Spr} {v : Int} (h : s.2.2 = numS (numQ v)) : (toE s).2.2 = numQ v ∧ (toE (tr3 s)).2.2 = 3 * numQ v ∧ NumOk (3 * numQ v) ∧ parseL (numS (3 * numQ v)) = some (3 * numQ v) ∧ 0 < 3 * numQ v ∧ (3 * numQ v).num.natAbs ≤ 36 ∧ (3 * numQ v).den ≤ 4 ∧ Rat.divInt ((numQ v).num * 3) ((numQ v).den * 1) = 3 * numQ v := by
  obtain ⟨h0, h1, h2⟩ := numQ_ok v
  have hk := (numQ_num v).1
  have e0 : (toE s).2.2 = numQ v := by unfold toE; rw [h, parse_numS hk]; rfl
  have hd := (numQ v).den_pos
  have e1 : Rat.divInt ((numQ v).num * 3) ((numQ v).den * 1) = 3 * numQ v := by
    have h3 : Rat.divInt 3 1 = (3 : Rat) := by decide
    rw [← Rat.divInt_mul_divInt, Rat.num_divInt_den, h3]; grind
  obtain ⟨g1, g2⟩ := divInt_le (n := (numQ v).num * 3) (d := ((numQ v).den : Int) * 1) (by omega)
  rw [e1] at g1 g2
  have g1' : (3 * numQ v).num.natAbs ≤ 36 := by rw [Int.natAbs_mul, show Int.natAbs 3 = 3 from rfl] at g1; omega
  have g2' : (3 * numQ v).den ≤ 4 := by omega
  have hok : NumOk (3 * numQ v) := ⟨Nat.le_trans (decL_le (k := 2) (by omega) (by omega)) (by omega), .inr (Nat.le_trans (decL_le (k := 2) (by omega) (by omega)) (by omega))⟩
  have hp := parse_numS hok
  refine ⟨e0, ?_, hok, hp, by grind, g1', g2', e1⟩
  unfold tr3
  rw [e0]
  show ((parseL (numS (3 * numQ v))).getD 0) = _
  rw [hp]; rfl
theorem ray_gc {nt : Nat} {e : Nat → AV} {z0 z1 z2 : List AV} {n : Int} {M S : List Spr} {s t : Spr} {k : Nat} {b1 b2 b3 b4 : Blk} (h0 : ∀ f, gcL f z0 = z0) (h1 : ∀ f, gcL f z1 = z1) (h2 : ∀ f, gcL f z2 = z2) (l : List (Nat × AV)) (hl : Has e l) (hg : (l.map fun p => (p.1, p.2.gc (pos [0, 1, 2, 3, 4, 12, 10]))) = l) :
    Le nt 0 ⟨e, [.cells z0, .cells z1, .cells z2, .cells [.int .i64 n, .osl (some 3) 12 0 (k + 1)], .cells [.int .i64 n, .osl (some 3) 10 0 (k + 1)], .dead, .dead, b1, b2, b3, .cells (M.flatMap sC ++ sC s), b4, .cells (S.flatMap sC ++ sC t)]⟩
      ⟨envL l, [.cells z0, .cells z1, .cells z2, .cells [.int .i64 n, .osl (some 3) 5 0 (k + 1)], .cells [.int .i64 n, .osl (some 3) 6 0 (k + 1)], .cells ((S ++ [t]).flatMap sC), .cells ((M ++ [s]).flatMap sC)]⟩ := by
  refine Le_eq (Le_gc [0, 1, 2, 3, 4, 12, 10] (by decide) (fun i hi => by omega) l hl) ?_
  have hk : ∀ (M : List Spr) s, (M ++ [s]).flatMap sC = M.flatMap sC ++ sC s := fun M s => by rw [List.flatMap_append]; simp
  rw [hg, hk M s, hk S t]
  show St.mk _ [Blk.cells (gcL _ z0), Blk.cells (gcL _ z1), Blk.cells (gcL _ z2), _, _, Blk.cells (gcL _ (S.flatMap sC ++ sC t)), Blk.cells (gcL _ (M.flatMap sC ++ sC s))] = _
  have h3 : ∀ (M : List Spr) s f, gcL f (M.flatMap sC ++ sC s) = M.flatMap sC ++ sC s := fun M s f => by
    rw [gcL_map, List.map_append, ← gcL_map, gc_sC]; rfl
  rw [h0, h1, h2, h3, h3]
  rfl
theorem ray_L1 {n i : Nat} {x y : Int} {L S : List Spr} {ls z0 z2 : List AV} (hls : ls = L.map sprAV) (hl11 : L.length ≤ 11) (hsm : ∀ s, s ∈ L → ∃ v, s.2.2 = numS (numQ v)) (hS : S.length = L.length) (hSi : ∀ (k : Nat) (s : Spr), L[k]? = some s → S[k]? = some (if k = i then tr3 s else s))
    (h0 : ∀ f, gcL f z0 = z0) (h2 : ∀ f, gcL f z2 = z2) {K : Ex → St → Prop}
    (hK : ∀ e : Nat → AV, e 7 = .ptr 1 0 → e 8 = .int .i64 x → e 9 = .int .i64 y → e 11 = .ptr 2 0 → e 12 = .ptr 3 0 → e 13 = .ptr 4 0 →
      K (.exit 0) ⟨e, [.cells z0, .cells [.int .i64 (n : Int), .sl ls], .cells z2, .cells [.int .i64 (n : Int), .osl (some 3) 5 0 L.length], .cells [.int .i64 (n : Int), .osl (some 3) 6 0 L.length], .cells (S.flatMap sC), .cells ((L.map tr3).flatMap sC)]⟩) :
    T Tryz.prog 227 0 (.loop claw_SpringRayleigh_L1) ⟨envL [(5, .ptr 0 0), (7, .ptr 1 0), (8, .int .i64 x), (9, .int .i64 y), (10, .int .i64 (i : Int)), (11, .ptr 2 0), (12, .ptr 3 0), (13, .ptr 4 0), (14, .int .i64 0)],
      [.cells z0, .cells [.int .i64 (n : Int), .sl ls], .cells z2, .cells [.int .i64 (n : Int), .osl (some 3) 5 0 0], .cells [.int .i64 (n : Int), .osl (some 3) 6 0 0], .cells [], .cells []]⟩ K := by
  have hm : Tryz.prog.follows .mixedOrders = true := by kernel_rfl
  have hlsl : ls.length = L.length := by rw [hls, List.length_map]
  refine T_roundsT (fun k : Nat => ⟨envL [(5, .ptr 0 0), (7, .ptr 1 0), (8, .int .i64 x), (9, .int .i64 y), (10, .int .i64 (i : Int)), (11, .ptr 2 0), (12, .ptr 3 0), (13, .ptr 4 0), (14, .int .i64 (k : Int))],
      [.cells z0, .cells [.int .i64 (n : Int), .sl ls], .cells z2, .cells [.int .i64 (n : Int), .osl (some 3) 5 0 k], .cells [.int .i64 (n : Int), .osl (some 3) 6 0 k], .cells ((S.take k).flatMap sC), .cells (((L.take k).map tr3).flatMap sC)]⟩)
    (fun k => k ≤ L.length) (fun k => L.length - k) 0 (by omega) (Le_keep _ (by simp only [go_sem]; simp)) (fun k hk N hN => ?_)
  unfold claw_SpringRayleigh_L1
  by_cases hkL : k < L.length
  · obtain ⟨s, hs⟩ : ∃ s : Spr, L[k]? = some s := ⟨_, List.getElem?_eq_getElem hkL⟩
    obtain ⟨v, hv⟩ := hsm s (List.mem_of_getElem? hs)
    obtain ⟨g0, _, g1, g2, g3, g4, g5, g6⟩ := tr3_ok hv
    obtain ⟨w0, w1, w2⟩ := numQ_ok v
    have hSk := hSi k s hs
    have tS : S.take (k + 1) = S.take k ++ [if k = i then tr3 s else s] := by rw [List.take_add_one, hSk]; rfl
    have tL : (L.take (k + 1)).map tr3 = (L.take k).map tr3 ++ [tr3 s] := by rw [List.take_add_one, hs, List.map_append]; rfl
    have htr : tr3 s = (s.1, s.2.1, numS (3 * numQ v)) := by unfold tr3; rw [g0]
    have hlsx : ls[k]? = some (.agg [.int .i64 s.1, .int .i64 s.2.1, .str (bs (numS (numQ v)))]) := by rw [hls, List.getElem?_map, hs, ← hv]; rfl
    have hof := rof (l := numS (numQ v)) (by have := numS_len (numQ_num v).1; omega) (parse_numS (numQ_num v).1)
    have i1 : Ib 10 (numQ v).num := by show Int.natAbs _ < 2 ^ 10; omega
    have i2 : Ib 10 ((numQ v).den : Int) := by show Int.natAbs _ < 2 ^ 10; omega
    have i3 : Ib 10 (3 : Int) := by show Int.natAbs _ < 2 ^ 10; decide
    have i4 : Ib 10 (1 : Int) := by show Int.natAbs _ < 2 ^ 10; decide
    have hmul := rmulq (n1 := (numQ v).num) (d1 := (numQ v).den) (n2 := 3) (d2 := 1) (k := 10) i1 i2 i3 i4 (by omega)
    have hnum := rnum (k := 20) (i1.mul i3) (i2.mul i4) (by have := (numQ v).den_pos; omega) (by omega) g6
    rw [if_pos g1] at hnum
    have hw3 := rwhole (v := 3) (by decide)
    have q0 : (0 : Int) ≤ (k : Int) := by omega
    have q1 : (k : Int) < (L.length : Int) := by omega
    have e1 : IntKind.i64.wrap ((k : Int) + 1) = ((k + 1 : Nat) : Int) := by rw [i64_id (by omega) (by omega)]; omega
    have la : ((L.take k).map tr3).length = k := by simp; omega
    have lS : (S.take k).length = k := by simp; omega
    generalize hMg : (L.take k).map tr3 = M at *
    generalize hPg : S.take k = P at *
    have lm1 : (M.flatMap sC).length = k * 3 := by rw [sC_flat_len, la]
    have lm2 : k * 3 ≤ (M.flatMap sC).length := by omega
    have lm3 : (M.flatMap sC).take (k * 3) = M.flatMap sC := List.take_of_length_le (by omega)
    have lp1 : (P.flatMap sC).length = k * 3 := by rw [sC_flat_len, lS]
    have lp2 : k * 3 ≤ (P.flatMap sC).length := by omega
    have lp3 : (P.flatMap sC).take (k * 3) = P.flatMap sC := List.take_of_length_le (by omega)
    have s2 : (k + 1) * 32 ≤ 1099511627776 := by omega
    refine T_cut 1 rfl ?_
    simp only [go_sem, claw_SpringRayleigh_r8, q1, hlsl]
    refine T_draw hm (fun t b => t = 2 ∧ (b = 7 ∨ b = 8)) 2 ?_
    simp only [go_sem, claw_SpringRayleigh_r9, hm, q0, q1, hlsl, hlsx]
    simp only [go_sem, claw_SpringRayleigh_r10]
    refine call_P hof (by simp only [go_sem]) ?_
    simp only [go_sem]
    refine call_P hw3 (by simp only [go_sem]) ?_
    simp only [go_sem]
    refine call_P hmul (by simp only [go_sem, avR, bvs_rc]) ?_
    simp only [go_sem]
    refine call_P hnum (by simp only [go_sem, avR, bvs_rc]) ?_
    simp only [go_sem, claw_SpringRayleigh_r11, la, lS, s2, lm2, lm3]
    by_cases hki : k = i
    · rw [if_pos hki, htr] at tS
      have hki' : (k : Int) = (i : Int) := by omega
      have e1i : IntKind.i64.wrap ((i : Int) + 1) = ((k + 1 : Nat) : Int) := by rw [← hki']; exact e1
      simp only [go_sem, claw_SpringRayleigh_r12, claw_SpringRayleigh_r13, claw_SpringRayleigh_r14, hki', la, lS, s2, lp2, lp3]
      refine T_W ?_
      simp only [go_sem, claw_SpringRayleigh_r15, e1i]
      exact hN (k + 1) _ (by omega) (by omega) (by
        rw [tS, tL, htr]
        exact ray_gc (k := k) (M := M) (S := P) (s := (s.1, s.2.1, numS (3 * numQ v))) (t := (s.1, s.2.1, numS (3 * numQ v))) h0 (fun f => rfl) h2 [(5, .ptr 0 0), (7, .ptr 1 0), (8, .int .i64 x), (9, .int .i64 y), (10, .int .i64 (i : Int)), (11, .ptr 2 0), (12, .ptr 3 0), (13, .ptr 4 0), (14, .int .i64 ((k + 1 : Nat) : Int))] (by simp only [go_sem]) rfl)
    · rw [if_neg hki] at tS
      have hki' : ¬ (k : Int) = (i : Int) := by omega
      have hse : s = (s.1, s.2.1, numS (numQ v)) := by rw [← hv]
      rw [hse] at tS
      simp only [go_sem, claw_SpringRayleigh_r12, claw_SpringRayleigh_r14, hki', la, lS, s2, lp2, lp3]
      refine T_W ?_
      simp only [go_sem, claw_SpringRayleigh_r15, e1]
      exact hN (k + 1) _ (by omega) (by omega) (by
        rw [tS, tL, htr]
        exact ray_gc (k := k) (M := M) (S := P) (s := (s.1, s.2.1, numS (3 * numQ v))) (t := (s.1, s.2.1, numS (numQ v))) h0 (fun f => rfl) h2 [(5, .ptr 0 0), (7, .ptr 1 0), (8, .int .i64 x), (9, .int .i64 y), (10, .int .i64 (i : Int)), (11, .ptr 2 0), (12, .ptr 3 0), (13, .ptr 4 0), (14, .int .i64 ((k + 1 : Nat) : Int))] (by simp only [go_sem]) rfl)
  · have hke : k = L.length := by omega
    subst hke
    have q1 : ¬ ((L.length : Nat) : Int) < (L.length : Int) := by omega
    have e1 : S.take L.length = S := List.take_of_length_le (by omega)
    refine T_W ?_
    simp only [go_sem, claw_SpringRayleigh_r8, q1, hlsl, List.take_length, e1]
    exact hK _ (by simp only [go_sem]) (by simp only [go_sem]) (by simp only [go_sem]) (by simp only [go_sem]) (by simp only [go_sem]) (by simp only [go_sem])
theorem rcmp_le {q r : Rat} {k : Nat} (h : q ≤ r) (hq : Qb k q) (hr : Qb k r) (hk : k ≤ 1000000) : ∃ c : Int, c ≤ 0 ∧ SpecV Tryz.prog n_ref_CmpQ [avR q.num q.den, avR r.num r.den] (.int .i64 c) := by
  have hc := rcmpq hq.ib.1 hq.ib.2 hr.ib.1 hr.ib.2 hk
  have hle := (Rat.le_iff _ _).1 h
  refine ⟨_, ?_, hc⟩
  split
  · omega
  · rename_i hne
    rw [if_pos (by omega)]; omega
theorem tr3_net {n : Nat} {s : Spr} {v : Int} (hv : s.2.2 = numS (numQ v)) (h : EndsOk n s.1 s.2.1) : EndsOk n (tr3 s).1 (tr3 s).2.1 ∧ ∃ q, parseL (tr3 s).2.2 = some q ∧ 0 < q ∧ q.num.natAbs ≤ 1000000 ∧ q.den ≤ 1000000 ∧ (tr3 s).2.2.length ≤ 8002 := by
  obtain ⟨g0, g1, g2, g3, g4, g5, g6, g7⟩ := tr3_ok hv
  have e : (tr3 s).2.2 = numS (3 * numQ v) := by unfold tr3; rw [g0]
  exact ⟨h, 3 * numQ v, by rw [e]; exact g3, g4, by omega, by omega, by rw [e]; exact numS_len g2⟩
theorem toE_tr3 {s : Spr} {v : Int} (hv : s.2.2 = numS (numQ v)) : toE (tr3 s) = sc3 (toE s) := by
  obtain ⟨g0, g1, _⟩ := tr3_ok hv
  have e1 : (toE (tr3 s)).1 = (toE s).1 := rfl
  have e2 : (toE (tr3 s)).2.1 = (toE s).2.1 := rfl
  unfold sc3
  rw [← e1, ← e2, g0, ← g1]
theorem law_rayleigh {b A B : Int} {X : List Spr} (h0 : 0 ≤ b) (h1 : b ≤ 255) : SpecV Tryz.prog n_law_SpringRayleigh [.int .u8 b, .sl (X.map sprAV), .agg [.int .i64 A, .int .i64 B]] (.bool true) := by
  have hm : Tryz.prog.follows .mixedOrders = true := by kernel_rfl
  have hmk := lmade (X := X) (p := [IntKind.i64.wrap (A.tdiv 2), IntKind.i64.wrap (B.tdiv 2), A]) h0 h1
  obtain ⟨_, n2, n6⟩ := madeN_spec b
  obtain ⟨hnet, hne⟩ := made_net (X := X) (p := [IntKind.i64.wrap (A.tdiv 2), IntKind.i64.wrap (B.tdiv 2), A]) n2 n6
  have hc := made_conn (X := X) (p := [IntKind.i64.wrap (A.tdiv 2), IntKind.i64.wrap (B.tdiv 2), A]) n2
  obtain ⟨hl11, hsm⟩ := made_small (X := X) (p := [IntKind.i64.wrap (A.tdiv 2), IntKind.i64.wrap (B.tdiv 2), A]) n2 n6
  have hbv := bv_ivs (H := [.cells [.int .i64 A, .int .i64 B], .cells (ivs [IntKind.i64.wrap (A.tdiv 2), IntKind.i64.wrap (B.tdiv 2), A])]) (ids := [1]) (b := 1) (p := [IntKind.i64.wrap (A.tdiv 2), IntKind.i64.wrap (B.tdiv 2), A]) rfl (by simp)
  generalize madeN b = n at *
  generalize madeL n X _ = L at *
  have hpr := lpair (n := n) (A := A) (B := B) n2 (by omega)
  obtain ⟨_, _, ha, hb, hab⟩ := pair_ok (n := n) (A := A) (B := B) n2
  generalize pairA n A = x at *
  generalize pairB n A B = y at *
  have hfo := lfold (v := IntKind.i64.wrap (A.tdiv 11)) (n := (L.length : Int)) (by omega) (by omega)
  obtain ⟨i, hi, hiL⟩ : ∃ i : Nat, IntKind.i64.wrap (A.tdiv 11) % (L.length : Int) = i ∧ i < L.length := by
    have g1 := Int.emod_nonneg (IntKind.i64.wrap (A.tdiv 11)) (show (L.length : Int) ≠ 0 by omega)
    have g2 := Int.emod_lt_of_pos (IntKind.i64.wrap (A.tdiv 11)) (show (0 : Int) < (L.length : Int) by omega)
    exact ⟨(IntKind.i64.wrap (A.tdiv 11) % (L.length : Int)).toNat, by omega, by omega⟩
  rw [hi] at hfo
  obtain ⟨s, hs⟩ : ∃ s : Spr, L[i]? = some s := ⟨_, List.getElem?_eq_getElem hiL⟩
  obtain ⟨⟨k1, k2, k3, k4, k5⟩, q, hq, hq0, hq1, hq2, hlen⟩ := hnet.ok s (List.mem_of_getElem? hs)
  obtain ⟨u, hu⟩ : ∃ u : Nat, s.1 = u := ⟨s.1.toNat, by omega⟩
  obtain ⟨ls, hls⟩ : ∃ ls, ls = L.map sprAV := ⟨_, rfl⟩
  have hlsl : ls.length = L.length := by rw [hls, List.length_map]
  have c3 : ∀ y, y ∈ ls → y.cells.length = 3 := by rw [hls]; exact sprAV3
  have t3 : ls.take L.length = ls := List.take_of_length_le (by omega)
  have f1 : ls.flatMap AV.cells = L.flatMap sC := by rw [hls, spr_flat]
  have hlss : ls[i]? = some (.agg [.int .i64 (u : Int), .int .i64 s.2.1, .str (bs s.2.2)]) := by rw [hls, List.getElem?_map, hs, ← hu]; rfl
  rw [← hls] at hmk
  have i0 : (0 : Int) ≤ (i : Int) := by omega
  have i1 : (i : Int) < (L.length : Int) := by omega
  have e1 : IntKind.i64.wrap ((u : Int) + 1) = (u : Int) + 1 := i64_id (by omega) (by omega)
  have n0 : (n : Int) ≠ 0 := by omega
  obtain ⟨u', hu', hu'n⟩ : ∃ u' : Nat, ((u : Int) + 1).tmod (n : Int) = u' ∧ u' < n := by
    have g1 := Int.emod_nonneg ((u : Int) + 1) n0
    have g2 := Int.emod_lt_of_pos ((u : Int) + 1) (show (0 : Int) < (n : Int) by omega)
    rw [Int.tmod_eq_emod_of_nonneg (by omega)]
    exact ⟨(((u : Int) + 1) % (n : Int)).toNat, by omega, by omega⟩
  have s1 : L.length * 32 ≤ 1099511627776 := by omega
  have s2 : (L.length + 1) * 32 ≤ 1099511627776 := by omega
  have l1 : (L.flatMap sC).length = L.length * 3 := sC_flat_len L
  have l2 : L.length * 3 ≤ (L.flatMap sC).length := by omega
  have l1t : (L.flatMap sC).take (L.length * 3) = L.flatMap sC := List.take_of_length_le (by omega)
  obtain ⟨w, hw⟩ : ∃ w : Spr, w = ((u : Int), (u' : Int), numS (numQ B)) := ⟨_, rfl⟩
  obtain ⟨S, hS⟩ : ∃ S, S = L.set i (tr3 s) := ⟨_, rfl⟩
  obtain ⟨vs, hvs⟩ := hsm s (List.mem_of_getElem? hs)
  have huu : (u : Int) ≠ (u' : Int) := by
    rw [Int.tmod_eq_emod_of_nonneg (by omega)] at hu'
    rcases Int.lt_or_le ((u : Int) + 1) n with h | h
    · rw [Int.emod_eq_of_lt (by omega) h] at hu'; omega
    · have : ((u : Int) + 1) % n = (u : Int) + 1 - n := by
        rw [← Int.sub_emod_right, Int.emod_eq_of_lt (by omega) (by omega)]
      omega
  have nM : NetL n (L ++ [w]) := ⟨by rw [List.length_append, List.length_singleton]; omega, fun t ht => by
    rcases List.mem_append.1 ht with ht | ht
    · exact hnet.ok t ht
    · rw [List.mem_singleton.1 ht, hw]; exact num_spr ⟨by omega, by omega, by omega, by omega, huu⟩⟩
  have nS : NetL n S := ⟨by rw [hS, List.length_set]; omega, fun t ht => by
    rw [hS] at ht
    rcases List.mem_or_eq_of_mem_set ht with ht | ht
    · exact hnet.ok t ht
    · rw [ht]; exact tr3_net hvs ⟨k1, k2, k3, k4, k5⟩⟩
  have nA : NetL n (L.map tr3) := ⟨by rw [List.length_map]; omega, fun t ht => by
    obtain ⟨r, hr, rfl⟩ := List.mem_map.1 ht
    obtain ⟨v, hv⟩ := hsm r hr
    exact tr3_net hv (hnet.ok r hr).1⟩
  have eA : (L.map tr3).map toE = (L.map toE).map sc3 := by
    rw [List.map_map, List.map_map]
    exact List.map_congr_left fun t ht => by
      obtain ⟨v, hv⟩ := hsm t ht
      exact toE_tr3 hv
  have eM : (L ++ [w]).map toE = L.map toE ++ toE w :: [] := by rw [List.map_append]; rfl
  obtain ⟨eL, _⟩ := erase_split hs
  have eS : S.map toE = (L.take i).map toE ++ sc3 (toE s) :: (L.drop (i + 1)).map toE := by
    rw [hS, List.set_eq_take_append_cons_drop, if_pos hiL, List.map_append, List.map_cons, toE_tr3 hvs]
  have eE : L.map toE = (L.take i).map toE ++ toE s :: (L.drop (i + 1)).map toE := by
    conv => lhs; rw [eL]
    rw [List.map_append, List.map_cons]
  have cM : connE n ((L ++ [w]).map toE) := conn_mono (fun e he => ⟨e, by rw [eM]; exact List.mem_append.2 (.inl he), rfl, rfl⟩) hc
  have cA : connE n ((L.map tr3).map toE) := conn_mono (fun e he => ⟨sc3 e, by rw [eA]; exact List.mem_map.2 ⟨e, he, rfl⟩, rfl, rfl⟩) hc
  have cS : connE n (S.map toE) := conn_mono (fun e he => by
    rw [eE] at he
    rw [eS]
    rcases List.mem_append.1 he with he | he
    · exact ⟨e, List.mem_append.2 (.inl he), rfl, rfl⟩
    · rcases List.mem_cons.1 he with rfl | he
      · exact ⟨_, List.mem_append.2 (.inr (List.mem_cons_self ..)), rfl, rfl⟩
      · exact ⟨e, List.mem_append.2 (.inr (List.mem_cons_of_mem _ he)), rfl, rfl⟩) hc
  have oL := (hnet.read n2 n6).2
  have oM := (nM.read n2 n6).2
  have oS := (nS.read n2 n6).2
  have lM := res_le oL hc oM cM ha hb hab (w := (toE w).2.2) (c := (toE w).1) (d := (toE w).2.1) (Rat.le_of_lt (oM.e _ (by rw [eM]; simp)).2.2.2.1) (by rw [eM, Lm_mid, List.append_nil]; rfl)
  have lS := res_le oL hc oS cS ha hb hab (w := 2 * (toE s).2.2) (c := (toE s).1) (d := (toE s).2.1) (by
    have := (oL.e _ (by rw [eE]; exact List.mem_append.2 (.inr (List.mem_cons_self ..)))).2.2.2.1
    grind) (by
    rw [eS, eE, Lm_mid, Lm_mid]
    show up1 _ (3 * (toE s).2.2) (edge (toE s).1 (toE s).2.1) = up1 (up1 _ (toE s).2.2 (edge (toE s).1 (toE s).2.1)) _ _
    rw [up1_up1]
    congr 1; grind)
  obtain ⟨bL, _, gL, okL, qbL⟩ := hnet.betweenF n2 n6 hc ha hb hab
  obtain ⟨bM, _, _, okM, qbM⟩ := nM.betweenF n2 n6 cM ha hb hab
  obtain ⟨bS, _, _, okS, qbS⟩ := nS.betweenF n2 n6 cS ha hb hab
  obtain ⟨bA, _, _, okA, qbA⟩ := nA.betweenF n2 n6 cA ha hb hab
  have sA := res_sc n2 gL
  rw [← eA] at sA
  unfold treesF at bL bM bS bA okL okM okS okA qbL qbM qbS qbA
  rw [sA] at bA okA
  generalize Fsum n id (n - 1) (L.map toE) / oneF n x y (L.map toE) = vL at *
  generalize Fsum n id (n - 1) ((L ++ [w]).map toE) / oneF n x y ((L ++ [w]).map toE) = vM at *
  generalize Fsum n id (n - 1) (S.map toE) / oneF n x y (S.map toE) = vS at *
  obtain ⟨cm, cm0, rM⟩ := rcmp_le lM qbL qbM (by omega)
  obtain ⟨cs, cs0, rS⟩ := rcmp_le lS qbL qbS (by omega)
  have len : ∀ {q : Rat}, NumOk q → (numS q).length ≤ 1000000000 := fun h => by have := numS_len h; omega
  have vlL := rvalid (len okL)
  have vlM := rvalid (len okM)
  have vlS := rvalid (len okS)
  have ofL := rof (len okL) (parse_numS okL)
  have ofM := rof (len okM) (parse_numS okM)
  have ofS := rof (len okS) (parse_numS okS)
  rw [parse_numS okL] at vlL
  rw [parse_numS okM] at vlM
  rw [parse_numS okS] at vlS
  have hw3 := rwhole (v := 3) (by decide)
  have ib3 : Ib 10 (3 : Int) := by show Int.natAbs _ < 2 ^ 10; decide
  have ib1 : Ib 10 (1 : Int) := by show Int.natAbs _ < 2 ^ 10; decide
  have hmul := rmulq (n1 := vL.num) (d1 := vL.den) (n2 := 3) (d2 := 1) (k := 1800) qbL.ib.1 qbL.ib.2 (ib3.mono (by omega)) (ib1.mono (by omega)) (by omega)
  have e3 : Rat.divInt (vL.num * 3) (vL.den * 1) = vL * 3 := by
    have h3 : Rat.divInt 3 1 = (3 : Rat) := by decide
    rw [← Rat.divInt_mul_divInt, Rat.num_divInt_den, h3]
  have his := ris (s := bs (numS (vL * 3))) (qbL.ib.1.mul ib3) (qbL.ib.2.mul ib1) (by have := vL.den_pos; omega) (by omega) e3
  rw [decide_eq_true ⟨okA, rfl⟩] at his
  rw [← hls] at bL
  refine specV_T ok_law_SpringRayleigh (by simp) (T_cut 5 rfl ?_)
  unfold claw_SpringRayleigh
  simp only [go_sem, claw_SpringRayleigh_r1, claw_SpringRayleigh_r2]
  refine call_F (ids := [1]) hmk (by simp only [go_sem]; exact hbv) ?_
  simp only [go_sem, claw_SpringRayleigh_r3]
  refine call_P hpr (by simp only [go_sem]) ?_
  simp only [go_sem, claw_SpringRayleigh_r4, hlsl]
  refine call_P hfo (by simp only [go_sem]) ?_
  simp only [go_sem]
  refine T_draw hm (fun t b => t = 3 ∧ (b = 3 ∨ b = 4 ∨ b = 5)) 3 ?_
  simp only [go_sem, claw_SpringRayleigh_r5, hm]
  refine T_draw hm (fun t b => (t = 3 ∧ b = 7) ∨ (t = 4 ∧ b = 3)) 4 ?_
  simp only [go_sem, claw_SpringRayleigh_r6, hm, hlsl, i0, i1, hlss, c3, t3, f1, e1, n0, hu', l1, l1t, s1, s2]
  refine ⟨c3, ?_⟩
  refine call_P (lnum (v := B)) (by simp only [go_sem]) ?_
  simp only [go_sem, s2, l1, l1t, l2]
  refine ⟨Nat.le_refl _, ?_⟩
  have hwC : sC w = [.int .i64 (u : Int), .int .i64 (u' : Int), .str (bs (numS (numQ B)))] := by rw [hw]; rfl
  have hMf : (L ++ [w]).flatMap sC = L.flatMap sC ++ sC w := by rw [List.flatMap_append]; simp
  have hMl : (L ++ [w]).length = L.length + 1 := by simp
  rw [← hwC, ← hMf, ← hMl]
  have hHas : ∀ e : Nat → AV, e 5 = .ptr 0 0 → e 7 = .ptr 2 0 → e 8 = .int .i64 (x : Int) → e 9 = .int .i64 (y : Int) → e 10 = .int .i64 (i : Int) → e 11 = .ptr 3 0 → e 12 = .ptr 4 0 → e 13 = .ptr 5 0 → ∀ H ids, HasF e H ids [(5, .ptr 0 0), (7, .ptr 2 0), (8, .int .i64 (x : Int)), (9, .int .i64 (y : Int)), (10, .int .i64 (i : Int)), (11, .ptr 3 0), (12, .ptr 4 0), (13, .ptr 5 0)] :=
    fun e a1 a2 a3 a4 a5 a6 a7 a8 H ids => ⟨.inr a1, .inr a2, .inr a3, .inr a4, .inr a5, .inr a6, .inr a7, .inr a8, trivial⟩
  refine T_le (?_ : Le _ _ _ ⟨envL [(5, .ptr 0 0), (7, .ptr 1 0), (8, .int .i64 (x : Int)), (9, .int .i64 (y : Int)), (10, .int .i64 (i : Int)), (11, .ptr 2 0), (12, .ptr 3 0), (13, .ptr 4 0)],
    [.cells [.int .i64 A, .int .i64 B], .cells [.int .i64 (n : Int), .sl ls], .cells [.int .i64 (n : Int), .sl ((L ++ [w]).map sprAV)], .cells [.int .i64 (n : Int), .nils], .cells [.int .i64 (n : Int), .nils]]⟩) ?_
  · refine Le_trans (Le_sink (b := 3) (ids := [9]) (l := [.int .i64 (n : Int), .osl (some 3) 9 0 (L ++ [w]).length]) (l' := [.int .i64 (n : Int), .sl ((L ++ [w]).map sprAV)]) rfl (by decide) rfl (fun j x y hx hy => ?_) _ (hHas _ (by simp only [go_sem]) (by simp only [go_sem]) (by simp only [go_sem]) (by simp only [go_sem]) (by simp only [go_sem]) (by simp only [go_sem]) (by simp only [go_sem]) (by simp only [go_sem]) _ _)) ?_
    · match j, hx, hy with
      | 0, hx, hy => simp at hx hy; subst hx; subst hy; exact .inr rfl
      | 1, hx, hy =>
        cases hx; cases hy
        exact .inl (bv_sprs (ids := [9]) (L := L ++ [w]) rfl (List.mem_singleton.2 rfl))
      | j + 2, hx, hy => simp at hx
    · exact Le_gc [0, 2, 3, 4, 5] (by decide) (fun i hi => by omega) [(5, .ptr 0 0), (7, .ptr 2 0), (8, .int .i64 (x : Int)), (9, .int .i64 (y : Int)), (10, .int .i64 (i : Int)), (11, .ptr 3 0), (12, .ptr 4 0), (13, .ptr 5 0)] ⟨rfl, rfl, rfl, rfl, rfl, rfl, rfl, rfl, trivial⟩
  have nils : ∀ (k : Nat) (j : Nat) (x y : AV), [AV.int .i64 (n : Int), .nils][j]? = some x → [AV.int .i64 (n : Int), .osl (some 3) k 0 0][j]? = some y → NilOr x y := fun k j x y hx hy => by
    match j, hx, hy with
    | 0, hx, hy => cases hx; cases hy; exact .inl rfl
    | 1, hx, hy => cases hx; cases hy; exact .inr ⟨rfl, _, _, _, rfl⟩
    | j + 2, hx, hy => cases hx
  refine T_le (Le_trans (Le_cells (b := 3) (l' := [.int .i64 (n : Int), .osl (some 3) 5 0 0]) rfl rfl (nils 5)) (Le_trans Le_pad (Le_trans (Le_cells (b := 4) (l' := [.int .i64 (n : Int), .osl (some 3) 6 0 0]) rfl rfl (nils 6)) Le_pad))) ?_
  have hSl : S.length = L.length := by rw [hS, List.length_set]
  have hSi : ∀ (k : Nat) (s : Spr), L[k]? = some s → S[k]? = some (if k = i then tr3 s else s) := fun k t hk => by
    rw [hS, List.getElem?_set]
    by_cases h : k = i
    · subst h
      rw [hs] at hk; cases hk
      rw [if_pos rfl, if_pos hiL, if_pos rfl]
    · rw [if_neg (fun e => h e.symm), if_neg h, hk]
  refine T_seq (T_seq (T_W ?_))
  simp only [go_sem, claw_SpringRayleigh_r7]
  refine T_block (T_keep [(5, .ptr 0 0), (7, .ptr 1 0), (8, .int .i64 (x : Int)), (9, .int .i64 (y : Int)), (10, .int .i64 (i : Int)), (11, .ptr 2 0), (12, .ptr 3 0), (13, .ptr 4 0), (14, .int .i64 0)] (by simp only [go_sem]) ?_)
  refine ray_L1 hls hl11 hsm hSl hSi (fun f => rfl) (fun f => rfl) (fun e e7 e8 e9 e11 e12 e13 => ?_)
  show T Tryz.prog 227 0 _ _ _
  have lA : (L.map tr3).length = L.length := by simp
  have hs2 : ∀ (ids : List Nat) (H : Heap) (b : Nat) (M : List Spr), H[b]? = some (.cells (M.flatMap sC)) → b ∈ ids → M.length = L.length → ∀ (j : Nat) (x y : AV), [AV.int .i64 (n : Int), .osl (some 3) b 0 L.length][j]? = some x → [AV.int .i64 (n : Int), .sl (M.map sprAV)][j]? = some y → BV H ids x y ∨ x = y := fun ids H b M hb hi hM j x y hx hy => by
    match j, hx, hy with
    | 0, hx, hy => cases hx; cases hy; exact .inr rfl
    | 1, hx, hy => cases hx; cases hy; rw [← hM]; exact .inl (bv_sprs hb hi)
    | j + 2, hx, hy => cases hx
  refine T_le (?_ : Le _ _ _ ⟨envL [(7, .ptr 1 0), (8, .int .i64 (x : Int)), (9, .int .i64 (y : Int)), (11, .ptr 2 0), (12, .ptr 3 0), (13, .ptr 4 0)],
    [.cells [.int .i64 A, .int .i64 B], .cells [.int .i64 (n : Int), .sl ls], .cells [.int .i64 (n : Int), .sl ((L ++ [w]).map sprAV)], .cells [.int .i64 (n : Int), .sl (S.map sprAV)], .cells [.int .i64 (n : Int), .sl ((L.map tr3).map sprAV)], .dead, .dead]⟩) ?_
  · exact Le_trans (Le_sink (b := 3) (ids := [5]) (l := [.int .i64 (n : Int), .osl (some 3) 5 0 L.length]) (l' := [.int .i64 (n : Int), .sl (S.map sprAV)]) rfl (by decide) rfl (hs2 [5] _ 5 S rfl (by decide) hSl) [(7, .ptr 1 0), (8, .int .i64 (x : Int)), (9, .int .i64 (y : Int)), (11, .ptr 2 0), (12, .ptr 3 0), (13, .ptr 4 0)] ⟨.inr e7, .inr e8, .inr e9, .inr e11, .inr e12, .inr e13, trivial⟩)
      (Le_sink (b := 4) (ids := [6]) (l := [.int .i64 (n : Int), .osl (some 3) 6 0 L.length]) (l' := [.int .i64 (n : Int), .sl ((L.map tr3).map sprAV)]) rfl (by decide) rfl (hs2 [6] _ 6 (L.map tr3) rfl (by decide) lA) [(7, .ptr 1 0), (8, .int .i64 (x : Int)), (9, .int .i64 (y : Int)), (11, .ptr 2 0), (12, .ptr 3 0), (13, .ptr 4 0)] ⟨.inr rfl, .inr rfl, .inr rfl, .inr rfl, .inr rfl, .inr rfl, trivial⟩)
  refine T_W ?_
  simp only [go_sem, claw_SpringRayleigh_r16]
  refine call_P bL (by simp only [go_sem]) ?_
  simp only [go_sem, claw_SpringRayleigh_r17]
  refine call_P bM (by simp only [go_sem]) ?_
  simp only [go_sem, claw_SpringRayleigh_r18]
  refine call_P bS (by simp only [go_sem]) ?_
  simp only [go_sem, claw_SpringRayleigh_r19]
  refine call_P bA (by simp only [go_sem]) ?_
  simp only [go_sem, claw_SpringRayleigh_r20]
  refine call_P vlL (by simp only [go_sem]) ?_
  simp only [go_sem, Option.isSome_some, Bool.not_true]
  refine call_P vlM (by simp only [go_sem]) ?_
  simp only [go_sem, Option.isSome_some, Bool.not_true]
  refine call_P vlS (by simp only [go_sem]) ?_
  simp only [go_sem, Option.isSome_some, Bool.not_true]
  refine call_P llives (by simp only [go_sem]) ?_
  simp only [go_sem, Option.isSome_some, Bool.not_true, claw_SpringRayleigh_r22]
  refine call_P ofL (by simp only [go_sem]) ?_
  simp only [go_sem]
  refine call_P ofM (by simp only [go_sem]) ?_
  simp only [go_sem]
  refine call_P rM (by simp only [go_sem, avR, bvs_rc]) ?_
  simp only [go_sem, cm0]
  refine call_P ofL (by simp only [go_sem]) ?_
  simp only [go_sem]
  refine call_P ofS (by simp only [go_sem]) ?_
  simp only [go_sem]
  refine call_P rS (by simp only [go_sem, avR, bvs_rc]) ?_
  simp only [go_sem, cs0]
  refine call_P ofL (by simp only [go_sem]) ?_
  simp only [go_sem]
  refine call_P hw3 (by simp only [go_sem]) ?_
  simp only [go_sem]
  refine call_P hmul (by simp only [go_sem, avR, bvs_rc]) ?_
  simp only [go_sem]
  refine call_P his (by simp only [go_sem, avR, bvs_rc]) ?_
  simp only [go_sem]
end GoAbs
