/- Lemmas for the claim (contracts of the functions that it reaches, and what they compute), without conditions. -/
import Derived.Test.YtnpgooaiiboanaaGreatK34
import Derived.Test.YtnpgooaiiboanaaGreatProg
import Derived.KernelRfl
set_option linter.unusedVariables false
set_option linter.unusedSimpArgs false
set_option maxRecDepth 10000
set_option maxHeartbeats 2000000
namespace GoAbs
theorem bget_set {s : List Bool} {a i : Nat} {v : Bool} (ha : a < s.length) : bget (s.set a v) i = if i = a then v else bget s i := by
  unfold bget
  rw [List.getD_eq_getElem?_getD, List.getD_eq_getElem?_getD, List.getElem?_set]
  by_cases h : a = i
  · subst h; simp [ha]
  · rw [if_neg h, if_neg (fun e => h e.symm)]
theorem bget_see {s : List Bool} {a b i : Nat} (ha : a < s.length) : bget (seeA a b s) i = if i = a then (bget s a || bget s b) else bget s i := bget_set ha
def BLe (s t : List Bool) : Prop := ∀ i, bget s i = true → bget t i = true
theorem seeA_le {s : List Bool} {a b : Nat} (ha : a < s.length) : BLe s (seeA a b s) := fun i hi => by
  rw [bget_see ha]; split
  · rename_i h; subst h; rw [hi]; rfl
  · exact hi
theorem seeE_le {s : List Bool} {e : Sp} (h1 : e.1 < s.length) (h2 : e.2.1 < s.length) : BLe s (seeE s e) := fun i hi =>
  seeA_le (by rw [seeA_len]; exact h2) i (seeA_le h1 i hi)
theorem seeL_le {E : List Sp} : ∀ {s : List Bool}, InN s.length E → BLe s (E.foldl seeE s) := by
  induction E with
  | nil => intro s _ i hi; exact hi
  | cons e E ih =>
    intro s h i hi
    rw [List.foldl_cons]
    exact ih (by rw [seeE_len]; exact fun x hx => h x (by simp [hx])) i (seeE_le (h e (by simp)).1 (h e (by simp)).2 i hi)
theorem BLe.anti {s t : List Bool} (hl : s.length = t.length) (h1 : BLe s t) (h2 : BLe t s) : s = t := by
  apply List.ext_getElem?
  intro i
  by_cases hi : i < s.length
  · rw [bget_some hi, bget_some (by omega)]
    have a := h1 i
    have b := h2 i
    cases h : bget s i <;> cases h' : bget t i <;> simp_all
  · rw [List.getElem?_eq_none (by omega), List.getElem?_eq_none (by omega)]
theorem seeL_fix {E : List Sp} : ∀ {s : List Bool}, InN s.length E → E.foldl seeE s = s → ∀ e, e ∈ E → bget s e.1 = bget s e.2.1 := by
  induction E with
  | nil => intro s _ _ e he; simp at he
  | cons d E ih =>
    intro s hE hf
    rw [List.foldl_cons] at hf
    obtain ⟨d1, d2⟩ := hE d (by simp)
    have hE' : InN (seeE s d).length E := by rw [seeE_len]; exact fun x hx => hE x (by simp [hx])
    have e1 : seeE s d = s := BLe.anti seeE_len (fun i hi => by
      have := seeL_le hE' i hi
      rwa [hf] at this) (seeE_le d1 d2)
    have hd : bget s d.1 = bget s d.2.1 := by
      have g1 := congrArg (fun t => bget t d.1) e1
      have g2 := congrArg (fun t => bget t d.2.1) e1
      simp only [seeE] at g1 g2
      rw [bget_see (by rw [seeA_len]; exact d2), bget_see d1, bget_see d1] at g1 g2
      by_cases hh : d.1 = d.2.1
      · rw [hh]
      · rw [if_neg hh, if_pos rfl] at g1
        rw [if_pos rfl, if_neg (fun e => hh e.symm), if_pos rfl] at g2
        cases h : bget s d.1 <;> cases h' : bget s d.2.1 <;> simp_all
    intro e he
    rcases List.mem_cons.1 he with rfl | he
    · exact hd
    · rw [e1] at hf
      exact ih (fun x hx => hE x (by simp [hx])) hf e he
theorem count_lt : ∀ {s t : List Bool}, s.length = t.length → BLe s t → s = t ∨ s.count true < t.count true
  | [], [], _, _ => .inl rfl
  | [], _ :: _, h, _ => by simp at h
  | _ :: _, [], h, _ => by simp at h
  | a :: s, b :: t, h, hle => by
    have h0 : a = true → b = true := hle 0
    have ih := count_lt (s := s) (t := t) (by simpa using h) (fun i => hle (i + 1))
    rw [List.count_cons, List.count_cons]
    rcases ih with rfl | ih
    · cases a <;> cases b <;> simp_all
    · refine .inr ?_
      cases a <;> cases b <;> simp_all <;> omega
theorem start_get {n i : Nat} (hn : 1 ≤ n) : bget (start n) i = decide (i = 0) := by
  unfold start
  rw [bget_set (by simp; omega)]
  by_cases h : i = 0
  · rw [if_pos h, decide_eq_true h]
  · rw [if_neg h, decide_eq_false h]
    unfold bget
    rw [List.getD_eq_getElem?_getD, List.getElem?_replicate]
    split <;> rfl
theorem start_len {n : Nat} : (start n).length = n := by simp [start]
theorem seeN_grow {n : Nat} {E : List Sp} (hn : 1 ≤ n) (hE : InN n E) : ∀ k, seeN E (k + 1) (start n) = seeN E k (start n) ∨ k + 1 ≤ (seeN E k (start n)).count true
  | 0 => .inr (by
    show 0 + 1 ≤ (start n).count true
    have h := start_get (i := 0) hn
    have hl := start_len (n := n)
    revert h hl
    generalize start n = s
    intro h hl
    cases s with
    | nil => simp at hl; omega
    | cons b s =>
      have hb : b = true := h
      rw [hb, List.count_cons]; simp)
  | k + 1 => by
    have hl : (seeN E k (start n)).length = n := by rw [seeN_len, start_len]
    have h0 : seeN E (k + 1) (start n) = E.foldl seeE (seeN E k (start n)) := rfl
    rcases seeN_grow hn hE k with ih | ih
    · refine .inl ?_
      show E.foldl seeE (seeN E (k + 1) (start n)) = _
      rw [ih, ← h0, ih]
    · rcases count_lt (s := seeN E k (start n)) (t := seeN E (k + 1) (start n)) (by rw [seeN_len, seeN_len]) (by rw [h0]; exact seeL_le (by rw [hl]; exact hE)) with h | h
      · refine .inl ?_
        show E.foldl seeE (seeN E (k + 1) (start n)) = _
        rw [← h, ← h0, ← h]
      · exact .inr (by omega)
theorem conn_iff {n : Nat} {E : List Sp} (hn : 1 ≤ n) (hE : InN n E) : connB n E = decide (connE n E) := by
  have hinv : ∀ (lab : Nat → Nat), (∀ e, e ∈ E → lab e.1 = lab e.2.1) → ∀ k i, bget (seeN E k (start n)) i = true → lab i = lab 0 := fun lab hlab k => by
    have one : ∀ (s : List Bool), s.length = n → (∀ i, bget s i = true → lab i = lab 0) → ∀ e, e ∈ E → ∀ i, bget (seeE s e) i = true → lab i = lab 0 := fun s hs h e he i hi => by
      obtain ⟨d1, d2⟩ := hE e he
      have he' := hlab e he
      have B : ∀ i, bget (seeA e.1 e.2.1 s) i = if i = e.1 then (bget s e.1 || bget s e.2.1) else bget s i := fun i => bget_see (by rw [hs]; exact d1)
      unfold seeE at hi
      rw [bget_see (by rw [seeA_len, hs]; exact d2), B, B, B] at hi
      have k1 := h e.1
      have k2 := h e.2.1
      have k3 := h i
      clear h hlab B
      by_cases c1 : i = e.2.1 <;> by_cases c3 : i = e.1 <;> by_cases c2 : e.2.1 = e.1 <;> simp only [c1, c2, c3, if_true, if_false, Bool.or_eq_true] at * <;> grind
    have fold : ∀ (F : List Sp), (∀ e, e ∈ F → e ∈ E) → ∀ (s : List Bool), s.length = n → (∀ i, bget s i = true → lab i = lab 0) → ∀ i, bget (F.foldl seeE s) i = true → lab i = lab 0 := fun F => by
      induction F with
      | nil => intro _ s _ h; exact h
      | cons e F ih => intro hF s hs h; rw [List.foldl_cons]; exact ih (fun x hx => hF x (by simp [hx])) _ (by rw [seeE_len, hs]) (one s hs h e (hF e (by simp)))
    induction k with
    | zero => intro i hi; rw [show seeN E 0 (start n) = start n from rfl, start_get hn] at hi; rw [of_decide_eq_true hi]
    | succ k ih => exact fold E (fun _ h => h) _ (by rw [seeN_len, start_len]) ih
  have hl : (seeN E n (start n)).length = n := by rw [seeN_len, start_len]
  by_cases h : connE n E
  · rw [decide_eq_true h]
    have hfix : seeN E (n + 1) (start n) = seeN E n (start n) := by
      rcases seeN_grow hn hE n with h | h
      · exact h
      · have := List.count_le_length (a := true) (l := seeN E n (start n)); omega
    have hcl := seeL_fix (by rw [hl]; exact hE) hfix
    have h0 : bget (seeN E n (start n)) 0 = true := by
      have : ∀ k, bget (seeN E k (start n)) 0 = true := fun k => by
        induction k with
        | zero => exact (start_get hn).trans (by rfl)
        | succ k ih => exact seeL_le (by rw [seeN_len, start_len]; exact hE) 0 ih
      exact this n
    refine List.all_eq_true.2 fun b hb => ?_
    obtain ⟨i, hi, rfl⟩ := List.getElem_of_mem hb
    have hi' : i < n := by omega
    have := tieAll_inv (f := fun i => bget (seeN E n (start n)) i) (l := E) (p := id) (fun i j hij => by have : i = j := hij; rw [this]) hcl i 0 (h i hi')
    have h2 := bget_some hi
    rw [List.getElem?_eq_getElem hi] at h2
    have h3 := Option.some.inj h2
    show (seeN E n (start n))[i] = true
    rw [h3]
    exact this.trans h0
  · rw [decide_eq_false h]
    cases hc : connB n E with
    | false => rfl
    | true =>
      refine absurd (fun i hi => ?_) h
      have hb := List.all_eq_true.1 hc _ (List.getElem_mem (l := seeN E n (start n)) (n := i) (by omega))
      have h2 := bget_some (s := seeN E n (start n)) (i := i) (by omega)
      rw [List.getElem?_eq_getElem (by omega)] at h2
      have h3 := Option.some.inj h2
      exact hinv (tieAll E id) (fun e he => tieAll_ends he) n i (by rw [← h3]; exact hb)
end GoAbs
namespace GoAbs
open Go Go.Proofs
theorem sumL_pick {R : List Nat} {a : Nat} {x : Nat → Rat} (hn : R.Nodup) : sumL R (fun i => (if i = a then 1 else 0) * x i) = if a ∈ R then x a else 0 := by
  induction R with
  | nil => simp [sumL_nil]
  | cons r R ih =>
    obtain ⟨h1, h2⟩ := List.nodup_cons.1 hn
    rw [sumL_cons, ih h2]
    by_cases h : r = a
    · subst h; rw [if_pos rfl, if_neg h1, if_pos (by simp)]; grind
    · rw [if_neg h]
      by_cases h' : a ∈ R
      · rw [if_pos h', if_pos (by simp [h'])]; grind
      · have h2 : ¬ a = r := fun e => h e.symm
        rw [if_neg h', if_neg (by simp [h', h2])]; grind
theorem sumL_edge {m a b : Nat} {x : Nat → Rat} (ha : a ≤ m) (hb : b ≤ m) (h0 : x 0 = 0) : sumL (List.range' 1 m) (fun i => edge a b i * x i) = x a - x b := by
  have h1 : sumL (List.range' 1 m) (fun i => edge a b i * x i) = sumL (List.range' 1 m) (fun i => (if i = a then 1 else 0) * x i) + (-1) * sumL (List.range' 1 m) (fun i => (if i = b then 1 else 0) * x i) := by
    rw [← sumL_mul, ← sumL_add]
    exact sumL_congr (fun i _ => by unfold edge; grind)
  have pick : ∀ c, c ≤ m → (if c ∈ List.range' 1 m then x c else 0) = x c := fun c hc => by
    by_cases h : c = 0
    · subst h; rw [if_neg (by rw [List.mem_range'_1]; omega), h0]
    · rw [if_pos (by rw [List.mem_range'_1]; omega)]
  rw [h1, sumL_pick List.nodup_range', sumL_pick List.nodup_range', pick a ha, pick b hb]
  grind
theorem dt_Fsum {m : Nat} {E : List Sp} (hp : Pos E) (hE : InN (m + 1) E) : dt (List.range' 1 m) (Lm id E) = Fsum (m + 1) id m E := by
  have h := tree_sum hp hE (lab_id (n := m + 1) (by omega))
  rw [List.length_range', Nat.add_sub_cancel] at h
  exact h.symm
def oneF (n a b : Nat) (E : List Sp) : Rat := Fsum n (mrg id a b) (n - 2) E
theorem gt_Fsum {m a b : Nat} {E : List Sp} (hp : Pos E) (hE : InN (m + 1) E) (hm : 1 ≤ m) (ha : a ≤ m) (hb : b ≤ m) : gt (List.range' 1 m) (Lm id E) (edge a b) = oneF (m + 1) a b E := by
  obtain ⟨k, rfl⟩ : ∃ k, m = k + 1 := ⟨m - 1, by omega⟩
  have h1 := dt_Fsum (E := (a, b, 1) :: E) (m := k + 1) (fun s hs => by
    rcases List.mem_cons.1 hs with rfl | hs
    · show (0 : Rat) ≤ 1; decide
    · exact hp s hs) (fun s hs => by
    rcases List.mem_cons.1 hs with rfl | hs
    · exact ⟨by show a < _; omega, by show b < _; omega⟩
    · exact hE s hs)
  have h2 := dt_Fsum hp hE
  have h3 : Lm id ((a, b, (1 : Rat)) :: E) = up1 (Lm id E) 1 (edge a b) := rfl
  have h4 : Fsum (k + 1 + 1) id (k + 1) ((a, b, 1) :: E) = Fsum (k + 1 + 1) id (k + 1) E + 1 * Fsum (k + 1 + 1) (mrg id a b) k E := rfl
  rw [h3, dt_up1 List.nodup_range' (Lm_psd hp) (by decide), h4, h2] at h1
  unfold oneF
  rw [show k + 1 + 1 - 2 = k by omega]
  grind
theorem lab_one {n a b : Nat} (ha : a < n) (hb : b < n) (hab : a ≠ b) : ∃ g R, Lab n (mrg id a b) g R ∧ R.length = n - 2 := by
  have h := lab_id (n := n) (by omega)
  by_cases h0 : a = 0
  · have hb' : b ∈ List.range' 1 (n - 1) := by rw [List.mem_range'_1]; omega
    have := h.mrg0 hb'
    rw [h0]
    exact ⟨_, _, this, by rw [List.length_erase_of_mem hb', List.length_range']; omega⟩
  · have ha' : a ∈ List.range' 1 (n - 1) := by rw [List.mem_range'_1]; omega
    have hb' : b ∈ 0 :: List.range' 1 (n - 1) := by
      rw [List.mem_cons, List.mem_range'_1]; omega
    exact ⟨_, _, h.mrg ha' hb' (fun e => hab e.symm), by rw [List.length_erase_of_mem ha', List.length_range']; omega⟩
theorem conn_pos {n : Nat} {E : List Sp} (hn : 1 ≤ n) (hp : ∀ e, e ∈ E → 0 < e.2.2) (hE : InN n E) (hc : connE n E) : 0 < Fsum n id (n - 1) E := by
  have h := Fsum_pos hp hE (lab_id (n := n) (by omega)) hc
  rwa [List.length_range'] at h
theorem one_pos {n a b : Nat} {E : List Sp} (hp : ∀ e, e ∈ E → 0 < e.2.2) (hE : InN n E) (hc : connE n E) (ha : a < n) (hb : b < n) (hab : a ≠ b) : 0 < oneF n a b E := by
  obtain ⟨g, R, hL, hR⟩ := lab_one ha hb hab
  have h := Fsum_pos hp hE hL (fun i hi => tieAll_inv (f := tieAll E (mrg id a b)) (l := E) (p := id) (fun i j hij => by have : i = j := hij; rw [this]) (fun e he => tieAll_ends he) i 0 (hc i hi))
  rw [hR] at h
  exact h
def unitX (m a b : Nat) (E : List Sp) : List Rat := 0 :: bsub (triA m E ((unitF (m + 1) a b).drop 1)) m m
theorem unit_get {n a b i : Nat} (ha : a < n) (hb : b < n) (hab : a ≠ b) : rget (unitF n a b) i = edge a b i := by
  unfold unitF edge
  rw [rget_set (by simp; exact hb), rget_set (by simp; exact ha)]
  have h0 : rget (List.replicate n 0) i = 0 := by
    unfold rget
    rw [List.getD_eq_getElem?_getD, List.getElem?_replicate]
    split <;> rfl
  rw [h0]
  by_cases h1 : i = b
  · subst h1
    rw [if_pos rfl, if_pos rfl, if_neg (fun e => hab e.symm)]; grind
  · rw [if_neg h1, if_neg h1]; grind
theorem drop1_get {f : List Rat} {i : Nat} : rget (f.drop 1) i = rget f (i + 1) := by
  unfold rget
  rw [List.getD_eq_getElem?_getD, List.getD_eq_getElem?_getD, List.getElem?_drop, Nat.add_comm]
theorem pos_E {n : Nat} {E : List Sp} (ho : NetOk n E) : (∀ e, e ∈ E → 0 < e.2.2) ∧ Pos E ∧ InN n E :=
  ⟨fun e he => (ho.e e he).2.2.2.1, fun e he => Rat.le_of_lt (ho.e e he).2.2.2.1, fun e he => ⟨(ho.e e he).1, (ho.e e he).2.1⟩⟩
theorem unit_diff {m a b : Nat} {E : List Sp} (ho : NetOk (m + 1) E) (hc : connE (m + 1) E) (ha : a ≤ m) (hb : b ≤ m) (hab : a ≠ b) :
    rget (unitX m a b E) a - rget (unitX m a b E) b = oneF (m + 1) a b E / Fsum (m + 1) id m E := by
  obtain ⟨hp, hP, hI⟩ := pos_E ho
  have hm : 1 ≤ m := by have := ho.n2; omega
  have hD := conn_pos (n := m + 1) (by omega) hp hI hc
  rw [Nat.add_sub_cancel] at hD
  have hdt := dt_Fsum hP hI
  have hd0 : dt (List.range' 1 m) (Lm id E) ≠ 0 := by rw [hdt]; grind
  have hs := (net_solve (m := m) (E := E) (r := (unitF (m + 1) a b).drop 1) (fun e he => ⟨by have := (hI e he).1; omega, by have := (hI e he).2; omega, (ho.e e he).2.2.1, hP e he⟩) (by rw [List.length_drop, unitF_len]; omega) hd0).2.2.2
  have hg := gt_solve (R := List.range' 1 m) (A := Lm id E) (v := edge a b) (x := solX (triA m E ((unitF (m + 1) a b).drop 1)) m) (Lm_psd (R := []) hP).sym hd0 (fun i hi => by
    have hi' := List.mem_range'_1.1 hi
    rw [hs i hi, drop1_get, show i - 1 + 1 = i by omega, unit_get (by omega) (by omega) hab])
  rw [sumL_edge ha hb rfl, gt_Fsum hP hI hm ha hb, hdt] at hg
  show solX _ _ a - solX _ _ b = _
  have hD' : Fsum (m + 1) id m E ≠ 0 := by grind
  generalize solX _ _ a - solX _ _ b = y at *
  rw [← hg]; grind
theorem Rb.elim5 {k : Nat} {p r : List Rat} {c : Nat} (hr : Rb k r) (hp : Rb k p) (hl : p.length = r.length) (hc : c < r.length) (hk : 1 ≤ k) (h0 : rget p c ≠ 0) : Rb (5 * k) (GoAbs.elimRow p c r) := fun x hx => by
  unfold GoAbs.elimRow at hx
  split at hx
  · exact (hr x hx).mono (by omega)
  · unfold GoAbs.elimTo at hx
    obtain ⟨j, hj, rfl⟩ := List.mem_map.1 hx
    have hj' := List.mem_range.1 hj
    split
    · exact ((hr.get hj').sub2 (((hr.get hc).div2 (hp.get (by omega)) h0).mul2 (hp.get (by omega)))).mono (by omega)
    · exact (hr.get hj').mono (by omega)
theorem Mb.elim5 {k w : Nat} {M : RM} (h : Mb k M) (hw : Wid w M) {c I : Nat} (hcM : c < M.length) (hc : c < w) (hk : 1 ≤ k) (h0 : mget M c c ≠ 0) : Mb (5 * k) (elimCol M c I) := fun r hr => by
  unfold elimCol at hr
  obtain ⟨i, hi, rfl⟩ := List.mem_map.1 hr
  have hi' := List.mem_range.1 hi
  split
  · exact Rb.elim5 (h.get hi') (h.get hcM) (by rw [hw.get hcM, hw.get hi']) (by rw [hw.get hi']; exact hc) hk h0
  · exact (h.get hi').mono (by omega)
theorem tri_mb5 {w : Nat} : ∀ {k c l : Nat} {M : RM} {d : Rat}, c + k ≤ M.length → M.length ≤ w → Wid w M → Mb l M → 1 ≤ l → Mb (5 ^ k * l) (tri k c M d).2
  | 0, c, l, M, d, _, _, _, hM, _ => by simpa [tri] using hM
  | k + 1, c, l, M, d, hc, hw, hW, hM, hl => by
    unfold tri
    split
    · refine hM.mono ?_
      have : 1 ≤ 5 ^ (k + 1) := Nat.pow_pos (by omega)
      exact Nat.le_mul_of_pos_left l this
    · rename_i h0
      have := tri_mb5 (k := k) (c := c + 1) (d := d * mget M c c) (by rw [elimCol_len]; omega) (by rw [elimCol_len]; exact hw) (hW.elim (c := c) (I := M.length)) (hM.elim5 hW (by omega) (by omega) hl h0) (by omega)
      exact this.mono (by rw [Nat.pow_succ, Nat.mul_assoc]; exact Nat.le_refl _)
theorem bbit_5 {a k : Nat} (hk : k ≤ 5) : bbit a k ≤ 200 * (a + 1) := by
  have h : bbit a k ≤ bbit a 5 := bbit_mono hk
  have : bbit a 5 ≤ 200 * (a + 1) := by simp only [bbit]; omega
  omega
def moveX (m : Nat) (E : List Sp) (f : List Rat) : List Rat := 0 :: bsub (triA m E (f.drop 1)) m m
theorem move_full {m : Nat} {E : List Sp} {f : List Rat} (ho : NetOk (m + 1) E) (hm5 : m ≤ 5) (hEl : E.length ≤ 40) (hc : connE (m + 1) E) (hf : f.length = m + 1) (hfb : Rb 10947 f) :
    SpecV Tryz.prog n_net_move [.agg (netC (m + 1) E), .sl (condsR f)] (.sl (condsR (moveX m E f))) ∧ Rb 7000000000 (moveX m E f) := by
  obtain ⟨hp, hP, hI⟩ := pos_E ho
  have hm : 1 ≤ m := by have := ho.n2; omega
  have hD := conn_pos (n := m + 1) (by omega) hp hI hc
  rw [Nat.add_sub_cancel] at hD
  have hd0 : dt (List.range' 1 m) (Lm id E) ≠ 0 := by rw [dt_Fsum hP hI]; grind
  obtain ⟨lW, lL⟩ := lapl_wid (m := m) (E := E)
  obtain ⟨s1, s2, s3, s4⟩ := net_solve (m := m) (E := E) (r := f.drop 1) (fun e he => ⟨by have := (hI e he).1; omega, by have := (hI e he).2; omega, (ho.e e he).2.2.1, hP e he⟩) (by rw [List.length_drop]; omega) hd0
  have hMb : Mb 10947 (lapl m E) := (lapl_bits (fun e he => (ho.e e he).2.2.2.2.bits) (by omega)).mono (by omega)
  have hAb : Mb 10947 (aug (lapl m E) (f.drop 1)) := fun row hr => by
    unfold aug at hr
    rw [List.mem_iff_getElem?] at hr
    obtain ⟨i, hi⟩ := hr
    rw [List.getElem?_zipWith] at hi
    revert hi
    cases h1 : (lapl m E)[i]? with
    | none => intro hi; simp at hi
    | some r0 =>
      cases h2 : (f.drop 1)[i]? with
      | none => intro hi; simp at hi
      | some y =>
        intro hi
        simp at hi
        subst hi
        intro x hx
        rcases List.mem_append.1 hx with h | h
        · exact hMb r0 (List.mem_of_getElem? h1) x h
        · rw [List.mem_singleton] at h
          rw [h]
          exact hfb y (List.mem_of_mem_drop (List.mem_of_getElem? h2))
  have hAl : (aug (lapl m E) (f.drop 1)).length = m := by rw [aug_len (by rw [List.length_drop]; omega), lL]
  have h5 : 5 ^ m * 10947 ≤ 34209375 := Nat.le_trans (Nat.mul_le_mul_right _ (Nat.pow_le_pow_right (by omega) hm5)) (by decide)
  have h9 : 9 ^ m * 10947 ≤ 100000000000 := Nat.le_trans (Nat.mul_le_mul_right _ (Nat.pow_le_pow_right (by omega) hm5)) (by decide)
  have hT : Mb 34209375 (triA m E (f.drop 1)) := (tri_mb5 (w := m + 1) (k := m) (c := 0) (l := 10947) (d := 1) (by omega) (by omega) (aug_wid lW) hAb (by omega)).mono h5
  have hTl : (triA m E (f.drop 1)).length = m := by unfold triA; rw [tri_len, hAl]
  refine ⟨move_spec (k := 10947) (a := 34209375) (kE := 67) hm (by omega) (fun e he => ⟨(ho.e e he).1, (ho.e e he).2.1, (ho.e e he).2.2.2.2.bits⟩) (by omega) (by omega) (by omega) hf hAb (by omega) h9 s1 hT s3 s2 (fun k hk => ?_), fun x hx => ?_⟩
  · have hb : bbit 34209375 k ≤ 200 * (34209375 + 1) := bbit_5 (by omega)
    generalize bbit 34209375 k = y at *
    have : k * (34209375 + y + 1) ≤ 4 * (34209375 + y + 1) := Nat.mul_le_mul_right _ (by omega)
    omega
  · unfold moveX at hx
    rcases List.mem_cons.1 hx with h | h
    · rw [h]; exact Qb.zero (by omega)
    · have hb : bbit 34209375 m ≤ 200 * (34209375 + 1) := bbit_5 hm5
      exact (bsub_bits (n := m) hT s3 hTl s2 m (Nat.le_refl _) x h).mono (by omega)
end GoAbs
namespace GoAbs
open Go Go.Proofs
end GoAbs
namespace GoAbs
open Go Go.Proofs
set_option exponentiation.threshold 20000
def pairA (n : Nat) (A : Int) : Nat := (A % (n : Int)).toNat
def pairB (n : Nat) (A B : Int) : Nat := ((A % (n : Int) + 1 + B % ((n : Int) - 1)) % (n : Int)).toNat
theorem pair_ok {n : Nat} {A B : Int} (hn : 2 ≤ n) : (pairA n A : Int) = A % n ∧ (pairB n A B : Int) = (A % n + 1 + B % ((n : Int) - 1)) % n ∧ pairA n A < n ∧ pairB n A B < n ∧ pairA n A ≠ pairB n A B := by
  have h1 := Int.emod_nonneg A (show (n : Int) ≠ 0 by omega)
  have h2 := Int.emod_lt_of_pos A (show (0 : Int) < n by omega)
  have h3 := Int.emod_nonneg B (show (n : Int) - 1 ≠ 0 by omega)
  have h4 := Int.emod_lt_of_pos B (show (0 : Int) < (n : Int) - 1 by omega)
  have h5 := Int.emod_nonneg (A % n + 1 + B % ((n : Int) - 1)) (show (n : Int) ≠ 0 by omega)
  have h6 := Int.emod_lt_of_pos (A % n + 1 + B % ((n : Int) - 1)) (show (0 : Int) < n by omega)
  have key : (A % n + 1 + B % ((n : Int) - 1)) % n ≠ A % n := by
    generalize A % (n : Int) = x at *
    generalize B % ((n : Int) - 1) = y at *
    rcases Int.lt_or_le (x + 1 + y) n with h | h
    · rw [Int.emod_eq_of_lt (by omega) h]; omega
    · have : (x + 1 + y) % n = x + 1 + y - n := by
        rw [← Int.sub_emod_right, Int.emod_eq_of_lt (by omega) (by omega)]
      rw [this]; omega
  unfold pairA pairB
  refine ⟨Int.toNat_of_nonneg h1, Int.toNat_of_nonneg h5, by omega, by omega, by omega⟩
theorem lpair {n : Nat} {A B : Int} (hn : 2 ≤ n) (hnl : n ≤ 1000) : SpecV Tryz.prog n_law_pair [.int .i64 (n : Int), .agg [.int .i64 A, .int .i64 B]] (.tup [.int .i64 (pairA n A : Int), .int .i64 (pairB n A B : Int)]) := by
  have hm : Tryz.prog.follows .mixedOrders = true := by kernel_rfl
  obtain ⟨e1, e2, l1, l2, _⟩ := pair_ok (n := n) (A := A) (B := B) hn
  have f1 := lfold (v := A) (n := (n : Int)) (by omega) (by omega)
  have f2 := lfold (v := B) (n := (n : Int) - 1) (by omega) (by omega)
  have h3 := Int.emod_nonneg B (show (n : Int) - 1 ≠ 0 by omega)
  have h4 := Int.emod_lt_of_pos B (show (0 : Int) < (n : Int) - 1 by omega)
  rw [← e1] at f1 e2
  have w1 : IntKind.i64.wrap ((n : Int) - 1) = (n : Int) - 1 := i64_id (by omega) (by omega)
  have w2 : IntKind.i64.wrap ((pairA n A : Int) + 1) = (pairA n A : Int) + 1 := i64_id (by omega) (by omega)
  have w3 : IntKind.i64.wrap ((pairA n A : Int) + 1 + B % ((n : Int) - 1)) = (pairA n A : Int) + 1 + B % ((n : Int) - 1) := i64_id (by omega) (by omega)
  have t1 : ((pairA n A : Int) + 1 + B % ((n : Int) - 1)).tmod n = (pairB n A B : Int) := by
    rw [Int.tmod_eq_emod_of_nonneg (by omega)]; exact e2.symm
  have n0 : (n : Int) ≠ 0 := by omega
  generalize pairA n A = x at *
  generalize pairB n A B = y at *
  refine specV_W ok_law_pair (by simp) ?_
  unfold claw_pair
  simp only [go_sem, claw_pair_r1, claw_pair_r2]
  refine call_P f1 (by simp only [go_sem]) ?_
  simp only [go_sem, claw_pair_r3, hm, w1]
  refine call_P f2 (by simp only [go_sem]) ?_
  simp only [go_sem, w1, w2, w3, n0, t1]
theorem made_conn {n : Nat} {X : List Spr} {p : List Int} (h2 : 2 ≤ n) : connE n ((madeL n X p).map toE) := fun i hi => by
  show tieAll ((madeL n X p).map toE) id i = tieAll ((madeL n X p).map toE) id 0
  induction i with
  | zero => rfl
  | succ i ih =>
    have hmem : toE (pathE p i) ∈ (madeL n X p).map toE := List.mem_map.2 ⟨pathE p i, by
      unfold madeL pathL
      exact List.mem_append.2 (.inl (List.mem_map.2 ⟨i, by rw [List.mem_range]; omega, rfl⟩)), rfl⟩
    have h := tieAll_ends (p := id) hmem
    have e1 : (toE (pathE p i)).1 = i := by simp [toE, pathE]
    have e2 : (toE (pathE p i)).2.1 = i + 1 := by simp [toE, pathE]
    rw [e1, e2] at h
    rw [← h]
    exact ih (by omega)
theorem oneF_trees {n a b : Nat} {L : List Spr} (h2 : 2 ≤ n) (h : NetL n L) (ha : a < n) (hb : b < n) (hab : a ≠ b) :
    oneF n a b (L.map toE) = treesF (n - 1) (oneS (min a b) (max a b) L) := by
  obtain ⟨hp, hI⟩ := h.pos
  have h1 := Fsum_one (n := n) (low := min a b) (high := max a b) (l := L.map toE) (a := a) (b := b) (w := 1) h2 (by omega) (by omega) (by omega) hp hI (by decide)
  obtain ⟨k, rfl⟩ : ∃ k, n = k + 2 := ⟨n - 2, by omega⟩
  have e1 : k + 2 - 1 = k + 1 := rfl
  have e2 : k + 2 - 2 = k := rfl
  rw [e1, e2, Fsum_FG (l := _ ++ _), FG_snoc, ← Fsum_FG, FG_tie ⟨ha, hb⟩ hI, ← one_map] at h1
  unfold oneF treesF
  rw [e1, e2, show k + 1 - 1 = k from rfl, Fsum_FG]
  have e3 : tieP (a, b, (1 : Rat)) id = mrg id a b := rfl
  rw [e3] at h1
  have e4 : ((a, b, (1 : Rat)) : MSp).2.2 = 1 := rfl
  rw [e4] at h1
  grind
theorem bv_ivs {H : Heap} {ids : List Nat} {b : Nat} {p : List Int} (hb : H[b]? = some (.cells (ivs p))) (hi : b ∈ ids) : BV H ids (.osl none b 0 p.length) (.sl (ivs p)) := by
  refine .osl none b 0 p.length (ivs p) (ivs p) hb hi (ivs_len p) (fun x hx => ?_) (by rw [ivs_len]; simp [es]) (fun i x j y z hx hy hz => ?_)
  · obtain ⟨c, _, rfl⟩ := List.mem_map.1 hx; rfl
  · obtain ⟨c, _, rfl⟩ := List.mem_map.1 (List.mem_of_getElem? hx)
    have hj : j = 0 := by
      have := (List.getElem?_eq_some_iff.1 hy).1
      simp [AV.cells] at this; omega
    subst hj
    simp [AV.cells] at hy
    subst hy
    simp [es] at hz
    rw [hx] at hz
    cases hz
    exact .int _ _
end GoAbs
namespace GoAbs
open Go Go.Proofs
set_option exponentiation.threshold 20000
end GoAbs
namespace GoAbs
open Go Go.Proofs
set_option exponentiation.threshold 20000
theorem Qb.ib {k : Nat} {q : Rat} (h : Qb k q) : Ib k q.num ∧ Ib k (q.den : Int) := ⟨h.n, by show (q.den : Int).natAbs < _; rw [Int.natAbs_natCast]; exact h.d⟩
end GoAbs
namespace GoAbs
open Go Go.Proofs
set_option exponentiation.threshold 20000
theorem sumL_swap {R S : List Nat} {f : Nat → Nat → Rat} : sumL R (fun i => sumL S (fun j => f i j)) = sumL S (fun j => sumL R (fun i => f i j)) := by
  induction R with
  | nil => rw [sumL_nil]; exact (sumL_zero (fun i _ => sumL_nil)).symm
  | cons r R ih => rw [sumL_cons, ih, ← sumL_add]; exact sumL_congr (fun j _ => by rw [sumL_cons])
theorem unit_sol {n a b : Nat} {E : List Sp} (ho : NetOk n E) (hc : connE n E) (ha : a < n) (hb : b < n) (hab : a ≠ b) :
    ∃ x : Nat → Rat, (∀ i, i ∈ List.range' 1 (n - 1) → sumL (List.range' 1 (n - 1)) (fun j => x j * Lm id E i j) = edge a b i) ∧ sumL (List.range' 1 (n - 1)) (fun i => edge a b i * x i) = oneF n a b E / Fsum n id (n - 1) E ∧ 0 < oneF n a b E ∧ 0 < Fsum n id (n - 1) E := by
  obtain ⟨hp, hP, hI⟩ := pos_E ho
  obtain ⟨m, rfl⟩ : ∃ m, n = m + 1 := ⟨n - 1, by omega⟩
  have hm : 1 ≤ m := by have := ho.n2; omega
  have hD := conn_pos (n := m + 1) (by omega) hp hI hc
  have hG := one_pos hp hI hc ha hb hab
  rw [Nat.add_sub_cancel] at hD ⊢
  have hdt := dt_Fsum hP hI
  have hd0 : dt (List.range' 1 m) (Lm id E) ≠ 0 := by rw [hdt]; grind
  have hs := (net_solve (m := m) (E := E) (r := (unitF (m + 1) a b).drop 1) (fun e he => ⟨by have := (hI e he).1; omega, by have := (hI e he).2; omega, (ho.e e he).2.2.1, hP e he⟩) (by rw [List.length_drop, unitF_len]; omega) hd0).2.2.2
  have hs' : ∀ i, i ∈ List.range' 1 m → sumL (List.range' 1 m) (fun j => solX (triA m E ((unitF (m + 1) a b).drop 1)) m j * Lm id E i j) = edge a b i := fun i hi => by
    have hi' := List.mem_range'_1.1 hi
    rw [hs i hi, drop1_get, show i - 1 + 1 = i by omega, unit_get ha hb hab]
  have hg := gt_solve (R := List.range' 1 m) (A := Lm id E) (v := edge a b) (Lm_psd (R := []) hP).sym hd0 hs'
  rw [gt_Fsum hP hI hm (by omega) (by omega), hdt] at hg
  refine ⟨_, hs', ?_, hG, hD⟩
  rw [← hg]
  grind
end GoAbs
namespace GoAbs
set_option exponentiation.threshold 20000
abbrev Rn (n : Nat) : List Nat := List.range' 1 (n - 1)
def Sol (n : Nat) (E : List Sp) (x v : Nat → Rat) : Prop := ∀ i, i ∈ Rn n → sumL (Rn n) (fun j => x j * Lm id E i j) = v i
def dotN (n : Nat) (v x : Nat → Rat) : Rat := sumL (Rn n) (fun i => v i * x i)
def Rr (n : Nat) (E : List Sp) (a b : Nat) : Rat := if a = b then 0 else oneF n a b E / Fsum n id (n - 1) E
theorem Sol.sub {n : Nat} {E : List Sp} {x y v u : Nat → Rat} (h : Sol n E x v) (k : Sol n E y u) : Sol n E (fun j => x j - y j) (fun i => v i - u i) := fun i hi => by
  have : sumL (Rn n) (fun j => (x j - y j) * Lm id E i j) = sumL (Rn n) (fun j => x j * Lm id E i j) + (-1) * sumL (Rn n) (fun j => y j * Lm id E i j) := by
    rw [← sumL_mul, ← sumL_add]
    exact sumL_congr (fun j _ => by grind)
  rw [this, h i hi, k i hi]; grind
theorem dotN_sub {n : Nat} {v x y : Nat → Rat} : dotN n v (fun j => x j - y j) = dotN n v x - dotN n v y := by
  unfold dotN
  have : sumL (Rn n) (fun i => v i * (x i - y i)) = sumL (Rn n) (fun i => v i * x i) + (-1) * sumL (Rn n) (fun i => v i * y i) := by
    rw [← sumL_mul, ← sumL_add]
    exact sumL_congr (fun j _ => by grind)
  rw [this]; grind
theorem dotN_subl {n : Nat} {v u x : Nat → Rat} : dotN n (fun j => v j - u j) x = dotN n v x - dotN n u x := by
  unfold dotN
  have : sumL (Rn n) (fun i => (v i - u i) * x i) = sumL (Rn n) (fun i => v i * x i) + (-1) * sumL (Rn n) (fun i => u i * x i) := by
    rw [← sumL_mul, ← sumL_add]
    exact sumL_congr (fun j _ => by grind)
  rw [this]; grind
theorem dotN_congr {n : Nat} {v u x y : Nat → Rat} (h : ∀ i, i ∈ Rn n → v i = u i) (k : ∀ i, i ∈ Rn n → x i = y i) : dotN n v x = dotN n u y := sumL_congr (fun i hi => by rw [h i hi, k i hi])
theorem recip {n : Nat} {E : List Sp} {x y v u : Nat → Rat} (hP : Pos E) (h : Sol n E x v) (k : Sol n E y u) : dotN n u x = dotN n v y := by
  have hsym := (Lm_psd (R := []) (p := id) hP).sym
  have a1 : dotN n u x = sumL (Rn n) (fun i => sumL (Rn n) (fun j => x i * (y j * Lm id E i j))) := sumL_congr (fun i hi => by rw [sumL_mul, k i hi]; grind)
  have a2 : dotN n v y = sumL (Rn n) (fun i => sumL (Rn n) (fun j => y i * (x j * Lm id E i j))) := sumL_congr (fun i hi => by rw [sumL_mul, h i hi]; grind)
  rw [a1, a2, sumL_swap]
  exact sumL_congr (fun i _ => sumL_congr (fun j _ => by rw [hsym j i]; grind))
structure NetC (n : Nat) (E : List Sp) : Prop where
  ok : NetOk n E
  con : connE n E
theorem NetC.dt {n : Nat} {E : List Sp} (h : NetC n E) : dt (Rn n) (Lm id E) ≠ 0 ∧ 0 < Fsum n id (n - 1) E := by
  obtain ⟨hp, hP, hI⟩ := pos_E h.ok
  obtain ⟨m, rfl⟩ : ∃ m, n = m + 1 := ⟨n - 1, by have := h.ok.n2; omega⟩
  have hD := conn_pos (n := m + 1) (by omega) hp hI h.con
  refine ⟨?_, hD⟩
  have := dt_Fsum hP hI
  rw [Nat.add_sub_cancel] at hD
  show GoAbs.dt (List.range' 1 (m + 1 - 1)) _ ≠ 0
  rw [Nat.add_sub_cancel, this]; grind
theorem NetC.uniq {n : Nat} {E : List Sp} (h : NetC n E) {x y v : Nat → Rat} (hx : Sol n E x v) (hy : Sol n E y v) : ∀ i, i ∈ Rn n → x i = y i :=
  sol_uniq (Lm_psd (R := []) (p := id) (pos_E h.ok).2.1).sym h.dt.1 hx hy
theorem NetC.unit {n : Nat} {E : List Sp} (h : NetC n E) {a b : Nat} (ha : a < n) (hb : b < n) : ∃ x, Sol n E x (edge a b) ∧ dotN n (edge a b) x = Rr n E a b := by
  by_cases hab : a = b
  · subst hab
    refine ⟨fun _ => 0, fun i hi => ?_, ?_⟩
    · rw [edge_self]; exact sumL_zero (fun j _ => by grind)
    · unfold Rr dotN; rw [if_pos rfl]; exact sumL_zero (fun j _ => by grind)
  · obtain ⟨x, x1, x2, _⟩ := unit_sol h.ok h.con ha hb hab
    exact ⟨x, x1, by unfold Rr; rw [if_neg hab]; exact x2⟩
theorem edge_0 {a b : Nat} : edge a b = fun i => edge a 0 i - edge b 0 i := by funext i; unfold edge; grind
theorem NetC.transfer {n : Nat} {E : List Sp} (h : NetC n E) {a b p q : Nat} (ha : a < n) (hb : b < n) (hp : p < n) (hq : q < n) {x : Nat → Rat} (hx : Sol n E x (edge a b)) :
    dotN n (edge p q) x = (Rr n E p b + Rr n E q a - Rr n E p a - Rr n E q b) / 2 := by
  obtain ⟨z, hz⟩ : ∃ z : Nat → Nat → Rat, ∀ c, c < n → Sol n E (z c) (edge c 0) :=
    ⟨fun c => if hc : c < n then Classical.choose (h.unit hc (show 0 < n by omega)) else fun _ => 0, fun c hc => by
      show Sol n E (if hc : c < n then _ else _) _
      rw [dif_pos hc]
      exact (Classical.choose_spec (h.unit hc (show 0 < n by omega))).1⟩
  have hP := (pos_E h.ok).2.1
  have hsol : ∀ c d, c < n → d < n → Sol n E (fun j => z c j - z d j) (edge c d) := fun c d hc hd => by
    rw [edge_0]; exact (hz c hc).sub (hz d hd)
  obtain ⟨g, hg⟩ : ∃ g : Nat → Nat → Rat, ∀ c d, g c d = dotN n (edge c 0) (z d) := ⟨_, fun _ _ => rfl⟩
  have hgs : ∀ c d, c < n → d < n → g c d = g d c := fun c d hc hd => by rw [hg, hg]; exact recip hP (hz d hd) (hz c hc)
  have hexp : ∀ c d e f, dotN n (edge c d) (fun j => z e j - z f j) = g c e - g c f - g d e + g d f := fun c d e f => by
    rw [edge_0 (a := c) (b := d), dotN_subl, dotN_sub, dotN_sub, hg, hg, hg, hg]; grind
  have hR : ∀ c d, c < n → d < n → Rr n E c d = g c c + g d d - 2 * g c d := fun c d hc hd => by
    obtain ⟨y, y1, y2⟩ := h.unit hc hd
    rw [← y2, dotN_congr (fun _ _ => rfl) (h.uniq y1 (hsol c d hc hd)), hexp, hgs d c hd hc]; grind
  rw [dotN_congr (fun _ _ => rfl) (h.uniq hx (hsol a b ha hb)), hexp, hR p b hp hb, hR q a hq ha, hR p a hp ha, hR q b hq hb]
  grind
end GoAbs
namespace GoAbs
open Go Go.Proofs
def clinear_Nums_r1 : List IOp := [oI 2 (.mv (.c .nils)) 0, oI 3 (.mv (cI 0)) 0]
def clinear_Nums_r2 : List IOp := [oI 4 (.mv (.c .nils)) 0]
def clinear_Nums_r3 : List IOp := [mI 9 0 0, oI 10 (.len (.t 9)) 0, oI 11 (.mv (cI 0)) 0]
def clinear_Nums_r4 : List IOp := [oI 12 (.bin .lss (.t 11) (.t 10)) 0]
def clinear_Nums_r5 : List IOp := [xI 13 4 9 11 0, lJ 14 4 13 0, oI 6 (.alloc [.bool false, .nils, .bool false, .nils]) 0, ⟨none, .st 4 (.t 6) (.t 14), 1, [], [], none⟩]
def clinear_Nums_r6 : List IOp := [lJ 16 4 6 0, oI 17 (.call 65 [.t 16]) 0, mI 15 17 0, eI 18 0 15 0, eI 19 1 15 0, mI 7 18 0, mI 8 19 0]
def clinear_Nums_r7 : List IOp := [mI 20 8 0, oI 21 (.bin .neq (.t 20) (cI 0)) 0]
def clinear_Nums_r8 : List IOp := [mI 22 8 0, oI 2 (.mv (.c .nils)) 0, mI 3 22 0]
def clinear_Nums_r9 : List IOp := [mI 23 4 0, mI 24 7 0, oI 25 (.bsl none 1 [.str ⟨#[]⟩] [(0, .t 24)]) 0, oI 26 (.app none 16 (.t 23) (.t 25)) 1, mI 4 26 2]
def clinear_Nums_r10 : List IOp := [oI 27 (.bin .add (.t 11) (cI 1)) 0, mI 11 27 0]
def clinear_Nums_L1 : CC := .seq (.rg false clinear_Nums_r4) (.seq (.cond (.t 12) .skip (.exit 0)) (.seq (.block 1 (.seq (.rg false clinear_Nums_r5) (.seq (.rg false clinear_Nums_r6) (.seq (.seq (.rg false clinear_Nums_r7) (.cond (.t 21) (.seq (.rg false clinear_Nums_r8) .ret) .skip)) (.rg false clinear_Nums_r9))))) (.rg false clinear_Nums_r10)))
def clinear_Nums_r11 : List IOp := [mI 28 4 0, mI 2 28 0, oI 3 (.mv (cI 0)) 0]
def clinear_Nums : CC := .seq (.rg false clinear_Nums_r1) (.seq (.rg false clinear_Nums_r2) (.seq (.seq (.rg false clinear_Nums_r3) (.block 0 (.loop clinear_Nums_L1))) (.seq (.rg false clinear_Nums_r11) .ret)))
abbrev n_linear_Nums : Nat := 88
theorem ok_linear_Nums : fnOk Tryz.prog 88 = some (29, clinear_Nums, [.tmp 2, .tmp 3]) := by kernel_rfl
end GoAbs
namespace GoAbs
open Go Go.Proofs
set_option exponentiation.threshold 20000
def ss (x : List Rat) : List AV := x.map fun q => .str (bs (numS q))
theorem ss_len (x : List Rat) : (ss x).length = x.length := by simp [ss]
theorem bv_ss {H : Heap} {ids : List Nat} {b : Nat} {x : List Rat} (hb : H[b]? = some (.cells (ss x))) (hi : b ∈ ids) : BV H ids (.osl none b 0 x.length) (.sl (ss x)) := by
  refine .osl none b 0 x.length (ss x) (ss x) hb hi (ss_len x) (fun y hy => ?_) (by rw [ss_len]; simp [es]) (fun i y j z w hy hz hw => ?_)
  · obtain ⟨c, _, rfl⟩ := List.mem_map.1 hy; rfl
  · obtain ⟨c, _, rfl⟩ := List.mem_map.1 (List.mem_of_getElem? hy)
    have hj : j = 0 := by
      have := (List.getElem?_eq_some_iff.1 hz).1
      simp [AV.cells] at this; omega
    subst hj
    simp [AV.cells] at hz
    subst hz
    simp [es] at hw
    rw [hy] at hw
    cases hw
    exact .str _
theorem gc_ss {f : Nat → Option Nat} {x : List Rat} : gcL f (ss x) = ss x := by
  rw [gcL_map]; unfold ss; rw [List.map_map]; rfl
def numsR (x : List Rat) : AV := if ∀ q, q ∈ x → NumOk q then .tup [.sl (ss x), .int .i64 0] else .tup [.nils, .int .i64 4]
theorem nums_L1 {x : List Rat} (hx : ∀ q, q ∈ x → Tx q.num.natAbs ∧ Tx q.den) (hl : x.length ≤ 1000000) {K : Ex → St → Prop}
    (hK : (∀ q, q ∈ x → NumOk q) → ∀ e : Nat → AV, e 4 = .osl none 0 0 x.length → K (.exit 0) ⟨e, [.cells (ss x)]⟩)
    (hK0 : (¬ ∀ q, q ∈ x → NumOk q) → ∀ e : Nat → AV, ∀ H, e 2 = .nils → e 3 = .int .i64 4 → K .ret ⟨e, H⟩) :
    T Tryz.prog 29 0 (.loop clinear_Nums_L1) ⟨envL [(4, .osl none 0 0 0), (9, .sl (condsR x)), (10, .int .i64 (x.length : Int)), (11, .int .i64 0)], [.cells []]⟩ K := by
  have hm : Tryz.prog.follows .mixedOrders = true := by kernel_rfl
  refine T_rounds (fun i : Nat => ⟨envL [(4, .osl none 0 0 i), (9, .sl (condsR x)), (10, .int .i64 (x.length : Int)), (11, .int .i64 (i : Int))], [.cells (ss (x.take i))]⟩)
    (fun i => i ≤ x.length ∧ ∀ q, q ∈ x.take i → NumOk q) (fun i => x.length - i) 0 ⟨by omega, by simp⟩ (Le_keep _ (by simp only [go_sem]; simp)) (fun i hi N hN => ?_)
  obtain ⟨hi, hall⟩ := hi
  unfold clinear_Nums_L1
  by_cases hin : i < x.length
  · have gx := rget_some hin
    have gc := condsR_get gx
    have hmem := List.mem_of_getElem? gx
    have hq := num_q (hx _ hmem).1 (hx _ hmem).2
    have tk : x.take (i + 1) = x.take i ++ [rget x i] := by rw [List.take_add_one, gx]; rfl
    have q0 : (0 : Int) ≤ (i : Int) := by omega
    have q1 : (i : Int) < (x.length : Int) := by omega
    have e1 : IntKind.i64.wrap ((i : Int) + 1) = ((i + 1 : Nat) : Int) := by rw [i64_id (by omega) (by omega)]; omega
    have l1 : (ss (x.take i)).length = i := by rw [ss_len, List.length_take]; omega
    have l2 : (ss (x.take i)).take i = ss (x.take i) := List.take_of_length_le (by omega)
    have s1 : (i + 1) * 16 ≤ 1099511627776 := by omega
    have ql : (qcell (rget x i)).length = 4 := rfl
    have qt : (qcell (rget x i)).take 4 = qcell (rget x i) := rfl
    have qd : (qcell (rget x i)).drop 4 = [] := rfl
    simp only [go_sem, clinear_Nums_r4, clinear_Nums_r5, clinear_Nums_r6, q0, q1, gc, ql, qt, qd]
    refine call_P hq (by simp only [go_sem, avQ_q, bvs_qcell]) ?_
    by_cases hok : NumOk (rget x i)
    · rw [if_pos hok]
      simp only [go_sem, clinear_Nums_r7, clinear_Nums_r9, clinear_Nums_r10, e1, l1, l2, s1]
      refine ⟨Nat.le_refl _, hN (i + 1) _ ⟨by omega, ?_⟩ (by omega) ?_⟩
      · rw [tk]; intro q hq
        rcases List.mem_append.1 hq with h | h
        · exact hall q h
        · rw [List.mem_singleton.1 h]; exact hok
      · refine Le_eq (Le_gc [3] (by decide) (fun i hi => by omega) [(4, .osl none 3 0 (i + 1)), (9, .sl (condsR x)), (10, .int .i64 (x.length : Int)), (11, .int .i64 ((i + 1 : Nat) : Int))] (by simp only [go_sem])) ?_
        have hss : ss (x.take (i + 1)) = ss (x.take i) ++ [.str (bs (numS (rget x i)))] := by rw [tk]; unfold ss; rw [List.map_append]; rfl
        show St.mk _ [Blk.cells (gcL _ (ss (x.take i) ++ [.str (bs (numS (rget x i)))]))] = _
        rw [← hss, gc_ss]
        rfl
    · rw [if_neg hok]
      have h4 : ¬ (4 : Int) = 0 := by decide
      simp only [go_sem, clinear_Nums_r7, clinear_Nums_r8, h4]
      exact hK0 (fun h => hok (h _ hmem)) _ _ (by simp only [go_sem]) (by simp only [go_sem])
  · have hie : i = x.length := by omega
    subst hie
    have q1 : ¬ ((x.length : Nat) : Int) < (x.length : Int) := by omega
    rw [List.take_length] at hall ⊢
    simp only [go_sem, clinear_Nums_r4, q1]
    exact hK hall _ (by simp only [go_sem])
theorem nums_spec {x : List Rat} (hx : ∀ q, q ∈ x → Tx q.num.natAbs ∧ Tx q.den) (hl : x.length ≤ 1000000) : SpecV Tryz.prog n_linear_Nums [.sl (condsR x)] (numsR x) := by
  refine specV_T ok_linear_Nums (by simp) (T_cut 1 rfl ?_)
  unfold clinear_Nums
  simp only [go_sem, clinear_Nums_r1, clinear_Nums_r2]
  refine T_le (Le_row0 4 none (by simp only [go_sem]) [(0, .sl (condsR x)), (2, .nils), (3, .int .i64 0)] (by simp only [go_sem])) ?_
  refine T_W ?_
  simp only [go_sem, clinear_Nums_r3, condsR_len]
  refine T_keep [(4, .osl none 0 0 0), (9, .sl (condsR x)), (10, .int .i64 (x.length : Int)), (11, .int .i64 0)] (by simp only [go_sem]) ?_
  refine nums_L1 hx hl (fun hall e e4 => ?_) (fun hall e H e2 e3 => ?_)
  · simp only [go_sem, clinear_Nums_r11, e4, numsR, if_pos hall]
    exact bv_ss rfl (by simp [allOf])
  · simp only [go_sem, e2, e3, numsR, if_neg hall]
end GoAbs
namespace GoAbs
open Go Go.Proofs
def cspring_vector_r1 : List IOp := [oI 2 (.mv (.c .nils)) 0, oI 3 (.mv (.c (.bool false))) 0]
def cspring_vector_r2 : List IOp := [oI 4 (.mv (.c .nils)) 0]
def cspring_vector_r3 : List IOp := [mI 9 0 0, oI 10 (.len (.t 9)) 0, oI 11 (.mv (cI 0)) 0]
def cspring_vector_r4 : List IOp := [oI 12 (.bin .lss (.t 11) (.t 10)) 0]
def cspring_vector_r5 : List IOp := [xI 13 1 9 11 0, lI 14 13 0, mI 6 14 0]
def cspring_vector_r6 : List IOp := [mI 16 6 0, oI 17 (.call 109 [.t 16]) 0, mI 15 17 0, eI 18 0 15 0, eI 19 1 15 0, oI 7 (.alloc [.bool false, .nils, .bool false, .nils]) 0, ⟨none, .st 4 (.t 7) (.t 18), 1, [], [], none⟩, mI 8 19 1]
def cspring_vector_r7 : List IOp := [mI 20 8 0, oI 21 (.un .not (.t 20)) 0]
def cspring_vector_r8 : List IOp := [oI 2 (.mv (.c .nils)) 0, oI 3 (.mv (.c (.bool false))) 0]
def cspring_vector_r9 : List IOp := [mI 22 4 0, lJ 23 4 7 0, oI 24 (.bsl (some 4) 1 [.bool false, .nils, .bool false, .nils] [(0, .t 23)]) 0, oI 25 (.app (some 4) 64 (.t 22) (.t 24)) 1, mI 4 25 2]
def cspring_vector_r10 : List IOp := [oI 26 (.bin .add (.t 11) (cI 1)) 0, mI 11 26 0]
def cspring_vector_L1 : CC := .seq (.rg false cspring_vector_r4) (.seq (.cond (.t 12) .skip (.exit 0)) (.seq (.block 1 (.seq (.rg false cspring_vector_r5) (.seq (.rg false cspring_vector_r6) (.seq (.seq (.rg false cspring_vector_r7) (.cond (.t 21) (.seq (.rg false cspring_vector_r8) .ret) .skip)) (.rg false cspring_vector_r9))))) (.rg false cspring_vector_r10)))
def cspring_vector_r11 : List IOp := [mI 27 4 0, mI 2 27 0, oI 3 (.mv (.c (.bool true))) 0]
def cspring_vector : CC := .seq (.rg false cspring_vector_r1) (.seq (.rg false cspring_vector_r2) (.seq (.seq (.rg false cspring_vector_r3) (.block 0 (.loop cspring_vector_L1))) (.seq (.rg false cspring_vector_r11) .ret)))
abbrev n_spring_vector : Nat := 91
theorem ok_spring_vector : fnOk Tryz.prog 91 = some (28, cspring_vector, [.tmp 2, .tmp 3]) := by kernel_rfl
def cspring_fold_r1 : List IOp := [oI 4 (.box (.t 1)) 0, oI 6 (.alloc [.bool false, .nils, .bool false, .nils]) 1]
def cspring_fold_r2 : List IOp := [mI 9 0 0, oI 10 (.len (.t 9)) 0, oI 11 (.mv (cI 0)) 0]
def cspring_fold_r3 : List IOp := [oI 12 (.bin .lss (.t 11) (.t 10)) 0]
def cspring_fold_r4 : List IOp := [xI 13 4 9 11 0, lJ 14 4 13 0, oI 8 (.alloc [.bool false, .nils, .bool false, .nils]) 0, ⟨none, .st 4 (.t 8) (.t 14), 1, [], [], none⟩]
def cspring_fold_r5 : List IOp := [mI 15 2 0, lJ 16 4 4 0, lJ 17 4 8 0, oI 18 (.callv (.t 15) [.t 16, .t 17]) 0, ⟨none, .st 4 (.t 4) (.t 18), 0, [], [], none⟩]
def cspring_fold_r6 : List IOp := [oI 19 (.bin .add (.t 11) (cI 1)) 0, mI 11 19 0]
def cspring_fold_L1 : CC := .seq (.rg false cspring_fold_r3) (.seq (.cond (.t 12) .skip (.exit 0)) (.seq (.block 1 (.seq (.rg false cspring_fold_r4) (.rg false cspring_fold_r5))) (.rg false cspring_fold_r6)))
def cspring_fold_r7 : List IOp := [lJ 20 4 4 0, ⟨none, .st 4 (.t 6) (.t 20), 0, [], [], none⟩]
def cspring_fold : CC := .seq (.rg false cspring_fold_r1) (.seq (.seq (.rg false cspring_fold_r2) (.block 0 (.loop cspring_fold_L1))) (.seq (.rg false cspring_fold_r7) .ret))
abbrev n_spring_fold : Nat := 93
theorem ok_spring_fold : fnOk Tryz.prog 93 = some (21, cspring_fold, [.cell 6 (some 4)]) := by kernel_rfl
def cspring_Move_r1 : List IOp := [oI 6 (.mv (.c .nils)) 0, oI 7 (.mv (cI 0)) 0]
def cspring_Move_r2 : List IOp := [mI 13 0 0, mI 14 1 0, oI 15 (.call 62 [.t 13, .t 14]) 0, mI 12 15 0, eI 16 0 12 0, eI 17 1 12 0, oI 8 (.alloc [.int .i64 0, .nils, .nils]) 0, ⟨none, .st 3 (.t 8) (.t 16), 1, [], [], none⟩, mI 9 17 1]
def cspring_Move_r3 : List IOp := [mI 19 2 0, oI 20 (.call 91 [.t 19]) 0, mI 18 20 0, eI 21 0 18 0, eI 22 1 18 0, mI 10 21 0, mI 11 22 0]
def cspring_Move_r4 : List IOp := [mI 24 9 0, oI 25 (.bin .eql (.t 24) (cI 2)) 0, mI 26 25 0, gI 27 (.mv (.t 11)) 0 26 false, gI 28 (.un .not (.t 27)) 0 26 false, oI 29 (.pick (.t 26) (.c (.bool true)) (.t 28)) 0, mI 23 29 0]
def cspring_Move_r5 : List IOp := [oI 6 (.mv (.c .nils)) 0, oI 7 (.mv (cI 2)) 0]
def cspring_Move_r6 : List IOp := [mI 31 9 0, oI 32 (.bin .neq (.t 31) (cI 0)) 0, mI 33 32 0, gI 34 (.mv (.t 10)) 0 33 false, gI 35 (.len (.t 34)) 0 33 false, gI 36 (.mv (.t 0)) 0 33 false, gI 37 (.bin .neq (.t 35) (.t 36)) 0 33 false, oI 38 (.pick (.t 33) (.c (.bool true)) (.t 37)) 0, mI 30 38 0]
def cspring_Move_r7 : List IOp := [oI 6 (.mv (.c .nils)) 0, oI 7 (.mv (cI 1)) 0]
def cspring_Move_r8 : List IOp := [lJ 40 3 8 0, oI 41 (.call 92 [.t 40]) 0, oI 42 (.un .not (.t 41)) 0, mI 43 42 0, gI 44 (.mv (.t 10)) 0 43 false, gI 45 (.call 77 [cI 0]) 0 43 false, gI 46 (.call 93 [.t 44, .t 45, .c (.fn 94 [] [])]) 0 43 false, gI 47 (.call 95 [.t 46]) 0 43 false, gI 48 (.bin .neq (.t 47) (cI 0)) 0 43 false, oI 49 (.pick (.t 43) (.c (.bool true)) (.t 48)) 0, mI 39 49 0]
def cspring_Move_r9 : List IOp := [oI 6 (.mv (.c .nils)) 0, oI 7 (.mv (cI 5)) 0]
def cspring_Move_r10 : List IOp := [lJ 50 3 8 0, mI 51 10 0, oI 52 (.call 96 [.t 50, .t 51]) 0, oI 53 (.call 88 [.t 52]) 0, eI 54 0 53 0, eI 55 1 53 0, mI 6 54 0, mI 7 55 0]
def cspring_Move : CC := .seq (.rg false cspring_Move_r1) (.seq (.rg false cspring_Move_r2) (.seq (.rg false cspring_Move_r3) (.seq (.block 0 (.seq (.rg false cspring_Move_r4) (.cond (.t 23) (.seq (.rg false cspring_Move_r5) .ret) (.seq (.rg false cspring_Move_r6) (.cond (.t 30) (.seq (.rg false cspring_Move_r7) .ret) (.seq (.rg false cspring_Move_r8) (.cond (.t 39) (.seq (.rg false cspring_Move_r9) .ret) .skip))))))) (.seq (.rg false cspring_Move_r10) .ret))))
abbrev n_spring_Move : Nat := 47
theorem ok_spring_Move : fnOk Tryz.prog 47 = some (56, cspring_Move, [.tmp 6, .tmp 7]) := by kernel_rfl
def claw_SpringReciprocal_r1 : List IOp := [oI 5 (.box (.t 2)) 0, oI 6 (.mv (.c (.bool false))) 1]
def claw_SpringReciprocal_r2 : List IOp := [mI 26 0 0, mI 27 1 0, oI 28 (.idxa 2 2 (.t 5) (cI 0)) 0, fI 29 0 28 0, lI 30 29 0, oI 31 (.idxa 2 2 (.t 5) (cI 1)) 0, fI 32 1 31 0, lI 33 32 0, oI 34 (.idxa 2 2 (.t 5) (cI 1)) 0, fI 35 0 34 0, lI 36 35 0, oI 37 (.idxa 2 2 (.t 5) (cI 0)) 0, fI 38 1 37 0, lI 39 38 0, oI 40 (.bsl none 4 [.int .i64 0] [(0, .t 30), (1, .t 33), (2, .t 36), (3, .t 39)]) 0, oI 41 (.call 22 [.t 26, .t 27, .t 40]) 1, oI 7 (.alloc [.int .i64 0, .nils]) 1, ⟨none, .st 2 (.t 7) (.t 41), 2, [], [], none⟩]
def claw_SpringReciprocal_r3 : List IOp := [fI 43 0 7 0, lI 44 43 0, oI 45 (.idxa 2 2 (.t 5) (cI 0)) 0, lJ 46 2 45 0, oI 47 (.call 30 [.t 44, .t 46]) 0, mI 42 47 0, eI 48 0 42 0, eI 49 1 42 0, mI 8 48 0, mI 9 49 0]
def claw_SpringReciprocal_r4 : List IOp := [fI 51 0 7 0, lI 52 51 0, oI 53 (.idxa 2 2 (.t 5) (cI 1)) 0, lJ 54 2 53 0, oI 55 (.call 30 [.t 52, .t 54]) 0, mI 50 55 0, eI 56 0 50 0, eI 57 1 50 0, mI 10 56 0, mI 11 57 0]
def claw_SpringReciprocal_r5 : List IOp := [oI 58 (.mkf 50 [] [.t 7]) 0, mI 12 58 0]
def claw_SpringReciprocal_r6 : List IOp := [mI 59 12 0, mI 60 8 0, mI 61 9 0, oI 62 (.callv (.t 59) [.t 60, .t 61]) 0, mI 63 12 0, mI 64 10 0, mI 65 11 0, oI 66 (.callv (.t 63) [.t 64, .t 65]) 0, mI 13 62 0, mI 14 66 0]
def claw_SpringReciprocal_r7 : List IOp := [oI 67 (.bsl none 0 [.str ⟨#[]⟩] []) 0, mI 15 67 1]
def claw_SpringReciprocal_r8 : List IOp := [oI 16 (.mv (cI 0)) 0]
def claw_SpringReciprocal_r9 : List IOp := [mI 68 16 0, fI 69 0 7 0, lI 70 69 0, oI 71 (.bin .lss (.t 68) (.t 70)) 0]
def claw_SpringReciprocal_r10 : List IOp := [mI 75 13 0, mI 76 16 0, xI 77 1 75 76 0, lI 78 77 0, oI 79 (.call 29 [.t 78]) 0, mI 80 14 0, mI 81 16 0, xI 82 1 80 81 0, lI 83 82 0, oI 84 (.callw 29 [.t 83]) 0, oI 85 (.callw 27 [.t 79, .t 84]) 0, oI 86 (.callw 39 [.t 85]) 0, mI 74 86 0, eI 87 0 74 0, eI 88 1 74 0, mI 17 87 0, mI 18 88 0]
@[go_sem ↓] theorem claw_SpringReciprocal_r10_k : autoK claw_SpringReciprocal_r10 = (0, 0) := by kernel_rfl
@[go_sem] theorem claw_SpringReciprocal_r10_k1 : autoK [mI 75 13 0, mI 76 16 0, xI 77 1 75 76 0, lI 78 77 0, oI 79 (.call 29 [.t 78]) 0, mI 80 14 0, mI 81 16 0, xI 82 1 80 81 0, lI 83 82 0, oI 84 (.callw 29 [.t 83]) 0, oI 85 (.callw 27 [.t 79, .t 84]) 0, oI 86 (.callw 39 [.t 85]) 0, mI 74 86 0, eI 87 0 74 0, eI 88 1 74 0, mI 17 87 0, mI 18 88 0] = (0, 0) := claw_SpringReciprocal_r10_k
def claw_SpringReciprocal_r11 : List IOp := [mI 89 15 0, mI 90 17 0, oI 91 (.bsl none 1 [.str ⟨#[]⟩] [(0, .t 90)]) 0, oI 92 (.app none 16 (.t 89) (.t 91)) 1, mI 15 92 2]
def claw_SpringReciprocal_r12 : List IOp := [mI 72 16 0, oI 73 (.bin .add (.t 72) (cI 1)) 0, mI 16 73 0]
def claw_SpringReciprocal_L1 : CC := .seq (.seq (.rg false claw_SpringReciprocal_r9) (.cond (.t 71) .skip (.exit 0))) (.seq (.block 1 (.seq (.rg true claw_SpringReciprocal_r10) (.rg false claw_SpringReciprocal_r11))) (.rg false claw_SpringReciprocal_r12))
def claw_SpringReciprocal_r13 : List IOp := [fI 94 0 7 0, lI 95 94 0, fI 96 1 7 0, lI 97 96 0, mI 98 13 0, oI 99 (.call 47 [.t 95, .t 97, .t 98]) 0, mI 93 99 0, eI 100 0 93 0, eI 101 1 93 0, mI 19 100 0, mI 20 101 0]
def claw_SpringReciprocal_r14 : List IOp := [fI 103 0 7 0, lI 104 103 0, fI 105 1 7 0, lI 106 105 0, mI 107 14 0, oI 108 (.call 47 [.t 104, .t 106, .t 107]) 0, mI 102 108 0, eI 109 0 102 0, eI 110 1 102 0, mI 21 109 0, mI 22 110 0]
def claw_SpringReciprocal_r15 : List IOp := [fI 112 0 7 0, lI 113 112 0, fI 114 1 7 0, lI 115 114 0, mI 116 15 0, oI 117 (.call 47 [.t 113, .t 115, .t 116]) 0, mI 111 117 0, eI 118 0 111 0, eI 119 1 111 0, mI 23 118 0, mI 24 119 0]
def claw_SpringReciprocal_r16 : List IOp := [mI 120 20 0, oI 121 (.bin .neq (.t 120) (cI 0)) 0, mI 122 121 0, gI 123 (.mv (.t 22)) 0 122 false, gI 124 (.bin .neq (.t 123) (cI 0)) 0 122 false, oI 125 (.pick (.t 122) (.c (.bool true)) (.t 124)) 0, mI 126 125 0, gI 127 (.mv (.t 24)) 0 126 false, gI 128 (.bin .neq (.t 127) (cI 0)) 0 126 false, oI 129 (.pick (.t 126) (.c (.bool true)) (.t 128)) 0, mI 130 129 0, gI 131 (.mv (.t 19)) 0 130 false, gI 132 (.len (.t 131)) 0 130 false, gI 133 (.fa 0 (.t 7)) 0 130 false, gI 134 (.ld none (.t 133)) 0 130 false, gI 135 (.bin .neq (.t 132) (.t 134)) 0 130 false, oI 136 (.pick (.t 130) (.c (.bool true)) (.t 135)) 0, mI 137 136 0, gI 138 (.mv (.t 21)) 0 137 false, gI 139 (.len (.t 138)) 0 137 false, gI 140 (.fa 0 (.t 7)) 0 137 false, gI 141 (.ld none (.t 140)) 0 137 false, gI 142 (.bin .neq (.t 139) (.t 141)) 0 137 false, oI 143 (.pick (.t 137) (.c (.bool true)) (.t 142)) 0, mI 144 143 0, gI 145 (.mv (.t 23)) 0 144 false, gI 146 (.len (.t 145)) 0 144 false, gI 147 (.fa 0 (.t 7)) 0 144 false, gI 148 (.ld none (.t 147)) 0 144 false, gI 149 (.bin .neq (.t 146) (.t 148)) 0 144 false, oI 150 (.pick (.t 144) (.c (.bool true)) (.t 149)) 0, mI 151 150 0, gI 152 (.mv (.t 19)) 0 151 false, gI 153 (.call 51 [.t 152]) 0 151 false, gI 154 (.bin .neq (.t 153) (cI 0)) 0 151 false, oI 155 (.pick (.t 151) (.c (.bool true)) (.t 154)) 0, mI 156 155 0, gI 157 (.mv (.t 21)) 0 156 false, gI 158 (.call 51 [.t 157]) 0 156 false, gI 159 (.bin .neq (.t 158) (cI 0)) 0 156 false, oI 160 (.pick (.t 156) (.c (.bool true)) (.t 159)) 0, mI 161 160 0, gI 162 (.call 18 []) 0 161 false, gI 163 (.un .not (.t 162)) 0 161 false, oI 164 (.pick (.t 161) (.c (.bool true)) (.t 163)) 0]
def claw_SpringReciprocal_r17 : List IOp := [oI 6 (.mv (.c (.bool false))) 0]
def claw_SpringReciprocal_r18 : List IOp := [oI 25 (.mv (cI 0)) 0]
def claw_SpringReciprocal_r19 : List IOp := [mI 165 25 0, fI 166 0 7 0, lI 167 166 0, oI 168 (.bin .lss (.t 165) (.t 167)) 0]
def claw_SpringReciprocal_r20 : List IOp := [mI 171 23 0, mI 172 25 0, xI 173 1 171 172 0, lI 174 173 0, mI 175 19 0, mI 176 25 0, xI 177 1 175 176 0, lI 178 177 0, oI 179 (.call 29 [.t 178]) 0, mI 180 21 0, mI 181 25 0, xI 182 1 180 181 0, lI 183 182 0, oI 184 (.call 29 [.t 183]) 0, oI 185 (.call 27 [.t 179, .t 184]) 0, oI 186 (.callw 20 [.t 174, .t 185]) 0, oI 187 (.un .not (.t 186)) 0]
@[go_sem ↓] theorem claw_SpringReciprocal_r20_k : autoK claw_SpringReciprocal_r20 = (0, 0) := by kernel_rfl
@[go_sem] theorem claw_SpringReciprocal_r20_k1 : autoK [mI 171 23 0, mI 172 25 0, xI 173 1 171 172 0, lI 174 173 0, mI 175 19 0, mI 176 25 0, xI 177 1 175 176 0, lI 178 177 0, oI 179 (.call 29 [.t 178]) 0, mI 180 21 0, mI 181 25 0, xI 182 1 180 181 0, lI 183 182 0, oI 184 (.call 29 [.t 183]) 0, oI 185 (.call 27 [.t 179, .t 184]) 0, oI 186 (.callw 20 [.t 174, .t 185]) 0, oI 187 (.un .not (.t 186)) 0] = (0, 0) := claw_SpringReciprocal_r20_k
def claw_SpringReciprocal_r21 : List IOp := [oI 6 (.mv (.c (.bool false))) 0]
def claw_SpringReciprocal_r22 : List IOp := [mI 169 25 0, oI 170 (.bin .add (.t 169) (cI 1)) 0, mI 25 170 0]
def claw_SpringReciprocal_L2 : CC := .seq (.seq (.rg false claw_SpringReciprocal_r19) (.cond (.t 168) .skip (.exit 2))) (.seq (.block 3 (.seq (.rg true claw_SpringReciprocal_r20) (.cond (.t 187) (.seq (.rg false claw_SpringReciprocal_r21) .ret) .skip))) (.rg false claw_SpringReciprocal_r22))
def claw_SpringReciprocal_r23 : List IOp := [mI 188 19 0, oI 189 (.idx 1 (.t 188) (cI 0)) 0, lI 190 189 0, oI 191 (.bin .eql (.t 190) (.c (.str ⟨#[48]⟩))) 0, mI 192 191 0, gI 193 (.mv (.t 19)) 0 192 true, gI 194 (.mv (.t 10)) 0 192 true, gI 195 (.idx 1 (.t 193) (.t 194)) 0 192 true, gI 196 (.ld none (.t 195)) 0 192 true, gI 197 (.call 29 [.t 196]) 0 192 true, gI 198 (.mv (.t 19)) 0 192 true, gI 199 (.mv (.t 11)) 0 192 true, gI 200 (.idx 1 (.t 198) (.t 199)) 0 192 true, gI 201 (.ld none (.t 200)) 0 192 true, gI 202 (.call 29 [.t 201]) 0 192 true, gI 203 (.call 52 [.t 197, .t 202]) 0 192 true, gI 204 (.mv (.t 21)) 0 192 true, gI 205 (.mv (.t 8)) 0 192 true, gI 206 (.idx 1 (.t 204) (.t 205)) 0 192 true, gI 207 (.ld none (.t 206)) 0 192 true, gI 208 (.call 29 [.t 207]) 0 192 true, gI 209 (.mv (.t 21)) 0 192 true, gI 210 (.mv (.t 9)) 0 192 true, gI 211 (.idx 1 (.t 209) (.t 210)) 0 192 true, gI 212 (.ld none (.t 211)) 0 192 true, gI 213 (.callw 29 [.t 212]) 0 192 true, gI 214 (.callw 52 [.t 208, .t 213]) 0 192 true, gI 215 (.callw 26 [.t 203, .t 214]) 0 192 true, gI 216 (.bin .eql (.t 215) (cI 0)) 0 192 true, oI 217 (.pick (.t 192) (.t 216) (.c (.bool false))) 0, mI 6 217 0]
@[go_sem ↓] theorem claw_SpringReciprocal_r23_k : autoK claw_SpringReciprocal_r23 = (0, 0) := by kernel_rfl
@[go_sem] theorem claw_SpringReciprocal_r23_k1 : autoK [mI 188 19 0, oI 189 (.idx 1 (.t 188) (cI 0)) 0, lI 190 189 0, oI 191 (.bin .eql (.t 190) (.c (.str ⟨#[48]⟩))) 0, mI 192 191 0, gI 193 (.mv (.t 19)) 0 192 true, gI 194 (.mv (.t 10)) 0 192 true, gI 195 (.idx 1 (.t 193) (.t 194)) 0 192 true, gI 196 (.ld none (.t 195)) 0 192 true, gI 197 (.call 29 [.t 196]) 0 192 true, gI 198 (.mv (.t 19)) 0 192 true, gI 199 (.mv (.t 11)) 0 192 true, gI 200 (.idx 1 (.t 198) (.t 199)) 0 192 true, gI 201 (.ld none (.t 200)) 0 192 true, gI 202 (.call 29 [.t 201]) 0 192 true, gI 203 (.call 52 [.t 197, .t 202]) 0 192 true, gI 204 (.mv (.t 21)) 0 192 true, gI 205 (.mv (.t 8)) 0 192 true, gI 206 (.idx 1 (.t 204) (.t 205)) 0 192 true, gI 207 (.ld none (.t 206)) 0 192 true, gI 208 (.call 29 [.t 207]) 0 192 true, gI 209 (.mv (.t 21)) 0 192 true, gI 210 (.mv (.t 9)) 0 192 true, gI 211 (.idx 1 (.t 209) (.t 210)) 0 192 true, gI 212 (.ld none (.t 211)) 0 192 true, gI 213 (.callw 29 [.t 212]) 0 192 true, gI 214 (.callw 52 [.t 208, .t 213]) 0 192 true, gI 215 (.callw 26 [.t 203, .t 214]) 0 192 true, gI 216 (.bin .eql (.t 215) (cI 0)) 0 192 true, oI 217 (.pick (.t 192) (.t 216) (.c (.bool false))) 0, mI 6 217 0] = (0, 0) := claw_SpringReciprocal_r23_k
def claw_SpringReciprocal : CC := .seq (.rg false claw_SpringReciprocal_r1) (.seq (.rg false claw_SpringReciprocal_r2) (.seq (.rg false claw_SpringReciprocal_r3) (.seq (.rg false claw_SpringReciprocal_r4) (.seq (.rg false claw_SpringReciprocal_r5) (.seq (.rg false claw_SpringReciprocal_r6) (.seq (.rg false claw_SpringReciprocal_r7) (.seq (.seq (.rg false claw_SpringReciprocal_r8) (.block 0 (.loop claw_SpringReciprocal_L1))) (.seq (.rg false claw_SpringReciprocal_r13) (.seq (.rg false claw_SpringReciprocal_r14) (.seq (.rg false claw_SpringReciprocal_r15) (.seq (.seq (.rg false claw_SpringReciprocal_r16) (.cond (.t 164) (.seq (.rg false claw_SpringReciprocal_r17) .ret) .skip)) (.seq (.seq (.rg false claw_SpringReciprocal_r18) (.block 2 (.loop claw_SpringReciprocal_L2))) (.seq (.rg true claw_SpringReciprocal_r23) .ret)))))))))))))
abbrev n_law_SpringReciprocal : Nat := 10
theorem ok_law_SpringReciprocal : fnOk Tryz.prog 10 = some (218, claw_SpringReciprocal, [.tmp 6]) := by kernel_rfl
def claw_SpringReciprocal_fn1_r1 : List IOp := [oI 5 (.mv (.c .nils)) 0]
def claw_SpringReciprocal_fn1_r2 : List IOp := [oI 9 (.bsl none 0 [.str ⟨#[]⟩] []) 0, mI 6 9 1]
def claw_SpringReciprocal_fn1_r3 : List IOp := [oI 7 (.mv (cI 0)) 0]
def claw_SpringReciprocal_fn1_r4 : List IOp := [mI 10 7 0, fI 11 0 2 0, lI 12 11 0, oI 13 (.bin .lss (.t 10) (.t 12)) 0]
def claw_SpringReciprocal_fn1_r5 : List IOp := [oI 8 (.mv (.c (.str ⟨#[48]⟩))) 0]
def claw_SpringReciprocal_fn1_r6 : List IOp := [mI 16 7 0, mI 17 0 0, oI 18 (.bin .eql (.t 16) (.t 17)) 0]
def claw_SpringReciprocal_fn1_r7 : List IOp := [oI 8 (.mv (.c (.str ⟨#[49]⟩))) 0]
def claw_SpringReciprocal_fn1_r8 : List IOp := [mI 19 7 0, mI 20 1 0, oI 21 (.bin .eql (.t 19) (.t 20)) 0]
def claw_SpringReciprocal_fn1_r9 : List IOp := [oI 8 (.mv (.c (.str ⟨#[45, 49]⟩))) 0]
def claw_SpringReciprocal_fn1_r10 : List IOp := [mI 22 6 0, mI 23 8 0, oI 24 (.bsl none 1 [.str ⟨#[]⟩] [(0, .t 23)]) 0, oI 25 (.app none 16 (.t 22) (.t 24)) 1, mI 6 25 2]
def claw_SpringReciprocal_fn1_r11 : List IOp := [mI 14 7 0, oI 15 (.bin .add (.t 14) (cI 1)) 0, mI 7 15 0]
def claw_SpringReciprocal_fn1_L1 : CC := .seq (.seq (.rg false claw_SpringReciprocal_fn1_r4) (.cond (.t 13) .skip (.exit 0))) (.seq (.block 1 (.seq (.rg false claw_SpringReciprocal_fn1_r5) (.seq (.seq (.rg false claw_SpringReciprocal_fn1_r6) (.cond (.t 18) (.rg false claw_SpringReciprocal_fn1_r7) .skip)) (.seq (.seq (.rg false claw_SpringReciprocal_fn1_r8) (.cond (.t 21) (.rg false claw_SpringReciprocal_fn1_r9) .skip)) (.rg false claw_SpringReciprocal_fn1_r10))))) (.rg false claw_SpringReciprocal_fn1_r11))
def claw_SpringReciprocal_fn1_r12 : List IOp := [mI 26 6 0, mI 5 26 0]
def claw_SpringReciprocal_fn1 : CC := .seq (.rg false claw_SpringReciprocal_fn1_r1) (.seq (.rg false claw_SpringReciprocal_fn1_r2) (.seq (.seq (.rg false claw_SpringReciprocal_fn1_r3) (.block 0 (.loop claw_SpringReciprocal_fn1_L1))) (.seq (.rg false claw_SpringReciprocal_fn1_r12) .ret)))
abbrev n_law_SpringReciprocal_fn1 : Nat := 50
theorem ok_law_SpringReciprocal_fn1 : fnOk Tryz.prog 50 = some (27, claw_SpringReciprocal_fn1, [.tmp 5]) := by kernel_rfl
end GoAbs
namespace GoAbs
open Go Go.Proofs
set_option exponentiation.threshold 20000
def txts (L : List (List UInt8)) : List AV := L.map fun l => .str (bs l)
theorem txts_len (L : List (List UInt8)) : (txts L).length = L.length := by simp [txts]
theorem txts_get {L : List (List UInt8)} {i : Nat} {l : List UInt8} (h : L[i]? = some l) : (txts L)[i]? = some (.str (bs l)) := by simp [txts, h]
def toQ (l : List UInt8) : Rat := (parseL l).getD 0
def vecR (L : List (List UInt8)) : AV := if ∀ l, l ∈ L → (parseL l).isSome = true then .tup [.sl (condsR (L.map toQ)), .bool true] else .tup [.nils, .bool false]
theorem vec_L1 {L : List (List UInt8)} (hl : ∀ l, l ∈ L → l.length ≤ 1000000000) (hL : L.length ≤ 1000000) {K : Ex → St → Prop}
    (hK : (∀ l, l ∈ L → (parseL l).isSome = true) → ∀ e : Nat → AV, e 4 = .osl (some 4) 0 0 L.length → K (.exit 0) ⟨e, [.cells (qc (L.map toQ))]⟩)
    (hK0 : (¬ ∀ l, l ∈ L → (parseL l).isSome = true) → ∀ e : Nat → AV, ∀ H, e 2 = .nils → e 3 = .bool false → K .ret ⟨e, H⟩) :
    T Tryz.prog 28 0 (.loop cspring_vector_L1) ⟨envL [(4, .osl (some 4) 0 0 0), (9, .sl (txts L)), (10, .int .i64 (L.length : Int)), (11, .int .i64 0)], [.cells []]⟩ K := by
  have hm : Tryz.prog.follows .mixedOrders = true := by kernel_rfl
  refine T_rounds (fun i : Nat => ⟨envL [(4, .osl (some 4) 0 0 i), (9, .sl (txts L)), (10, .int .i64 (L.length : Int)), (11, .int .i64 (i : Int))], [.cells (qc ((L.take i).map toQ))]⟩)
    (fun i => i ≤ L.length ∧ ∀ l, l ∈ L.take i → (parseL l).isSome = true) (fun i => L.length - i) 0 ⟨by omega, by simp⟩ (Le_keep _ (by simp only [go_sem]; simp)) (fun i hi N hN => ?_)
  obtain ⟨hi, hall⟩ := hi
  unfold cspring_vector_L1
  by_cases hin : i < L.length
  · obtain ⟨l, hli⟩ : ∃ l, L[i]? = some l := ⟨_, List.getElem?_eq_getElem hin⟩
    have hmem := List.mem_of_getElem? hli
    obtain ⟨c, t, hc, hcg, hcb, hsp, hct⟩ := parse_any (hl l hmem)
    have gl := txts_get hli
    have tk : L.take (i + 1) = L.take i ++ [l] := by rw [List.take_add_one, hli]; rfl
    have q0 : (0 : Int) ≤ (i : Int) := by omega
    have q1 : (i : Int) < (L.length : Int) := by omega
    have e1 : IntKind.i64.wrap ((i : Int) + 1) = ((i + 1 : Nat) : Int) := by rw [i64_id (by omega) (by omega)]; omega
    have l1 : (qc ((L.take i).map toQ)).length = i * 4 := by rw [qc_len, List.length_map, List.length_take]; congr 1; omega
    have l2 : (qc ((L.take i).map toQ)).take (i * 4) = qc ((L.take i).map toQ) := List.take_of_length_le (by omega)
    have l3 : i * 4 ≤ (qc ((L.take i).map toQ)).length := by omega
    have s1 : (i + 1) * 64 ≤ 1099511627776 := by omega
    have ct : c.take 4 = c := List.take_of_length_le (by omega)
    have cd : c.drop 4 = [] := List.drop_of_length_le (by omega)
    simp only [go_sem, cspring_vector_r4, cspring_vector_r5, cspring_vector_r6, q0, q1, gl]
    refine call_P hsp (by simp only [go_sem]) ?_
    rcases hct with ⟨rfl, q, hq, rfl⟩ | ⟨rfl, hq⟩
    · simp only [go_sem, cspring_vector_r7, cspring_vector_r9, cspring_vector_r10, hc, ct, cd, Bool.not_true, e1, l1, l2, l3, s1]
      refine ⟨Nat.le_refl _, hN (i + 1) _ ⟨by omega, ?_⟩ (by omega) ?_⟩
      · rw [tk]; intro y hy
        rcases List.mem_append.1 hy with h | h
        · exact hall y h
        · rw [List.mem_singleton.1 h, hq]; rfl
      · refine Le_eq (Le_gc [3] (by decide) (fun i hi => by omega) [(4, .osl (some 4) 3 0 (i + 1)), (9, .sl (txts L)), (10, .int .i64 (L.length : Int)), (11, .int .i64 ((i + 1 : Nat) : Int))] (by simp only [go_sem])) ?_
        have hqq : toQ l = q := by unfold toQ; rw [hq]; rfl
        have hss : qc ((L.take (i + 1)).map toQ) = qc ((L.take i).map toQ) ++ qcell q := by rw [tk, List.map_append, qc_append, ← hqq]; simp [qc]
        show St.mk _ [Blk.cells (gcL _ (qc ((L.take i).map toQ) ++ qcell q))] = _
        rw [← hss, gc_qc]
        rfl
    · simp only [go_sem, cspring_vector_r7, cspring_vector_r8, hc, ct, cd, Bool.not_false]
      exact hK0 (fun h => by have := h l hmem; rw [hq] at this; cases this) _ _ (by simp only [go_sem]) (by simp only [go_sem])
  · have hie : i = L.length := by omega
    subst hie
    have q1 : ¬ ((L.length : Nat) : Int) < (L.length : Int) := by omega
    rw [List.take_length] at hall ⊢
    simp only [go_sem, cspring_vector_r4, q1]
    exact hK hall _ (by simp only [go_sem])
theorem vector_spec {L : List (List UInt8)} (hl : ∀ l, l ∈ L → l.length ≤ 1000000000) (hL : L.length ≤ 1000000) : SpecV Tryz.prog n_spring_vector [.sl (txts L)] (vecR L) := by
  refine specV_T ok_spring_vector (by simp) (T_cut 1 rfl ?_)
  unfold cspring_vector
  simp only [go_sem, cspring_vector_r1, cspring_vector_r2]
  refine T_le (Le_row0 4 (some 4) (by simp only [go_sem]) [(0, .sl (txts L)), (2, .nils), (3, .bool false)] (by simp only [go_sem])) ?_
  refine T_W ?_
  simp only [go_sem, cspring_vector_r3, txts_len]
  refine T_keep [(4, .osl (some 4) 0 0 0), (9, .sl (txts L)), (10, .int .i64 (L.length : Int)), (11, .int .i64 0)] (by simp only [go_sem]) ?_
  refine vec_L1 hl hL (fun hall e e4 => ?_) (fun hall e H e2 e3 => ?_)
  · simp only [go_sem, cspring_vector_r11, e4, vecR, if_pos hall]
    have := bv_conds (H := [.cells (qc (L.map toQ))]) (ids := allOf [.cells (qc (L.map toQ))]) (b := 0) (r := L.map toQ) rfl (by simp [allOf])
    rwa [List.length_map] at this
  · simp only [go_sem, e2, e3, vecR, if_neg hall]
def sumQ (r : List Rat) : Rat := r.foldl (· + ·) 0
theorem fold_L1 {k : Nat} {r : List Rat} {z : List AV} (hr : Rb k r) (hk : 1 ≤ k) (hrl : r.length ≤ 1000) (hkl : k ≤ 1000000) (hz : ∀ f, gcL f z = z) {K : Ex → St → Prop}
    (hK : ∀ e : Nat → AV, e 4 = .ptr 0 0 → e 6 = .ptr 1 0 → K (.exit 0) ⟨e, [.cells (qcell (sumQ r)), .cells z]⟩) :
    T Tryz.prog 21 0 (.loop cspring_fold_L1) ⟨envL [(2, .fn n_Rat_Add [] []), (4, .ptr 0 0), (6, .ptr 1 0), (9, .sl (condsR r)), (10, .int .i64 (r.length : Int)), (11, .int .i64 0)], [.cells (qcell 0), .cells z]⟩ K := by
  have ql : ∀ q : Rat, (qcell q).length = 4 := fun q => rfl
  have qt : ∀ q : Rat, (qcell q).take 4 = qcell q := fun q => rfl
  have qd : ∀ q : Rat, (qcell q).drop 4 = [] := fun q => rfl
  have hbits : ∀ i, i ≤ r.length → Qb (k + i * (k + 1)) ((r.take i).foldl (· + ·) 0) := fun i => by
    induction i with
    | zero => intro _; exact Qb.zero (by omega)
    | succ i ih =>
      intro h
      rw [List.take_add_one, rget_some (show i < r.length by omega), List.foldl_append]
      have := (ih (by omega)).add2 (hr.get (j := i) (by omega))
      exact this.mono (by rw [Nat.succ_mul]; omega)
  refine T_rounds (fun i : Nat => ⟨envL [(2, .fn n_Rat_Add [] []), (4, .ptr 0 0), (6, .ptr 1 0), (9, .sl (condsR r)), (10, .int .i64 (r.length : Int)), (11, .int .i64 (i : Int))], [.cells (qcell ((r.take i).foldl (· + ·) 0)), .cells z]⟩)
    (fun i => i ≤ r.length) (fun i => r.length - i) 0 (by omega) (Le_keep _ (by simp only [go_sem]; simp)) (fun i hi N hN => ?_)
  unfold cspring_fold_L1
  by_cases hin : i < r.length
  · have gx := rget_some hin
    have gc := condsR_get gx
    have hb := hbits i hi
    have hm1 : i * (k + 1) ≤ 1000 * (k + 1) := Nat.mul_le_mul_right _ (by omega)
    have hadd := add_q (k := k + i * (k + 1)) hb ((hr.get hin).mono (by omega)) (by omega)
    have tk : (r.take (i + 1)).foldl (· + ·) 0 = (r.take i).foldl (· + ·) 0 + rget r i := by rw [List.take_add_one, gx, List.foldl_append]; rfl
    generalize (r.take i).foldl (· + ·) 0 = S at *
    have q0 : (0 : Int) ≤ (i : Int) := by omega
    have q1 : (i : Int) < (r.length : Int) := by omega
    have e1 : IntKind.i64.wrap ((i : Int) + 1) = ((i + 1 : Nat) : Int) := by rw [i64_id (by omega) (by omega)]; omega
    simp only [go_sem, cspring_fold_r3, cspring_fold_r4, cspring_fold_r5, q0, q1, gc, ql, qt, qd]
    refine call_P hadd (by simp only [go_sem, avQ_q, bvs_qcell]) ?_
    simp only [go_sem, avQ_q, ql, qt, qd, cspring_fold_r6, e1]
    refine hN (i + 1) _ (by omega) (by omega) (Le_eq (Le_gc [0, 1] (by decide) (fun i hi => by omega) [(2, .fn n_Rat_Add [] []), (4, .ptr 0 0), (6, .ptr 1 0), (9, .sl (condsR r)), (10, .int .i64 (r.length : Int)), (11, .int .i64 ((i + 1 : Nat) : Int))] (by simp only [go_sem])) ?_)
    show St.mk _ [Blk.cells (gcL _ (qcell (S + rget r i))), Blk.cells (gcL _ z)] = _
    rw [hz, tk]
    rfl
  · have hie : i = r.length := by omega
    subst hie
    have q1 : ¬ ((r.length : Nat) : Int) < (r.length : Int) := by omega
    rw [List.take_length]
    simp only [go_sem, cspring_fold_r3, q1]
    exact hK _ (by simp only [go_sem]) (by simp only [go_sem])
theorem fold_spec {k : Nat} {r : List Rat} (hr : Rb k r) (hk : 1 ≤ k) (hrl : r.length ≤ 1000) (hkl : k ≤ 1000000) : SpecV Tryz.prog n_spring_fold [.sl (condsR r), avQ 0, .fn n_Rat_Add [] []] (avQ (sumQ r)) := by
  have ql : ∀ q : Rat, (qcell q).length = 4 := fun q => rfl
  have qt : ∀ q : Rat, (qcell q).take 4 = qcell q := fun q => rfl
  have qd : ∀ q : Rat, (qcell q).drop 4 = [] := fun q => rfl
  refine specV_W ok_spring_fold (by simp) ?_
  unfold cspring_fold
  rw [avQ_q, avQ_q]
  simp only [go_sem, cspring_fold_r1, cspring_fold_r2, condsR_len]
  refine T_keep [(2, .fn n_Rat_Add [] []), (4, .ptr 0 0), (6, .ptr 1 0), (9, .sl (condsR r)), (10, .int .i64 (r.length : Int)), (11, .int .i64 0)] (by simp only [go_sem]) ?_
  refine fold_L1 hr hk hrl hkl (fun f => rfl) (fun e e4 e6 => ?_)
  simp only [go_sem, cspring_fold_r7, e4, e6, ql, qt, qd]
  rw [bvs_qcell]; trivial
theorem move_ok {m k : Nat} {L : List Spr} {E : List Sp} {F : List (List UInt8)} {x : List Rat} (hL : L.length ≤ 1000000000) (hl : ∀ s, s ∈ L → s.2.2.length ≤ 1000000000) (h : readR ((m + 1 : Nat) : Int) L = .tup [.agg (netC (m + 1) E), .int .i64 0])
    (hF : ∀ l, l ∈ F → l.length ≤ 1000000000 ∧ (parseL l).isSome = true) (hFl : F.length = m + 1) (hm : m ≤ 900) (hf : Rb k (F.map toQ)) (hk : 1 ≤ k) (hkl : k ≤ 1000000) (hs : sumQ (F.map toQ) = 0)
    (hE : InN (m + 1) E) (hEl : E.length ≤ 1000000000) (hc : connB (m + 1) E = true) (hmv : SpecV Tryz.prog n_net_move [.agg (netC (m + 1) E), .sl (condsR (F.map toQ))] (.sl (condsR x))) (hx : ∀ q, q ∈ x → Tx q.num.natAbs ∧ Tx q.den) (hxl : x.length ≤ 1000000) :
    SpecV Tryz.prog n_spring_Move [.int .i64 ((m + 1 : Nat) : Int), .sl (L.map sprAV), .sl (txts F)] (numsR x) := by
  have hr := netread_spec (n := ((m + 1 : Nat) : Int)) hL hl
  rw [h] at hr
  have hv := vector_spec (L := F) (fun l h => (hF l h).1) (by omega)
  unfold vecR at hv
  rw [if_pos (fun l h => (hF l h).2)] at hv
  have hcon := connected_spec (n := m + 1) (E := E) (by omega) (by omega) hE hEl
  rw [hc] at hcon
  have hfo := fold_spec hf hk (by rw [List.length_map]; omega) hkl
  rw [hs] at hfo
  have hsg := sign_q 0
  rw [if_pos rfl] at hsg
  have hns := nums_spec hx hxl
  obtain ⟨nc, hnc⟩ : ∃ nc, nc = netC (m + 1) E := ⟨_, rfl⟩
  have hn3 : nc.length = 3 := by rw [hnc]; rfl
  have t3 : nc.drop 3 = [] := by rw [hnc]; rfl
  have k3 : nc.take 3 = nc := by rw [hnc]; rfl
  have hbv : ∀ (H : Heap) (ids : List Nat), BVs H ids nc nc = True := fun H ids => by rw [hnc]; unfold netC; simp only [go_sem]
  rw [← hnc] at hr hcon hmv
  have h02 : ¬ (0 : Int) = 2 := by decide
  have hcl : (condsR (F.map toQ)).length = m + 1 := by rw [condsR_len, List.length_map, hFl]
  have bq : ∀ (H : Heap) (ids : List Nat) (q : Rat), BVs H ids (qcell q) (qcell q) = True := fun H ids q => bvs_qcell
  refine specV_W ok_spring_Move (by simp) ?_
  unfold cspring_Move
  simp only [go_sem, cspring_Move_r1, cspring_Move_r2]
  refine call_P hr (by simp only [go_sem]) ?_
  simp only [go_sem, cspring_Move_r3, hn3, t3]
  refine call_P hv (by simp only [go_sem]) ?_
  simp only [go_sem, cspring_Move_r4, cspring_Move_r6, h02, Bool.not_true, hcl]
  simp only [go_sem, cspring_Move_r8, hn3, t3, k3]
  refine call_P hcon (by simp only [go_sem, hbv]) ?_
  simp only [go_sem, Bool.not_true]
  refine call_P zero_q (by simp only [go_sem]) ?_
  simp only [go_sem]
  refine call_P hfo (by simp only [go_sem, avQ_q, bq]; exact BV.fn _ _ _ _ _ rfl rfl (fun i x y h => by simp at h) (fun i x y h => by simp at h)) ?_
  simp only [go_sem]
  refine call_P hsg (by simp only [go_sem, avQ_q, bq]) ?_
  simp only [go_sem, cspring_Move_r10, hn3, t3, k3]
  refine call_P hmv (by simp only [go_sem, hbv]) ?_
  simp only [go_sem]
  refine call_P hns (by simp only [go_sem]) ?_
  unfold numsR
  by_cases hall : ∀ q, q ∈ x → NumOk q
  · simp only [if_pos hall, go_sem]
  · simp only [if_neg hall, go_sem]
theorem move_spring {m : Nat} {L : List Spr} {E : List Sp} {F : List (List UInt8)} (hE : E = L.map toE) (hL : L.length ≤ 40) (hl : ∀ s, s ∈ L → s.2.2.length ≤ 1000000000) (h : readR ((m + 1 : Nat) : Int) L = .tup [.agg (netC (m + 1) E), .int .i64 0]) (ho : NetOk (m + 1) E) (hm5 : m ≤ 5) (hc : connE (m + 1) E)
    (hF : ∀ l, l ∈ F → l.length ≤ 1000000000 ∧ (parseL l).isSome = true) (hFl : F.length = m + 1) (hf : Rb 10947 (F.map toQ)) (hs : sumQ (F.map toQ) = 0) :
    SpecV Tryz.prog n_spring_Move [.int .i64 ((m + 1 : Nat) : Int), .sl (L.map sprAV), .sl (txts F)] (numsR (moveX m E (F.map toQ))) := by
  have hEl : E.length ≤ 40 := by rw [hE, List.length_map]; exact hL
  obtain ⟨_, _, hI⟩ := pos_E ho
  have hcB : connB (m + 1) E = true := by rw [conn_iff (by omega) hI, decide_eq_true hc]
  obtain ⟨hmv, hxb⟩ := move_full ho hm5 hEl hc (f := F.map toQ) (by rw [List.length_map, hFl]) hf
  exact move_ok (by omega) hl h hF hFl (by omega) hf (by omega) (by omega) hs hI (by omega) hcB hmv (fun q hq => ⟨tx_bits (hxb q hq).n (by omega), tx_bits (hxb q hq).d (by omega)⟩) (by unfold moveX; rw [List.length_cons, bsub_len]; omega)
end GoAbs
namespace GoAbs
open Go Go.Proofs
set_option exponentiation.threshold 20000
def lt1 (a b i : Nat) : List UInt8 := if i = b then [45, 49] else if i = a then [49] else [48]
def loadT (n a b : Nat) : List (List UInt8) := (List.range n).map (lt1 a b)
theorem loadT_succ {n a b : Nat} : loadT (n + 1) a b = loadT n a b ++ [lt1 a b n] := by unfold loadT; rw [List.range_succ, List.map_append]; rfl
theorem bv_txts {H : Heap} {ids : List Nat} {b : Nat} {L : List (List UInt8)} (hb : H[b]? = some (.cells (txts L))) (hi : b ∈ ids) : BV H ids (.osl none b 0 L.length) (.sl (txts L)) := by
  refine .osl none b 0 L.length (txts L) (txts L) hb hi (txts_len L) (fun y hy => ?_) (by rw [txts_len]; simp [es]) (fun i y j z w hy hz hw => ?_)
  · obtain ⟨c, _, rfl⟩ := List.mem_map.1 hy; rfl
  · obtain ⟨c, _, rfl⟩ := List.mem_map.1 (List.mem_of_getElem? hy)
    have hj : j = 0 := by
      have := (List.getElem?_eq_some_iff.1 hz).1
      simp [AV.cells] at this; omega
    subst hj
    simp [AV.cells] at hz
    subst hz
    simp [es] at hw
    rw [hy] at hw
    cases hw
    exact .str _
theorem gc_txts {f : Nat → Option Nat} {L : List (List UInt8)} : gcL f (txts L) = txts L := by
  rw [gcL_map]; unfold txts; rw [List.map_map]; rfl
theorem load_L1 {n a b : Nat} {ls : AV} (hn : n ≤ 1000) {K : Ex → St → Prop}
    (hK : ∀ e : Nat → AV, e 6 = .osl none 0 0 n → K (.exit 0) ⟨e, [.cells (txts (loadT n a b))]⟩) :
    T Tryz.prog 27 0 (.loop claw_SpringReciprocal_fn1_L1) ⟨envL [(0, .int .i64 (a : Int)), (1, .int .i64 (b : Int)), (2, .rp [.int .i64 (n : Int), ls]), (6, .osl none 0 0 0), (7, .int .i64 0)], [.cells []]⟩ K := by
  have hm : Tryz.prog.follows .mixedOrders = true := by kernel_rfl
  refine T_rounds (fun i : Nat => ⟨envL [(0, .int .i64 (a : Int)), (1, .int .i64 (b : Int)), (2, .rp [.int .i64 (n : Int), ls]), (6, .osl none 0 0 i), (7, .int .i64 (i : Int))], [.cells (txts (loadT i a b))]⟩)
    (fun i => i ≤ n) (fun i => n - i) 0 (by omega) (Le_keep _ (by simp only [go_sem]; simp)) (fun i hi N hN => ?_)
  unfold claw_SpringReciprocal_fn1_L1
  by_cases hin : i < n
  · have q1 : (i : Int) < (n : Int) := by omega
    have e1 : IntKind.i64.wrap ((i : Int) + 1) = ((i + 1 : Nat) : Int) := by rw [i64_id (by omega) (by omega)]; omega
    have l0 : (loadT i a b).length = i := by simp [loadT]
    have l1 : (txts (loadT i a b)).length = i := by rw [txts_len, l0]
    have l2 : (txts (loadT i a b)).take i = txts (loadT i a b) := List.take_of_length_le (by omega)
    have s1 : (i + 1) * 16 ≤ 1099511627776 := by omega
    have fin : ∀ (e : Nat → AV) (t : List UInt8) (bl : Blk), lt1 a b i = t → Has e [(0, .int .i64 (a : Int)), (1, .int .i64 (b : Int)), (2, .rp [.int .i64 (n : Int), ls]), (6, .osl none 2 0 (i + 1)), (7, .int .i64 ((i + 1 : Nat) : Int))] → N ⟨e, [.dead, bl, .cells (txts (loadT i a b) ++ [.str (bs t)])]⟩ := fun e t bl ht he => by
      refine hN (i + 1) _ (by omega) (by omega) (Le_eq (Le_gc [2] (by decide) (fun i hi => by omega) _ he) ?_)
      have hs : txts (loadT (i + 1) a b) = txts (loadT i a b) ++ [.str (bs t)] := by rw [loadT_succ, ht]; unfold txts; rw [List.map_append]; rfl
      show St.mk _ [Blk.cells (gcL _ (txts (loadT i a b) ++ [.str (bs t)]))] = _
      rw [← hs, gc_txts]
      rfl
    have b0 : (⟨#[48]⟩ : ByteArray) = bs [48] := rfl
    have b1 : (⟨#[49]⟩ : ByteArray) = bs [49] := rfl
    have b2 : (⟨#[45, 49]⟩ : ByteArray) = bs [45, 49] := rfl
    by_cases ha : i = a <;> by_cases hb : i = b
    · have ha' : (i : Int) = (a : Int) := by omega
      have hb' : (i : Int) = (b : Int) := by omega
      have hab : (a : Int) = (b : Int) := by omega
      have e1a : IntKind.i64.wrap ((b : Int) + 1) = ((i + 1 : Nat) : Int) := by rw [← hb']; exact e1
      have q1a : (b : Int) < (n : Int) := by omega
      have ht : lt1 a b i = [45, 49] := by unfold lt1; rw [if_pos hb]
      simp only [go_sem, claw_SpringReciprocal_fn1_r4, claw_SpringReciprocal_fn1_r5, claw_SpringReciprocal_fn1_r6, claw_SpringReciprocal_fn1_r7, claw_SpringReciprocal_fn1_r8, claw_SpringReciprocal_fn1_r9, claw_SpringReciprocal_fn1_r10, claw_SpringReciprocal_fn1_r11, ha', hab, q1a, e1a, l1, l2, s1, b2]
      exact ⟨Nat.le_refl _, fin _ _ _ ht (by simp only [go_sem]; exact hab.symm)⟩
    · have ha' : (i : Int) = (a : Int) := by omega
      have hb' : ¬ (a : Int) = (b : Int) := by omega
      have e1a : IntKind.i64.wrap ((a : Int) + 1) = ((i + 1 : Nat) : Int) := by rw [← ha']; exact e1
      have q1a : (a : Int) < (n : Int) := by omega
      have ht : lt1 a b i = [49] := by unfold lt1; rw [if_neg hb, if_pos ha]
      simp only [go_sem, claw_SpringReciprocal_fn1_r4, claw_SpringReciprocal_fn1_r5, claw_SpringReciprocal_fn1_r6, claw_SpringReciprocal_fn1_r7, claw_SpringReciprocal_fn1_r8, claw_SpringReciprocal_fn1_r10, claw_SpringReciprocal_fn1_r11, ha', hb', q1a, e1a, l1, l2, s1, b1]
      exact ⟨Nat.le_refl _, fin _ _ _ ht (by simp only [go_sem])⟩
    · have ha' : ¬ (b : Int) = (a : Int) := by omega
      have hb' : (i : Int) = (b : Int) := by omega
      have e1a : IntKind.i64.wrap ((b : Int) + 1) = ((i + 1 : Nat) : Int) := by rw [← hb']; exact e1
      have q1a : (b : Int) < (n : Int) := by omega
      have ht : lt1 a b i = [45, 49] := by unfold lt1; rw [if_pos hb]
      simp only [go_sem, claw_SpringReciprocal_fn1_r4, claw_SpringReciprocal_fn1_r5, claw_SpringReciprocal_fn1_r6, claw_SpringReciprocal_fn1_r8, claw_SpringReciprocal_fn1_r9, claw_SpringReciprocal_fn1_r10, claw_SpringReciprocal_fn1_r11, ha', hb', q1a, e1a, l1, l2, s1, b2]
      exact ⟨Nat.le_refl _, fin _ _ _ ht (by simp only [go_sem])⟩
    · have ha' : ¬ (i : Int) = (a : Int) := by omega
      have hb' : ¬ (i : Int) = (b : Int) := by omega
      have ht : lt1 a b i = [48] := by unfold lt1; rw [if_neg hb, if_neg ha]
      simp only [go_sem, claw_SpringReciprocal_fn1_r4, claw_SpringReciprocal_fn1_r5, claw_SpringReciprocal_fn1_r6, claw_SpringReciprocal_fn1_r8, claw_SpringReciprocal_fn1_r10, claw_SpringReciprocal_fn1_r11, ha', hb', q1, e1, l1, l2, s1, b0]
      exact ⟨Nat.le_refl _, fin _ _ _ ht (by simp only [go_sem])⟩
  · have hie : i = n := by omega
    subst hie
    have q1 : ¬ ((i : Nat) : Int) < (i : Int) := by omega
    simp only [go_sem, claw_SpringReciprocal_fn1_r4, q1]
    exact hK _ (by simp only [go_sem])
theorem lload {n a b : Nat} {ls : AV} (hn : n ≤ 1000) (hls : ∀ H ids, BV H ids ls ls) : SpecV Tryz.prog n_law_SpringReciprocal_fn1 [.int .i64 (a : Int), .int .i64 (b : Int), .rp [.int .i64 (n : Int), ls]] (.sl (txts (loadT n a b))) := by
  refine specV_T ok_law_SpringReciprocal_fn1 (by simp) (T_cut 1 rfl ?_)
  unfold claw_SpringReciprocal_fn1
  simp only [go_sem, claw_SpringReciprocal_fn1_r1, claw_SpringReciprocal_fn1_r2]
  refine T_le (Le_row0 6 none (by simp only [go_sem]) [(0, .int .i64 (a : Int)), (1, .int .i64 (b : Int)), (2, .rp [.int .i64 (n : Int), ls])] (by simp only [go_sem])) ?_
  refine T_W ?_
  simp only [go_sem, claw_SpringReciprocal_fn1_r3]
  refine T_keep [(0, .int .i64 (a : Int)), (1, .int .i64 (b : Int)), (2, .rp [.int .i64 (n : Int), ls]), (6, .osl none 0 0 0), (7, .int .i64 0)] (by simp only [go_sem]) ?_
  refine load_L1 hn (fun e e6 => ?_)
  simp only [go_sem, claw_SpringReciprocal_fn1_r12, e6]
  have := bv_txts (H := [.cells (txts (loadT n a b))]) (ids := allOf [.cells (txts (loadT n a b))]) (b := 0) (L := loadT n a b) rfl (by simp [allOf])
  rwa [show (loadT n a b).length = n by simp [loadT]] at this
end GoAbs
namespace GoAbs
open Go Go.Proofs
set_option exponentiation.threshold 20000
theorem move_sol {m : Nat} {E : List Sp} {f : List Rat} (h : NetC (m + 1) E) (hf : f.length = m + 1) : Sol (m + 1) E (rget (moveX m E f)) (rget f) := fun i hi => by
  obtain ⟨hp, hP, hI⟩ := pos_E h.ok
  have hd := h.dt.1
  have hi' := List.mem_range'_1.1 hi
  have hs := (net_solve (m := m) (E := E) (r := f.drop 1) (fun e he => ⟨by have := (hI e he).1; omega, by have := (hI e he).2; omega, (h.ok.e e he).2.2.1, hP e he⟩) (by rw [List.length_drop]; omega) hd).2.2.2 i (by rw [List.mem_range'_1]; omega)
  rw [drop1_get, show i - 1 + 1 = i by omega] at hs
  exact hs
theorem move_zero {m : Nat} {E : List Sp} {f : List Rat} : rget (moveX m E f) 0 = 0 := rfl
theorem move_len {m : Nat} {E : List Sp} {f : List Rat} : (moveX m E f).length = m + 1 := by unfold moveX; rw [List.length_cons, bsub_len]
theorem dot_diff {m p q : Nat} {x : Nat → Rat} (hp : p < m + 1) (hq : q < m + 1) (h0 : x 0 = 0) : dotN (m + 1) (edge p q) x = x p - x q := by
  unfold dotN
  exact sumL_edge (by omega) (by omega) h0
def Gr (n : Nat) (E : List Sp) (a b : Nat) : Rat := if a = b then 0 else oneF n a b E
theorem Rr_Gr {n a b : Nat} {E : List Sp} : Rr n E a b = Gr n E a b / Fsum n id (n - 1) E := by
  unfold Rr Gr; split
  · grind
  · rfl
theorem NetL.netC {n : Nat} {L : List Spr} (h : NetL n L) (h2 : 2 ≤ n) (h6 : n ≤ 6) (hc : connE n (L.map toE)) : NetC n (L.map toE) := ⟨(h.read h2 h6).2, hc⟩
theorem NetL.grb {n a b : Nat} {L : List Spr} (h : NetL n L) (h2 : 2 ≤ n) (ha : a < n) (hb : b < n) : Qb 900 (Gr n (L.map toE) a b) := by
  unfold Gr
  split
  · exact Qb.zero (by omega)
  · rename_i hab
    rw [oneF_trees h2 h ha hb hab]
    have hone := one_net h (low := min a b) (high := max a b) (by omega) (by omega)
    have c : 10 ^ 260 < 2 ^ 900 := by decide +kernel
    exact ⟨Nat.lt_trans hone.size.1 c, Nat.lt_trans hone.size.2 c⟩
theorem unit_diff2 {m a b p q : Nat} {L : List Spr} (h : NetL (m + 1) L) (hm5 : m ≤ 5) (hm : 1 ≤ m) (hc : connE (m + 1) (L.map toE)) (ha : a < m + 1) (hb : b < m + 1) (hp : p < m + 1) (hq : q < m + 1) {x : Nat → Rat} (hx : Sol (m + 1) (L.map toE) x (edge a b)) (h0 : x 0 = 0) :
    Qb 4505 (x p - x q) := by
  have hn := h.netC (by omega) (by omega) hc
  have ht := hn.transfer ha hb hp hq hx
  rw [dot_diff hp hq h0] at ht
  rw [ht, Rr_Gr, Rr_Gr, Rr_Gr, Rr_Gr]
  have hD := hn.dt.2
  have kD : Qb 900 (Fsum (m + 1) id (m + 1 - 1) (L.map toE)) := by
    have c : 10 ^ 260 < 2 ^ 900 := by decide +kernel
    exact ⟨Nat.lt_trans h.size.1 c, Nat.lt_trans h.size.2 c⟩
  have g1 := h.grb (a := p) (b := b) (by omega) hp hb
  have g2 := h.grb (a := q) (b := a) (by omega) hq ha
  have g3 := h.grb (a := p) (b := a) (by omega) hp ha
  have g4 := h.grb (a := q) (b := b) (by omega) hq hb
  generalize Fsum (m + 1) id (m + 1 - 1) (L.map toE) = D at *
  generalize Gr (m + 1) (L.map toE) p b = A at *
  generalize Gr (m + 1) (L.map toE) q a = B at *
  generalize Gr (m + 1) (L.map toE) p a = C at *
  generalize Gr (m + 1) (L.map toE) q b = F at *
  have hD0 : D ≠ 0 := by grind
  have e : (A / D + B / D - C / D - F / D) / 2 = (A + B - C - F) / (2 * D) := by grind
  rw [e]
  have k2 : Qb 2 (2 : Rat) := ⟨by decide +kernel, by decide +kernel⟩
  exact ((((g1.add2 g2).sub2 g3).sub2 g4).div2 (k2.mul2 kD) (by grind)).mono (by omega)
theorem numok_bits {k : Nat} {q : Rat} (h : Qb k q) (hk : k ≤ 12000) : NumOk q := by
  have e : 2 ^ k ≤ 10 ^ 4000 := by
    have h1 : 2 ^ k ≤ 2 ^ 12000 := Nat.pow_le_pow_right (by omega) hk
    have h2 : 2 ^ 12000 = 8 ^ 4000 := by rw [show (8 : Nat) = 2 ^ 3 by decide, ← Nat.pow_mul]
    have h3 : 8 ^ 4000 ≤ 10 ^ 4000 := Nat.pow_le_pow_left (by omega) _
    rw [h2] at h1
    exact Nat.le_trans h1 h3
  exact ⟨decL_le (by omega) (Nat.lt_of_lt_of_le h.n e), .inr (decL_le (by omega) (Nat.lt_of_lt_of_le h.d e))⟩
theorem toQ_lt {a b i : Nat} (hab : a ≠ b) : toQ (lt1 a b i) = edge a b i := by
  have h0 : parseL [48] = some 0 := by decide +kernel
  have h1 : parseL [49] = some 1 := by decide +kernel
  have h2 : parseL [45, 49] = some (-1) := by decide +kernel
  unfold toQ lt1 edge
  by_cases hb : i = b
  · rw [if_pos hb, h2, if_neg (fun h => hab (h.symm.trans hb)), if_pos hb]; decide +kernel
  · by_cases ha : i = a
    · rw [if_neg hb, if_pos ha, h1, if_pos ha, if_neg hb]; decide +kernel
    · rw [if_neg hb, if_neg ha, h0, if_neg ha, if_neg hb]; decide +kernel
theorem rget_range {n i : Nat} {f : Nat → Rat} (hi : i < n) : rget ((List.range n).map f) i = f i := by
  unfold rget
  rw [List.getD_eq_getElem?_getD, List.getElem?_map, List.getElem?_range hi]; rfl
theorem load_map {n a b : Nat} (hab : a ≠ b) : (loadT n a b).map toQ = (List.range n).map (edge a b) := by
  unfold loadT
  rw [List.map_map]
  exact List.map_congr_left fun i _ => toQ_lt hab
theorem sumQ_map {R : List Nat} {f : Nat → Rat} : sumQ (R.map f) = sumL R f := by
  have : ∀ (R : List Nat) (s : Rat), (R.map f).foldl (· + ·) s = s + sumL R f := fun R => by
    induction R with
    | nil => intro s; rw [sumL_nil]; show s = s + 0; grind
    | cons r R ih => intro s; rw [List.map_cons, List.foldl_cons, ih, sumL_cons]; grind
  unfold sumQ
  rw [this]; grind
theorem sum_edge {n a b : Nat} (ha : a < n) (hb : b < n) : sumL (List.range n) (edge a b) = 0 := by
  have h : ∀ c, c < n → sumL (List.range n) (fun i => (if i = c then (1 : Rat) else 0)) = 1 := fun c hc => by
    have := sumL_pick (R := List.range n) (a := c) (x := fun _ => 1) List.nodup_range
    rw [if_pos (List.mem_range.2 hc)] at this
    rw [← this]
    exact sumL_congr (fun i _ => by grind)
  have e : sumL (List.range n) (edge a b) = sumL (List.range n) (fun i => (if i = a then (1 : Rat) else 0)) + (-1) * sumL (List.range n) (fun i => (if i = b then (1 : Rat) else 0)) := by
    rw [← sumL_mul, ← sumL_add]
    exact sumL_congr (fun i _ => by unfold edge; grind)
  rw [e, h a ha, h b hb]; grind
theorem edge_small {a b i : Nat} (hab : a ≠ b) : edge a b i = 0 ∨ edge a b i = 1 ∨ edge a b i = -1 := by
  unfold edge
  by_cases h1 : i = a <;> by_cases h2 : i = b <;> simp [h1, h2, hab] <;> grind
theorem edge_bits {a b i : Nat} (hab : a ≠ b) : Qb 2 (edge a b i) := by
  rcases edge_small (i := i) hab with h | h | h <;> rw [h] <;> exact ⟨by decide +kernel, by decide +kernel⟩
end GoAbs
namespace GoAbs
open Go Go.Proofs
set_option exponentiation.threshold 20000
theorem parse_lt {a b i : Nat} (hab : a ≠ b) : parseL (lt1 a b i) = some (edge a b i) := by
  have h0 : parseL [48] = some 0 := by decide +kernel
  have h1 : parseL [49] = some 1 := by decide +kernel
  have h2 : parseL [45, 49] = some (-1) := by decide +kernel
  have h := toQ_lt (i := i) hab
  unfold toQ at h
  unfold lt1 at h ⊢
  by_cases hb : i = b
  · rw [if_pos hb] at h ⊢; rw [h2] at h ⊢; rw [← h]; rfl
  · by_cases ha : i = a
    · rw [if_neg hb, if_pos ha] at h ⊢; rw [h1] at h ⊢; rw [← h]; rfl
    · rw [if_neg hb, if_neg ha] at h ⊢; rw [h0] at h ⊢; rw [← h]; rfl
theorem lt1_len {a b i : Nat} : (lt1 a b i).length ≤ 2 := by
  unfold lt1
  (repeat' split) <;> decide
def bothQ (a b c d i : Nat) : Rat := edge a b i + edge c d i
def bothT (n a b c d : Nat) : List (List UInt8) := (List.range n).map fun i => numS (bothQ a b c d i)
theorem bothT_succ {n a b c d : Nat} : bothT (n + 1) a b c d = bothT n a b c d ++ [numS (bothQ a b c d n)] := by unfold bothT; rw [List.range_succ, List.map_append]; rfl
theorem both_ok {a b c d i : Nat} (hab : a ≠ b) (hcd : c ≠ d) : NumOk (bothQ a b c d i) ∧ Qb 5 (bothQ a b c d i) := by
  have h := (edge_bits (i := i) hab).add2 (edge_bits (i := i) hcd)
  exact ⟨numok_bits h (by omega), h⟩
theorem rec_L1 {n a b c d : Nat} {ls : AV} (hn : n ≤ 1000) (hab : a ≠ b) (hcd : c ≠ d) {K : Ex → St → Prop}
    (hK : ∀ e : Nat → AV, e 7 = .rp [.int .i64 (n : Int), ls] → e 8 = .int .i64 (a : Int) → e 9 = .int .i64 (b : Int) → e 10 = .int .i64 (c : Int) → e 11 = .int .i64 (d : Int) → e 13 = .sl (txts (loadT n a b)) → e 14 = .sl (txts (loadT n c d)) → e 15 = .osl none 0 0 n → K (.exit 0) ⟨e, [.cells (txts (bothT n a b c d))]⟩) :
    T Tryz.prog 218 0 (.loop claw_SpringReciprocal_L1) ⟨envL [(7, .rp [.int .i64 (n : Int), ls]), (8, .int .i64 (a : Int)), (9, .int .i64 (b : Int)), (10, .int .i64 (c : Int)), (11, .int .i64 (d : Int)), (13, .sl (txts (loadT n a b))), (14, .sl (txts (loadT n c d))), (15, .osl none 0 0 0), (16, .int .i64 0)], [.cells []]⟩ K := by
  have hm : Tryz.prog.follows .mixedOrders = true := by kernel_rfl
  refine T_rounds (fun i : Nat => ⟨envL [(7, .rp [.int .i64 (n : Int), ls]), (8, .int .i64 (a : Int)), (9, .int .i64 (b : Int)), (10, .int .i64 (c : Int)), (11, .int .i64 (d : Int)), (13, .sl (txts (loadT n a b))), (14, .sl (txts (loadT n c d))), (15, .osl none 0 0 i), (16, .int .i64 (i : Int))], [.cells (txts (bothT i a b c d))]⟩)
    (fun i => i ≤ n) (fun i => n - i) 0 (by omega) (Le_keep _ (by simp only [go_sem]; simp)) (fun i hi N hN => ?_)
  unfold claw_SpringReciprocal_L1
  by_cases hin : i < n
  · have q0 : (0 : Int) ≤ (i : Int) := by omega
    have q1 : (i : Int) < (n : Int) := by omega
    have e1 : IntKind.i64.wrap ((i : Int) + 1) = ((i + 1 : Nat) : Int) := by rw [i64_id (by omega) (by omega)]; omega
    have gf : (txts (loadT n a b))[i]? = some (.str (bs (lt1 a b i))) := txts_get (by unfold loadT; rw [List.getElem?_map, List.getElem?_range hin]; rfl)
    have gg : (txts (loadT n c d))[i]? = some (.str (bs (lt1 c d i))) := txts_get (by unfold loadT; rw [List.getElem?_map, List.getElem?_range hin]; rfl)
    have lf : (txts (loadT n a b)).length = n := by rw [txts_len]; simp [loadT]
    have lg : (txts (loadT n c d)).length = n := by rw [txts_len]; simp [loadT]
    have o1 := rof (l := lt1 a b i) (by have := lt1_len (a := a) (b := b) (i := i); omega) (parse_lt hab)
    have o2 := rof (l := lt1 c d i) (by have := lt1_len (a := c) (b := d) (i := i); omega) (parse_lt hcd)
    have b1 := (edge_bits (i := i) hab).ib
    have b2 := (edge_bits (i := i) hcd).ib
    have hadd := raddq b1.1 b1.2 b2.1 b2.2 (by omega)
    have hd : ((edge c d i).den : Int) ≠ 0 := by have := (edge c d i).den_pos; omega
    have hsum := q_add (q := edge a b i) (w := edge c d i) hd (Rat.num_divInt_den _).symm
    have hnum := rnum (k := 5) (Ib.add (k := 4) ((b1.1.mul b2.2).mono (by omega)) ((b2.1.mul b1.2).mono (by omega))) ((b1.2.mul b2.2).mono (by omega)) (Int.mul_pos (by have := (edge a b i).den_pos; omega) (by omega)) (by omega) hsum
    have hok : NumOk (edge a b i + edge c d i) := (both_ok (i := i) hab hcd).1
    rw [if_pos hok] at hnum
    have l0 : (bothT i a b c d).length = i := by simp [bothT]
    have l1 : (txts (bothT i a b c d)).length = i := by rw [txts_len, l0]
    have l2 : (txts (bothT i a b c d)).take i = txts (bothT i a b c d) := List.take_of_length_le (by omega)
    have s1 : (i + 1) * 16 ≤ 1099511627776 := by omega
    simp only [go_sem, claw_SpringReciprocal_r9, claw_SpringReciprocal_r10, q0, q1, gf, gg, lf, lg, hm]
    refine call_P o1 (by simp only [go_sem]) ?_
    simp only [go_sem, q0, q1, gg, lg]
    refine call_P o2 (by simp only [go_sem]) ?_
    simp only [go_sem]
    refine call_P hadd (by simp only [go_sem, avR, bvs_rc]) ?_
    simp only [go_sem]
    refine call_P hnum (by simp only [go_sem, avR, bvs_rc]) ?_
    simp only [go_sem, claw_SpringReciprocal_r11, claw_SpringReciprocal_r12, e1, l1, l2, s1]
    refine ⟨Nat.le_refl _, hN (i + 1) _ (by omega) (by omega) (Le_eq (Le_gc [2] (by decide) (fun i hi => by omega) [(7, .rp [.int .i64 (n : Int), ls]), (8, .int .i64 (a : Int)), (9, .int .i64 (b : Int)), (10, .int .i64 (c : Int)), (11, .int .i64 (d : Int)), (13, .sl (txts (loadT n a b))), (14, .sl (txts (loadT n c d))), (15, .osl none 2 0 (i + 1)), (16, .int .i64 ((i + 1 : Nat) : Int))] (by simp only [go_sem])) ?_)⟩
    have hs : txts (bothT (i + 1) a b c d) = txts (bothT i a b c d) ++ [.str (bs (numS (edge a b i + edge c d i)))] := by rw [bothT_succ]; unfold txts bothQ; rw [List.map_append]; rfl
    show St.mk _ [Blk.cells (gcL _ (txts (bothT i a b c d) ++ [.str (bs (numS (edge a b i + edge c d i)))]))] = _
    rw [← hs, gc_txts]
    rfl
  · have hie : i = n := by omega
    subst hie
    have q1 : ¬ ((i : Nat) : Int) < (i : Int) := by omega
    simp only [go_sem, claw_SpringReciprocal_r9, q1]
    exact hK _ (by simp only [go_sem]) (by simp only [go_sem]) (by simp only [go_sem]) (by simp only [go_sem]) (by simp only [go_sem]) (by simp only [go_sem]) (by simp only [go_sem]) (by simp only [go_sem])
theorem ss_get {x : List Rat} {i : Nat} (hi : i < x.length) : (ss x)[i]? = some (.str (bs (numS (rget x i)))) := by
  unfold ss; rw [List.getElem?_map, rget_some hi]; rfl
theorem rec_L2 {n : Nat} {a b c d : Int} {ls : AV} {U V W : List Rat} (hn : n ≤ 1000) (hU : U.length = n) (hV : V.length = n) (hW : W.length = n) (bU : Rb 4505 U) (bV : Rb 4505 V) (hs : ∀ i, i < n → rget W i = rget U i + rget V i) {K : Ex → St → Prop}
    (hK : ∀ e : Nat → AV, e 8 = .int .i64 a → e 9 = .int .i64 b → e 10 = .int .i64 c → e 11 = .int .i64 d → e 19 = .sl (ss U) → e 21 = .sl (ss V) → K (.exit 2) ⟨e, []⟩) :
    T Tryz.prog 218 0 (.loop claw_SpringReciprocal_L2) ⟨envL [(7, .rp [.int .i64 (n : Int), ls]), (8, .int .i64 a), (9, .int .i64 b), (10, .int .i64 c), (11, .int .i64 d), (19, .sl (ss U)), (21, .sl (ss V)), (23, .sl (ss W)), (25, .int .i64 0)], []⟩ K := by
  have hm : Tryz.prog.follows .mixedOrders = true := by kernel_rfl
  refine T_rounds (fun i : Nat => ⟨envL [(7, .rp [.int .i64 (n : Int), ls]), (8, .int .i64 a), (9, .int .i64 b), (10, .int .i64 c), (11, .int .i64 d), (19, .sl (ss U)), (21, .sl (ss V)), (23, .sl (ss W)), (25, .int .i64 (i : Int))], []⟩)
    (fun i => i ≤ n) (fun i => n - i) 0 (by omega) (Le_keep _ (by simp only [go_sem]; simp)) (fun i hi N hN => ?_)
  unfold claw_SpringReciprocal_L2
  by_cases hin : i < n
  · have q0 : (0 : Int) ≤ (i : Int) := by omega
    have q1 : (i : Int) < (n : Int) := by omega
    have e1 : IntKind.i64.wrap ((i : Int) + 1) = ((i + 1 : Nat) : Int) := by rw [i64_id (by omega) (by omega)]; omega
    have g1 := ss_get (x := U) (i := i) (by omega)
    have g2 := ss_get (x := V) (i := i) (by omega)
    have g3 := ss_get (x := W) (i := i) (by omega)
    have l1 : (ss U).length = n := by rw [ss_len, hU]
    have l2 : (ss V).length = n := by rw [ss_len, hV]
    have l3 : (ss W).length = n := by rw [ss_len, hW]
    have qU := bU.get (j := i) (by omega)
    have qV := bV.get (j := i) (by omega)
    have hw := hs i hin
    rw [hw] at g3
    have okU := numok_bits qU (by omega)
    have okV := numok_bits qV (by omega)
    have okW := numok_bits (qU.add2 qV) (by omega)
    generalize rget U i = u at *
    generalize rget V i = v at *
    have len : ∀ {q : Rat}, NumOk q → (numS q).length ≤ 1000000000 := fun h => by have := numS_len h; omega
    have o1 := rof (len okU) (parse_numS okU)
    have o2 := rof (len okV) (parse_numS okV)
    have hadd := raddq qU.ib.1 qU.ib.2 qV.ib.1 qV.ib.2 (by omega)
    have hd : (v.den : Int) ≠ 0 := by have := v.den_pos; omega
    have hsum := q_add (q := u) (w := v) hd (Rat.num_divInt_den _).symm
    have his := ris (k := 9011) (s := bs (numS (u + v))) (Ib.add (k := 9010) ((qU.ib.1.mul qV.ib.2).mono (by omega)) ((qV.ib.1.mul qU.ib.2).mono (by omega))) ((qU.ib.2.mul qV.ib.2).mono (by omega)) (Int.mul_pos (by have := u.den_pos; omega) (by omega)) (by omega) hsum
    rw [decide_eq_true ⟨okW, rfl⟩] at his
    simp only [go_sem, claw_SpringReciprocal_r19, claw_SpringReciprocal_r20, q0, q1, g1, g2, g3, l1, l2, l3, hm]
    refine call_P o1 (by simp only [go_sem]) ?_
    simp only [go_sem, q0, q1, g2, l2]
    refine call_P o2 (by simp only [go_sem]) ?_
    simp only [go_sem]
    refine call_P hadd (by simp only [go_sem, avR, bvs_rc]) ?_
    simp only [go_sem]
    refine call_P his (by simp only [go_sem, avR, bvs_rc]) ?_
    simp only [go_sem, Bool.not_true, claw_SpringReciprocal_r22, e1]
    exact hN (i + 1) _ (by omega) (by omega) (Le_keep _ (by simp only [go_sem]))
  · have hie : i = n := by omega
    subst hie
    have q1 : ¬ ((i : Nat) : Int) < (i : Int) := by omega
    simp only [go_sem, claw_SpringReciprocal_r19, q1]
    exact hK _ (by simp only [go_sem]) (by simp only [go_sem]) (by simp only [go_sem]) (by simp only [go_sem]) (by simp only [go_sem]) (by simp only [go_sem])
end GoAbs
namespace GoAbs
open Go Go.Proofs
set_option exponentiation.threshold 20000
theorem q_sub {q w : Rat} : Rat.divInt (q.num * w.den - w.num * q.den) ((q.den : Int) * w.den) = q - w := by
  have h := q_add (q := q) (w := -w) (wn := -w.num) (wd := w.den) (by have := w.den_pos; omega) (by rw [← Rat.neg_divInt, Rat.num_divInt_den])
  rw [Int.neg_mul, ← Int.sub_eq_add_neg] at h
  rw [h]; grind
theorem Ib.sub' {k : Nat} {a b c d : Int} (ha : Ib k a) (hb : Ib k b) (hc : Ib k c) (hd : Ib k d) (hk : k = 4505 := by rfl) : Ib 20000 (a * d - c * b) := by
  subst hk
  have h1 : Ib 9010 (-(c * b)) := by have := hc.mul hb; show Int.natAbs _ < _; rw [Int.natAbs_neg]; exact this
  rw [Int.sub_eq_add_neg]
  exact (Ib.add (k := 9010) ((ha.mul hd).mono (by omega)) h1).mono (by omega)
theorem bv_ptr2 {H : Heap} {ids : List Nat} {b : Nat} {u v : AV} (hb : H[b]? = some (.cells [u, v])) (hi : b ∈ ids) (hu : BV H ids u u) (hv : BV H ids v v) : BV H ids (.ptr b 0) (.rp [u, v]) :=
  .ptr b 0 [u, v] [u, v] hb hi (by simp) (fun j y z hy hz => by
    match j, hy, hz with
    | 0, hy, hz => cases hy; cases hz; exact hu
    | 1, hy, hz => cases hy; cases hz; exact hv
    | j + 2, hy, hz => cases hy)
theorem law_reciprocal {b A0 B0 A1 B1 : Int} {X : List Spr} (h0 : 0 ≤ b) (h1 : b ≤ 255) : SpecV Tryz.prog n_law_SpringReciprocal [.int .u8 b, .sl (X.map sprAV), .agg [.int .i64 A0, .int .i64 B0, .int .i64 A1, .int .i64 B1]] (.bool true) := by
  have hm : Tryz.prog.follows .mixedOrders = true := by kernel_rfl
  have hmk := lmade (X := X) (p := [A0, B1, A1, B0]) h0 h1
  obtain ⟨_, n2, n6⟩ := madeN_spec b
  obtain ⟨hnet, hne⟩ := made_net (X := X) (p := [A0, B1, A1, B0]) n2 n6
  have hc := made_conn (X := X) (p := [A0, B1, A1, B0]) n2
  have hbv := bv_ivs (H := [.cells [.int .i64 A0, .int .i64 B0, .int .i64 A1, .int .i64 B1], .cells (ivs [A0, B1, A1, B0])]) (ids := [1]) (b := 1) (p := [A0, B1, A1, B0]) rfl (by simp)
  generalize madeN b = n at *
  generalize madeL n X _ = L at *
  have hp1 := lpair (n := n) (A := A0) (B := B0) n2 (by omega)
  obtain ⟨_, _, ha, hb, hab⟩ := pair_ok (n := n) (A := A0) (B := B0) n2
  have hp2 := lpair (n := n) (A := A1) (B := B1) n2 (by omega)
  obtain ⟨_, _, hcn, hd, hcd⟩ := pair_ok (n := n) (A := A1) (B := B1) n2
  generalize pairA n A0 = x at *
  generalize pairB n A0 B0 = y at *
  generalize pairA n A1 = z at *
  generalize pairB n A1 B1 = t at *
  obtain ⟨ls, hls⟩ : ∃ ls, ls = L.map sprAV := ⟨_, rfl⟩
  have hl1 := lload (n := n) (a := x) (b := y) (ls := .sl ls) (by omega) (fun H ids => .sl _)
  have hl2 := lload (n := n) (a := z) (b := t) (ls := .sl ls) (by omega) (fun H ids => .sl _)
  obtain ⟨m, rfl⟩ : ∃ m, n = m + 1 := ⟨n - 1, by omega⟩
  obtain ⟨hr, ho⟩ := hnet.read n2 n6
  have hC := hnet.netC n2 n6 hc
  have hlen : ∀ s, s ∈ L → s.2.2.length ≤ 1000000000 := fun s hs => by
    obtain ⟨_, q, _, _, _, _, hl⟩ := hnet.ok s hs; omega
  have eF := load_map (n := m + 1) hab
  have eG := load_map (n := m + 1) hcd
  have eW : (bothT (m + 1) x y z t).map toQ = (List.range (m + 1)).map (bothQ x y z t) := by
    unfold bothT
    rw [List.map_map]
    exact List.map_congr_left fun i _ => by
      show toQ (numS (bothQ x y z t i)) = _
      unfold toQ; rw [parse_numS (both_ok hab hcd).1]; rfl
  have rb : ∀ {f : Nat → Rat}, (∀ i, Qb 5 (f i)) → Rb 10947 ((List.range (m + 1)).map f) := fun h q hq => by
    obtain ⟨i, _, rfl⟩ := List.mem_map.1 hq
    exact (h i).mono (by omega)
  have hU := move_spring rfl hnet.len hlen hr ho (by omega) hc (F := loadT (m + 1) x y) (fun l hl => by
    obtain ⟨i, _, rfl⟩ := List.mem_map.1 hl
    exact ⟨by have := lt1_len (a := x) (b := y) (i := i); omega, by rw [parse_lt hab]; rfl⟩) (by simp [loadT]) (by rw [eF]; exact rb fun i => (edge_bits hab).mono (by omega)) (by rw [eF, sumQ_map, sum_edge ha hb])
  have hV := move_spring rfl hnet.len hlen hr ho (by omega) hc (F := loadT (m + 1) z t) (fun l hl => by
    obtain ⟨i, _, rfl⟩ := List.mem_map.1 hl
    exact ⟨by have := lt1_len (a := z) (b := t) (i := i); omega, by rw [parse_lt hcd]; rfl⟩) (by simp [loadT]) (by rw [eG]; exact rb fun i => (edge_bits hcd).mono (by omega)) (by rw [eG, sumQ_map, sum_edge hcn hd])
  have hW := move_spring rfl hnet.len hlen hr ho (by omega) hc (F := bothT (m + 1) x y z t) (fun l hl => by
    obtain ⟨i, _, rfl⟩ := List.mem_map.1 hl
    exact ⟨by have := numS_len (both_ok (i := i) hab hcd).1; omega, by rw [parse_numS (both_ok hab hcd).1]; rfl⟩) (by simp [bothT]) (by rw [eW]; exact rb fun i => (both_ok hab hcd).2) (by
      rw [eW, sumQ_map]
      unfold bothQ
      rw [sumL_add, sum_edge ha hb, sum_edge hcn hd]; decide +kernel)
  have sU := move_sol hC (f := (loadT (m + 1) x y).map toQ) (by simp [loadT])
  have sV := move_sol hC (f := (loadT (m + 1) z t).map toQ) (by simp [loadT])
  have sW := move_sol hC (f := (bothT (m + 1) x y z t).map toQ) (by simp [bothT])
  have lU := move_len (m := m) (E := L.map toE) (f := (loadT (m + 1) x y).map toQ)
  have lV := move_len (m := m) (E := L.map toE) (f := (loadT (m + 1) z t).map toQ)
  have lW := move_len (m := m) (E := L.map toE) (f := (bothT (m + 1) x y z t).map toQ)
  have zU := move_zero (m := m) (E := L.map toE) (f := (loadT (m + 1) x y).map toQ)
  have zV := move_zero (m := m) (E := L.map toE) (f := (loadT (m + 1) z t).map toQ)
  have zW := move_zero (m := m) (E := L.map toE) (f := (bothT (m + 1) x y z t).map toQ)
  rw [eF] at hU sU lU zU
  rw [eG] at hV sV lV zV
  rw [eW] at hW sW lW zW
  generalize moveX m (L.map toE) ((List.range (m + 1)).map (edge x y)) = U at *
  generalize moveX m (L.map toE) ((List.range (m + 1)).map (edge z t)) = V at *
  generalize moveX m (L.map toE) ((List.range (m + 1)).map (bothQ x y z t)) = W at *
  have rn : ∀ i, i ∈ Rn (m + 1) → i < m + 1 := fun i hi => by have := List.mem_range'_1.1 hi; omega
  have sU' : Sol (m + 1) (L.map toE) (rget U) (edge x y) := fun i hi => by rw [sU i hi, rget_range (rn i hi)]
  have sV' : Sol (m + 1) (L.map toE) (rget V) (edge z t) := fun i hi => by rw [sV i hi, rget_range (rn i hi)]
  have sUV : Sol (m + 1) (L.map toE) (fun j => rget W j - rget V j) (edge x y) := fun i hi => by
    rw [(sW.sub sV') i hi]
    show rget _ i - edge z t i = _
    rw [rget_range (rn i hi)]
    unfold bothQ
    grind
  have hsum : ∀ i, i < m + 1 → rget W i = rget U i + rget V i := fun i hi => by
    by_cases h : i = 0
    · rw [h, zU, zV, zW]; decide +kernel
    · have := hC.uniq sU' sUV i (by rw [List.mem_range'_1]; omega)
      grind
  have bits : ∀ {x : List Rat} {a b : Nat}, x.length = m + 1 → a < m + 1 → b < m + 1 → Sol (m + 1) (L.map toE) (rget x) (edge a b) → rget x 0 = 0 → Rb 4505 x := fun {x a b} hx ha hb hs hz q hq => by
    obtain ⟨i, hi⟩ := List.mem_iff_getElem?.1 hq
    have hil := (List.getElem?_eq_some_iff.1 hi).1
    have := unit_diff2 hnet (by omega) (by omega) hc ha hb (p := i) (q := 0) (by omega) (by omega) hs hz
    rw [hz] at this
    have e : rget x i - 0 = q := by rw [rget_some hil] at hi; have := Option.some.inj hi; grind
    rwa [e] at this
  have bU := bits lU ha hb sU' zU
  have bV := bits lV hcn hd sV' zV
  have hrec : rget U z - rget U t = rget V x - rget V y := by
    have h := recip (pos_E ho).2.1 sU' sV'
    rw [dot_diff hcn hd zU, dot_diff ha hb zV] at h
    exact h
  have okU : ∀ q, q ∈ U → NumOk q := fun q hq => numok_bits (bU q hq) (by omega)
  have okV : ∀ q, q ∈ V → NumOk q := fun q hq => numok_bits (bV q hq) (by omega)
  have okW : ∀ q, q ∈ W → NumOk q := fun q hq => by
    obtain ⟨i, hi⟩ := List.mem_iff_getElem?.1 hq
    have hil := (List.getElem?_eq_some_iff.1 hi).1
    have e : rget W i = q := by rw [rget_some hil] at hi; exact Option.some.inj hi
    rw [← e, hsum i (by omega)]
    exact numok_bits ((bU.get (j := i) (by omega)).add2 (bV.get (j := i) (by omega))) (by omega)
  unfold numsR at hU hV hW
  rw [if_pos okU] at hU
  rw [if_pos okV] at hV
  rw [if_pos okW] at hW
  have nums : ∀ {x : List Rat}, x.length = m + 1 → (∀ q, q ∈ x → NumOk q) → SpecV Tryz.prog n_ref_Nums [.sl (ss x)] (.int .i64 0) := fun {x} hx hok => by
    have h := rnums (L := x.map numS) (by rw [List.length_map]; omega) (fun s hs => by obtain ⟨q, hq, rfl⟩ := List.mem_map.1 hs; have := numS_len (hok q hq); omega)
    have e : (x.map numS).map strAV = ss x := by rw [List.map_map]; rfl
    have e2 : numsE (x.map numS) = 0 := by
      unfold numsE
      rw [if_pos]
      exact List.all_eq_true.2 fun s hs => by obtain ⟨q, hq, rfl⟩ := List.mem_map.1 hs; rw [parse_numS (hok q hq)]; rfl
    rwa [e, e2] at h
  have nU := nums lU okU
  have nV := nums lV okV
  have sl1 : (ss U).length = m + 1 := by rw [ss_len, lU]
  have sl2 : (ss V).length = m + 1 := by rw [ss_len, lV]
  have sl3 : (ss W).length = m + 1 := by rw [ss_len, lW]
  rw [← hls] at hmk hU hV hW
  generalize hnn : m + 1 = n at *
  have z2 : (0 : Int) < ((2 : Nat) : Int) := by decide
  have o2 : (1 : Int) < ((2 : Nat) : Int) := by decide
  refine specV_T ok_law_SpringReciprocal (by simp) (T_cut 4 rfl ?_)
  unfold claw_SpringReciprocal
  simp only [go_sem, claw_SpringReciprocal_r1, claw_SpringReciprocal_r2, z2, o2]
  refine call_F (ids := [1]) hmk (by simp only [go_sem]; exact hbv) ?_
  simp only [go_sem, claw_SpringReciprocal_r3, z2, o2]
  refine call_P hp1 (by simp only [go_sem]) ?_
  simp only [go_sem, claw_SpringReciprocal_r4, z2, o2]
  refine call_P hp2 (by simp only [go_sem]) ?_
  simp only [go_sem, claw_SpringReciprocal_r5]
  refine T_le (?_ : Le _ _ _ ⟨envL [(7, .rp [.int .i64 (n : Int), .sl ls]), (8, .int .i64 (x : Int)), (9, .int .i64 (y : Int)), (10, .int .i64 (z : Int)), (11, .int .i64 (t : Int)), (12, .fn 50 [] [.rp [.int .i64 (n : Int), .sl ls]])], []⟩) ?_
  · have hptr := bv_ptr2 (H := [.cells [.int .i64 A0, .int .i64 B0, .int .i64 A1, .int .i64 B1], .dead, .cells [.int .i64 (n : Int), .sl ls]]) (ids := [2]) (b := 2) (u := .int .i64 (n : Int)) (v := .sl ls) rfl (by simp) (.int _ _) (.sl _)
    refine Le_trans (Le_freeze [2] [(7, .rp [.int .i64 (n : Int), .sl ls]), (8, .int .i64 (x : Int)), (9, .int .i64 (y : Int)), (10, .int .i64 (z : Int)), (11, .int .i64 (t : Int)), (12, .fn 50 [] [.rp [.int .i64 (n : Int), .sl ls]])] ?_) (Le_gc [] (by decide) (fun i hi => by omega) [(7, .rp [.int .i64 (n : Int), .sl ls]), (8, .int .i64 (x : Int)), (9, .int .i64 (y : Int)), (10, .int .i64 (z : Int)), (11, .int .i64 (t : Int)), (12, .fn 50 [] [.rp [.int .i64 (n : Int), .sl ls]])] ⟨rfl, rfl, rfl, rfl, rfl, rfl, trivial⟩)
    refine ⟨.inl ?_, .inr ?_, .inr ?_, .inr ?_, .inr ?_, .inl ?_, trivial⟩
    · simp only [go_sem]; exact hptr
    · simp only [go_sem]
    · simp only [go_sem]
    · simp only [go_sem]
    · simp only [go_sem]
    · simp only [go_sem]
      exact BV.fn _ _ _ _ _ rfl rfl (fun i x y h => by simp at h) (fun i x y h k => by
        cases i with
        | zero => cases h; cases k; exact hptr
        | succ i => cases h)
  refine T_cut 1 rfl ?_
  simp only [go_sem, claw_SpringReciprocal_r6]
  refine call_P hl1 (by simp only [go_sem]) ?_
  simp only [go_sem]
  refine call_P hl2 (by simp only [go_sem]) ?_
  simp only [go_sem, claw_SpringReciprocal_r7]
  refine T_le (Le_row0 15 none (by simp only [go_sem]) [(7, .rp [.int .i64 (n : Int), .sl ls]), (8, .int .i64 (x : Int)), (9, .int .i64 (y : Int)), (10, .int .i64 (z : Int)), (11, .int .i64 (t : Int)), (13, .sl (txts (loadT n x y))), (14, .sl (txts (loadT n z t)))] (by simp only [go_sem])) ?_
  refine T_seq (T_seq (T_W ?_))
  simp only [go_sem, claw_SpringReciprocal_r8]
  refine T_block (T_keep [(7, .rp [.int .i64 (n : Int), .sl ls]), (8, .int .i64 (x : Int)), (9, .int .i64 (y : Int)), (10, .int .i64 (z : Int)), (11, .int .i64 (t : Int)), (13, .sl (txts (loadT n x y))), (14, .sl (txts (loadT n z t))), (15, .osl none 0 0 0), (16, .int .i64 0)] (by simp only [go_sem]) ?_)
  refine rec_L1 (by omega) hab hcd (fun e e7 e8 e9 e10 e11 e13 e14 e15 => ?_)
  show T Tryz.prog 218 0 _ _ _
  refine T_le (?_ : Le _ _ _ ⟨envL [(7, .rp [.int .i64 (n : Int), .sl ls]), (8, .int .i64 (x : Int)), (9, .int .i64 (y : Int)), (10, .int .i64 (z : Int)), (11, .int .i64 (t : Int)), (13, .sl (txts (loadT n x y))), (14, .sl (txts (loadT n z t))), (15, .sl (txts (bothT n x y z t)))], []⟩) ?_
  · have hrow := bv_txts (H := [.cells (txts (bothT n x y z t))]) (ids := [0]) (b := 0) (L := bothT n x y z t) rfl (by simp)
    rw [show (bothT n x y z t).length = n by simp [bothT]] at hrow
    exact Le_trans (Le_freeze [0] [(7, .rp [.int .i64 (n : Int), .sl ls]), (8, .int .i64 (x : Int)), (9, .int .i64 (y : Int)), (10, .int .i64 (z : Int)), (11, .int .i64 (t : Int)), (13, .sl (txts (loadT n x y))), (14, .sl (txts (loadT n z t))), (15, .sl (txts (bothT n x y z t)))] ⟨.inr e7, .inr e8, .inr e9, .inr e10, .inr e11, .inr e13, .inr e14, .inl (by show BV _ _ (e 15) _; rw [e15]; exact hrow), trivial⟩)
      (Le_gc [] (by decide) (fun i hi => by omega) [(7, .rp [.int .i64 (n : Int), .sl ls]), (8, .int .i64 (x : Int)), (9, .int .i64 (y : Int)), (10, .int .i64 (z : Int)), (11, .int .i64 (t : Int)), (13, .sl (txts (loadT n x y))), (14, .sl (txts (loadT n z t))), (15, .sl (txts (bothT n x y z t)))] ⟨rfl, rfl, rfl, rfl, rfl, rfl, rfl, rfl, trivial⟩)
  refine T_cut 3 rfl ?_
  simp only [go_sem, claw_SpringReciprocal_r13]
  refine call_P hU (by simp only [go_sem]) ?_
  simp only [go_sem, claw_SpringReciprocal_r14]
  refine call_P hV (by simp only [go_sem]) ?_
  simp only [go_sem, claw_SpringReciprocal_r15]
  refine call_P hW (by simp only [go_sem]) ?_
  simp only [go_sem, claw_SpringReciprocal_r16, sl1, sl2, sl3]
  refine call_P nU (by simp only [go_sem]) ?_
  simp only [go_sem]
  refine call_P nV (by simp only [go_sem]) ?_
  simp only [go_sem]
  refine call_P llives (by simp only [go_sem]) ?_
  simp only [go_sem, Bool.not_true]
  refine T_seq (T_seq (T_W ?_))
  simp only [go_sem, claw_SpringReciprocal_r18]
  refine T_block (T_keep [(7, .rp [.int .i64 (n : Int), .sl ls]), (8, .int .i64 (x : Int)), (9, .int .i64 (y : Int)), (10, .int .i64 (z : Int)), (11, .int .i64 (t : Int)), (19, .sl (ss U)), (21, .sl (ss V)), (23, .sl (ss W)), (25, .int .i64 0)] (by simp only [go_sem]) ?_)
  refine rec_L2 (by omega) lU lV lW bU bV hsum (fun e e8 e9 e10 e11 e19 e21 => ?_)
  show T Tryz.prog 218 0 _ _ _
  have h48 : (⟨#[48]⟩ : ByteArray) = bs (numS (rget U 0)) := by rw [zU]; rfl
  have g0 := ss_get (x := U) (i := 0) (by omega)
  have gz := ss_get (x := U) (i := z) (by omega)
  have gt := ss_get (x := U) (i := t) (by omega)
  have gx := ss_get (x := V) (i := x) (by omega)
  have gy := ss_get (x := V) (i := y) (by omega)
  have len : ∀ {q : Rat}, NumOk q → (numS q).length ≤ 1000000000 := fun h => by have := numS_len h; omega
  have kz := bU.get (j := z) (by omega)
  have kt := bU.get (j := t) (by omega)
  have kx := bV.get (j := x) (by omega)
  have ky := bV.get (j := y) (by omega)
  have p0 : (0 : Int) < ((n : Nat) : Int) := by omega
  have z0 : (0 : Int) ≤ (z : Int) := by omega
  have z1 : (z : Int) < (n : Int) := by omega
  have t0 : (0 : Int) ≤ (t : Int) := by omega
  have t1 : (t : Int) < (n : Int) := by omega
  have x0 : (0 : Int) ≤ (x : Int) := by omega
  have x1 : (x : Int) < (n : Int) := by omega
  have y0 : (0 : Int) ≤ (y : Int) := by omega
  have y1 : (y : Int) < (n : Int) := by omega
  generalize rget U z = uz at *
  generalize rget U t = ut at *
  generalize rget V x = vx at *
  generalize rget V y = vy at *
  have dz := uz.den_pos
  have dt := ut.den_pos
  have dx := vx.den_pos
  have dy := vy.den_pos
  have oz := rof (len (numok_bits kz (by omega))) (parse_numS (numok_bits kz (by omega)))
  have ot := rof (len (numok_bits kt (by omega))) (parse_numS (numok_bits kt (by omega)))
  have ox := rof (len (numok_bits kx (by omega))) (parse_numS (numok_bits kx (by omega)))
  have oy := rof (len (numok_bits ky (by omega))) (parse_numS (numok_bits ky (by omega)))
  have su := rsubq kz.ib.1 kz.ib.2 kt.ib.1 kt.ib.2 (by omega)
  have sv := rsubq kx.ib.1 kx.ib.2 ky.ib.1 ky.ib.2 (by omega)
  have d1 : (uz.den : Int) * ut.den ≠ 0 := Int.mul_ne_zero (by omega) (by omega)
  have d2 : (vx.den : Int) * vy.den ≠ 0 := Int.mul_ne_zero (by omega) (by omega)
  have hcmp := rcmpq (n1 := uz.num * ut.den - ut.num * uz.den) (d1 := (uz.den : Int) * ut.den) (n2 := vx.num * vy.den - vy.num * vx.den) (d2 := (vx.den : Int) * vy.den) (k := 20000) (Ib.sub' kz.ib.1 kz.ib.2 kt.ib.1 kt.ib.2) ((kz.ib.2.mul kt.ib.2).mono (by omega)) (Ib.sub' kx.ib.1 kx.ib.2 ky.ib.1 ky.ib.2) ((kx.ib.2.mul ky.ib.2).mono (by omega)) (by omega)
  rw [if_pos ((Rat.divInt_eq_divInt_iff d1 d2).1 (by rw [q_sub, q_sub, hrec]))] at hcmp
  refine T_W ?_
  simp only [go_sem, claw_SpringReciprocal_r23, hm, e8, e9, e10, e11, e19, e21, g0, h48, sl1, sl2, p0, gz, gt, gx, gy, z0, z1, t0, t1, x0, x1, y0, y1]
  refine call_P oz (by simp only [go_sem]) ?_
  simp only [go_sem, e11, e19, e21, gt, sl1, t0, t1]
  refine call_P ot (by simp only [go_sem]) ?_
  simp only [go_sem]
  refine call_P su (by simp only [go_sem, avR, bvs_rc]) ?_
  simp only [go_sem, e8, e21, gx, sl2, x0, x1]
  refine call_P ox (by simp only [go_sem]) ?_
  simp only [go_sem, e9, e21, gy, sl2, y0, y1]
  refine call_P oy (by simp only [go_sem]) ?_
  simp only [go_sem]
  refine call_P sv (by simp only [go_sem, avR, bvs_rc]) ?_
  simp only [go_sem]
  refine call_P hcmp (by simp only [go_sem, avR, bvs_rc]) ?_
  simp only [go_sem]
end GoAbs
