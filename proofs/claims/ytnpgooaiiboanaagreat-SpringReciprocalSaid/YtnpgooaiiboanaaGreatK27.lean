/- Lemmas for the claim (contracts of the functions that it reaches, and what they compute), without conditions. -/
import Derived.Test.YtnpgooaiiboanaaGreatK26
import Derived.Test.YtnpgooaiiboanaaGreatProg
import Derived.KernelRfl
set_option linter.unusedVariables false
set_option linter.unusedSimpArgs false
set_option maxRecDepth 10000
set_option maxHeartbeats 2000000
namespace GoAbs
open Go Go.Proofs
theorem parse_end {slash minus : Bool} {N D : Nat} (hN : Sz N) (hD : Sz D)
    {e : Nat → AV} (e2 : e 2 = .ptr 0 0) (e6 : e 6 = .bool slash) (e8 : e 8 = .bool minus) (e9 : e 9 = .sl (u32c (limbs N))) (e11 : e 11 = .sl (u32c (limbs D))) :
    T Tryz.prog 78 0 (.seq (.rg false cnum_Parse_r11) (.seq (.rg true cnum_Parse_r12) .ret)) ⟨e, [.cells [.bool false, .nils, .bool false, .nils]]⟩
      (retQ [.cell 2 (some 4), .tmp 3] (.tup [avF (if minus then -(N : Int) else N) D, .bool (!slash || decide (Int.gcd (if minus then -(N : Int) else N) D = 1))])) := by
  have hm : Tryz.prog.follows .mixedOrders = true := by kernel_rfl
  refine T_W ?_
  generalize hz : (if minus = true then -(N : Int) else N) = z
  have hzn : z.natAbs = N := by subst hz; cases minus <;> simp
  have hzS : Sz z.natAbs := by rw [hzn]; exact hN
  have hDS : Sz (D : Int).natAbs := by simpa using hD
  have hD0 : decide ((D : Int) < 0) = false := by simp
  simp only [go_sem, cnum_Parse_r11, e2, e6, e8, e9, e11]
  refine call_P (made_is (s := minus) (n := N) (z := z) hz) (by simp only [go_sem]) ?_
  simp only [go_sem, e11]
  refine call_P (made_is (s := false) (n := D) (z := (D : Int)) (by simp)) (by simp only [go_sem]) ?_
  simp only [go_sem, avI_agg, cnum_Parse_r12, hm, e2, e6]
  cases slash with
  | false => simp only [go_sem, e2, e6]; simp
  | true =>
    simp only [go_sem, e2, e6]
    refine call_P (gcd_spec hzS hDS) (by simp only [go_sem, avI_agg]) ?_
    simp only [go_sem]
    refine call_P one_spec (by simp only [go_sem]) ?_
    simp only [go_sem]
    have hgs : Sz (Int.gcd z D : Int).natAbs := by
      have : Int.gcd z D ≤ max N D := by
        rcases Nat.eq_zero_or_pos D with h | h
        · subst h
          simp [hzn]
        · exact Nat.le_trans (Nat.le_of_dvd h (by simpa using Int.gcd_dvd_natAbs_right z D)) (Nat.le_max_right _ _)
      simp only [Int.natAbs_natCast]
      rcases Nat.le_total N D with h | h
      · exact hD.mono (by omega)
      · exact hN.mono (by omega)
    refine call_P (cmp_spec (b := 1) hgs.l Sz.one.l) (by simp only [go_sem, avI_agg]) ?_
    simp only [go_sem, avI_agg, e2, e6]
    have key : ((if (Int.gcd z D : Int) < 1 then (-1 : Int) else if (1 : Int) < (Int.gcd z D : Int) then 1 else 0) = 0) ↔ Int.gcd z D = 1 := by
      split
      · constructor
        · intro h; omega
        · intro h; omega
      · split
        · constructor
          · intro h; omega
          · intro h; omega
        · constructor
          · intro h; omega
          · intro h; rfl
    refine ⟨fun h => ?_, fun h => ?_⟩
    · rw [key] at h
      simp [h]
    · rw [key] at h
      simp [h]
def badQ : AV := .tup [.agg [.bool false, .nils, .bool false, .nils], .bool false]
def goodQ (slash minus : Bool) (N D : Nat) : AV := .tup [avF (if minus then -(N : Int) else N) D, .bool (!slash || decide (Int.gcd (if minus then -(N : Int) else N) D = 1))]
theorem parse_fin {slash minus ok t : Bool} {X Y r : AV} {N D : Nat} (hX : ok = true → X = .sl (u32c (limbs N))) (hN : Sz N) (hD : Sz D) (hY : t = true → Y = .sl (u32c (limbs D)))
    (hbad : ok = false ∨ t = false ∨ (minus = true ∧ N = 0) → r = badQ) (hgood : ok = true → t = true → ¬ (minus = true ∧ N = 0) → r = goodQ slash minus N D)
    {e : Nat → AV} (e2 : e 2 = .ptr 0 0) (e6 : e 6 = .bool slash) (e8 : e 8 = .bool minus) (e9 : e 9 = X) (e10 : e 10 = .bool ok) (e11 : e 11 = Y) (e12 : e 12 = .bool t) :
    T Tryz.prog 78 0 (.seq (.seq (.rg false cnum_Parse_r9) (.cond (.t 57) (.seq (.rg false cnum_Parse_r10) .ret) .skip)) (.seq (.rg false cnum_Parse_r11) (.seq (.rg true cnum_Parse_r12) .ret))) ⟨e, [.cells [.bool false, .nils, .bool false, .nils]]⟩
      (retQ [.cell 2 (some 4), .tmp 3] r) := by
  refine T_cut 0 rfl ?_
  cases ok with
  | false =>
    rw [hbad (.inl rfl)]
    simp only [go_sem, cnum_Parse_r9, cnum_Parse_r10, e2, e6, e8, e9, e10, e11, e12, badQ]
  | true =>
    cases t with
    | false =>
      rw [hbad (.inr (.inl rfl))]
      simp only [go_sem, cnum_Parse_r9, cnum_Parse_r10, e2, e6, e8, e9, e10, e11, e12, badQ]
    | true =>
      have hx := hX rfl
      have hy := hY rfl
      have fin : ¬ (minus = true ∧ N = 0) → ∀ e : Nat → AV, e 2 = .ptr 0 0 → e 6 = .bool slash → e 8 = .bool minus → e 9 = X → e 11 = Y →
          T Tryz.prog 78 0 (.seq (.rg false cnum_Parse_r11) (.seq (.rg true cnum_Parse_r12) .ret)) ⟨e, [.cells [.bool false, .nils, .bool false, .nils]]⟩ (retQ [.cell 2 (some 4), .tmp 3] r) := fun h e q2 q6 q8 q9 q11 => by
        rw [hgood rfl rfl h]
        exact parse_end hN hD q2 q6 q8 (q9.trans hx) (q11.trans hy)
      cases minus with
      | false =>
        simp only [go_sem, cnum_Parse_r9, cnum_Parse_r10, e2, e6, e8, e9, e10, e11, e12]
        exact fin (fun h => by cases h.1) _ (by simp only [go_sem, e2]) (by simp only [go_sem, e6]) (by simp only [go_sem, e8]) (by simp only [go_sem, e9]) (by simp only [go_sem, e11])
      | true =>
        by_cases h0 : N = 0
        · rw [hbad (.inr (.inr ⟨rfl, h0⟩))]
          subst h0
          have q1 : ((0 : Nat) : Int) = 0 := rfl
          simp only [go_sem, cnum_Parse_r9, cnum_Parse_r10, e2, e6, e8, e9, e10, e11, e12, hx, limbs_zero, u32c_nil, q1, badQ]
        · have q1 : ¬ ((limbs N).length : Int) = 0 := by have := (limbs_len_pos (n := N)).2 h0; omega
          simp only [go_sem, cnum_Parse_r9, cnum_Parse_r10, e2, e6, e8, e9, e10, e11, e12, hx, u32c_len, q1]
          exact fin (fun h => h0 h.2) _ (by simp only [go_sem, e2]) (by simp only [go_sem, e6]) (by simp only [go_sem, e8]) (by simp only [go_sem, e9, hx]) (by simp only [go_sem, e11])
theorem parse_den {slash minus ok : Bool} {X r : AV} {N : Nat} {under : List UInt8} (hul : under.length ≤ 1000000000) (hX : ok = true → X = .sl (u32c (limbs N))) (hN : Sz N)
    (hbad : ok = false ∨ (slash = true ∧ ¬ (digOk under ∧ 1 < numL under)) ∨ (minus = true ∧ N = 0) → r = badQ)
    (hgood : ok = true → (slash = true → digOk under ∧ 1 < numL under) → ¬ (minus = true ∧ N = 0) → r = goodQ slash minus N (if slash = true then numL under else 1))
    {e : Nat → AV} (e2 : e 2 = .ptr 0 0) (e5 : e 5 = .str (bs under)) (e6 : e 6 = .bool slash) (e8 : e 8 = .bool minus) (e9 : e 9 = X) (e10 : e 10 = .bool ok) (e11 : e 11 = .sl (u32c (limbs 1))) (e12 : e 12 = .bool true) :
    T Tryz.prog 78 0 (.seq (.seq (.rg false cnum_Parse_r6) (.cond (.t 31) (.seq (.rg false cnum_Parse_r7) (.rg false cnum_Parse_r8)) .skip)) (.seq (.seq (.rg false cnum_Parse_r9) (.cond (.t 57) (.seq (.rg false cnum_Parse_r10) .ret) .skip)) (.seq (.rg false cnum_Parse_r11) (.seq (.rg true cnum_Parse_r12) .ret)))) ⟨e, [.cells [.bool false, .nils, .bool false, .nils]]⟩
      (retQ [.cell 2 (some 4), .tmp 3] r) := by
  refine T_cut 0 rfl ?_
  cases slash with
  | false =>
    simp only [go_sem, cnum_Parse_r6, e6]
    exact parse_fin (slash := false) (minus := minus) (ok := ok) (t := true) (D := 1) hX hN Sz.one (fun _ => rfl) (fun h => hbad (h.elim .inl (fun h => h.elim (fun h => by cases h) (fun h => .inr (.inr h)))))
      (fun h1 h2 h3 => hgood h1 (fun h => by cases h) h3) (by simp only [go_sem, e2]) (by simp only [go_sem, e6]) (by simp only [go_sem, e8]) (by simp only [go_sem, e9]) (by simp only [go_sem, e10]) (by simp only [go_sem, e11]) (by simp only [go_sem, e12])
  | true =>
    simp only [go_sem, cnum_Parse_r6, cnum_Parse_r7, e5, e6]
    refine call_P (read_spec hul) (by simp only [go_sem]) ?_
    have s4 : digOk under → Sz (numL under) := fun h => by
      have := lenN_dec (numL_lt h.1)
      have := h.2.2.2
      unfold Sz; omega
    have one : limbs 1 = [1] := by rw [limbs_pos (by omega), show 1 / 4294967296 = 0 by omega, limbs_zero]
    by_cases hu : digOk under
    · rw [if_pos hu]
      simp only [go_sem, cnum_Parse_r8]
      refine call_V (ids := [1]) (compare_nat (m := numL under) (n := 1) (s4 hu).l Sz.one.l) ?_ (.inr (.int _ _)) (fun b hb => trivial) ?_
      · simp only [go_sem]
        rw [one]
        exact bv_u32c (r := [1]) rfl (by simp) rfl rfl
      · by_cases h1 : 1 < numL under
        · have q1 : ¬ numL under < 1 := by omega
          have q2 : (0 : Int) < 1 := by omega
          simp only [go_sem, q1, h1, q2]
          refine T_le (Le_gc [0] (by simp) (fun i hi => by omega) [(2, .ptr 0 0), (6, .bool true), (8, .bool minus), (9, X), (10, .bool ok), (11, .sl (u32c (limbs (numL under)))), (12, .bool true)] (by simp only [go_sem, e2, e6, e8, e9, e10])) ?_
          exact parse_fin (slash := true) (minus := minus) (ok := ok) (t := true) (D := numL under) (X := X.gc (pos [0])) (fun h => by rw [hX h]; rfl) hN (s4 hu) (fun _ => rfl) (fun h => hbad (h.elim .inl (fun h => h.elim (fun h => by cases h) (fun h => .inr (.inr h)))))
            (fun h1 h2 h3 => hgood h1 (fun _ => ⟨hu, by assumption⟩) h3) rfl rfl rfl rfl rfl rfl rfl
        · have q2 : ¬ (0 : Int) < (if numL under < 1 then -1 else 0) := by split <;> omega
          simp only [go_sem, h1, q2]
          refine T_le (Le_gc [0] (by simp) (fun i hi => by omega) [(2, .ptr 0 0), (6, .bool true), (8, .bool minus), (9, X), (10, .bool ok), (11, .sl (u32c (limbs (numL under)))), (12, .bool false)] (by simp only [go_sem, e2, e6, e8, e9, e10])) ?_
          exact parse_fin (slash := true) (minus := minus) (ok := ok) (t := false) (D := numL under) (X := X.gc (pos [0])) (fun h => by rw [hX h]; rfl) hN (s4 hu) (fun _ => rfl) (fun _ => hbad (.inr (.inl ⟨rfl, fun h => h1 h.2⟩)))
            (fun h1 h2 h3 => by cases h2) rfl rfl rfl rfl rfl rfl rfl
    · rw [if_neg hu]
      simp only [go_sem, cnum_Parse_r8]
      exact parse_fin (slash := true) (minus := minus) (ok := ok) (t := false) (D := 1) (Y := .nils) hX hN Sz.one (fun h => by cases h) (fun _ => hbad (.inr (.inl ⟨rfl, fun h => hu h.1⟩)))
            (fun h1 h2 h3 => by cases h2) (by simp only [go_sem, e2]) (by simp only [go_sem, e6]) (by simp only [go_sem, e8]) (by simp only [go_sem, e9]) (by simp only [go_sem, e10]) (by simp only [go_sem]) (by simp only [go_sem])
theorem parse_parts {l over under : List UInt8} {slash : Bool} {r : AV} (hol : over.length ≤ 1000000000) (hul : under.length ≤ 1000000000)
    (hcut : SpecV Tryz.prog n_strings_Cut [.str (bs l), .str (bs [47])] (.tup [.str (bs over), .str (bs under), .bool slash]))
    (minus : Bool) (digits : List UInt8) (hmd : (over.head? = some 45 ∧ minus = true ∧ digits = over.tail) ∨ (¬ over.head? = some 45 ∧ minus = false ∧ digits = over))
    (hbad : ¬ digOk digits ∨ (slash = true ∧ ¬ (digOk under ∧ 1 < numL under)) ∨ (minus = true ∧ numL digits = 0) → r = badQ)
    (hgood : digOk digits → (slash = true → digOk under ∧ 1 < numL under) → ¬ (minus = true ∧ numL digits = 0) → r = goodQ slash minus (numL digits) (if slash = true then numL under else 1)) :
    SpecV Tryz.prog n_num_Parse [.str (bs l)] r := by
  refine specV_T ok_num_Parse (by simp) (T_cut 4 rfl ?_)
  unfold cnum_Parse
  have c47 : (⟨#[47]⟩ : ByteArray) = bs [47] := rfl
  have c45 : (⟨#[45]⟩ : ByteArray) = bs [45] := rfl
  simp only [go_sem, cnum_Parse_r1, cnum_Parse_r2, c47]
  refine call_P hcut (by simp only [go_sem]) ?_
  simp only [go_sem, cnum_Parse_r3, c45]
  have hcp : SpecV Tryz.prog n_strings_CutPrefix [.str (bs over), .str (bs [45])] (.tup [.str (bs digits), .bool minus]) := by
    have := cutPrefix_one over 45
    rcases hmd with ⟨h1, h2, h3⟩ | ⟨h1, h2, h3⟩
    · rw [if_pos h1] at this; rw [h2, h3]; exact this
    · rw [if_neg h1] at this; rw [h2, h3]; exact this
  have hdl : digits.length ≤ 1000000000 := by
    rcases hmd with ⟨_, _, h3⟩ | ⟨_, _, h3⟩
    · rw [h3, List.length_tail]; omega
    · rw [h3]; exact hol
  refine call_P hcp (by simp only [go_sem]) ?_
  simp only [go_sem, cnum_Parse_r4]
  refine call_P (read_spec hdl) (by simp only [go_sem]) ?_
  have one : limbs 1 = [1] := by rw [limbs_pos (by omega), show 1 / 4294967296 = 0 by omega, limbs_zero]
  have fin : ∀ (X : AV) (ok : Bool), (ok = true → X = .sl (u32c (limbs (numL digits)))) → X.gc (pos [0]) = X → (ok = true ↔ digOk digits) → ∀ e : Nat → AV, e 2 = .ptr 0 0 → e 5 = .str (bs under) → e 6 = .bool slash → e 8 = .bool minus → e 9 = X → e 10 = .bool ok → e 11 = .osl none 1 0 1 → e 12 = .bool true →
      T Tryz.prog 78 0 (.seq (.seq (.rg false cnum_Parse_r6) (.cond (.t 31) (.seq (.rg false cnum_Parse_r7) (.rg false cnum_Parse_r8)) .skip)) (.seq (.seq (.rg false cnum_Parse_r9) (.cond (.t 57) (.seq (.rg false cnum_Parse_r10) .ret) .skip)) (.seq (.rg false cnum_Parse_r11) (.seq (.rg true cnum_Parse_r12) .ret))))
        ⟨e, [.cells [.bool false, .nils, .bool false, .nils], .cells [.int .u32 1]]⟩ (retQ [.cell 2 (some 4), .tmp 3] r) := fun X ok hX hXg hok e q2 q5 q6 q8 q9 q10 q11 q12 => by
    refine T_freeze [1] [(2, .ptr 0 0), (5, .str (bs under)), (6, .bool slash), (8, .bool minus), (9, X), (10, .bool ok), (11, .sl (u32c (limbs 1))), (12, .bool true)]
      ⟨.inr q2, .inr q5, .inr q6, .inr q8, .inr q9, .inr q10, .inl (by show BV _ _ (e 11) _; rw [q11, one]; exact bv_u32c (r := [1]) rfl (by simp) rfl rfl), .inr q12, trivial⟩ ?_
    refine T_le (Le_gc [0] (by simp) (fun i hi => by omega) [(2, .ptr 0 0), (5, .str (bs under)), (6, .bool slash), (8, .bool minus), (9, X), (10, .bool ok), (11, .sl (u32c (limbs 1))), (12, .bool true)] (by simp only [go_sem])) ?_
    have hN : Sz (numL digits) ∨ ok = false := by
      cases ok with
      | false => exact .inr rfl
      | true =>
        have h := hok.1 rfl
        have := lenN_dec (numL_lt h.1)
        have := h.2.2.2
        exact .inl (by unfold Sz; omega)
    rcases hN with hN | hN
    · exact parse_den (slash := slash) (minus := minus) (ok := ok) (N := numL digits) hul (X := X) (fun h => hX h) hN
        (fun h => hbad (h.elim (fun h => .inl (fun h2 => by rw [hok.2 h2] at h; cases h)) .inr)) (fun h1 h2 h3 => hgood (hok.1 h1) h2 h3) rfl rfl rfl rfl hXg rfl rfl rfl
    · subst hN
      have hnd : ¬ digOk digits := fun h => by cases hok.2 h
      exact parse_den (slash := slash) (minus := minus) (ok := false) (N := 0) hul (fun h => by cases h) (Sz.one.mono (by omega))
        (fun _ => hbad (.inl hnd)) (fun h1 h2 h3 => by cases h1) rfl rfl rfl rfl rfl rfl rfl rfl
  by_cases hd : digOk digits
  · rw [if_pos hd]
    simp only [go_sem, cnum_Parse_r5]
    exact fin (.sl (u32c (limbs (numL digits)))) true (fun _ => rfl) rfl ⟨fun _ => hd, fun _ => rfl⟩ _ (by simp only [go_sem]) (by simp only [go_sem]) (by simp only [go_sem]) (by simp only [go_sem]) (by simp only [go_sem]) (by simp only [go_sem]) (by simp only [go_sem]) (by simp only [go_sem])
  · rw [if_neg hd]
    simp only [go_sem, cnum_Parse_r5]
    exact fin .nils false (fun h => by cases h) rfl ⟨fun h => (by cases h), fun h => absurd h hd⟩ _ (by simp only [go_sem]) (by simp only [go_sem]) (by simp only [go_sem]) (by simp only [go_sem]) (by simp only [go_sem]) (by simp only [go_sem]) (by simp only [go_sem]) (by simp only [go_sem])
def cutL (l : List UInt8) : List UInt8 × List UInt8 × Bool := if 47 ∈ l then (l.takeWhile (· != 47), (l.dropWhile (· != 47)).tail, true) else (l, [], false)
def signL (o : List UInt8) : List UInt8 × Bool := if o.head? = some 45 then (o.tail, true) else (o, false)
def partsL (l : List UInt8) : Int × Nat × Bool :=
  (if (signL (cutL l).1).2 then -(numL (signL (cutL l).1).1 : Int) else numL (signL (cutL l).1).1, if (cutL l).2.2 then numL (cutL l).2.1 else 1, (cutL l).2.2)
def formL (l : List UInt8) : Prop := digOk (signL (cutL l).1).1 ∧ ((cutL l).2.2 = true → digOk (cutL l).2.1 ∧ 1 < numL (cutL l).2.1) ∧ ¬ ((signL (cutL l).1).2 = true ∧ numL (signL (cutL l).1).1 = 0)
instance (l : List UInt8) : Decidable (formL l) := by unfold formL; infer_instance
def parseL (l : List UInt8) : Option Rat := if formL l ∧ ((partsL l).2.2 = true → Int.gcd (partsL l).1 (partsL l).2.1 = 1) then some (Rat.divInt (partsL l).1 (partsL l).2.1) else none
theorem cutL_spec {l : List UInt8} (hl : l.length ≤ 1000000000) : SpecV Tryz.prog n_strings_Cut [.str (bs l), .str (bs [47])] (.tup [.str (bs (cutL l).1), .str (bs (cutL l).2.1), .bool (cutL l).2.2]) ∧ (cutL l).1.length ≤ l.length ∧ (cutL l).2.1.length ≤ l.length := by
  rcases cut_or l 47 with h | ⟨a, b, h, rfl⟩
  · unfold cutL
    rw [if_neg h]
    exact ⟨cut_no h, Nat.le_refl _, by simp⟩
  · have h1 : ∀ x, x ∈ a → (x != 47) = true := fun x hx => by
      have : x ≠ 47 := fun e => h (e ▸ hx)
      simpa using this
    have e : cutL (a ++ 47 :: b) = (a, b, true) := by
      unfold cutL
      rw [if_pos (by simp), List.takeWhile_append_of_pos h1, List.dropWhile_append_of_pos h1]
      simp
    rw [e]
    refine ⟨cut_yes h hl, by simp, by simp; omega⟩
theorem partsL_good {l : List UInt8} : goodQ (cutL l).2.2 (signL (cutL l).1).2 (numL (signL (cutL l).1).1) (if (cutL l).2.2 = true then numL (cutL l).2.1 else 1) =
    .tup [avF (partsL l).1 (partsL l).2.1, .bool (!(partsL l).2.2 || decide (Int.gcd (partsL l).1 (partsL l).2.1 = 1))] := rfl
theorem parse_all {l : List UInt8} {r : AV} (hl : l.length ≤ 1000000000) (hbad : ¬ formL l → r = badQ)
    (hgood : formL l → r = .tup [avF (partsL l).1 (partsL l).2.1, .bool (!(partsL l).2.2 || decide (Int.gcd (partsL l).1 (partsL l).2.1 = 1))]) : SpecV Tryz.prog n_num_Parse [.str (bs l)] r := by
  obtain ⟨h1, h2, h3⟩ := cutL_spec hl
  refine parse_parts (by omega) (by omega) h1 (signL (cutL l).1).2 (signL (cutL l).1).1 ?_ (fun h => hbad (fun hf => ?_)) (fun a b c => ?_)
  · unfold signL
    by_cases h : (cutL l).1.head? = some 45
    · rw [if_pos h]; exact .inl ⟨h, rfl, rfl⟩
    · rw [if_neg h]; exact .inr ⟨h, rfl, rfl⟩
  · obtain ⟨f1, f2, f3⟩ := hf
    rcases h with h | ⟨h, h'⟩ | h
    · exact h f1
    · exact h' (f2 h)
    · exact f3 h
  · rw [partsL_good]
    exact hgood ⟨a, b, c⟩
theorem partsL_pos {l : List UInt8} (h : formL l) : (0 : Int) < ((partsL l).2.1 : Int) := by
  unfold partsL
  simp only
  split
  · have := (h.2.1 (by assumption)).2; omega
  · omega
theorem parse_some {l : List UInt8} {q : Rat} (hl : l.length ≤ 1000000000) (h : parseL l = some q) : SpecV Tryz.prog n_num_Parse [.str (bs l)] (.tup [avQ q, .bool true]) := by
  unfold parseL at h
  split at h
  · rename_i hc
    obtain ⟨hf, hg⟩ := hc
    cases h
    refine parse_all hl (fun h => absurd hf h) (fun _ => ?_)
    have hpos := partsL_pos hf
    have hgcd : Int.gcd (partsL l).1 (partsL l).2.1 = 1 := by
      cases hs : (partsL l).2.2 with
      | true => exact hg hs
      | false =>
        have : (partsL l).2.1 = 1 := by
          unfold partsL at hs ⊢
          simp only at hs ⊢
          rw [hs]; rfl
        rw [this]; simp
    rw [avF_divInt hpos hgcd, hgcd]
    simp
  · cases h
def Wk (x : AV) : Prop := x = .agg [.bool false, .nils, .bool false, .nils] ∨ ∃ n d, x = avF n d
theorem parse_none {l : List UInt8} (hl : l.length ≤ 1000000000) (h : parseL l = none) : ∃ x, Wk x ∧ SpecV Tryz.prog n_num_Parse [.str (bs l)] (.tup [x, .bool false]) := by
  unfold parseL at h
  split at h
  · cases h
  · rename_i hc
    by_cases hf : formL l
    · refine ⟨avF (partsL l).1 (partsL l).2.1, .inr ⟨_, _, rfl⟩, parse_all hl (fun h => absurd hf h) (fun _ => ?_)⟩
      have hg : ¬ ((partsL l).2.2 = true → Int.gcd (partsL l).1 (partsL l).2.1 = 1) := fun h => hc ⟨hf, h⟩
      have hs : (partsL l).2.2 = true := Classical.byContradiction fun h => hg (fun h2 => absurd h2 h)
      have hg' : ¬ Int.gcd (partsL l).1 (partsL l).2.1 = 1 := fun h => hg (fun _ => h)
      rw [hs]
      simp [hg']
    · exact ⟨_, .inl rfl, parse_all hl (fun _ => rfl) (fun h => absurd h hf)⟩
end GoAbs
namespace GoAbs
open Go Go.Proofs
theorem tx_bits {n k : Nat} (h : n < 2 ^ k) (hk : k ≤ 300000000000) : Tx n := by
  have h1 : n < 4294967296 ^ (k / 32 + 1) := by
    have e : (4294967296 : Nat) = 2 ^ 32 := by decide
    rw [e, ← Nat.pow_mul]
    exact Nat.lt_of_lt_of_le h (Nat.pow_le_pow_right (by omega) (by omega))
  have h2 := lenN_le h1
  unfold Tx
  omega
theorem decL_len {n : Nat} (h : Tx n) : (decL n).length ≤ 100000000000 := by
  unfold decL
  split
  · simp
  · rw [List.length_reverse]; exact h.len
theorem decL_pos (n : Nat) : 1 ≤ (decL n).length := by
  unfold decL
  split
  · simp
  · rename_i h; rw [List.length_reverse, digs_pos h]; simp
def numS (q : Rat) : List UInt8 := (if q.num < 0 then [45] else []) ++ decL q.num.natAbs ++ (if q.den = 1 then [] else 47 :: decL q.den)
def NumOk (q : Rat) : Prop := (decL q.num.natAbs).length ≤ 4000 ∧ (q.den = 1 ∨ (decL q.den).length ≤ 4000)
instance (q : Rat) : Decidable (NumOk q) := by unfold NumOk; infer_instance
theorem fits_q {q : Rat} {d : Int} (hn : Tx q.num.natAbs) (hd : Tx q.den) : SpecV Tryz.prog n_Rat_Fits [avQ q, .int .i64 d] (.bool (decide (((decL q.num.natAbs).length : Int) ≤ d ∧ ((decL q.den).length : Int) ≤ d))) := by
  refine specV_W ok_Rat_Fits (by simp) ?_
  unfold cRat_Fits
  simp only [go_sem, avQ_agg, cRat_Fits_r1, cRat_Fits_r2]
  refine call_P (text_spec hn) (by simp only [go_sem]) ?_
  rw [decB_eq]
  have ht := text_spec hd
  rw [decB_eq] at ht
  by_cases h1 : ((decL q.num.natAbs).length : Int) ≤ d
  · simp only [go_sem, bs_size, h1, natAbs_den]
    refine call_P ht (by simp only [go_sem]) ?_
    by_cases h2 : ((decL q.den).length : Int) ≤ d
    · simp only [go_sem, bs_size, h2]; simp
    · simp only [go_sem, bs_size, h2]; simp
  · simp only [go_sem, bs_size, h1]; simp
theorem num_fin {q : Rat} (hn : Tx q.num.natAbs) (hd : Tx q.den) (ho : (decL q.num.natAbs).length ≤ 4000) {S : List UInt8} (hS : S = (if q.num < 0 then [45] else []) ++ decL q.num.natAbs)
    {e : Nat → AV} (e1 : e 1 = .ptr 0 0) (e4 : e 4 = .str (bs S)) :
    T Tryz.prog 32 0 (.seq (.seq (.rg false cRat_Num_r7) (.cond (.t 19) (.seq (.rg false cRat_Num_r8) .ret) .skip)) (.seq (.rg false cRat_Num_r9) (.seq (.seq (.rg false cRat_Num_r10) (.cond (.t 27) (.seq (.rg false cRat_Num_r11) .ret) .skip)) (.seq (.rg false cRat_Num_r12) .ret))))
      ⟨e, [.cells [.bool (decide (q.num < 0)), .sl (u32c (limbs q.num.natAbs)), .bool (decide ((q.den : Int) < 0)), .sl (u32c (limbs (q.den : Int).natAbs))]]⟩
      (retQ [.tmp 2, .tmp 3] (if q.den = 1 ∨ (decL q.den).length ≤ 4000 then .tup [.str (bs (numS q)), .int .i64 0] else .tup [.str (bs []), .int .i64 4])) := by
  refine T_W ?_
  have hSl : S.length ≤ 4001 := by
    rw [hS, List.length_append]
    split <;> simp <;> omega
  simp only [go_sem, cRat_Num_r7, e1]
  refine call_P (integer_spec (a := q.num) (b := q.den) (den_pos' q)) (by simp only [go_sem]) ?_
  by_cases h1 : (q.den : Int) = 1
  · have h1' : q.den = 1 := by omega
    rw [if_pos (.inl h1')]
    simp only [go_sem, decide_eq_true h1, cRat_Num_r8, e4]
    rw [hS, numS, if_pos h1', List.append_nil]
  · have h1' : ¬ q.den = 1 := by omega
    have ht := text_spec hd
    rw [decB_eq] at ht
    simp only [go_sem, decide_eq_false h1, cRat_Num_r9, e1, natAbs_den]
    refine call_P ht (by simp only [go_sem]) ?_
    have hdl := decL_len hd
    by_cases h2 : (decL q.den).length ≤ 4000
    · have q2 : ¬ (4000 : Int) < ((decL q.den).length : Int) := by omega
      have hmax : IntKind.i64.max = 9223372036854775807 := rfl
      have m1 : ((S.length + 1 : Nat) : Int) ≤ IntKind.i64.max := by rw [hmax]; omega
      have m2 : (((S ++ [47]).length + (decL q.den).length : Nat) : Int) ≤ IntKind.i64.max := by rw [hmax]; simp; omega
      have c47 : (⟨#[47]⟩ : ByteArray) = bs [47] := rfl
      rw [if_pos (.inr h2)]
      simp only [go_sem, cRat_Num_r10, cRat_Num_r12, bs_size, q2, e4, c47, bs_append, m1, m2]
      rw [hS, numS, if_neg h1']
      simp
    · have q2 : (4000 : Int) < ((decL q.den).length : Int) := by omega
      rw [if_neg (fun h => h.elim h1' h2)]
      simp only [go_sem, cRat_Num_r10, cRat_Num_r11, bs_size, q2]
      first | exact ⟨trivial, trivial⟩ | rfl
theorem num_q {q : Rat} (hn : Tx q.num.natAbs) (hd : Tx q.den) : SpecV Tryz.prog n_Rat_Num [avQ q] (if NumOk q then .tup [.str (bs (numS q)), .int .i64 0] else .tup [.str (bs []), .int .i64 4]) := by
  refine specV_T ok_Rat_Num (by simp) (T_cut 3 rfl ?_)
  unfold cRat_Num
  simp only [go_sem, avQ_agg, cRat_Num_r1, cRat_Num_r2]
  refine call_P (text_spec hn) (by simp only [go_sem]) ?_
  rw [decB_eq]
  have hnl := decL_len hn
  by_cases ho : (decL q.num.natAbs).length ≤ 4000
  · have q1 : ¬ (4000 : Int) < ((decL q.num.natAbs).length : Int) := by omega
    have hk : NumOk q ↔ (q.den = 1 ∨ (decL q.den).length ≤ 4000) := ⟨fun h => h.2, fun h => ⟨ho, h⟩⟩
    simp only [hk]
    have c45 : (⟨#[45]⟩ : ByteArray) = bs [45] := rfl
    by_cases hs : q.num < 0
    · have hmax : IntKind.i64.max = 9223372036854775807 := rfl
      have m1 : ((1 + (decL q.num.natAbs).length : Nat) : Int) ≤ IntKind.i64.max := by rw [hmax]; omega
      simp only [go_sem, cRat_Num_r3, cRat_Num_r5, cRat_Num_r6, bs_size, q1, decide_eq_true hs, c45, bs_append, m1]
      have := fun e e1 e4 => num_fin (q := q) hn hd ho (S := 45 :: decL q.num.natAbs) (by rw [if_pos hs]; rfl) (e := e) e1 e4
      rw [decide_eq_true hs] at this
      refine this _ ?_ ?_ <;> simp only [go_sem]
    · simp only [go_sem, cRat_Num_r3, cRat_Num_r5, cRat_Num_r6, bs_size, q1, decide_eq_false hs]
      have := fun e e1 e4 => num_fin (q := q) hn hd ho (S := decL q.num.natAbs) (by rw [if_neg hs]; rfl) (e := e) e1 e4
      rw [decide_eq_false hs] at this
      refine this _ ?_ ?_ <;> simp only [go_sem]
  · have q1 : (4000 : Int) < ((decL q.num.natAbs).length : Int) := by omega
    have hk : ¬ NumOk q := fun h => ho h.1
    rw [if_neg hk]
    simp only [go_sem, cRat_Num_r3, cRat_Num_r4, bs_size, q1]
    first | exact ⟨trivial, trivial⟩ | rfl
end GoAbs
namespace GoAbs
open Go Go.Proofs
def cslices_Repeat_r1 : List IOp := [oI 4 (.mv (.c .nils)) 0]
def cslices_Repeat_r2 : List IOp := [mI 9 1 0, oI 10 (.bin .lss (.t 9) (cI 0)) 0]
def cslices_Repeat_r3 : List IOp := [oI 11 .bad 0, ⟨none, .bad, 0, [], [], none⟩]
def cslices_Repeat_r4 : List IOp := [mI 13 0 0, oI 14 (.len (.t 13)) 0, oI 15 (.cvi .u64 (.t 14)) 0, mI 16 1 0, oI 17 (.cvi .u64 (.t 16)) 0, oI 18 (.call 132 [.t 15, .t 17]) 0, mI 12 18 0, eI 19 0 12 0, eI 20 1 12 0, mI 5 19 0, mI 6 20 0]
def cslices_Repeat_r5 : List IOp := [mI 21 5 0, oI 22 (.bin .gtr (.t 21) (.c (.int .u64 0))) 0, mI 23 22 0, gI 24 (.mv (.t 6)) 0 23 false, gI 25 (.bin .gtr (.t 24) (.c (.int .u64 9223372036854775807))) 0 23 false, oI 26 (.pick (.t 23) (.c (.bool true)) (.t 25)) 0]
def cslices_Repeat_r6 : List IOp := [oI 27 .bad 0, ⟨none, .bad, 0, [], [], none⟩]
def cslices_Repeat_r7 : List IOp := [mI 28 6 0, oI 29 (.cvi .i64 (.t 28)) 0, oI 30 (.mks (some 4) 64 [.bool false, .nils, .bool false, .nils] (.t 29) (.t 29)) 0, mI 7 30 1]
def cslices_Repeat_r8 : List IOp := [mI 31 7 0, mI 32 0 0, oI 33 (.cpy 4 (.t 31) (.t 32)) 0, mI 8 33 0]
def cslices_Repeat_r9 : List IOp := [mI 34 8 0, mI 35 7 0, oI 36 (.len (.t 35)) 0, oI 37 (.bin .lss (.t 34) (.t 36)) 0]
def cslices_Repeat_r10 : List IOp := [mI 38 8 0, mI 39 7 0, mI 40 8 0, oI 41 (.slc 4 (.t 39) (some (.t 40)) none) 0, mI 42 7 0, mI 43 8 0, oI 44 (.slc 4 (.t 42) none (some (.t 43))) 0, oI 45 (.cpy 4 (.t 41) (.t 44)) 0, oI 46 (.bin .add (.t 38) (.t 45)) 0, mI 8 46 0]
@[go_sem ↓] theorem cslices_Repeat_r10_k : autoK cslices_Repeat_r10 = (0, 1) := by kernel_rfl
@[go_sem] theorem cslices_Repeat_r10_k1 : autoK [mI 38 8 0, mI 39 7 0, mI 40 8 0, oI 41 (.slc 4 (.t 39) (some (.t 40)) none) 0, mI 42 7 0, mI 43 8 0, oI 44 (.slc 4 (.t 42) none (some (.t 43))) 0, oI 45 (.cpy 4 (.t 41) (.t 44)) 0, oI 46 (.bin .add (.t 38) (.t 45)) 0, mI 8 46 0] = (0, 1) := cslices_Repeat_r10_k
def cslices_Repeat_L1 : CC := .seq (.seq (.rg false cslices_Repeat_r9) (.cond (.t 37) .skip (.exit 0))) (.block 1 (.rg true cslices_Repeat_r10))
def cslices_Repeat_r11 : List IOp := [mI 47 7 0, mI 4 47 0]
def cslices_Repeat : CC := .seq (.rg false cslices_Repeat_r1) (.seq (.seq (.rg false cslices_Repeat_r2) (.cond (.t 10) (.rg false cslices_Repeat_r3) .skip)) (.seq (.rg false cslices_Repeat_r4) (.seq (.seq (.rg false cslices_Repeat_r5) (.cond (.t 26) (.rg false cslices_Repeat_r6) .skip)) (.seq (.rg false cslices_Repeat_r7) (.seq (.rg false cslices_Repeat_r8) (.seq (.block 0 (.loop cslices_Repeat_L1)) (.seq (.rg false cslices_Repeat_r11) .ret)))))))
abbrev n_slices_Repeat : Nat := 99
theorem ok_slices_Repeat : fnOk Tryz.prog 99 = some (48, cslices_Repeat, [.tmp 4]) := by kernel_rfl
def cbits_Mul_r1 : List IOp := [oI 4 (.mv (.c (.int .u64 0))) 0, oI 5 (.mv (.c (.int .u64 0))) 0]
def cbits_Mul_r2 : List IOp := [mI 11 0 0, oI 12 (.cvi .u32 (.t 11)) 0, mI 13 1 0, oI 14 (.cvi .u32 (.t 13)) 0, oI 15 (.call 153 [.t 12, .t 14]) 0, mI 10 15 0, eI 16 0 10 0, eI 17 1 10 0, mI 6 16 0, mI 7 17 0]
def cbits_Mul_r3 : List IOp := [mI 18 6 0, oI 19 (.cvi .u64 (.t 18)) 0, mI 20 7 0, oI 21 (.cvi .u64 (.t 20)) 0, mI 4 19 0, mI 5 21 0]
def cbits_Mul_r4 : List IOp := [mI 23 0 0, mI 24 1 0, oI 25 (.call 154 [.t 23, .t 24]) 0, mI 22 25 0, eI 26 0 22 0, eI 27 1 22 0, mI 8 26 0, mI 9 27 0]
def cbits_Mul_r5 : List IOp := [mI 28 8 0, mI 29 9 0, mI 4 28 0, mI 5 29 0]
def cbits_Mul : CC := .seq (.rg false cbits_Mul_r1) (.seq (.cond (.c (.bool false)) (.seq (.rg false cbits_Mul_r2) (.seq (.rg false cbits_Mul_r3) .ret)) .skip) (.seq (.rg false cbits_Mul_r4) (.seq (.rg false cbits_Mul_r5) .ret)))
abbrev n_bits_Mul : Nat := 132
theorem ok_bits_Mul : fnOk Tryz.prog 132 = some (30, cbits_Mul, [.tmp 4, .tmp 5]) := by kernel_rfl
def cbits_Mul64_r1 : List IOp := [oI 4 (.mv (.c (.int .u64 0))) 0, oI 5 (.mv (.c (.int .u64 0))) 0]
def cbits_Mul64_r2 : List IOp := [mI 14 0 0, oI 15 (.bin .and (.t 14) (.c (.int .u64 4294967295))) 0, mI 6 15 0]
def cbits_Mul64_r3 : List IOp := [mI 16 0 0, oI 17 (.bin .shr (.t 16) (.c (.int .u64 32))) 0, mI 7 17 0]
def cbits_Mul64_r4 : List IOp := [mI 18 1 0, oI 19 (.bin .and (.t 18) (.c (.int .u64 4294967295))) 0, mI 8 19 0]
def cbits_Mul64_r5 : List IOp := [mI 20 1 0, oI 21 (.bin .shr (.t 20) (.c (.int .u64 32))) 0, mI 9 21 0]
def cbits_Mul64_r6 : List IOp := [mI 22 6 0, mI 23 8 0, oI 24 (.bin .mul (.t 22) (.t 23)) 0, mI 10 24 0]
def cbits_Mul64_r7 : List IOp := [mI 25 7 0, mI 26 8 0, oI 27 (.bin .mul (.t 25) (.t 26)) 0, mI 28 10 0, oI 29 (.bin .shr (.t 28) (.c (.int .u64 32))) 0, oI 30 (.bin .add (.t 27) (.t 29)) 0, mI 11 30 0]
def cbits_Mul64_r8 : List IOp := [mI 31 11 0, oI 32 (.bin .and (.t 31) (.c (.int .u64 4294967295))) 0, mI 12 32 0]
def cbits_Mul64_r9 : List IOp := [mI 33 11 0, oI 34 (.bin .shr (.t 33) (.c (.int .u64 32))) 0, mI 13 34 0]
def cbits_Mul64_r10 : List IOp := [mI 35 12 0, mI 36 6 0, mI 37 9 0, oI 38 (.bin .mul (.t 36) (.t 37)) 0, oI 39 (.bin .add (.t 35) (.t 38)) 0, mI 12 39 0]
def cbits_Mul64_r11 : List IOp := [mI 40 7 0, mI 41 9 0, oI 42 (.bin .mul (.t 40) (.t 41)) 0, mI 43 13 0, oI 44 (.bin .add (.t 42) (.t 43)) 0, mI 45 12 0, oI 46 (.bin .shr (.t 45) (.c (.int .u64 32))) 0, oI 47 (.bin .add (.t 44) (.t 46)) 0, mI 4 47 0]
def cbits_Mul64_r12 : List IOp := [mI 48 0 0, mI 49 1 0, oI 50 (.bin .mul (.t 48) (.t 49)) 0, mI 5 50 0]
def cbits_Mul64 : CC := .seq (.rg false cbits_Mul64_r1) (.seq (.rg false cbits_Mul64_r2) (.seq (.rg false cbits_Mul64_r3) (.seq (.rg false cbits_Mul64_r4) (.seq (.rg false cbits_Mul64_r5) (.seq (.rg false cbits_Mul64_r6) (.seq (.rg false cbits_Mul64_r7) (.seq (.rg false cbits_Mul64_r8) (.seq (.rg false cbits_Mul64_r9) (.seq (.rg false cbits_Mul64_r10) (.seq (.rg false cbits_Mul64_r11) (.seq (.rg false cbits_Mul64_r12) .ret)))))))))))
abbrev n_bits_Mul64 : Nat := 154
theorem ok_bits_Mul64 : fnOk Tryz.prog 154 = some (51, cbits_Mul64, [.tmp 4, .tmp 5]) := by kernel_rfl
def clinear_Zero_r1 : List IOp := [oI 4 (.mv (.c .nils)) 0]
def clinear_Zero_r2 : List IOp := [mI 7 0 0, oI 8 (.mks none 24 [.nils] (.t 7) (.t 7)) 0, mI 5 8 1]
def clinear_Zero_r3 : List IOp := [mI 9 5 0, oI 10 (.len (.t 9)) 0, oI 11 (.mv (cI 0)) 0]
def clinear_Zero_r4 : List IOp := [oI 12 (.bin .lss (.t 11) (.t 10)) 0]
def clinear_Zero_r5 : List IOp := [mI 13 11 0, mI 6 13 0]
def clinear_Zero_r6 : List IOp := [mI 14 5 0, mI 15 6 0, oI 16 (.call 77 [cI 0]) 0, oI 17 (.bsl (some 4) 1 [.bool false, .nils, .bool false, .nils] [(0, .t 16)]) 0, mI 18 1 1, oI 19 (.call 99 [.t 17, .t 18]) 1, xI 20 1 14 15 1, ⟨none, .st 1 (.t 20) (.t 19), 1, [], [], none⟩]
def clinear_Zero_r7 : List IOp := [oI 21 (.bin .add (.t 11) (cI 1)) 0, mI 11 21 0]
def clinear_Zero_L1 : CC := .seq (.rg false clinear_Zero_r4) (.seq (.cond (.t 12) .skip (.exit 0)) (.seq (.block 1 (.seq (.rg false clinear_Zero_r5) (.rg false clinear_Zero_r6))) (.rg false clinear_Zero_r7)))
def clinear_Zero_r8 : List IOp := [mI 22 5 0, mI 4 22 0]
def clinear_Zero : CC := .seq (.rg false clinear_Zero_r1) (.seq (.rg false clinear_Zero_r2) (.seq (.seq (.rg false clinear_Zero_r3) (.block 0 (.loop clinear_Zero_L1))) (.seq (.rg false clinear_Zero_r8) .ret)))
abbrev n_linear_Zero : Nat := 111
theorem ok_linear_Zero : fnOk Tryz.prog 111 = some (23, clinear_Zero, [.tmp 4]) := by kernel_rfl
def cMatrix_Add_r1 : List IOp := [oI 7 (.box (.t 3)) 0]
def cMatrix_Add_r2 : List IOp := [mI 8 0 0, mI 9 1 0, xI 10 1 8 9 0, lI 11 10 0, mI 12 2 0, mI 13 0 0, mI 14 1 0, xI 15 1 13 14 0, lI 16 15 0, mI 17 2 0, xI 18 4 16 17 0, lJ 19 4 18 0, lJ 20 4 7 0, oI 21 (.call 94 [.t 19, .t 20]) 0, xI 22 4 11 12 0, ⟨none, .st 4 (.t 22) (.t 21), 0, [], [], none⟩]
@[go_sem ↓] theorem cMatrix_Add_r2_k : autoK cMatrix_Add_r2 = (0, 1) := by kernel_rfl
@[go_sem] theorem cMatrix_Add_r2_k1 : autoK [mI 8 0 0, mI 9 1 0, xI 10 1 8 9 0, lI 11 10 0, mI 12 2 0, mI 13 0 0, mI 14 1 0, xI 15 1 13 14 0, lI 16 15 0, mI 17 2 0, xI 18 4 16 17 0, lJ 19 4 18 0, lJ 20 4 7 0, oI 21 (.call 94 [.t 19, .t 20]) 0, xI 22 4 11 12 0, ⟨none, .st 4 (.t 22) (.t 21), 0, [], [], none⟩] = (0, 1) := cMatrix_Add_r2_k
def cMatrix_Add : CC := .seq (.rg false cMatrix_Add_r1) (.rg true cMatrix_Add_r2)
abbrev n_Matrix_Add : Nat := 112
theorem ok_Matrix_Add : fnOk Tryz.prog 112 = some (23, cMatrix_Add, []) := by kernel_rfl
def cMatrix_triangle_r1 : List IOp := [oI 2 (.alloc [.bool false, .nils, .bool false, .nils]) 0]
def cMatrix_triangle_r2 : List IOp := [oI 9 (.call 77 [cI 1]) 0, oI 3 (.alloc [.bool false, .nils, .bool false, .nils]) 0, ⟨none, .st 4 (.t 3) (.t 9), 1, [], [], none⟩]
def cMatrix_triangle_r3 : List IOp := [mI 10 0 0, oI 11 (.len (.t 10)) 0, oI 12 (.mv (cI 0)) 0]
def cMatrix_triangle_r4 : List IOp := [oI 13 (.bin .lss (.t 12) (.t 11)) 0]
def cMatrix_triangle_r5 : List IOp := [mI 14 12 0, mI 4 14 0]
def cMatrix_triangle_r6 : List IOp := [mI 15 4 0, mI 5 15 0]
def cMatrix_triangle_r7 : List IOp := [mI 16 5 0, mI 17 0 0, oI 18 (.len (.t 17)) 0, oI 19 (.bin .lss (.t 16) (.t 18)) 0, mI 20 19 0, gI 21 (.mv (.t 0)) 0 20 true, gI 22 (.mv (.t 5)) 0 20 true, gI 23 (.idx 1 (.t 21) (.t 22)) 0 20 true, gI 24 (.ld none (.t 23)) 0 20 true, gI 25 (.mv (.t 4)) 0 20 true, gI 26 (.idx 4 (.t 24) (.t 25)) 0 20 true, gI 27 (.ld (some 4) (.t 26)) 0 20 true, gI 28 (.call 95 [.t 27]) 0 20 true, gI 29 (.bin .eql (.t 28) (cI 0)) 0 20 true, oI 30 (.pick (.t 20) (.t 29) (.c (.bool false))) 0]
def cMatrix_triangle_r8 : List IOp := [mI 31 5 0, oI 32 (.bin .add (.t 31) (cI 1)) 0, mI 5 32 0]
def cMatrix_triangle_L1 : CC := .seq (.seq (.rg false cMatrix_triangle_r7) (.cond (.t 30) .skip (.exit 2))) (.block 3 (.rg false cMatrix_triangle_r8))
def cMatrix_triangle_r9 : List IOp := [mI 33 5 0, mI 34 0 0, oI 35 (.len (.t 34)) 0, oI 36 (.bin .eql (.t 33) (.t 35)) 0]
def cMatrix_triangle_r10 : List IOp := [oI 37 (.call 77 [cI 0]) 0, ⟨none, .st 4 (.t 2) (.t 37), 0, [], [], none⟩]
def cMatrix_triangle_r11 : List IOp := [mI 38 5 0, mI 39 4 0, oI 40 (.bin .neq (.t 38) (.t 39)) 0]
def cMatrix_triangle_r12 : List IOp := [mI 41 0 0, mI 42 5 0, mI 43 0 0, mI 44 4 0, mI 45 0 0, mI 46 4 0, xI 47 1 45 46 0, lI 48 47 0, mI 49 0 0, mI 50 5 0, xI 51 1 49 50 0, lI 52 51 0, xI 53 1 41 42 0, ⟨none, .st 1 (.t 53) (.t 48), 0, [], [], none⟩, xI 54 1 43 44 0, ⟨none, .st 1 (.t 54) (.t 52), 0, [], [], none⟩]
@[go_sem ↓] theorem cMatrix_triangle_r12_k : autoK cMatrix_triangle_r12 = (0, 1) := by kernel_rfl
@[go_sem] theorem cMatrix_triangle_r12_k1 : autoK [mI 41 0 0, mI 42 5 0, mI 43 0 0, mI 44 4 0, mI 45 0 0, mI 46 4 0, xI 47 1 45 46 0, lI 48 47 0, mI 49 0 0, mI 50 5 0, xI 51 1 49 50 0, lI 52 51 0, xI 53 1 41 42 0, ⟨none, .st 1 (.t 53) (.t 48), 0, [], [], none⟩, xI 54 1 43 44 0, ⟨none, .st 1 (.t 54) (.t 52), 0, [], [], none⟩] = (0, 1) := cMatrix_triangle_r12_k
def cMatrix_triangle_r13 : List IOp := [lJ 55 4 3 0, oI 56 (.call 113 [.t 55]) 0, ⟨none, .st 4 (.t 3) (.t 56), 0, [], [], none⟩]
def cMatrix_triangle_r14 : List IOp := [lJ 57 4 3 0, mI 58 0 0, mI 59 4 0, xI 60 1 58 59 0, lI 61 60 0, mI 62 4 0, xI 63 4 61 62 0, lJ 64 4 63 0, oI 65 (.callw 87 [.t 57, .t 64]) 0, ⟨none, .st 4 (.t 3) (.t 65), 0, [], [], none⟩]
@[go_sem ↓] theorem cMatrix_triangle_r14_k : autoK cMatrix_triangle_r14 = (0, 1) := by kernel_rfl
@[go_sem] theorem cMatrix_triangle_r14_k1 : autoK [lJ 57 4 3 0, mI 58 0 0, mI 59 4 0, xI 60 1 58 59 0, lI 61 60 0, mI 62 4 0, xI 63 4 61 62 0, lJ 64 4 63 0, oI 65 (.callw 87 [.t 57, .t 64]) 0, ⟨none, .st 4 (.t 3) (.t 65), 0, [], [], none⟩] = (0, 1) := cMatrix_triangle_r14_k
def cMatrix_triangle_r15 : List IOp := [mI 66 4 0, oI 67 (.bin .add (.t 66) (cI 1)) 0, mI 6 67 0]
def cMatrix_triangle_r16 : List IOp := [mI 68 6 0, mI 69 0 0, oI 70 (.len (.t 69)) 0, oI 71 (.bin .lss (.t 68) (.t 70)) 0]
def cMatrix_triangle_r17 : List IOp := [mI 74 0 0, mI 75 6 0, xI 76 1 74 75 0, lI 77 76 0, mI 78 4 0, xI 79 4 77 78 0, lJ 80 4 79 0, oI 81 (.call 95 [.t 80]) 0, oI 82 (.bin .eql (.t 81) (cI 0)) 0]
def cMatrix_triangle_r18 : List IOp := [mI 83 0 0, mI 84 6 0, xI 85 1 83 84 0, lI 86 85 0, mI 87 4 0, xI 88 4 86 87 0, lJ 89 4 88 0, mI 90 0 0, mI 91 4 0, xI 92 1 90 91 0, lI 93 92 0, mI 94 4 0, xI 95 4 93 94 0, lJ 96 4 95 0, oI 97 (.call 78 [.t 89, .t 96]) 0, oI 7 (.alloc [.bool false, .nils, .bool false, .nils]) 0, ⟨none, .st 4 (.t 7) (.t 97), 1, [0], [], none⟩]
@[go_sem ↓] theorem cMatrix_triangle_r18_k : autoK cMatrix_triangle_r18 = (1, 1) := by kernel_rfl
@[go_sem] theorem cMatrix_triangle_r18_k1 : autoK [mI 83 0 0, mI 84 6 0, xI 85 1 83 84 0, lI 86 85 0, mI 87 4 0, xI 88 4 86 87 0, lJ 89 4 88 0, mI 90 0 0, mI 91 4 0, xI 92 1 90 91 0, lI 93 92 0, mI 94 4 0, xI 95 4 93 94 0, lJ 96 4 95 0, oI 97 (.call 78 [.t 89, .t 96]) 0, oI 7 (.alloc [.bool false, .nils, .bool false, .nils]) 0, ⟨none, .st 4 (.t 7) (.t 97), 1, [0], [], none⟩] = (1, 1) := cMatrix_triangle_r18_k
def cMatrix_triangle_r19 : List IOp := [mI 98 4 0, mI 8 98 0]
def cMatrix_triangle_r20 : List IOp := [mI 99 8 0, mI 100 0 0, mI 101 6 0, xI 102 1 100 101 0, lI 103 102 0, oI 104 (.len (.t 103)) 0, oI 105 (.bin .lss (.t 99) (.t 104)) 0]
def cMatrix_triangle_r21 : List IOp := [mI 108 0 0, mI 109 6 0, xI 110 1 108 109 0, lI 111 110 0, mI 112 8 0, mI 113 0 0, mI 114 6 0, xI 115 1 113 114 0, lI 116 115 0, mI 117 8 0, xI 118 4 116 117 0, lJ 119 4 118 0, lJ 120 4 7 0, mI 121 0 0, mI 122 4 0, xI 123 1 121 122 0, lI 124 123 0, mI 125 8 0, xI 126 4 124 125 0, lJ 127 4 126 0, oI 128 (.call 87 [.t 120, .t 127]) 0, oI 129 (.call 79 [.t 119, .t 128]) 0, xI 130 4 111 112 0, ⟨none, .st 4 (.t 130) (.t 129), 0, [], [], none⟩]
@[go_sem ↓] theorem cMatrix_triangle_r21_k : autoK cMatrix_triangle_r21 = (0, 1) := by kernel_rfl
@[go_sem] theorem cMatrix_triangle_r21_k1 : autoK [mI 108 0 0, mI 109 6 0, xI 110 1 108 109 0, lI 111 110 0, mI 112 8 0, mI 113 0 0, mI 114 6 0, xI 115 1 113 114 0, lI 116 115 0, mI 117 8 0, xI 118 4 116 117 0, lJ 119 4 118 0, lJ 120 4 7 0, mI 121 0 0, mI 122 4 0, xI 123 1 121 122 0, lI 124 123 0, mI 125 8 0, xI 126 4 124 125 0, lJ 127 4 126 0, oI 128 (.call 87 [.t 120, .t 127]) 0, oI 129 (.call 79 [.t 119, .t 128]) 0, xI 130 4 111 112 0, ⟨none, .st 4 (.t 130) (.t 129), 0, [], [], none⟩] = (0, 1) := cMatrix_triangle_r21_k
def cMatrix_triangle_r22 : List IOp := [mI 106 8 0, oI 107 (.bin .add (.t 106) (cI 1)) 0, mI 8 107 0]
def cMatrix_triangle_L2 : CC := .seq (.seq (.rg false cMatrix_triangle_r20) (.cond (.t 105) .skip (.exit 6))) (.seq (.block 7 (.rg true cMatrix_triangle_r21)) (.rg false cMatrix_triangle_r22))
def cMatrix_triangle_r23 : List IOp := [mI 72 6 0, oI 73 (.bin .add (.t 72) (cI 1)) 0, mI 6 73 0]
def cMatrix_triangle_L3 : CC := .seq (.seq (.rg false cMatrix_triangle_r16) (.cond (.t 71) .skip (.exit 4))) (.seq (.block 5 (.seq (.seq (.rg false cMatrix_triangle_r17) (.cond (.t 82) (.exit 5) .skip)) (.seq (.rg true cMatrix_triangle_r18) (.seq (.rg false cMatrix_triangle_r19) (.block 6 (.loop cMatrix_triangle_L2)))))) (.rg false cMatrix_triangle_r23))
def cMatrix_triangle_r24 : List IOp := [oI 131 (.bin .add (.t 12) (cI 1)) 0, mI 12 131 0]
def cMatrix_triangle_L4 : CC := .seq (.rg false cMatrix_triangle_r4) (.seq (.cond (.t 13) .skip (.exit 0)) (.seq (.block 1 (.seq (.rg false cMatrix_triangle_r5) (.seq (.rg false cMatrix_triangle_r6) (.seq (.block 2 (.loop cMatrix_triangle_L1)) (.seq (.seq (.rg false cMatrix_triangle_r9) (.cond (.t 36) (.seq (.rg false cMatrix_triangle_r10) .ret) .skip)) (.seq (.seq (.rg false cMatrix_triangle_r11) (.cond (.t 40) (.seq (.rg true cMatrix_triangle_r12) (.rg false cMatrix_triangle_r13)) .skip)) (.seq (.rg true cMatrix_triangle_r14) (.seq (.rg false cMatrix_triangle_r15) (.block 4 (.loop cMatrix_triangle_L3)))))))))) (.rg false cMatrix_triangle_r24)))
def cMatrix_triangle_r25 : List IOp := [lJ 132 4 3 0, ⟨none, .st 4 (.t 2) (.t 132), 0, [], [], none⟩]
def cMatrix_triangle : CC := .seq (.rg false cMatrix_triangle_r1) (.seq (.rg false cMatrix_triangle_r2) (.seq (.seq (.rg false cMatrix_triangle_r3) (.block 0 (.loop cMatrix_triangle_L4))) (.seq (.rg false cMatrix_triangle_r25) .ret)))
abbrev n_Matrix_triangle : Nat := 114
theorem ok_Matrix_triangle : fnOk Tryz.prog 114 = some (133, cMatrix_triangle, [.cell 2 (some 4)]) := by kernel_rfl
def cMatrix_Det_r1 : List IOp := [oI 2 (.alloc [.bool false, .nils, .bool false, .nils]) 0]
def cMatrix_Det_r2 : List IOp := [mI 3 0 0, oI 4 (.call 114 [.t 3]) 0, ⟨none, .st 4 (.t 2) (.t 4), 0, [], [], none⟩]
def cMatrix_Det : CC := .seq (.rg false cMatrix_Det_r1) (.seq (.rg false cMatrix_Det_r2) .ret)
abbrev n_Matrix_Det : Nat := 64
theorem ok_Matrix_Det : fnOk Tryz.prog 64 = some (5, cMatrix_Det, [.cell 2 (some 4)]) := by kernel_rfl
def cnet_matrix_r1 : List IOp := [oI 1 (.box (.t 0)) 0, oI 2 (.mv (.c .nils)) 1]
def cnet_matrix_r2 : List IOp := [fI 9 0 1 0, lI 10 9 0, oI 11 (.bin .sub (.t 10) (cI 1)) 0, fI 12 0 1 0, lI 13 12 0, oI 14 (.bin .sub (.t 13) (cI 1)) 0, oI 15 (.call 111 [.t 11, .t 14]) 0, mI 3 15 0]
def cnet_matrix_r3 : List IOp := [fI 16 1 1 0, lI 17 16 0, oI 18 (.len (.t 17)) 0, oI 19 (.mv (cI 0)) 0]
def cnet_matrix_r4 : List IOp := [oI 20 (.bin .lss (.t 19) (.t 18)) 0]
def cnet_matrix_r5 : List IOp := [mI 21 19 0, xI 22 2 17 19 0, lJ 23 2 22 0, oI 5 (.alloc [.int .i64 0, .int .i64 0]) 0, mI 4 21 1, ⟨none, .st 2 (.t 5) (.t 23), 1, [], [], none⟩]
def cnet_matrix_r6 : List IOp := [fI 24 2 1 0, lI 25 24 0, mI 26 4 0, xI 27 4 25 26 0, lJ 28 4 27 0, oI 6 (.alloc [.bool false, .nils, .bool false, .nils]) 0, ⟨none, .st 4 (.t 6) (.t 28), 1, [], [], none⟩]
def cnet_matrix_r7 : List IOp := [fI 29 0 5 0, lI 30 29 0, fI 31 1 5 0, lI 32 31 0, oI 33 (.build [.int .i64 0, .int .i64 0] [(0, 1, .t 30), (1, 1, .t 32)]) 0, fI 34 1 5 0, lI 35 34 0, fI 36 0 5 0, lI 37 36 0, oI 38 (.build [.int .i64 0, .int .i64 0] [(0, 1, .t 35), (1, 1, .t 37)]) 0, oI 39 (.bsl (some 2) 2 [.int .i64 0, .int .i64 0] [(0, .t 33), (1, .t 38)]) 0, oI 40 (.len (.t 39)) 1, oI 41 (.mv (cI 0)) 1]
def cnet_matrix_r8 : List IOp := [oI 42 (.bin .lss (.t 41) (.t 40)) 0]
def cnet_matrix_r9 : List IOp := [xI 43 2 39 41 0, lJ 44 2 43 0, oI 8 (.alloc [.int .i64 0, .int .i64 0]) 0, ⟨none, .st 2 (.t 8) (.t 44), 1, [], [], none⟩]
def cnet_matrix_r10 : List IOp := [fI 45 0 8 0, lI 46 45 0, oI 47 (.bin .eql (.t 46) (cI 0)) 0]
def cnet_matrix_r11 : List IOp := [mI 48 3 0, fI 49 0 8 0, lI 50 49 0, oI 51 (.bin .sub (.t 50) (cI 1)) 0, fI 52 0 8 0, lI 53 52 0, oI 54 (.bin .sub (.t 53) (cI 1)) 0, lJ 55 4 6 0, oI 56 (.call 112 [.t 48, .t 51, .t 54, .t 55]) 0]
def cnet_matrix_r12 : List IOp := [fI 57 1 8 0, lI 58 57 0, oI 59 (.bin .neq (.t 58) (cI 0)) 0]
def cnet_matrix_r13 : List IOp := [mI 60 3 0, fI 61 0 8 0, lI 62 61 0, oI 63 (.bin .sub (.t 62) (cI 1)) 0, fI 64 1 8 0, lI 65 64 0, oI 66 (.bin .sub (.t 65) (cI 1)) 0, lJ 67 4 6 0, oI 68 (.call 113 [.t 67]) 0, oI 69 (.callw 112 [.t 60, .t 63, .t 66, .t 68]) 0]
@[go_sem ↓] theorem cnet_matrix_r13_k : autoK cnet_matrix_r13 = (0, 0) := by kernel_rfl
@[go_sem] theorem cnet_matrix_r13_k1 : autoK [mI 60 3 0, fI 61 0 8 0, lI 62 61 0, oI 63 (.bin .sub (.t 62) (cI 1)) 0, fI 64 1 8 0, lI 65 64 0, oI 66 (.bin .sub (.t 65) (cI 1)) 0, lJ 67 4 6 0, oI 68 (.call 113 [.t 67]) 0, oI 69 (.callw 112 [.t 60, .t 63, .t 66, .t 68]) 0] = (0, 0) := cnet_matrix_r13_k
def cnet_matrix_r14 : List IOp := [oI 70 (.bin .add (.t 41) (cI 1)) 0, mI 41 70 0]
def cnet_matrix_L1 : CC := .seq (.rg false cnet_matrix_r8) (.seq (.cond (.t 42) .skip (.exit 2)) (.seq (.block 3 (.seq (.rg false cnet_matrix_r9) (.seq (.seq (.rg false cnet_matrix_r10) (.cond (.t 47) (.exit 3) .skip)) (.seq (.rg false cnet_matrix_r11) (.seq (.rg false cnet_matrix_r12) (.cond (.t 59) (.rg true cnet_matrix_r13) .skip)))))) (.rg false cnet_matrix_r14)))
def cnet_matrix_r15 : List IOp := [oI 71 (.bin .add (.t 19) (cI 1)) 0, mI 19 71 0]
def cnet_matrix_L2 : CC := .seq (.rg false cnet_matrix_r4) (.seq (.cond (.t 20) .skip (.exit 0)) (.seq (.block 1 (.seq (.rg false cnet_matrix_r5) (.seq (.rg false cnet_matrix_r6) (.seq (.rg false cnet_matrix_r7) (.block 2 (.loop cnet_matrix_L1)))))) (.rg false cnet_matrix_r15)))
def cnet_matrix_r16 : List IOp := [mI 72 3 0, mI 2 72 0]
def cnet_matrix : CC := .seq (.rg false cnet_matrix_r1) (.seq (.rg false cnet_matrix_r2) (.seq (.seq (.rg false cnet_matrix_r3) (.block 0 (.loop cnet_matrix_L2))) (.seq (.rg false cnet_matrix_r16) .ret)))
abbrev n_net_matrix : Nat := 63
theorem ok_net_matrix : fnOk Tryz.prog 63 = some (73, cnet_matrix, [.tmp 2]) := by kernel_rfl
def cspring_Trees_r1 : List IOp := [oI 4 (.mv (.c (.str ⟨#[]⟩))) 0, oI 5 (.mv (cI 0)) 0]
def cspring_Trees_r2 : List IOp := [mI 9 0 0, mI 10 1 0, oI 11 (.call 62 [.t 9, .t 10]) 0, mI 8 11 0, eI 12 0 8 0, eI 13 1 8 0, oI 6 (.alloc [.int .i64 0, .nils, .nils]) 0, ⟨none, .st 3 (.t 6) (.t 12), 1, [], [], none⟩, mI 7 13 1]
def cspring_Trees_r3 : List IOp := [mI 14 7 0, oI 15 (.bin .neq (.t 14) (cI 0)) 0]
def cspring_Trees_r4 : List IOp := [mI 16 7 0, oI 4 (.mv (.c (.str ⟨#[]⟩))) 0, mI 5 16 0]
def cspring_Trees_r5 : List IOp := [lJ 17 3 6 0, oI 18 (.call 63 [.t 17]) 0, oI 19 (.call 64 [.t 18]) 0, oI 20 (.call 65 [.t 19]) 0, eI 21 0 20 0, eI 22 1 20 0, mI 4 21 0, mI 5 22 0]
def cspring_Trees : CC := .seq (.rg false cspring_Trees_r1) (.seq (.rg false cspring_Trees_r2) (.seq (.seq (.rg false cspring_Trees_r3) (.cond (.t 15) (.seq (.rg false cspring_Trees_r4) .ret) .skip)) (.seq (.rg false cspring_Trees_r5) .ret)))
abbrev n_spring_Trees : Nat := 16
theorem ok_spring_Trees : fnOk Tryz.prog 16 = some (23, cspring_Trees, [.tmp 4, .tmp 5]) := by kernel_rfl
def cspring_read_r1 : List IOp := [oI 4 (.alloc [.int .i64 0, .nils, .nils]) 0, oI 5 (.mv (cI 0)) 1]
def cspring_read_r2 : List IOp := [mI 13 0 0, oI 14 (.build [.int .i64 0, .nils, .nils] [(0, 1, .t 13)]) 0, oI 6 (.alloc [.int .i64 0, .nils, .nils]) 0, ⟨none, .st 3 (.t 6) (.t 14), 1, [], [], none⟩]
def cspring_read_r3 : List IOp := [mI 15 0 0, oI 16 (.bin .geq (.t 15) (cI 2)) 0, mI 17 16 0, gI 18 (.mv (.t 0)) 0 17 true, gI 19 (.bin .leq (.t 18) (cI 10)) 0 17 true, oI 20 (.pick (.t 17) (.t 19) (.c (.bool false))) 0, mI 21 20 0, gI 22 (.mv (.t 1)) 0 21 true, gI 23 (.len (.t 22)) 0 21 true, gI 24 (.bin .leq (.t 23) (cI 40)) 0 21 true, oI 25 (.pick (.t 21) (.t 24) (.c (.bool false))) 0, oI 7 (.mv (.c (.bool true))) 0, mI 8 25 0]
def cspring_read_r4 : List IOp := [mI 26 1 0, oI 27 (.len (.t 26)) 0, oI 28 (.mv (cI 0)) 0]
def cspring_read_r5 : List IOp := [oI 29 (.bin .lss (.t 28) (.t 27)) 0]
def cspring_read_r6 : List IOp := [xI 30 3 26 28 0, lJ 31 3 30 0, oI 10 (.alloc [.int .i64 0, .int .i64 0, .str ⟨#[]⟩]) 0, ⟨none, .st 3 (.t 10) (.t 31), 1, [], [], none⟩]
def cspring_read_r7 : List IOp := [fI 33 2 10 0, lI 34 33 0, oI 35 (.call 109 [.t 34]) 0, mI 32 35 0, eI 36 0 32 0, eI 37 1 32 0, oI 11 (.alloc [.bool false, .nils, .bool false, .nils]) 0, ⟨none, .st 4 (.t 11) (.t 36), 1, [], [], none⟩, mI 12 37 1]
def cspring_read_r8 : List IOp := [mI 38 7 0, mI 39 38 0, gI 40 (.mv (.t 12)) 0 39 true, oI 41 (.pick (.t 39) (.t 40) (.c (.bool false))) 0, mI 7 41 0]
def cspring_read_r9 : List IOp := [mI 42 8 0, mI 43 42 0, gI 44 (.fa 0 (.t 10)) 0 43 true, gI 45 (.ld none (.t 44)) 0 43 true, gI 46 (.bin .geq (.t 45) (cI 0)) 0 43 true, oI 47 (.pick (.t 43) (.t 46) (.c (.bool false))) 0, mI 48 47 0, gI 49 (.fa 0 (.t 10)) 0 48 true, gI 50 (.ld none (.t 49)) 0 48 true, gI 51 (.mv (.t 0)) 0 48 true, gI 52 (.bin .lss (.t 50) (.t 51)) 0 48 true, oI 53 (.pick (.t 48) (.t 52) (.c (.bool false))) 0, mI 54 53 0, gI 55 (.fa 1 (.t 10)) 0 54 true, gI 56 (.ld none (.t 55)) 0 54 true, gI 57 (.bin .geq (.t 56) (cI 0)) 0 54 true, oI 58 (.pick (.t 54) (.t 57) (.c (.bool false))) 0, mI 59 58 0, gI 60 (.fa 1 (.t 10)) 0 59 true, gI 61 (.ld none (.t 60)) 0 59 true, gI 62 (.mv (.t 0)) 0 59 true, gI 63 (.bin .lss (.t 61) (.t 62)) 0 59 true, oI 64 (.pick (.t 59) (.t 63) (.c (.bool false))) 0, mI 65 64 0, gI 66 (.fa 0 (.t 10)) 0 65 true, gI 67 (.ld none (.t 66)) 0 65 true, gI 68 (.fa 1 (.t 10)) 0 65 true, gI 69 (.ld none (.t 68)) 0 65 true, gI 70 (.bin .neq (.t 67) (.t 69)) 0 65 true, oI 71 (.pick (.t 65) (.t 70) (.c (.bool false))) 0, mI 8 71 0]
def cspring_read_r10 : List IOp := [mI 72 12 0]
def cspring_read_r11 : List IOp := [mI 73 8 0, mI 74 73 0, gI 75 (.ld (some 4) (.t 11)) 0 74 true, gI 76 (.call 95 [.t 75]) 0 74 true, gI 77 (.bin .gtr (.t 76) (cI 0)) 0 74 true, oI 78 (.pick (.t 74) (.t 77) (.c (.bool false))) 0, mI 79 78 0, gI 80 (.ld (some 4) (.t 11)) 0 79 true, gI 81 (.call 110 [.t 80, cI 20]) 0 79 true, oI 82 (.pick (.t 79) (.t 81) (.c (.bool false))) 0, mI 8 82 0]
def cspring_read_r12 : List IOp := [fI 83 1 6 0, lI 84 83 0, fI 85 0 10 0, lI 86 85 0, fI 87 1 10 0, lI 88 87 0, oI 89 (.build [.int .i64 0, .int .i64 0] [(0, 1, .t 86), (1, 1, .t 88)]) 0, oI 90 (.bsl (some 2) 1 [.int .i64 0, .int .i64 0] [(0, .t 89)]) 0, ⟨some 91, .app (some 2) 16 (.t 84) (.t 90), 1, [0], [], none⟩, fI 92 2 6 2, ⟨some 93, .ld none (.t 92), 2, [], [1], none⟩, ⟨some 94, .ld (some 4) (.t 11), 2, [], [1], none⟩, ⟨some 95, .bsl (some 4) 1 [.bool false, .nils, .bool false, .nils] [(0, .t 94)], 2, [], [1], none⟩, ⟨some 96, .app (some 4) 64 (.t 93) (.t 95), 3, [0, 1, 2], [], none⟩, ⟨some 97, .fa 1 (.t 6), 4, [0, 1], [], none⟩, ⟨none, .st 1 (.t 97) (.t 91), 4, [0, 1, 2, 3], [], none⟩, ⟨some 98, .fa 2 (.t 6), 4, [0, 1, 2, 3], [], none⟩, ⟨none, .st 1 (.t 98) (.t 96), 4, [0, 1, 2, 3], [], none⟩]
@[go_sem ↓] theorem cspring_read_r12_k : autoK cspring_read_r12 = (4, 2) := by kernel_rfl
@[go_sem] theorem cspring_read_r12_k1 : autoK [fI 83 1 6 0, lI 84 83 0, fI 85 0 10 0, lI 86 85 0, fI 87 1 10 0, lI 88 87 0, oI 89 (.build [.int .i64 0, .int .i64 0] [(0, 1, .t 86), (1, 1, .t 88)]) 0, oI 90 (.bsl (some 2) 1 [.int .i64 0, .int .i64 0] [(0, .t 89)]) 0, ⟨some 91, .app (some 2) 16 (.t 84) (.t 90), 1, [0], [], none⟩, fI 92 2 6 2, ⟨some 93, .ld none (.t 92), 2, [], [1], none⟩, ⟨some 94, .ld (some 4) (.t 11), 2, [], [1], none⟩, ⟨some 95, .bsl (some 4) 1 [.bool false, .nils, .bool false, .nils] [(0, .t 94)], 2, [], [1], none⟩, ⟨some 96, .app (some 4) 64 (.t 93) (.t 95), 3, [0, 1, 2], [], none⟩, ⟨some 97, .fa 1 (.t 6), 4, [0, 1], [], none⟩, ⟨none, .st 1 (.t 97) (.t 91), 4, [0, 1, 2, 3], [], none⟩, ⟨some 98, .fa 2 (.t 6), 4, [0, 1, 2, 3], [], none⟩, ⟨none, .st 1 (.t 98) (.t 96), 4, [0, 1, 2, 3], [], none⟩] = (4, 2) := cspring_read_r12_k
def cspring_read_r13 : List IOp := [oI 99 (.bin .add (.t 28) (cI 1)) 0, mI 28 99 0]
def cspring_read_L1 : CC := .seq (.rg false cspring_read_r5) (.seq (.cond (.t 29) .skip (.exit 0)) (.seq (.block 1 (.seq (.rg false cspring_read_r6) (.seq (.rg false cspring_read_r7) (.seq (.rg false cspring_read_r8) (.seq (.rg false cspring_read_r9) (.seq (.seq (.rg false cspring_read_r10) (.cond (.t 72) (.rg false cspring_read_r11) .skip)) (.rg true cspring_read_r12))))))) (.rg false cspring_read_r13)))
def cspring_read_r14 : List IOp := [mI 101 7 0, oI 102 (.un .not (.t 101)) 0, mI 100 102 0]
def cspring_read_r15 : List IOp := [oI 103 (.build [.int .i64 0, .nils, .nils] []) 0, ⟨none, .st 3 (.t 4) (.t 103), 0, [], [], none⟩, oI 5 (.mv (cI 2)) 0]
def cspring_read_r16 : List IOp := [mI 105 8 0, oI 106 (.un .not (.t 105)) 0, mI 104 106 0]
def cspring_read_r17 : List IOp := [oI 107 (.build [.int .i64 0, .nils, .nils] []) 0, ⟨none, .st 3 (.t 4) (.t 107), 0, [], [], none⟩, oI 5 (.mv (cI 1)) 0]
def cspring_read_r18 : List IOp := [lJ 108 3 6 0, ⟨none, .st 3 (.t 4) (.t 108), 0, [], [], none⟩, oI 5 (.mv (cI 0)) 0]
def cspring_read : CC := .seq (.rg false cspring_read_r1) (.seq (.rg false cspring_read_r2) (.seq (.rg false cspring_read_r3) (.seq (.seq (.rg false cspring_read_r4) (.block 0 (.loop cspring_read_L1))) (.seq (.block 2 (.seq (.rg false cspring_read_r14) (.cond (.t 100) (.seq (.rg false cspring_read_r15) .ret) (.seq (.rg false cspring_read_r16) (.cond (.t 104) (.seq (.rg false cspring_read_r17) .ret) .skip))))) (.seq (.rg false cspring_read_r18) .ret)))))
abbrev n_spring_read : Nat := 62
theorem ok_spring_read : fnOk Tryz.prog 62 = some (109, cspring_read, [.cell 4 (some 3), .tmp 5]) := by kernel_rfl
end GoAbs
namespace GoAbs
open Go Go.Proofs
theorem mul64_one {n : Nat} (hn : n < 4294967296) : SpecV Tryz.prog n_bits_Mul64 [.int .u64 1, .int .u64 (n : Int)] (.tup [.int .u64 0, .int .u64 (n : Int)]) := by
  refine specV_W ok_bits_Mul64 (by simp) ?_
  unfold cbits_Mul64
  have h32 : (32 : Int) = ((32 : Nat) : Int) := rfl
  have a1 : andI .u64 1 4294967295 = 1 := by have := and64 (a := 1) (b := 4294967295) (by omega) (by omega); simpa using this
  have a2 : andI .u64 (n : Int) 4294967295 = n := by
    have := and64 (a := n) (b := 4294967295) (by omega) (by omega)
    rw [show ((4294967295 : Nat) : Int) = 4294967295 from rfl] at this
    rw [this, show (4294967295 : Nat) = 2 ^ 32 - 1 from rfl, Nat.and_two_pow_sub_one_eq_mod, Nat.mod_eq_of_lt (by simpa using hn)]
  have a0 : andI .u64 0 4294967295 = 0 := by have := and64 (a := 0) (b := 4294967295) (by omega) (by omega); simpa using this
  have s1 : shrI .u64 1 32 = 0 := by
    have := shr_nat .u64 1 32 (by decide)
    rw [h32]; simpa using this
  have s2 : shrI .u64 (n : Int) 32 = 0 := by
    rw [h32, shr_nat .u64 n 32 (by decide), Nat.div_eq_of_lt (by simpa using hn)]; rfl
  have s0 : shrI .u64 0 32 = 0 := by
    have := shr_nat .u64 0 32 (by decide)
    rw [h32]; simpa using this
  have w0 : IntKind.u64.wrap 0 = 0 := u64_id (by omega) (by omega)
  have wn : IntKind.u64.wrap (n : Int) = n := u64_id (by omega) (by omega)
  have p32 : (0 : Int) ≤ 32 := by omega
  have m1 : (1 : Int) * n = n := Int.one_mul _
  have m2 : (0 : Int) * n = 0 := Int.zero_mul _
  simp only [go_sem, cbits_Mul64_r1, cbits_Mul64_r2, cbits_Mul64_r3, cbits_Mul64_r4, cbits_Mul64_r5, cbits_Mul64_r6, cbits_Mul64_r7, cbits_Mul64_r8, cbits_Mul64_r9, cbits_Mul64_r10, cbits_Mul64_r11, cbits_Mul64_r12, a0, a1, a2, s0, s1, s2, w0, wn, p32, m1, m2, Int.mul_zero, Int.add_zero]
theorem mul_one {n : Nat} (hn : n < 4294967296) : SpecV Tryz.prog n_bits_Mul [.int .u64 1, .int .u64 (n : Int)] (.tup [.int .u64 0, .int .u64 (n : Int)]) := by
  refine specV_W ok_bits_Mul (by simp) ?_
  unfold cbits_Mul
  simp only [go_sem, cbits_Mul_r1, cbits_Mul_r4]
  refine call_P (mul64_one hn) (by simp only [go_sem]) ?_
  simp only [go_sem, cbits_Mul_r5]
def rows (c : Nat) (x : List AV) : List AV := (List.replicate c x).flatten
theorem rows_len {c : Nat} {x : List AV} (hx : x.length = 4) : (rows c x).length = c * 4 := by
  unfold rows
  induction c with
  | zero => rfl
  | succ c ih => rw [List.replicate_succ, List.flatten_cons, List.length_append, ih, hx]; omega
theorem rows_add {a b : Nat} {x : List AV} : rows (a + b) x = rows a x ++ rows b x := by
  unfold rows
  rw [← List.replicate_append_replicate, List.flatten_append]
theorem rows_step {c k n : Nat} {x z : List AV} (hx : x.length = 4) (hz : z.length = 4) (hk : k ≤ c) (hkn : c + k ≤ n) :
    (rows c x ++ rows (n - c) z).take (c * 4) ++ ((rows c x ++ rows (n - c) z).take (c * 4)).take (k * 4) ++ (rows c x ++ rows (n - c) z).drop (c * 4 + ((((rows c x ++ rows (n - c) z).take (c * 4)).take (k * 4)).length)) = rows (c + k) x ++ rows (n - (c + k)) z := by
  have h1 : (rows c x ++ rows (n - c) z).take (c * 4) = rows c x := by rw [← rows_len hx, List.take_left]
  have h2 : (rows c x).take (k * 4) = rows k x := by
    have : rows c x = rows k x ++ rows (c - k) x := by rw [← rows_add]; congr 1; omega
    rw [this, ← rows_len hx (c := k), List.take_left]
  rw [h1, h2, rows_len hx]
  have h3 : (rows c x ++ rows (n - c) z).drop (c * 4 + k * 4) = rows (n - (c + k)) z := by
    rw [← List.drop_drop]
    have : (rows c x ++ rows (n - c) z).drop (c * 4) = rows (n - c) z := by rw [← rows_len hx, List.drop_left]
    rw [this]
    have : rows (n - c) z = rows k z ++ rows (n - (c + k)) z := by rw [← rows_add]; congr 1; omega
    rw [this, ← rows_len hz (c := k), List.drop_left]
  rw [h3, rows_add]
theorem repeat_own {n : Nat} {x : List AV} (hn : 1 ≤ n) (hnl : n ≤ 1000000) (hx : x.length = 4) :
    SpecR Tryz.prog n_slices_Repeat [] [.sl [.agg x], .int .i64 (n : Int)] (.osl (some 4) 0 0 n) [.cells (rows n x)] := by
  have hm : Tryz.prog.follows .mixedOrders = true := by kernel_rfl
  refine specR_W ok_slices_Repeat (by simp) ?_
  unfold cslices_Repeat
  have q0 : ¬ (n : Int) < 0 := by omega
  have e1 : IntKind.u64.wrap ((1 : Nat) : Int) = 1 := u64_id (by omega) (by omega)
  have e1' : IntKind.u64.wrap 1 = 1 := u64_id (by omega) (by omega)
  have e2 : IntKind.u64.wrap (n : Int) = n := u64_id (by omega) (by omega)
  have q00 : ¬ (0 : Int) < 0 := by omega
  have q1 : ¬ (9223372036854775807 : Int) < (n : Int) := by omega
  have e3 : IntKind.i64.wrap (n : Int) = n := i64_id (by omega) (by omega)
  simp only [go_sem, cslices_Repeat_r1, cslices_Repeat_r2, cslices_Repeat_r4, q0, e1, e1', e2]
  refine call_P (mul_one (n := n) (by omega)) (by simp only [go_sem]) ?_
  have p0 : (0 : Int) ≤ (n : Int) := by omega
  have p1 : (n : Int) ≤ n := Int.le_refl _
  have p2 : (64 : Int) * (n : Int) ≤ 281474976710656 := by omega
  have p4 : (0 : Nat) < 4 := by omega
  have hmin : min 1 n = 1 := by omega
  simp only [go_sem, cslices_Repeat_r5, cslices_Repeat_r7, cslices_Repeat_r8, q00, q1, e3, p0, p1, p2, hx]
  have hzl : (rows n [AV.bool false, AV.nils, AV.bool false, AV.nils]).length = n * 4 := rows_len rfl
  refine ⟨by omega, fun y hy => by subst hy; exact hx, by show n * 4 ≤ (rows n _).length; omega, ?_⟩
  refine T_rounds (fun c : Nat => ⟨envL [(7, .osl (some 4) 0 0 n), (8, .int .i64 (c : Int))], [.cells (rows c x ++ rows (n - c) [.bool false, .nils, .bool false, .nils])]⟩)
    (fun c => 1 ≤ c ∧ c ≤ n) (fun c => n - c) 1 ⟨by omega, hn⟩ ?_ (fun c hI N hN => ?_)
  · have hfill : fillA (List.replicate n [AV.bool false, .nils, .bool false, .nils]).flatten [(0, .agg ((x ++ []).take (min 1 n * 4)))] = rows 1 x ++ rows (n - 1) [.bool false, .nils, .bool false, .nils] := by
      rw [hmin, List.append_nil]
      simp only [fillA, AV.cells]
      have ht : x.take (1 * 4) = x := List.take_of_length_le (by omega)
      rw [ht, hx, List.take_zero, List.nil_append]
      have h1 : (List.replicate n [AV.bool false, .nils, .bool false, .nils]).flatten = rows 1 [.bool false, .nils, .bool false, .nils] ++ rows (n - 1) [.bool false, .nils, .bool false, .nils] := by
        rw [← rows_add]; show rows n _ = _; congr 1; omega
      rw [h1]
      simp [rows]
    refine Le_eq (Le_keep [(7, .osl (some 4) 0 0 n), (8, .int .i64 ((1 : Nat) : Int))] (by simp only [go_sem, hmin])) ?_
    rw [← hfill]
    simp only [fillA, cells_agg, List.append_nil, List.take_zero, List.nil_append, Nat.zero_add, List.flatMap_cons, List.flatMap_nil]
  · obtain ⟨h1, h2⟩ := hI
    unfold cslices_Repeat_L1
    have hl : (rows c x ++ rows (n - c) [AV.bool false, .nils, .bool false, .nils]).length = n * 4 := by rw [List.length_append, rows_len hx, rows_len rfl, ← Nat.add_mul]; congr 1; omega
    by_cases hc : c < n
    · have r1 : (c : Int) < (n : Int) := by omega
      have r0 : (0 : Int) ≤ (c : Int) := by omega
      have e5 : IntKind.i64.wrap ((c : Int) + ((min c (n - c) : Nat) : Int)) = ((c + min c (n - c) : Nat) : Int) := by rw [i64_id (by omega) (by omega)]; omega
      have e5' : IntKind.i64.wrap (((min c (n - c) : Nat) : Int) + (c : Int)) = ((c + min c (n - c) : Nat) : Int) := by rw [i64_id (by omega) (by omega)]; omega
      have r2 : c ≤ n := h2
      have r3 : ¬ c = 0 := by omega
      simp only [go_sem, cslices_Repeat_r9, cslices_Repeat_r10, r1, r0, r2, r3, hm, Nat.le_refl, Nat.zero_le, Nat.sub_zero, e5, e5', hl]
      have hk : min c (n - c) ≤ c := Nat.min_le_left _ _
      have hkn : c + min c (n - c) ≤ n := by omega
      have hst := rows_step (z := [.bool false, .nils, .bool false, .nils]) hx rfl hk hkn
      refine ⟨by omega, by omega, ?_⟩
      rw [hst]
      exact hN (c + min c (n - c)) _ ⟨by omega, hkn⟩ (by omega) (Le_keep _ (by simp only [go_sem]))
    · have hcn : c = n := by omega
      subst hcn
      have r1 : ¬ (c : Int) < (c : Int) := by omega
      simp only [go_sem, cslices_Repeat_r9, cslices_Repeat_r11, r1, Nat.sub_self]
      simp [rows]
end GoAbs
namespace GoAbs
open Go Go.Proofs
def qcell (q : Rat) : List AV := [.bool (decide (q.num < 0)), .sl (u32c (limbs q.num.natAbs)), .bool (decide ((q.den : Int) < 0)), .sl (u32c (limbs (q.den : Int).natAbs))]
theorem avQ_q {q : Rat} : avQ q = .agg (qcell q) := rfl
theorem qcell_len {q : Rat} : (qcell q).length = 4 := rfl
theorem bvs_qcell {H : Heap} {ids : List Nat} {q : Rat} : BVs H ids (qcell q) (qcell q) = True := by
  unfold qcell; simp only [go_sem]
theorem gc_qcell {f : Nat → Option Nat} {q : Rat} : gcL f (qcell q) = qcell q := rfl
def qc (r : List Rat) : List AV := r.flatMap qcell
theorem qc_len (r : List Rat) : (qc r).length = r.length * 4 := by
  induction r with
  | nil => rfl
  | cons q r ih => show (qcell q ++ qc r).length = _; rw [List.length_append, ih, List.length_cons, qcell_len]; omega
theorem qc_append {r s : List Rat} : qc (r ++ s) = qc r ++ qc s := by simp [qc]
theorem qc_split {r : List Rat} {j : Nat} {q : Rat} (h : r[j]? = some q) : qc r = qc (r.take j) ++ (qcell q ++ qc (r.drop (j + 1))) := by
  obtain ⟨hj, he⟩ := List.getElem?_eq_some_iff.1 h
  have : r = r.take j ++ (q :: r.drop (j + 1)) := by
    rw [← he]; simp
  conv => lhs; rw [this, qc_append]
  rfl
theorem qc_pre {r : List Rat} {j : Nat} (h : j ≤ r.length) : (qc (r.take j)).length = j * 4 := by rw [qc_len, List.length_take, Nat.min_eq_left h]
theorem qc_drop {r : List Rat} {j : Nat} {q : Rat} (h : r[j]? = some q) : (qc r).drop (j * 4) = qcell q ++ qc (r.drop (j + 1)) := by
  have hj := (List.getElem?_eq_some_iff.1 h).1
  rw [qc_split h, ← qc_pre (r := r) (j := j) (by omega), List.drop_left]
theorem qc_take4 {r : List Rat} {j : Nat} {q : Rat} (h : r[j]? = some q) : ((qc r).drop (j * 4)).take 4 = qcell q := by
  rw [qc_drop h]; exact List.take_left' rfl
theorem qc_len4 {r : List Rat} {j : Nat} {q : Rat} (h : r[j]? = some q) : 4 ≤ ((qc r).drop (j * 4)).length := by
  rw [qc_drop h, List.length_append, qcell_len]; omega
theorem qc_set {r : List Rat} {j : Nat} {x : Rat} (h : j < r.length) : (qc r).take (j * 4) ++ qcell x ++ (qc r).drop (j * 4 + 4) = qc (r.set j x) := by
  have hg := List.getElem?_eq_getElem h
  have h1 : (qc r).take (j * 4) = qc (r.take j) := by rw [qc_split hg, ← qc_pre (r := r) (j := j) (by omega), List.take_left]
  have h2 : (qc r).drop (j * 4 + 4) = qc (r.drop (j + 1)) := by
    rw [← List.drop_drop, qc_drop hg]; exact List.drop_left' rfl
  rw [h1, h2, List.set_eq_take_append_cons_drop, if_pos h, qc_append, List.append_assoc]
  rfl
theorem qc_rep {n : Nat} {q : Rat} : qc (List.replicate n q) = rows n (qcell q) := by
  induction n with
  | zero => rfl
  | succ n ih => rw [List.replicate_succ]; show qcell q ++ qc _ = _; rw [ih]; rfl
def ptrs (o w n : Nat) : List AV := (List.range n).map fun i => AV.osl (some 4) (o + 2 + 2 * i) 0 w
def rowsH (M : List (List Rat)) : Heap := M.flatMap fun r => [.dead, .cells (qc r)]
def matH (o w : Nat) (M : List (List Rat)) : Heap := .cells (ptrs o w M.length) :: rowsH M
theorem ptrs_len (o w n : Nat) : (ptrs o w n).length = n := by simp [ptrs]
theorem ptrs_get {o w n i : Nat} (h : i < n) : (ptrs o w n)[i]? = some (.osl (some 4) (o + 2 + 2 * i) 0 w) := by simp [ptrs, h]
theorem ptrs_succ (o w n : Nat) : ptrs o w (n + 1) = ptrs o w n ++ [.osl (some 4) (o + 2 + 2 * n) 0 w] := by simp [ptrs, List.range_succ]
theorem rowsH_len (M : List (List Rat)) : (rowsH M).length = 2 * M.length := by
  induction M with
  | nil => rfl
  | cons r M ih => show ([Blk.dead, .cells (qc r)] ++ rowsH M).length = _; rw [List.length_append, ih, List.length_cons]; simp; omega
theorem rowsH_get : ∀ {M : List (List Rat)} {i : Nat} {r : List Rat}, M[i]? = some r → (rowsH M)[2 * i + 1]? = some (.cells (qc r))
  | [], i, r, h => by simp at h
  | s :: M, 0, r, h => by simp at h; subst h; rfl
  | s :: M, i + 1, r, h => by
    show ([Blk.dead, .cells (qc s)] ++ rowsH M)[2 * (i + 1) + 1]? = _
    rw [List.getElem?_append_right (by simp; omega)]
    have := rowsH_get (M := M) (i := i) (r := r) (by simpa using h)
    rw [← this]; congr 1
theorem rowsH_set : ∀ {M : List (List Rat)} {i : Nat} {r : List Rat}, i < M.length → (rowsH M).set (2 * i + 1) (.cells (qc r)) = rowsH (M.set i r)
  | [], i, r, h => by simp at h
  | s :: M, 0, r, h => rfl
  | s :: M, i + 1, r, h => by
    show ([Blk.dead, .cells (qc s)] ++ rowsH M).set (2 * (i + 1) + 1) _ = [Blk.dead, .cells (qc s)] ++ rowsH (M.set i r)
    rw [List.set_append_right _ _ (by simp; omega), ← rowsH_set (by simpa using h)]
    congr 1
theorem matH_len (o w : Nat) (M : List (List Rat)) : (matH o w M).length = 1 + 2 * M.length := by
  show (_ :: rowsH M).length = _; rw [List.length_cons, rowsH_len]; omega
section
variable {pre post : Heap} {o w : Nat} {M : List (List Rat)}
theorem mat_ptr (ho : pre.length = o) : (pre ++ (matH o w M ++ post))[o]? = some (.cells (ptrs o w M.length)) := by
  rw [List.getElem?_append_right (by omega), ho, Nat.sub_self]; rfl
theorem mat_row (ho : pre.length = o) {i : Nat} {r : List Rat} (h : M[i]? = some r) : (pre ++ (matH o w M ++ post))[o + 2 + 2 * i]? = some (.cells (qc r)) := by
  have hi := (List.getElem?_eq_some_iff.1 h).1
  rw [List.getElem?_append_right (by omega), ho, List.getElem?_append_left (by rw [matH_len]; omega)]
  show (_ :: rowsH M)[o + 2 + 2 * i - o]? = _
  rw [show o + 2 + 2 * i - o = (2 * i + 1) + 1 by omega, List.getElem?_cons_succ]
  exact rowsH_get h
theorem mat_set (ho : pre.length = o) {i : Nat} {r : List Rat} (h : i < M.length) : (pre ++ (matH o w M ++ post)).set (o + 2 + 2 * i) (.cells (qc r)) = pre ++ (matH o w (M.set i r) ++ post) := by
  rw [List.set_append_right _ _ (by omega), ho, List.set_append_left _ _ (by rw [matH_len]; omega)]
  congr 2
  show (_ :: rowsH M).set (o + 2 + 2 * i - o) _ = _ :: rowsH (M.set i r)
  rw [show o + 2 + 2 * i - o = (2 * i + 1) + 1 by omega, List.set_cons_succ, rowsH_set h, List.length_set]
end
theorem zero_cells {n : Nat} {m : Nat} : (List.replicate m [AV.nils]).flatten = List.replicate m .nils := by
  induction m with
  | zero => rfl
  | succ m ih => rw [List.replicate_succ, List.flatten_cons, ih]; rfl
theorem bv_one4 {H : Heap} {ids : List Nat} {b : Nat} {c : List AV} (hc : c.length = 4) (hb : H[b]? = some (.cells c)) (hi : b ∈ ids) (hq : BVs H ids c c) : BV H ids (.osl (some 4) b 0 1) (.sl [.agg c]) := by
  refine .osl (some 4) b 0 1 c [.agg c] hb hi rfl (fun x hx => by simp at hx; subst hx; exact hc) (by simp [es, hc]) (fun i x j y z hx hy hz => ?_)
  have hi0 : i = 0 := by
    have := (List.getElem?_eq_some_iff.1 hx).1
    simp at this; exact this
  subst hi0
  simp at hx
  subst hx
  simp only [es, Nat.zero_mul, Nat.zero_add] at hz
  have hy' : c[j]? = some y := hy
  rw [hy'] at hz
  cases hz
  exact (bvs_get hq).2 j y y hy' hy'
theorem gc_rows {f : Nat → Option Nat} {n : Nat} {q : Rat} : gcL f (rows n (qcell q)) = rows n (qcell q) := by
  rw [← qc_rep]
  induction n with
  | zero => rfl
  | succ n ih =>
    rw [List.replicate_succ]
    show gcL f (qcell q ++ qc _) = qcell q ++ qc _
    rw [gcL_map] at ih ⊢
    rw [List.map_append, ih]
    rfl
theorem repeat_zero {K : List AV} {M : List (List Rat)} {n : Nat} {q : Rat} (hn : 1 ≤ n) (hnl : n ≤ 1000000) :
    SpecR Tryz.prog n_slices_Repeat (.cells K :: (rowsH M ++ [.cells (qcell q)])) [.osl (some 4) (2 * M.length + 1) 0 1, .int .i64 (n : Int)] (.osl (some 4) (2 * M.length + 2) 0 n) (.cells K :: rowsH (M ++ [List.replicate n q])) := by
  have hb : (Blk.cells K :: (rowsH M ++ [Blk.cells (qcell q)]))[2 * M.length + 1]? = some (.cells (qcell q)) := by
    rw [List.getElem?_cons_succ, List.getElem?_append_right (by rw [rowsH_len]; omega), rowsH_len, Nat.sub_self]; rfl
  have h := specR_freshF (P := Tryz.prog) (H := .cells K :: (rowsH M ++ [.cells (qcell q)])) (ids := [2 * M.length + 1]) (xs := [.osl (some 4) (2 * M.length + 1) 0 1, .int .i64 (n : Int)]) (repeat_own hn hnl (x := qcell q) rfl)
    (by
      simp only [go_sem]
      exact bv_one4 rfl hb (by simp) (by rw [bvs_qcell]; trivial)) (by simp only [go_sem])
  have e1 : (AV.osl (some 4) 0 0 n).gc (fun i => some (i + (Blk.cells K :: (rowsH M ++ [Blk.cells (qcell q)])).length)) = .osl (some 4) (2 * M.length + 2) 0 n := by
    simp only [AV.gc, List.length_cons, List.length_append, rowsH_len, List.length_nil, Nat.zero_add]
  have e2 : kill [2 * M.length + 1] (Blk.cells K :: (rowsH M ++ [Blk.cells (qcell q)])) = .cells K :: (rowsH M ++ [.dead]) := by
    show List.set _ _ _ = _
    rw [List.set_cons_succ, List.set_append_right _ _ (by rw [rowsH_len]; omega), rowsH_len, Nat.sub_self]; rfl
  rw [e1, e2] at h
  have e3 : (Blk.cells K :: (rowsH M ++ [.dead])) ++ ([Blk.cells (rows n (qcell q))].map (Blk.gc (fun i => some (i + (Blk.cells K :: (rowsH M ++ [Blk.cells (qcell q)])).length)))) = .cells K :: rowsH (M ++ [List.replicate n q]) := by
    simp only [List.map_cons, List.map_nil, Blk.gc, gc_rows]
    unfold rowsH
    rw [List.flatMap_append, ← qc_rep]
    simp
  rw [e3] at h
  exact h
theorem zero_own {m n : Nat} (hm : m ≤ 1000000) (hn : 1 ≤ n) (hnl : n ≤ 1000000) :
    SpecR Tryz.prog n_linear_Zero [] [.int .i64 (m : Int), .int .i64 (n : Int)] (.osl none 0 0 m) (matH 0 n (List.replicate m (List.replicate n 0))) := by
  refine specR_W ok_linear_Zero (by simp) ?_
  unfold clinear_Zero
  have p0 : (0 : Int) ≤ (m : Int) := by omega
  have p1 : (24 : Int) * (m : Int) ≤ 281474976710656 := by omega
  simp only [go_sem, clinear_Zero_r1, clinear_Zero_r2, clinear_Zero_r3, p0, Int.le_refl]
  refine ⟨by omega, ?_⟩
  rw [zero_cells (n := n)]
  refine T_rounds (fun i : Nat => ⟨envL [(1, .int .i64 (n : Int)), (5, .osl none 0 0 m), (10, .int .i64 (m : Int)), (11, .int .i64 (i : Int))], .cells (ptrs 0 n i ++ List.replicate (m - i) .nils) :: rowsH (List.replicate i (List.replicate n 0))⟩)
    (fun i => i ≤ m) (fun i => m - i) 0 (by omega) (Le_eq (Le_keep [(1, .int .i64 (n : Int)), (5, .osl none 0 0 m), (10, .int .i64 (m : Int)), (11, .int .i64 ((0 : Nat) : Int))] (by simp only [go_sem]; simp)) (by simp [ptrs, rowsH])) (fun i hi N hN => ?_)
  unfold clinear_Zero_L1
  by_cases him : i < m
  · have r1 : (i : Int) < (m : Int) := by omega
    have r0 : (0 : Int) ≤ (i : Int) := by omega
    have e1 : IntKind.i64.wrap ((i : Int) + 1) = ((i + 1 : Nat) : Int) := by rw [i64_id (by omega) (by omega)]; omega
    simp only [go_sem, clinear_Zero_r4, clinear_Zero_r5, clinear_Zero_r6, r1]
    refine call_P zero_q (by simp only [go_sem]) ?_
    simp only [go_sem, avQ_q, qcell_len, List.append_nil]
    have hlen : (rowsH (List.replicate i (List.replicate n (0 : Rat)))).length = 2 * i := by rw [rowsH_len, List.length_replicate]
    rw [hlen]
    have hrep := repeat_zero (K := ptrs 0 n i ++ List.replicate (m - i) .nils) (M := List.replicate i (List.replicate n 0)) (q := 0) hn hnl
    rw [List.length_replicate, ← List.replicate_succ'] at hrep
    refine call_R hrep ?_
    have hl2 : i + 1 ≤ (ptrs 0 n i ++ List.replicate (m - i) AV.nils).length := by rw [List.length_append, ptrs_len, List.length_replicate]; omega
    simp only [go_sem, clinear_Zero_r7, r0, r1, hl2, e1]
    rw [set_form (by omega)]
    have hset : (ptrs 0 n i ++ List.replicate (m - i) AV.nils).set i (.osl (some 4) (2 * i + 2) 0 n) = ptrs 0 n (i + 1) ++ List.replicate (m - (i + 1)) .nils := by
      rw [List.set_append_right _ _ (by rw [ptrs_len]; omega), ptrs_len, Nat.sub_self]
      have : m - i = (m - (i + 1)) + 1 := by omega
      rw [this, List.replicate_succ, List.set_cons_zero, ptrs_succ, List.append_assoc]
      congr 3
      omega
    rw [hset]
    exact hN (i + 1) _ (by omega) (by omega) (Le_keep _ (by simp only [go_sem]))
  · have him' : i = m := by omega
    subst him'
    have r1 : ¬ (i : Int) < (i : Int) := by omega
    simp only [go_sem, clinear_Zero_r4, clinear_Zero_r8, r1, Nat.sub_self, List.replicate_zero, List.append_nil]
    unfold matH
    rw [List.length_replicate]
end GoAbs
namespace GoAbs
open Go Go.Proofs
theorem madd_spec {pre post : Heap} {o w i j k : Nat} {M : List (List Rat)} {r : List Rat} {q x : Rat} (ho : pre.length = o) (hr : M[i]? = some r) (hq : r[j]? = some q) (hw : r.length = w) (hml : M.length ≤ 1000000) (hwl : w ≤ 1000000)
    (bq : Qb k q) (bx : Qb k x) (hk : 2 * k + 1 ≤ 1000000000000) :
    SpecR Tryz.prog n_Matrix_Add (pre ++ (matH o w M ++ post)) [.osl none o 0 M.length, .int .i64 (i : Int), .int .i64 (j : Int), .agg (qcell x)] (.tup []) (pre ++ (matH o w (M.set i (r.set j (q + x))) ++ (post ++ [.cells (qcell x)]))) := by
  have hm : Tryz.prog.follows .mixedOrders = true := by kernel_rfl
  have hi := (List.getElem?_eq_some_iff.1 hr).1
  have hj := (List.getElem?_eq_some_iff.1 hq).1
  refine specR_W ok_Matrix_Add (by simp) ?_
  unfold cMatrix_Add
  have p0 : (0 : Int) ≤ (i : Int) := by omega
  have p1 : (i : Int) < (M.length : Int) := by omega
  have p2 : (0 : Int) ≤ (j : Int) := by omega
  have p3 : (j : Int) < (w : Int) := by omega
  have eA : (pre ++ (matH o w M ++ post)) ++ [Blk.cells (qcell x)] = pre ++ (matH o w M ++ (post ++ [.cells (qcell x)])) := by simp
  have gP := mat_ptr (post := post ++ [.cells (qcell x)]) (w := w) (M := M) ho
  have gR := mat_row (post := post ++ [.cells (qcell x)]) (w := w) ho hr
  have gX : (pre ++ (matH o w M ++ (post ++ [Blk.cells (qcell x)])))[(pre ++ (matH o w M ++ post)).length]? = some (.cells (qcell x)) := by
    rw [← eA, List.getElem?_append_right (Nat.le_refl _), Nat.sub_self]; rfl
  have hlen : (pre ++ (matH o w M ++ (post ++ [Blk.cells (qcell x)]))).length = (pre ++ (matH o w M ++ post)).length + 1 := by rw [← eA, List.length_append]; rfl
  have hoL : o < (pre ++ (matH o w M ++ post)).length + 1 := by simp [matH_len, ho]; omega
  have hrL : o + 2 + 2 * i < (pre ++ (matH o w M ++ post)).length + 1 := by simp [matH_len, ho]; omega
  have hxL : (pre ++ (matH o w M ++ post)).length < (pre ++ (matH o w M ++ post)).length + 1 := by omega
  have hg := ptrs_get (o := o) (w := w) hi
  have ht := qc_take4 hq
  have hl4 := qc_len4 hq
  have hql : (4 : Nat) ≤ (qcell x).length := by rw [qcell_len]; omega
  have hqt : (qcell x).take 4 = qcell x := List.take_of_length_le (by rw [qcell_len]; omega)
  have hfit : j * 4 + 4 ≤ (qc r).length := by rw [qc_len]; omega
  simp only [go_sem, cMatrix_Add_r1, cMatrix_Add_r2, hm, eA]
  generalize hHH : (pre ++ (matH o w M ++ post)).length = L at *
  simp only [go_sem, hlen, p0, p1, p2, p3, gP, gR, gX, hoL, hrL, hxL, List.getElem?_drop, hg, ht, hl4, hql, hqt]
  refine call_P (add_q bq bx hk) (by simp only [go_sem, avQ_q, bvs_qcell]) ?_
  simp only [go_sem, avQ_q, hlen, p0, p1, p2, p3, gP, gR, gX, hoL, hrL, hxL, qcell_len, hfit]
  rw [qc_set hj, mat_set ho hi]
end GoAbs
namespace GoAbs
open Go Go.Proofs
abbrev RM := List (List Rat)
def rget (r : List Rat) (j : Nat) : Rat := r.getD j 0
def mget (M : RM) (i j : Nat) : Rat := rget (M.getD i []) j
theorem rget_some {r : List Rat} {j : Nat} (h : j < r.length) : r[j]? = some (rget r j) := by
  unfold rget
  rw [List.getD_eq_getElem?_getD, List.getElem?_eq_getElem h]; rfl
theorem getD_some {M : RM} {i : Nat} (h : i < M.length) : M[i]? = some (M.getD i []) := by
  rw [List.getD_eq_getElem?_getD, List.getElem?_eq_getElem h]; rfl
def elimTo (p : List Rat) (c : Nat) (q : Rat) (r : List Rat) (J : Nat) : List Rat := (List.range r.length).map fun j => if c ≤ j ∧ j < J then rget r j - q * rget p j else rget r j
theorem elimTo_len {p r : List Rat} {c J : Nat} {q : Rat} : (elimTo p c q r J).length = r.length := by simp [elimTo]
theorem elimTo_get {p r : List Rat} {c J j : Nat} {q : Rat} (h : j < r.length) : (elimTo p c q r J)[j]? = some (if c ≤ j ∧ j < J then rget r j - q * rget p j else rget r j) := by simp [elimTo, h]
theorem elimTo_zero {p r : List Rat} {c J : Nat} {q : Rat} (h : J ≤ c) : elimTo p c q r J = r := by
  apply List.ext_getElem?
  intro j
  by_cases hj : j < r.length
  · rw [elimTo_get hj, if_neg (by omega), rget_some hj]
  · rw [List.getElem?_eq_none (by rw [elimTo_len]; omega), List.getElem?_eq_none (by omega)]
theorem elimTo_succ {p r : List Rat} {c J : Nat} {q : Rat} (h : J < r.length) (hc : c ≤ J) : (elimTo p c q r J).set J (rget r J - q * rget p J) = elimTo p c q r (J + 1) := by
  apply List.ext_getElem?
  intro j
  by_cases hj : j < r.length
  · rw [elimTo_get hj]
    by_cases h1 : j = J
    · subst h1
      rw [List.getElem?_set_self (by rw [elimTo_len]; exact hj), if_pos (by omega)]
    · rw [List.getElem?_set_ne (by omega), elimTo_get hj]
      by_cases h2 : c ≤ j ∧ j < J
      · rw [if_pos h2, if_pos (by omega)]
      · rw [if_neg h2, if_neg (by omega)]
  · rw [List.getElem?_eq_none (by rw [List.length_set, elimTo_len]; omega), List.getElem?_eq_none (by rw [elimTo_len]; omega)]
theorem mat_post {pre post : Heap} {o w : Nat} {M : RM} (ho : pre.length = o) {n t : Nat} (hn : M.length = n) : (pre ++ (matH o w M ++ post))[o + (1 + 2 * n) + t]? = post[t]? := by
  rw [List.getElem?_append_right (by omega), ho, List.getElem?_append_right (by rw [matH_len]; omega), matH_len]
  congr 1; omega
theorem set_set_M {M : RM} {i : Nat} {a b : List Rat} : (M.set i a).set i b = M.set i b := by simp
def Rb (k : Nat) (r : List Rat) : Prop := ∀ x, x ∈ r → Qb k x
def Mb (k : Nat) (M : RM) : Prop := ∀ r, r ∈ M → Rb k r
theorem Rb.get {k : Nat} {r : List Rat} (h : Rb k r) {j : Nat} (hj : j < r.length) : Qb k (rget r j) := h _ (List.mem_of_getElem? (rget_some hj))
theorem Rb.mono {k l : Nat} {r : List Rat} (h : Rb k r) (hkl : k ≤ l) : Rb l r := fun x hx => (h x hx).mono hkl
theorem Rb.elimTo {k : Nat} {p r : List Rat} {c J : Nat} {q : Rat} (hr : Rb k r) (hp : Rb k p) (hl : p.length = r.length) (hq : Qb (2 * k) q) : Rb (8 * k + 1) (GoAbs.elimTo p c q r J) := fun x hx => by
  unfold GoAbs.elimTo at hx
  obtain ⟨j, hj, rfl⟩ := List.mem_map.1 hx
  have hj' := List.mem_range.1 hj
  split
  · have h1 := (hr.get hj').mono (show k ≤ 4 * k by omega)
    have h2 := Qb.mul hq ((hp.get (j := j) (by omega)).mono (show k ≤ 2 * k by omega))
    have h3 := h1.sub (h2.mono (show 2 * (2 * k) ≤ 4 * k by omega))
    exact h3.mono (by omega)
  · exact (hr.get hj').mono (by omega)
theorem tri_L2 {pre post : Heap} {o w n i c t n0 bz : Nat} {M : RM} {q : Rat} {k : Nat} {p r : List Rat} (ho : pre.length = o) (hn : M.length = n) (hnl : n ≤ 1000000) (hwl : w ≤ 1000000) (hi : i < n) (hc : c < n) (hci : c ≠ i) (hcw : c ≤ w)
    (hp : M[c]? = some p) (hr : M[i]? = some r) (hpw : p.length = w) (hrw : r.length = w) (hbz : bz = o + (1 + 2 * n) + t) (hpost : post[t]? = some (.cells (qcell q)))
    (bp : Rb k p) (br : Rb k r) (bq : Qb (2 * k) q) (hk1 : 1 ≤ k) (hk : 2 * (4 * k) + 1 ≤ 1000000000000) {bA : Nat} {K : Ex → St → Prop}
    (hK : ∀ e : Nat → AV, e 0 = .osl none o 0 n → e 2 = .ptr bA 0 → e 3 = .ptr (bA + 1) 0 → e 4 = .int .i64 (c : Int) → e 6 = .int .i64 (i : Int) → e 11 = .int .i64 (n : Int) → e 12 = .int .i64 (c : Int) →
      K (.exit 6) ⟨e, pre ++ (matH o w (M.set i (elimTo p c q r w)) ++ post)⟩) :
    T Tryz.prog 133 n0 (.loop cMatrix_triangle_L2) ⟨envL [(0, .osl none o 0 n), (2, .ptr bA 0), (3, .ptr (bA + 1) 0), (4, .int .i64 (c : Int)), (6, .int .i64 (i : Int)), (7, .ptr bz 0), (8, .int .i64 (c : Int)), (11, .int .i64 (n : Int)), (12, .int .i64 (c : Int))], pre ++ (matH o w M ++ post)⟩ K := by
  have hm : Tryz.prog.follows .mixedOrders = true := by kernel_rfl
  have hMset : M.set i r = M := by
    apply List.ext_getElem?
    intro x
    by_cases hx : i = x
    · subst hx; rw [List.getElem?_set_self (by omega), hr]
    · rw [List.getElem?_set_ne hx]
  refine T_rounds (fun J : Nat => ⟨envL [(0, .osl none o 0 n), (2, .ptr bA 0), (3, .ptr (bA + 1) 0), (4, .int .i64 (c : Int)), (6, .int .i64 (i : Int)), (7, .ptr bz 0), (8, .int .i64 (J : Int)), (11, .int .i64 (n : Int)), (12, .int .i64 (c : Int))], pre ++ (matH o w (M.set i (elimTo p c q r J)) ++ post)⟩)
    (fun J => c ≤ J ∧ J ≤ w) (fun J => w - J) c ⟨Nat.le_refl _, hcw⟩ (Le_eq (Le_keep [(0, .osl none o 0 n), (2, .ptr bA 0), (3, .ptr (bA + 1) 0), (4, .int .i64 (c : Int)), (6, .int .i64 (i : Int)), (7, .ptr bz 0), (8, .int .i64 (c : Int)), (11, .int .i64 (n : Int)), (12, .int .i64 (c : Int))] (by simp only [go_sem])) (by rw [elimTo_zero (Nat.le_refl _), hMset])) (fun J hJ N hN => ?_)
  obtain ⟨h1, h2⟩ := hJ
  unfold cMatrix_triangle_L2
  have hnS : (M.set i (elimTo p c q r J)).length = n := by rw [List.length_set, hn]
  have gP := mat_ptr (pre := pre) (post := post) (w := w) (M := M.set i (elimTo p c q r J)) ho
  rw [hnS] at gP
  have gi := ptrs_get (o := o) (w := w) hi
  have gc := ptrs_get (o := o) (w := w) hc
  have q0 : (0 : Int) ≤ (i : Int) := by omega
  have q1 : (i : Int) < (n : Int) := by omega
  have q2 : (0 : Int) ≤ (c : Int) := by omega
  have q3 : (c : Int) < (n : Int) := by omega
  by_cases hJw : J < w
  · have rJ : (M.set i (elimTo p c q r J))[i]? = some (elimTo p c q r J) := List.getElem?_set_self (by omega)
    have rc : (M.set i (elimTo p c q r J))[c]? = some p := by rw [List.getElem?_set_ne (by omega)]; exact hp
    have gR := mat_row (post := post) (w := w) ho rJ
    have gC := mat_row (post := post) (w := w) ho rc
    have gQ := mat_post (post := post) (w := w) (t := t) ho hnS
    rw [hpost, ← hbz] at gQ
    have eJ : (elimTo p c q r J)[J]? = some (rget r J) := by rw [elimTo_get (by omega), if_neg (by omega)]
    have pJ : p[J]? = some (rget p J) := rget_some (by omega)
    have t1 := qc_take4 eJ
    have t2 := qc_len4 eJ
    have t3 := qc_take4 pJ
    have t4 := qc_len4 pJ
    have hql : (4 : Nat) ≤ (qcell q).length := by rw [qcell_len]; omega
    have hqt : (qcell q).take 4 = qcell q := List.take_of_length_le (by rw [qcell_len]; omega)
    have r0 : (0 : Int) ≤ (J : Int) := by omega
    have r1 : (J : Int) < (w : Int) := by omega
    have e1 : IntKind.i64.wrap ((J : Int) + 1) = ((J + 1 : Nat) : Int) := by rw [i64_id (by omega) (by omega)]; omega
    have hlen : (pre ++ (matH o w (M.set i (elimTo p c q r J)) ++ post)).length = o + (1 + 2 * n) + post.length := by rw [List.length_append, List.length_append, matH_len, hnS, ho]; omega
    have ht : t < post.length := (List.getElem?_eq_some_iff.1 hpost).1
    have l0 : o < o + (1 + 2 * n) + post.length := by omega
    have l1 : o + 2 + 2 * i < o + (1 + 2 * n) + post.length := by omega
    have l2 : o + 2 + 2 * c < o + (1 + 2 * n) + post.length := by omega
    have l3 : bz < o + (1 + 2 * n) + post.length := by omega
    have hfit : J * 4 + 4 ≤ (qc (elimTo p c q r J)).length := by rw [qc_len, elimTo_len]; omega
    simp only [go_sem, cMatrix_triangle_r20, cMatrix_triangle_r21, cMatrix_triangle_r22, hm, q0, q1, q2, q3, gP, gi, gc, gR, gC, gQ, List.getElem?_drop, r0, r1, hlen, l0, l1, l2, l3, hql, hqt, t1, t2, t3, t4]
    refine call_P (mul_q bq ((bp.get (j := J) (by omega)).mono (by omega)) (by omega)) (by simp only [go_sem, avQ_q, bvs_qcell]) ?_
    simp only [go_sem, avQ_q]
    refine call_P (sub_q (k := 4 * k) ((br.get (j := J) (by omega)).mono (by omega)) ((Qb.mul bq ((bp.get (j := J) (by omega)).mono (show k ≤ 2 * k by omega))).mono (by omega)) hk) (by simp only [go_sem, avQ_q, bvs_qcell]) ?_
    simp only [go_sem, avQ_q, q0, q1, q2, q3, gP, gi, gR, List.getElem?_drop, r0, r1, hlen, l0, l1, l2, l3, qcell_len, hfit, e1]
    rw [qc_set (by rw [elimTo_len]; omega), mat_set ho (by omega), set_set_M, elimTo_succ (by omega) h1]
    exact hN (J + 1) _ ⟨by omega, by omega⟩ (by omega) (Le_keep _ (by simp only [go_sem]))
  · have hJw' : J = w := by omega
    subst hJw'
    have r1 : ¬ (J : Int) < (J : Int) := by omega
    have l0 : True := trivial
    simp only [go_sem, cMatrix_triangle_r20, q0, q1, gP, gi, List.getElem?_drop, r1]
    exact hK _ (by simp only [go_sem]) (by simp only [go_sem]) (by simp only [go_sem]) (by simp only [go_sem]) (by simp only [go_sem]) (by simp only [go_sem]) (by simp only [go_sem])
def elimRow (p : List Rat) (c : Nat) (r : List Rat) : List Rat := if rget r c = 0 then r else elimTo p c (rget r c / rget p c) r r.length
theorem elimRow_len {p r : List Rat} {c : Nat} : (elimRow p c r).length = r.length := by
  unfold elimRow; split
  · rfl
  · exact elimTo_len
def elimCol (M : RM) (c I : Nat) : RM := (List.range M.length).map fun i => if c < i ∧ i < I then elimRow (M.getD c []) c (M.getD i []) else M.getD i []
theorem elimCol_len {M : RM} {c I : Nat} : (elimCol M c I).length = M.length := by simp [elimCol]
theorem elimCol_get {M : RM} {c I i : Nat} (h : i < M.length) : (elimCol M c I)[i]? = some (if c < i ∧ i < I then elimRow (M.getD c []) c (M.getD i []) else M.getD i []) := by simp [elimCol, h]
theorem elimCol_zero {M : RM} {c I : Nat} (h : I ≤ c + 1) : elimCol M c I = M := by
  apply List.ext_getElem?
  intro i
  by_cases hi : i < M.length
  · rw [elimCol_get hi, if_neg (by omega), getD_some hi]
  · rw [List.getElem?_eq_none (by rw [elimCol_len]; omega), List.getElem?_eq_none (by omega)]
theorem elimCol_succ {M : RM} {c I : Nat} (hI : I < M.length) (hc : c < I) : (elimCol M c I).set I (elimRow (M.getD c []) c (M.getD I [])) = elimCol M c (I + 1) := by
  apply List.ext_getElem?
  intro i
  by_cases hi : i < M.length
  · rw [elimCol_get hi]
    by_cases h1 : i = I
    · subst h1
      rw [List.getElem?_set_self (by rw [elimCol_len]; exact hi), if_pos (by omega)]
    · rw [List.getElem?_set_ne (by omega), elimCol_get hi]
      by_cases h2 : c < i ∧ i < I
      · rw [if_pos h2, if_pos (by omega)]
      · rw [if_neg h2, if_neg (by omega)]
  · rw [List.getElem?_eq_none (by rw [List.length_set, elimCol_len]; omega), List.getElem?_eq_none (by rw [elimCol_len]; omega)]
def Wid (w : Nat) (M : RM) : Prop := ∀ r, r ∈ M → r.length = w
theorem Wid.get {w : Nat} {M : RM} (h : Wid w M) {i : Nat} (hi : i < M.length) : (M.getD i []).length = w := h _ (List.mem_of_getElem? (getD_some hi))
theorem Wid.elim {w : Nat} {M : RM} (h : Wid w M) {c I : Nat} : Wid w (elimCol M c I) := fun r hr => by
  unfold elimCol at hr
  obtain ⟨i, hi, rfl⟩ := List.mem_map.1 hr
  have hi' := List.mem_range.1 hi
  split
  · rw [elimRow_len]; exact h.get hi'
  · exact h.get hi'
theorem Mb.get {k : Nat} {M : RM} (h : Mb k M) {i : Nat} (hi : i < M.length) : Rb k (M.getD i []) := h _ (List.mem_of_getElem? (getD_some hi))
theorem Mb.mono {k l : Nat} {M : RM} (h : Mb k M) (hkl : k ≤ l) : Mb l M := fun r hr => (h r hr).mono hkl
theorem Rb.elimRow {k w : Nat} {p r : List Rat} {c : Nat} (hr : Rb k r) (hp : Rb k p) (hpl : p.length = w) (hrl : r.length = w) (hc : c < w) (h0 : rget p c ≠ 0) : Rb (8 * k + 1) (GoAbs.elimRow p c r) := by
  unfold GoAbs.elimRow
  split
  · exact hr.mono (by omega)
  · exact Rb.elimTo hr hp (by omega) ((hr.get (by omega)).div (hp.get (by omega)) h0)
theorem Mb.elim {k w : Nat} {M : RM} (h : Mb k M) (hw : Wid w M) {c I : Nat} (hcM : c < M.length) (hc : c < w) (h0 : mget M c c ≠ 0) : Mb (8 * k + 1) (elimCol M c I) := fun r hr => by
  unfold elimCol at hr
  obtain ⟨i, hi, rfl⟩ := List.mem_map.1 hr
  have hi' := List.mem_range.1 hi
  split
  · exact Rb.elimRow (h.get hi') (h.get hcM) (hw.get hcM) (hw.get hi') hc h0
  · exact (h.get hi').mono (by omega)
theorem gc_qc {f : Nat → Option Nat} (r : List Rat) : gcL f (qc r) = qc r := by
  induction r with
  | nil => rfl
  | cons q r ih =>
    show gcL f (qcell q ++ qc r) = qcell q ++ qc r
    rw [gcL_map] at ih ⊢
    rw [List.map_append, ih]
    rfl
theorem clo_mat {o w m : Nat} {M : RM} (h : o + (1 + 2 * M.length) ≤ m) : Clo m (matH o w M) := by
  unfold Clo matH
  rw [List.map_cons]
  congr 1
  · simp only [Blk.gc, gcL_map]
    congr 1
    unfold ptrs
    rw [List.map_map]
    refine List.map_congr_left fun i hi => ?_
    have hi' := List.mem_range.1 hi
    simp only [Function.comp, AV.gc]
    rw [pos_range (by omega)]
  · unfold rowsH
    rw [List.map_flatMap]
    congr 1
    funext r
    simp only [List.map_cons, List.map_nil, Blk.gc, gc_qc]
end GoAbs
namespace GoAbs
open Go Go.Proofs
def z4 : List AV := [.bool false, .nils, .bool false, .nils]
theorem mat_postP {pre post PP : Heap} {o w : Nat} {M : RM} (ho : pre.length = o) {n t b : Nat} (hn : M.length = n) (hb : b = o + (1 + 2 * n) + PP.length) : (pre ++ (matH o w M ++ (PP ++ post)))[b + t]? = post[t]? := by
  rw [hb, show o + (1 + 2 * n) + PP.length + t = o + (1 + 2 * n) + (PP.length + t) by omega, mat_post ho hn, List.getElem?_append_right (by omega)]
  congr 1; omega
theorem mat_set_post {pre post : Heap} {o w : Nat} {M : RM} (ho : pre.length = o) {n t : Nat} (hn : M.length = n) {bl : Blk} : (pre ++ (matH o w M ++ post)).set (o + (1 + 2 * n) + t) bl = pre ++ (matH o w M ++ post.set t bl) := by
  rw [List.set_append_right _ _ (by omega), ho, List.set_append_right _ _ (by rw [matH_len]; omega), matH_len]
  congr 3; omega
theorem mat_set_postP {pre post PP : Heap} {o w : Nat} {M : RM} (ho : pre.length = o) {n t b : Nat} (hn : M.length = n) (hb : b = o + (1 + 2 * n) + PP.length) {bl : Blk} : (pre ++ (matH o w M ++ (PP ++ post))).set (b + t) bl = pre ++ (matH o w M ++ (PP ++ post.set t bl)) := by
  rw [hb, show o + (1 + 2 * n) + PP.length + t = o + (1 + 2 * n) + (PP.length + t) by omega, mat_set_post ho hn, List.set_append_right _ _ (by omega)]
  congr 4; omega
theorem mat_lenP {pre post PP : Heap} {o w : Nat} {M : RM} (ho : pre.length = o) {n b : Nat} (hn : M.length = n) (hb : b = o + (1 + 2 * n) + PP.length) : (pre ++ (matH o w M ++ (PP ++ post))).length = b + post.length := by
  rw [List.length_append, List.length_append, List.length_append, matH_len, hn, ho, hb]; omega
theorem tri_L3 {pre PP : Heap} {o w n c n0 k b : Nat} {M : RM} {d : Rat} (ho : pre.length = o) (hn : M.length = n) (hnl : n ≤ 1000000) (hwl : w ≤ 1000000) (hc : c < n) (hcw : c < w) (hW : Wid w M) (hB : Mb k M)
    (h0 : mget M c c ≠ 0) (hk1 : 1 ≤ k) (hk : 2 * (4 * k) + 1 ≤ 1000000000000) (hb : b = o + (1 + 2 * n) + PP.length) (hn0 : n0 ≤ b) (hpre : Clo (b + 2) pre) (hPP : Clo (b + 2) PP) {K : Ex → St → Prop}
    (hK : ∀ e : Nat → AV, e 0 = .osl none o 0 n → e 2 = .ptr b 0 → e 3 = .ptr (b + 1) 0 → e 11 = .int .i64 (n : Int) → e 12 = .int .i64 (c : Int) →
      K (.exit 4) ⟨e, pre ++ (matH o w (elimCol M c n) ++ (PP ++ [.cells z4, .cells (qcell d)]))⟩) :
    T Tryz.prog 133 n0 (.loop cMatrix_triangle_L3) ⟨envL [(0, .osl none o 0 n), (2, .ptr b 0), (3, .ptr (b + 1) 0), (4, .int .i64 (c : Int)), (6, .int .i64 ((c + 1 : Nat) : Int)), (11, .int .i64 (n : Int)), (12, .int .i64 (c : Int))], pre ++ (matH o w M ++ (PP ++ [.cells z4, .cells (qcell d)]))⟩ K := by
  have hm : Tryz.prog.follows .mixedOrders = true := by kernel_rfl
  refine T_rounds (fun i : Nat => ⟨envL [(0, .osl none o 0 n), (2, .ptr b 0), (3, .ptr (b + 1) 0), (4, .int .i64 (c : Int)), (6, .int .i64 (i : Int)), (11, .int .i64 (n : Int)), (12, .int .i64 (c : Int))], pre ++ (matH o w (elimCol M c i) ++ (PP ++ [.cells z4, .cells (qcell d)]))⟩)
    (fun i => c + 1 ≤ i ∧ i ≤ n) (fun i => n - i) (c + 1) ⟨Nat.le_refl _, hc⟩ (Le_eq (Le_keep [(0, .osl none o 0 n), (2, .ptr b 0), (3, .ptr (b + 1) 0), (4, .int .i64 (c : Int)), (6, .int .i64 ((c + 1 : Nat) : Int)), (11, .int .i64 (n : Int)), (12, .int .i64 (c : Int))] (by simp only [go_sem])) (by rw [elimCol_zero (Nat.le_refl _)])) (fun i hI N hN => ?_)
  obtain ⟨h1, h2⟩ := hI
  unfold cMatrix_triangle_L3
  have hnS : (elimCol M c i).length = n := by rw [elimCol_len, hn]
  by_cases hi : i < n
  · have gP := mat_ptr (pre := pre) (post := PP ++ [.cells z4, .cells (qcell d)]) (w := w) (M := elimCol M c i) ho
    rw [hnS] at gP
    have gi := ptrs_get (o := o) (w := w) hi
    have gc := ptrs_get (o := o) (w := w) hc
    have rI : (elimCol M c i)[i]? = some (M.getD i []) := by rw [elimCol_get (by omega), if_neg (by omega)]
    have rC : (elimCol M c i)[c]? = some (M.getD c []) := by rw [elimCol_get (by omega), if_neg (by omega)]
    have gR := mat_row (post := PP ++ [.cells z4, .cells (qcell d)]) (w := w) ho rI
    have gC := mat_row (post := PP ++ [.cells z4, .cells (qcell d)]) (w := w) ho rC
    have hlI := hW.get (show i < M.length by omega)
    have hlC := hW.get (show c < M.length by omega)
    have eI : (M.getD i [])[c]? = some (mget M i c) := rget_some (by omega)
    have eC : (M.getD c [])[c]? = some (mget M c c) := rget_some (by omega)
    have t1 := qc_take4 eI
    have t2 := qc_len4 eI
    have t3 := qc_take4 eC
    have t4 := qc_len4 eC
    have q0 : (0 : Int) ≤ (i : Int) := by omega
    have q1 : (i : Int) < (n : Int) := by omega
    have q2 : (0 : Int) ≤ (c : Int) := by omega
    have q3 : (c : Int) < (n : Int) := by omega
    have q4 : (c : Int) < (w : Int) := by omega
    have e1 : IntKind.i64.wrap ((i : Int) + 1) = ((i + 1 : Nat) : Int) := by rw [i64_id (by omega) (by omega)]; omega
    have hlen : (pre ++ (matH o w (elimCol M c i) ++ (PP ++ [Blk.cells z4, .cells (qcell d)]))).length = b + 2 := mat_lenP ho hnS hb
    have bI := hB.get (show i < M.length by omega)
    have bC := hB.get (show c < M.length by omega)
    simp only [go_sem, cMatrix_triangle_r16, cMatrix_triangle_r17, q0, q1, q2, q3, q4, gP, gi, gc, gR, List.getElem?_drop, t1, t2]
    refine call_P (sign_q (mget M i c)) (by simp only [go_sem, avQ_q, bvs_qcell]) ?_
    by_cases hz : mget M i c = 0
    · simp only [go_sem, hz, cMatrix_triangle_r23, e1]
      have hE : elimCol M c (i + 1) = elimCol M c i := by
        rw [← elimCol_succ (by omega) (by omega)]
        unfold elimRow
        rw [if_pos (show rget (M.getD i []) c = 0 from hz)]
        apply List.ext_getElem?
        intro x
        by_cases hx : i = x
        · subst hx; rw [List.getElem?_set_self (by omega), rI]
        · rw [List.getElem?_set_ne hx]
      refine hN (i + 1) _ ⟨by omega, by omega⟩ (by omega) ?_
      rw [hE]
      exact Le_keep _ (by simp only [go_sem])
    · have hz' : ¬ (if mget M i c < 0 then (-1 : Int) else 1) = 0 := by split <;> omega
      have eA : ∀ X : Blk, (pre ++ (matH o w (elimCol M c i) ++ (PP ++ [Blk.cells z4, .cells (qcell d)]))) ++ [X] = pre ++ (matH o w (elimCol M c i) ++ (PP ++ [.cells z4, .cells (qcell d), X])) := fun X => by simp
      have gP3 : ∀ X : Blk, (pre ++ (matH o w (elimCol M c i) ++ (PP ++ [Blk.cells z4, .cells (qcell d), X])))[o]? = some (.cells (ptrs o w n)) := fun X => by
        have := mat_ptr (pre := pre) (post := PP ++ [.cells z4, .cells (qcell d), X]) (w := w) (M := elimCol M c i) ho
        rwa [hnS] at this
      have gR3 : ∀ X : Blk, (pre ++ (matH o w (elimCol M c i) ++ (PP ++ [Blk.cells z4, .cells (qcell d), X])))[o + 2 + 2 * i]? = some (.cells (qc (M.getD i []))) := fun X => mat_row ho rI
      have gC3 : ∀ X : Blk, (pre ++ (matH o w (elimCol M c i) ++ (PP ++ [Blk.cells z4, .cells (qcell d), X])))[o + 2 + 2 * c]? = some (.cells (qc (M.getD c []))) := fun X => mat_row ho rC
      have g3 : ∀ X : Blk, (pre ++ (matH o w (elimCol M c i) ++ (PP ++ [Blk.cells z4, .cells (qcell d), X])))[b + 2]? = some X := fun X => mat_postP (t := 2) ho hnS hb
      have s3 : ∀ X Y : Blk, (pre ++ (matH o w (elimCol M c i) ++ (PP ++ [Blk.cells z4, .cells (qcell d), X]))).set (b + 2) Y = pre ++ (matH o w (elimCol M c i) ++ (PP ++ [.cells z4, .cells (qcell d), Y])) := fun X Y => mat_set_postP (t := 2) ho hnS hb
      have l0 : o < b + 2 := by omega
      have l1 : o + 2 + 2 * i < b + 2 := by omega
      have l2 : o + 2 + 2 * c < b + 2 := by omega
      simp only [go_sem, hz, hz', cMatrix_triangle_r18, hm, hlen, eA, q0, q1, q2, q3, q4, gP3, gR3, gC3, gi, gc, l0, l1, l2, List.getElem?_drop, t1, t2, t3, t4]
      refine call_P (div_q (k := k) (bI.get (j := c) (by omega)) (bC.get (j := c) (by omega)) h0 (by omega)) (by simp only [go_sem, avQ_q, bvs_qcell, mget]) ?_
      simp only [go_sem, avQ_q, qcell_len, g3, s3, cMatrix_triangle_r19]
      refine T_keep [(0, .osl none o 0 n), (2, .ptr b 0), (3, .ptr (b + 1) 0), (4, .int .i64 (c : Int)), (6, .int .i64 (i : Int)), (7, .ptr (b + 2) 0), (8, .int .i64 (c : Int)), (11, .int .i64 (n : Int)), (12, .int .i64 (c : Int))] (by simp only [go_sem])
        (tri_L2 (post := (PP ++ [.cells z4, .cells (qcell d), .cells (qcell (mget M i c / mget M c c))])) (t := PP.length + 2) (q := mget M i c / mget M c c) (k := k) ho hnS hnl hwl hi hc (by omega) (by omega) rC rI hlC hlI (by omega) (by rw [List.getElem?_append_right (by omega), show PP.length + 2 - PP.length = 2 by omega]; rfl) bC bI ((bI.get (j := c) (by omega)).div (bC.get (j := c) (by omega)) h0) hk1 hk (fun e k0 k2 k3 k4 k6 k11 k12 => ?_))
      simp only [go_sem, cMatrix_triangle_r23, k6, e1]
      have hE : (elimCol M c i).set i (elimTo (M.getD c []) c (mget M i c / mget M c c) (M.getD i []) w) = elimCol M c (i + 1) := by
        rw [← elimCol_succ (by omega) (by omega)]
        congr 1
        unfold elimRow
        rw [if_neg (show ¬ rget (M.getD i []) c = 0 from hz), hlI]
        rfl
      rw [hE]
      refine hN (i + 1) _ ⟨by omega, by omega⟩ (by omega) ?_
      have hnS' : (elimCol M c (i + 1)).length = n := by rw [elimCol_len, hn]
      have hK2 : (pre ++ (matH o w (elimCol M c (i + 1)) ++ (PP ++ [Blk.cells z4, .cells (qcell d)]))).length = b + 2 := mat_lenP ho hnS' hb
      have hclo : Clo (b + 2) (pre ++ (matH o w (elimCol M c (i + 1)) ++ (PP ++ [Blk.cells z4, .cells (qcell d)]))) := hpre.append ((clo_mat (by rw [hnS']; omega)).append (hPP.append rfl))
      have hsplit : pre ++ (matH o w (elimCol M c (i + 1)) ++ (PP ++ [Blk.cells z4, .cells (qcell d), .cells (qcell (mget M i c / mget M c c))])) = (pre ++ (matH o w (elimCol M c (i + 1)) ++ (PP ++ [Blk.cells z4, .cells (qcell d)]))) ++ [.cells (qcell (mget M i c / mget M c c))] := by simp
      rw [hsplit]
      refine Le_drop hK2 hclo (by omega) _ (by simp only [go_sem, k0, k2, k3, k4, k11, k12]) (fun p hp => ?_)
      have g0 : pos (List.range (b + 2)) o = some o := pos_range (by omega)
      have g1 : pos (List.range (b + 2)) b = some b := pos_range (by omega)
      have g2 : pos (List.range (b + 2)) (b + 1) = some (b + 1) := pos_range (by omega)
      simp only [List.mem_cons, List.not_mem_nil, or_false] at hp
      rcases hp with rfl | rfl | rfl | rfl | rfl | rfl | rfl <;> simp only [AV.gc, g0, g1, g2]
  · have hin : i = n := by omega
    subst hin
    have q1 : ¬ (i : Int) < (i : Int) := by omega
    simp only [go_sem, cMatrix_triangle_r16, q1]
    exact hK _ (by simp only [go_sem]) (by simp only [go_sem]) (by simp only [go_sem]) (by simp only [go_sem]) (by simp only [go_sem])
end GoAbs
namespace GoAbs
open Go Go.Proofs
def tri : Nat → Nat → RM → Rat → Rat × RM
  | 0, _, M, d => (d, M)
  | k + 1, c, M, d => if mget M c c = 0 then (0, M) else tri k (c + 1) (elimCol M c M.length) (d * mget M c c)
def NoSw : Nat → Nat → RM → Prop
  | 0, _, _ => True
  | k + 1, c, M => (mget M c c = 0 → ∀ i, c ≤ i → i < M.length → mget M i c = 0) ∧ (mget M c c ≠ 0 → NoSw k (c + 1) (elimCol M c M.length))
theorem tri_L1 {pre post : Heap} {o w n c n0 : Nat} {M : RM} {bA : Nat} (ho : pre.length = o) (hn : M.length = n) (hnl : n ≤ 1000000) (hc : c < n) (hcw : c < w) (hW : Wid w M)
    (hz : ∀ i, c ≤ i → i < n → mget M i c = 0) {K : Ex → St → Prop}
    (hK : ∀ e : Nat → AV, e 0 = .osl none o 0 n → e 2 = .ptr bA 0 → e 5 = .int .i64 (n : Int) → K (.exit 2) ⟨e, pre ++ (matH o w M ++ post)⟩) :
    T Tryz.prog 133 n0 (.loop cMatrix_triangle_L1) ⟨envL [(0, .osl none o 0 n), (2, .ptr bA 0), (4, .int .i64 (c : Int)), (5, .int .i64 (c : Int))], pre ++ (matH o w M ++ post)⟩ K := by
  refine T_rounds (fun i : Nat => ⟨envL [(0, .osl none o 0 n), (2, .ptr bA 0), (4, .int .i64 (c : Int)), (5, .int .i64 (i : Int))], pre ++ (matH o w M ++ post)⟩)
    (fun i => c ≤ i ∧ i ≤ n) (fun i => n - i) c ⟨Nat.le_refl _, by omega⟩ (Le_keep _ (by simp only [go_sem])) (fun i hI N hN => ?_)
  obtain ⟨h1, h2⟩ := hI
  unfold cMatrix_triangle_L1
  by_cases hi : i < n
  · have gP := mat_ptr (pre := pre) (post := post) (w := w) (M := M) ho
    rw [hn] at gP
    have gi := ptrs_get (o := o) (w := w) hi
    have gR := mat_row (post := post) (w := w) ho (getD_some (M := M) (i := i) (by omega))
    have hlI := hW.get (show i < M.length by omega)
    have eI : (M.getD i [])[c]? = some (mget M i c) := rget_some (by omega)
    have t1 := qc_take4 eI
    have t2 := qc_len4 eI
    have q0 : (0 : Int) ≤ (i : Int) := by omega
    have q1 : (i : Int) < (n : Int) := by omega
    have q2 : (0 : Int) ≤ (c : Int) := by omega
    have q4 : (c : Int) < (w : Int) := by omega
    have e1 : IntKind.i64.wrap ((i : Int) + 1) = ((i + 1 : Nat) : Int) := by rw [i64_id (by omega) (by omega)]; omega
    simp only [go_sem, cMatrix_triangle_r7, q0, q1, q2, q4, gP, gi, gR, List.getElem?_drop, t1, t2]
    refine call_P (sign_q (mget M i c)) (by simp only [go_sem, avQ_q, bvs_qcell]) ?_
    simp only [go_sem, hz i h1 hi, cMatrix_triangle_r8, e1]
    exact hN (i + 1) _ ⟨by omega, by omega⟩ (by omega) (Le_keep _ (by simp only [go_sem]))
  · have hin : i = n := by omega
    subst hin
    have q1 : ¬ (i : Int) < (i : Int) := by omega
    simp only [go_sem, cMatrix_triangle_r7, q1]
    exact hK _ (by simp only [go_sem]) (by simp only [go_sem]) (by simp only [go_sem])
theorem tri_L1f {pre post : Heap} {o w n c n0 : Nat} {M : RM} {bA : Nat} (ho : pre.length = o) (hn : M.length = n) (hc : c < n) (hcw : c < w) (hW : Wid w M)
    (hz : mget M c c ≠ 0) {K : Ex → St → Prop}
    (hK : ∀ e : Nat → AV, e 0 = .osl none o 0 n → e 2 = .ptr bA 0 → e 3 = .ptr (bA + 1) 0 → e 4 = .int .i64 (c : Int) → e 5 = .int .i64 (c : Int) → e 11 = .int .i64 (n : Int) → e 12 = .int .i64 (c : Int) → K (.exit 2) ⟨e, pre ++ (matH o w M ++ post)⟩) :
    T Tryz.prog 133 n0 (.loop cMatrix_triangle_L1) ⟨envL [(0, .osl none o 0 n), (2, .ptr bA 0), (3, .ptr (bA + 1) 0), (4, .int .i64 (c : Int)), (5, .int .i64 (c : Int)), (11, .int .i64 (n : Int)), (12, .int .i64 (c : Int))], pre ++ (matH o w M ++ post)⟩ K := by
  refine T_rounds (fun _ : Unit => ⟨envL [(0, .osl none o 0 n), (2, .ptr bA 0), (3, .ptr (bA + 1) 0), (4, .int .i64 (c : Int)), (5, .int .i64 (c : Int)), (11, .int .i64 (n : Int)), (12, .int .i64 (c : Int))], pre ++ (matH o w M ++ post)⟩)
    (fun _ => True) (fun _ => 0) () trivial (Le_keep _ (by simp only [go_sem])) (fun i hI N hN => ?_)
  unfold cMatrix_triangle_L1
  have gP := mat_ptr (pre := pre) (post := post) (w := w) (M := M) ho
  rw [hn] at gP
  have gi := ptrs_get (o := o) (w := w) hc
  have gR := mat_row (post := post) (w := w) ho (getD_some (M := M) (i := c) (by omega))
  have hlI := hW.get (show c < M.length by omega)
  have eI : (M.getD c [])[c]? = some (mget M c c) := rget_some (by omega)
  have t1 := qc_take4 eI
  have t2 := qc_len4 eI
  have q1 : (c : Int) < (n : Int) := by omega
  have q2 : (0 : Int) ≤ (c : Int) := by omega
  have q4 : (c : Int) < (w : Int) := by omega
  simp only [go_sem, cMatrix_triangle_r7, q1, q2, q4, gP, gi, gR, List.getElem?_drop, t1, t2]
  refine call_P (sign_q (mget M c c)) (by simp only [go_sem, avQ_q, bvs_qcell]) ?_
  have hz' : ¬ (if mget M c c < 0 then (-1 : Int) else 1) = 0 := by split <;> omega
  simp only [go_sem, hz, hz']
  exact hK _ (by simp only [go_sem]) (by simp only [go_sem]) (by simp only [go_sem]) (by simp only [go_sem]) (by simp only [go_sem]) (by simp only [go_sem]) (by simp only [go_sem])
theorem tri_L4 {pre PP : Heap} {o w n n0 k b : Nat} {M : RM} (ho : pre.length = o) (hn : M.length = n) (hnl : n ≤ 1000000) (hwl : w ≤ 1000000) (hnw : n ≤ w) (hW : Wid w M) (hB : Mb k M) (hk1 : 1 ≤ k) (hk : 9 ^ n * k ≤ 100000000000)
    (hns : NoSw n 0 M) (hb : b = o + (1 + 2 * n) + PP.length) (hn0 : n0 ≤ b) (hpre : Clo (b + 2) pre) (hPP : Clo (b + 2) PP) {K : Ex → St → Prop}
    (hK : ∀ e d M', tri n 0 M 1 = (d, M') → M'.length = n → e 2 = .ptr b 0 → e 3 = .ptr (b + 1) 0 → K (.exit 0) ⟨e, pre ++ (matH o w M' ++ (PP ++ [.cells z4, .cells (qcell d)]))⟩)
    (hK0 : ∀ e d M', tri n 0 M 1 = (0, M') → M'.length = n → e 2 = .ptr b 0 → K .ret ⟨e, pre ++ (matH o w M' ++ (PP ++ [.cells (qcell 0), .cells (qcell d)]))⟩) :
    T Tryz.prog 133 n0 (.loop cMatrix_triangle_L4) ⟨envL [(0, .osl none o 0 n), (2, .ptr b 0), (3, .ptr (b + 1) 0), (11, .int .i64 (n : Int)), (12, .int .i64 0)], pre ++ (matH o w M ++ (PP ++ [.cells z4, .cells (qcell 1)]))⟩ K := by
  have hm : Tryz.prog.follows .mixedOrders = true := by kernel_rfl
  refine T_rounds (fun z : Nat × RM × Rat => ⟨envL [(0, .osl none o 0 n), (2, .ptr b 0), (3, .ptr (b + 1) 0), (11, .int .i64 (n : Int)), (12, .int .i64 (z.1 : Int))], pre ++ (matH o w z.2.1 ++ (PP ++ [.cells z4, .cells (qcell z.2.2)]))⟩)
    (fun z => z.1 ≤ n ∧ z.2.1.length = n ∧ Wid w z.2.1 ∧ Mb (9 ^ z.1 * k) z.2.1 ∧ Qb (9 ^ z.1 * k) z.2.2 ∧ NoSw (n - z.1) z.1 z.2.1 ∧ tri (n - z.1) z.1 z.2.1 z.2.2 = tri n 0 M 1) (fun z => n - z.1) (0, M, 1)
    ⟨by simp, hn, hW, by simpa using hB, by simpa using Qb.one hk1, hns, rfl⟩ (Le_keep _ (by simp only [go_sem]; simp)) (fun z hI N hN => ?_)
  obtain ⟨c, S, d⟩ := z
  obtain ⟨h1, h2, h3, h4, h5, h6, h7⟩ := hI
  simp only at h1 h2 h3 h4 h5 h6 h7 ⊢
  unfold cMatrix_triangle_L4
  by_cases hc : c < n
  · obtain ⟨m, hm1⟩ : ∃ m, n - c = m + 1 := ⟨n - c - 1, by omega⟩
    have hm2 : n - (c + 1) = m := by omega
    rw [hm1] at h6 h7
    have q1 : (c : Int) < (n : Int) := by omega
    have q0 : (0 : Int) ≤ (c : Int) := by omega
    have q4 : (c : Int) < (w : Int) := by omega
    have e1 : IntKind.i64.wrap ((c : Int) + 1) = ((c + 1 : Nat) : Int) := by rw [i64_id (by omega) (by omega)]; omega
    have gP := mat_ptr (pre := pre) (post := PP ++ [.cells z4, .cells (qcell d)]) (w := w) (M := S) ho
    rw [h2] at gP
    have gc := ptrs_get (o := o) (w := w) hc
    have gC := mat_row (post := PP ++ [.cells z4, .cells (qcell d)]) (w := w) ho (getD_some (M := S) (i := c) (by omega))
    have hlC := h3.get (show c < S.length by omega)
    have eC : (S.getD c [])[c]? = some (mget S c c) := rget_some (by omega)
    have t1 := qc_take4 eC
    have t2 := qc_len4 eC
    have hlen : (pre ++ (matH o w S ++ (PP ++ [Blk.cells z4, .cells (qcell d)]))).length = b + 2 := mat_lenP ho h2 hb
    have gA : (pre ++ (matH o w S ++ (PP ++ [Blk.cells z4, .cells (qcell d)])))[b]? = some (.cells z4) := mat_postP (t := 0) ho h2 hb
    have gD : (pre ++ (matH o w S ++ (PP ++ [Blk.cells z4, .cells (qcell d)])))[b + 1]? = some (.cells (qcell d)) := mat_postP (t := 1) ho h2 hb
    have sA : ∀ Y : Blk, (pre ++ (matH o w S ++ (PP ++ [Blk.cells z4, .cells (qcell d)]))).set b Y = pre ++ (matH o w S ++ (PP ++ [Y, .cells (qcell d)])) := fun Y => mat_set_postP (t := 0) ho h2 hb
    have sD : ∀ Y : Blk, (pre ++ (matH o w S ++ (PP ++ [Blk.cells z4, .cells (qcell d)]))).set (b + 1) Y = pre ++ (matH o w S ++ (PP ++ [.cells z4, Y])) := fun Y => mat_set_postP (t := 1) ho h2 hb
    simp only [go_sem, cMatrix_triangle_r4, cMatrix_triangle_r5, cMatrix_triangle_r6, q1]
    by_cases hp : mget S c c = 0
    · refine T_keep [(0, .osl none o 0 n), (2, .ptr b 0), (4, .int .i64 (c : Int)), (5, .int .i64 (c : Int))] (by simp only [go_sem])
        (tri_L1 ho h2 hnl hc (by omega) h3 (fun i g1 g2 => h6.1 hp i g1 (by omega)) (fun e k0 k2 k5 => ?_))
      have hz4 : z4.length = 4 := rfl
      have hzd : z4.drop 4 = [] := rfl
      simp only [go_sem, cMatrix_triangle_r9, cMatrix_triangle_r10, k0, k2, k5]
      refine call_P zero_q (by simp only [go_sem]) ?_
      simp only [go_sem, avQ_q, qcell_len, gA, hz4, hzd, sA, k2]
      refine hK0 _ d S ?_ h2 (by simp only [go_sem, k2])
      rw [← h7]
      unfold tri
      rw [if_pos hp]
    · refine T_keep [(0, .osl none o 0 n), (2, .ptr b 0), (3, .ptr (b + 1) 0), (4, .int .i64 (c : Int)), (5, .int .i64 (c : Int)), (11, .int .i64 (n : Int)), (12, .int .i64 (c : Int))] (by simp only [go_sem])
        (tri_L1f ho h2 hc (by omega) h3 hp (fun e k0 k2 k3 k4 k5 k11 k12 => ?_))
      have q5 : ¬ (c : Int) = (n : Int) := by omega
      have q6 : ¬ ((c : Int) ≠ (c : Int)) := by omega
      have hql : (4 : Nat) ≤ (qcell d).length := by rw [qcell_len]; omega
      have hqt : (qcell d).take 4 = qcell d := List.take_of_length_le (by rw [qcell_len]; omega)
      have hqd : (qcell d).drop 4 = [] := rfl
      have l0 : o < b + 2 := by omega
      have l1 : o + 2 + 2 * c < b + 2 := by omega
      have l2 : b + 1 < b + 2 := by omega
      have hKb : 9 ^ c * k ≤ 9 ^ n * k := Nat.mul_le_mul_right _ (Nat.pow_le_pow_right (by omega) h1)
      have hKs : 9 ^ (c + 1) * k = 9 * (9 ^ c * k) := by rw [Nat.pow_succ, Nat.mul_comm (9 ^ c) 9, Nat.mul_assoc]
      have hKn : 9 ^ (c + 1) * k ≤ 9 ^ n * k := Nat.mul_le_mul_right _ (Nat.pow_le_pow_right (by omega) hc)
      have hKp : 1 ≤ 9 ^ c * k := Nat.mul_pos (Nat.pow_pos (by omega)) hk1
      simp only [go_sem, cMatrix_triangle_r9, cMatrix_triangle_r11, cMatrix_triangle_r14, k0, k2, k3, k4, k5, q0, q1, q4, q5, q6, hm, hlen, gP, gc, gC, gD, List.getElem?_drop, t1, t2, hql, hqt, l0, l1, l2]
      refine call_P (mul_q (k := 9 ^ c * k) h5 ((h4.get (i := c) (by omega)).get (j := c) (by omega)) (by omega)) (by simp only [go_sem, avQ_q, bvs_qcell, mget]) ?_
      simp only [go_sem, avQ_q, qcell_len, hqd, gD, sD, hlen, l2, k3, k4, cMatrix_triangle_r15, e1]
      refine T_keep [(0, .osl none o 0 n), (2, .ptr b 0), (3, .ptr (b + 1) 0), (4, .int .i64 (c : Int)), (6, .int .i64 ((c + 1 : Nat) : Int)), (11, .int .i64 (n : Int)), (12, .int .i64 (c : Int))] (by simp only [go_sem, k0, k2, k3, k4, k11, k12])
        (tri_L3 (k := 9 ^ c * k) ho h2 hnl hwl hc (by omega) h3 h4 hp hKp (by omega) hb hn0 hpre hPP (fun e z0 z2 z3 z11 z12 => ?_))
      simp only [go_sem, cMatrix_triangle_r24, z12, e1]
      refine hN (c + 1, elimCol S c n, d * mget S c c) _ ⟨hc, by rw [elimCol_len, h2], h3.elim, ?_, ?_, ?_, ?_⟩ (by show n - (c + 1) < n - c; omega) (Le_keep _ (by simp only [go_sem, z0, z2, z3, z11]))
      · simp only
        rw [hKs]
        exact (h4.elim h3 (by omega) (by omega) hp).mono (by omega)
      · simp only
        rw [hKs]
        exact (h5.mul ((h4.get (i := c) (by omega)).get (j := c) (by omega))).mono (by omega)
      · simp only
        rw [hm2]
        have := h6.2 hp
        rwa [h2] at this
      · simp only
        rw [hm2, ← h7]
        conv => rhs; unfold tri
        rw [if_neg hp, h2]
  · have hcn : c = n := by omega
    subst hcn
    have q1 : ¬ (c : Int) < (c : Int) := by omega
    simp only [go_sem, cMatrix_triangle_r4, q1]
    rw [Nat.sub_self] at h7
    exact hK _ d S h7.symm h2 (by simp only [go_sem]) (by simp only [go_sem])
theorem tri_spec {pre PP : Heap} {o w n k : Nat} {M : RM} (ho : pre.length = o) (hn : M.length = n) (hnl : n ≤ 1000000) (hwl : w ≤ 1000000) (hnw : n ≤ w) (hW : Wid w M) (hB : Mb k M) (hk1 : 1 ≤ k) (hk : 9 ^ n * k ≤ 100000000000)
    (hns : NoSw n 0 M) (hpre : ∀ m, o + (1 + 2 * n) ≤ m → Clo m pre) (hPP : ∀ m, o + (1 + 2 * n) ≤ m → Clo m PP) :
    SpecR Tryz.prog n_Matrix_triangle (pre ++ (matH o w M ++ PP)) [.osl none o 0 n] (.agg (qcell (tri n 0 M 1).1)) (pre ++ (matH o w (tri n 0 M 1).2 ++ PP)) := by
  obtain ⟨b, hb⟩ : ∃ b, b = o + (1 + 2 * n) + PP.length := ⟨_, rfl⟩
  have hL : (pre ++ (matH o w M ++ PP)).length = b := by rw [List.length_append, List.length_append, matH_len, hn, ho]; omega
  refine specR_LT ok_Matrix_triangle (by simp) (T_W ?_)
  unfold cMatrix_triangle
  have eA : (pre ++ (matH o w M ++ PP)) ++ [Blk.cells [AV.bool false, .nils, .bool false, .nils]] ++ [Blk.cells [AV.bool false, .nils, .bool false, .nils]] = pre ++ (matH o w M ++ (PP ++ [.cells z4, .cells z4])) := by simp [z4]
  have eL : ((pre ++ (matH o w M ++ PP)) ++ [Blk.cells [AV.bool false, .nils, .bool false, .nils]]).length = b + 1 := by rw [List.length_append, hL]; rfl
  have g1 : (pre ++ (matH o w M ++ (PP ++ [Blk.cells z4, .cells z4])))[b + 1]? = some (.cells z4) := mat_postP (t := 1) ho hn hb
  have s1 : ∀ Y : Blk, (pre ++ (matH o w M ++ (PP ++ [Blk.cells z4, .cells z4]))).set (b + 1) Y = pre ++ (matH o w M ++ (PP ++ [.cells z4, Y])) := fun Y => mat_set_postP (t := 1) ho hn hb
  have hz4 : z4.length = 4 := rfl
  have hzd : z4.drop 4 = [] := rfl
  simp only [go_sem, cMatrix_triangle_r1, cMatrix_triangle_r2, hL]
  refine call_P one_q (by simp only [go_sem]) ?_
  simp only [go_sem, avQ_q, qcell_len, eA, eL, hL, g1, s1, hz4, hzd, cMatrix_triangle_r3, Nat.le_refl]
  have dropK : ∀ (e : Nat → AV) (M' : RM) (a d : List AV), M'.length = n → ∃ st', Le 133 b ⟨e, pre ++ (matH o w M' ++ (PP ++ [.cells a, .cells d]))⟩ st' ∧ st'.H = pre ++ (matH o w M' ++ PP) := fun e M' a d hM' => by
    have hK2 : (pre ++ (matH o w M' ++ PP)).length = b := by rw [List.length_append, List.length_append, matH_len, hM', ho]; omega
    have hclo : Clo b (pre ++ (matH o w M' ++ PP)) := (hpre _ (by omega)).append ((clo_mat (by rw [hM']; omega)).append (hPP _ (by omega)))
    have hsplit : pre ++ (matH o w M' ++ (PP ++ [Blk.cells a, .cells d])) = (pre ++ (matH o w M' ++ PP)) ++ [.cells a, .cells d] := by simp
    rw [hsplit]
    exact ⟨_, Le_drop hK2 hclo (Nat.le_refl _) [] trivial (fun p hp => by simp at hp), rfl⟩
  have gq : ∀ q : Rat, (AV.agg (qcell q)).gc (fun _ => none) = .agg (qcell q) := fun q => rfl
  have hql : ∀ q : Rat, (4 : Nat) ≤ (qcell q).length := fun q => by rw [qcell_len]; omega
  have hqt : ∀ q : Rat, (qcell q).take 4 = qcell q := fun q => List.take_of_length_le (by rw [qcell_len]; omega)
  refine T_keep [(0, .osl none o 0 n), (2, .ptr b 0), (3, .ptr (b + 1) 0), (11, .int .i64 (n : Int)), (12, .int .i64 0)] (by simp only [go_sem])
    (tri_L4 ho hn hnl hwl hnw hW hB hk1 hk hns hb (Nat.le_refl _) (hpre _ (by omega)) (hPP _ (by omega)) (fun e d M' h1 h2 k2 k3 => ?_) (fun e d M' h1 h2 k2 => ?_))
  · have gA : (pre ++ (matH o w M' ++ (PP ++ [Blk.cells z4, .cells (qcell d)])))[b]? = some (.cells z4) := mat_postP (t := 0) ho h2 hb
    have gD : (pre ++ (matH o w M' ++ (PP ++ [Blk.cells z4, .cells (qcell d)])))[b + 1]? = some (.cells (qcell d)) := mat_postP (t := 1) ho h2 hb
    have sA : ∀ Y : Blk, (pre ++ (matH o w M' ++ (PP ++ [Blk.cells z4, .cells (qcell d)]))).set b Y = pre ++ (matH o w M' ++ (PP ++ [Y, .cells (qcell d)])) := fun Y => mat_set_postP (t := 0) ho h2 hb
    have gA' : ∀ Y : Blk, (pre ++ (matH o w M' ++ (PP ++ [Y, .cells (qcell d)])))[b]? = some Y := fun Y => mat_postP (t := 0) ho h2 hb
    simp only [go_sem, cMatrix_triangle_r25, k2, k3, gA, gD, sA, gA', hql, hqt, hz4, hzd, qcell_len, Nat.le_refl, hL]
    rw [h1]
    exact ⟨rfl, gq _, dropK _ _ _ _ h2⟩
  · have gA : (pre ++ (matH o w M' ++ (PP ++ [Blk.cells (qcell 0), .cells (qcell d)])))[b]? = some (.cells (qcell 0)) := mat_postP (t := 0) ho h2 hb
    simp only [go_sem, k2, gA, hql, hqt, hL]
    rw [h1]
    exact ⟨rfl, gq _, dropK _ _ _ _ h2⟩
theorem det_spec {pre : Heap} {o w n k : Nat} {M : RM} (ho : pre.length = o) (hn : M.length = n) (hnl : n ≤ 1000000) (hwl : w ≤ 1000000) (hnw : n ≤ w) (hW : Wid w M) (hB : Mb k M) (hk1 : 1 ≤ k) (hk : 9 ^ n * k ≤ 100000000000)
    (hns : NoSw n 0 M) (hpre : ∀ m, o + (1 + 2 * n) ≤ m → Clo m pre) :
    SpecR Tryz.prog n_Matrix_Det (pre ++ matH o w M) [.osl none o 0 n] (.agg (qcell (tri n 0 M 1).1)) (pre ++ (matH o w (tri n 0 M 1).2 ++ [.cells (qcell (tri n 0 M 1).1)])) := by
  refine specR_W ok_Matrix_Det (by simp) ?_
  unfold cMatrix_Det
  have hL : (pre ++ matH o w M).length = o + (1 + 2 * n) := by rw [List.length_append, matH_len, hn, ho]
  have eA : (pre ++ matH o w M) ++ [Blk.cells [AV.bool false, .nils, .bool false, .nils]] = pre ++ (matH o w M ++ [.cells z4]) := by simp [z4]
  simp only [go_sem, cMatrix_Det_r1, cMatrix_Det_r2, hL, eA]
  refine call_R (tri_spec (PP := [.cells z4]) ho hn hnl hwl hnw hW hB hk1 hk hns hpre (fun _ _ => rfl)) ?_
  have hn' : (tri n 0 M 1).2.length = n := by
    have main : ∀ k c M d, M.length = n → (tri k c M d).2.length = n := by
      intro k
      induction k with
      | zero => intro c M d h; exact h
      | succ k ih =>
        intro c M d h
        unfold tri
        split
        · exact h
        · exact ih _ _ _ (by rw [elimCol_len, h])
    exact main _ _ _ _ hn
  have gA : ∀ Y : Blk, (pre ++ (matH o w (tri n 0 M 1).2 ++ [Y]))[o + (1 + 2 * n)]? = some Y := fun Y => mat_post (t := 0) ho hn'
  have sA : ∀ X Y : Blk, (pre ++ (matH o w (tri n 0 M 1).2 ++ [X])).set (o + (1 + 2 * n)) Y = pre ++ (matH o w (tri n 0 M 1).2 ++ [Y]) := fun X Y => mat_set_post (t := 0) ho hn'
  have hql : ∀ q : Rat, (4 : Nat) ≤ (qcell q).length := fun q => by rw [qcell_len]; omega
  have hqt : ∀ q : Rat, (qcell q).take 4 = qcell q := fun q => List.take_of_length_le (by rw [qcell_len]; omega)
  have hz4 : z4.length = 4 := rfl
  have hzd : z4.drop 4 = [] := rfl
  simp only [go_sem, qcell_len, gA, sA, hql, hqt, hz4, hzd, Nat.le_refl]
end GoAbs
