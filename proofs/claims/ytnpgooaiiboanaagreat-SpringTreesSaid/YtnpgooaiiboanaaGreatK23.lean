/- Lemmas for the claim (contracts of the functions that it reaches, and what they compute), without conditions. -/
import Derived.Test.YtnpgooaiiboanaaGreatK22
import Derived.Test.YtnpgooaiiboanaaGreatProg
import Derived.KernelRfl
import Derived.Laws.Externs
import Derived.Lib.Bytealg
set_option linter.unusedVariables false
set_option linter.unusedSimpArgs false
set_option maxRecDepth 10000
set_option maxHeartbeats 2000000
namespace GoAbs
open Go Go.Proofs
def swp (L : List AV) (k : Nat) : List AV := (List.range L.length).map fun x => if x < k ∨ L.length - k ≤ x then L.getD (L.length - 1 - x) .any else L.getD x .any
theorem swp_len (L : List AV) (k : Nat) : (swp L k).length = L.length := by simp [swp]
theorem swp_get {L : List AV} {k x : Nat} (h : x < L.length) : (swp L k)[x]? = some (if x < k ∨ L.length - k ≤ x then L.getD (L.length - 1 - x) .any else L.getD x .any) := by
  simp [swp, h]
theorem getD_get {L : List AV} {x : Nat} (h : x < L.length) : L[x]? = some (L.getD x .any) := by
  rw [List.getD_eq_getElem?_getD, List.getElem?_eq_getElem h]; rfl
theorem swp_zero (L : List AV) : swp L 0 = L := by
  apply List.ext_getElem?
  intro x
  by_cases h : x < L.length
  · rw [swp_get h, if_neg (by omega), getD_get h]
  · rw [List.getElem?_eq_none (by rw [swp_len]; omega), List.getElem?_eq_none (by omega)]
theorem swp_all {L : List AV} {k : Nat} (h : L.length ≤ 2 * k + 1) : swp L k = L.reverse := by
  apply List.ext_getElem?
  intro x
  by_cases hx : x < L.length
  · rw [swp_get hx, List.getElem?_reverse hx, getD_get (by omega)]
    congr 1
    by_cases h1 : x < k ∨ L.length - k ≤ x
    · rw [if_pos h1]
    · rw [if_neg h1]
      have : L.length - 1 - x = x := by omega
      rw [this]
  · rw [List.getElem?_eq_none (by rw [swp_len]; omega), List.getElem?_eq_none (by simp; omega)]
theorem swp_succ {L : List AV} {k : Nat} (h : 2 * k + 1 < L.length) : ((swp L k).set k (L.getD (L.length - 1 - k) .any)).set (L.length - 1 - k) (L.getD k .any) = swp L (k + 1) := by
  apply List.ext_getElem?
  intro x
  by_cases hx : x < L.length
  · rw [swp_get hx]
    by_cases h1 : x = L.length - 1 - k
    · subst h1
      rw [List.getElem?_set_self (by rw [List.length_set, swp_len]; omega), if_pos (by omega)]
      congr 2; omega
    · rw [List.getElem?_set_ne (by omega)]
      by_cases h2 : x = k
      · subst h2
        rw [List.getElem?_set_self (by rw [swp_len]; omega), if_pos (by omega)]
      · rw [List.getElem?_set_ne (by omega), swp_get hx]
        by_cases h3 : x < k ∨ L.length - k ≤ x
        · rw [if_pos h3, if_pos (by omega)]
        · rw [if_neg h3, if_neg (by omega)]
  · rw [List.getElem?_eq_none (by rw [List.length_set, List.length_set, swp_len]; omega), List.getElem?_eq_none (by rw [swp_len]; omega)]
def Plain (L : List AV) : Prop := ∀ x, x ∈ L → x.known ∧ x.cells = [x]
theorem reverse_spec {H : Heap} {b n : Nat} {L : List AV} (hH : H[b]? = some (.cells L)) (hn : L.length = n) (hp : Plain L) (hnl : n ≤ 1099511627776) :
    SpecR Tryz.prog n_slices_Reverse H [.osl none b 0 n] (.tup []) (H.set b (.cells L.reverse)) := by
  have hb : b < H.length := (List.getElem?_eq_some_iff.1 hH).1
  have hm : Tryz.prog.follows .mixedOrders = true := by kernel_rfl
  have hself : H = H.set b (.cells (swp L 0)) := by
    rw [swp_zero]
    apply List.ext_getElem?
    intro i
    by_cases h : b = i
    · subst h; rw [List.getElem?_set_self hb, hH]
    · rw [List.getElem?_set_ne h]
  refine specR_W ok_slices_Reverse (by simp) ?_
  unfold cslices_Reverse
  have e0 : IntKind.i64.wrap ((n : Int) - 1) = (n : Int) - 1 := by rw [i64_id (by omega) (by omega)]
  simp only [go_sem, cslices_Reverse_r1, e0]
  refine T_rounds (fun k : Nat => ⟨envL [(0, .osl none b 0 n), (2, .int .i64 (k : Int)), (3, .int .i64 ((n : Int) - 1 - k))], H.set b (.cells (swp L k))⟩)
    (fun k => 2 * k ≤ n) (fun k => n - k) 0 (by simp) (by rw [← hself]; exact Le_keep _ (by simp only [go_sem]; simp)) (fun k hk N hN => ?_)
  unfold cslices_Reverse_L1
  by_cases hlt : 2 * k + 1 < n
  · have hki : (k : Int) < (n : Int) - 1 - k := by omega
    have ej : ((n : Int) - 1 - k) = ((n - 1 - k : Nat) : Int) := by omega
    rw [ej]
    have hki' : (k : Int) < ((n - 1 - k : Nat) : Int) := by omega
    have p1 : (0 : Int) ≤ (k : Int) := by omega
    have p2 : (0 : Int) ≤ ((n - 1 - k : Nat) : Int) := by omega
    have p3 : (k : Int) < (n : Int) := by omega
    have p4 : ((n - 1 - k : Nat) : Int) < (n : Int) := by omega
    have e1 : IntKind.i64.wrap ((k : Int) + 1) = ((k + 1 : Nat) : Int) := by rw [i64_id (by omega) (by omega)]; omega
    have e2 : IntKind.i64.wrap (((n - 1 - k : Nat) : Int) - 1) = (n : Int) - 1 - ((k + 1 : Nat) : Int) := by rw [i64_id (by omega) (by omega)]; omega
    have g1 : (swp L k)[k]? = some (L.getD k .any) := by rw [swp_get (by omega), if_neg (by omega)]
    have g2 : (swp L k)[n - 1 - k]? = some (L.getD (n - 1 - k) .any) := by rw [swp_get (by omega), if_neg (by omega)]
    have hx := hp _ (List.mem_of_getElem? (getD_get (L := L) (x := k) (by omega)))
    have hy := hp _ (List.mem_of_getElem? (getD_get (L := L) (x := n - 1 - k) (by omega)))
    have hs := swp_succ (L := L) (k := k) (by omega)
    rw [hn] at hs
    generalize L.getD k .any = x at *
    generalize L.getD (n - 1 - k) .any = y at *
    have hbs : ∀ bl : Blk, (H.set b bl)[b]? = some bl := fun bl => List.getElem?_set_self hb
    have kx : ∀ {C : Prop}, knownC x C = C := fun {C} => by simp [knownC, hx.1]
    have ky : ∀ {C : Prop}, knownC y C = C := fun {C} => by simp [knownC, hy.1]
    have hl1 : ∀ z w : AV, k + 1 ≤ (swp L k).length := fun _ _ => by rw [swp_len]; omega
    simp only [go_sem, cslices_Reverse_r2, cslices_Reverse_r3, cslices_Reverse_r4, hki', hm, p1, p2, p3, p4, hbs, List.getElem?_drop, g1, g2, List.length_set, hb, kx, ky, hx.2, hy.2]
    refine ⟨by rw [swp_len]; omega, ?_⟩
    rw [set_form (by rw [swp_len]; omega), List.set_set]
    simp only [go_sem, hbs, cslices_Reverse_r4, e1, e2, hx.2]
    refine ⟨by rw [List.length_set, swp_len]; omega, ?_⟩
    rw [set_form (by rw [List.length_set, swp_len]; omega), List.set_set, hs]
    exact hN (k + 1) _ (by omega) (by omega) (Le_keep _ (by simp only [go_sem]))
  · have hki : ¬ (k : Int) < (n : Int) - 1 - k := by omega
    simp only [go_sem, cslices_Reverse_r2, hki]
    rw [swp_all (by omega)]
end GoAbs
namespace GoAbs
open Go Go.Proofs
def digs (n : Nat) : List UInt8 := if h : n = 0 then [] else UInt8.ofNat (48 + n % 10) :: digs (n / 10)
  termination_by n
  decreasing_by omega
theorem digs_zero : digs 0 = [] := by unfold digs; simp
theorem digs_pos {n : Nat} (h : n ≠ 0) : digs n = UInt8.ofNat (48 + n % 10) :: digs (n / 10) := by rw [digs]; simp [h]
theorem digs_len : ∀ {k n : Nat}, n < 10 ^ k → (digs n).length ≤ k
  | 0, n, h => by have : n = 0 := by simpa using h
                  subst this; simp [digs_zero]
  | k + 1, n, h => by
    by_cases h0 : n = 0
    · subst h0; simp [digs_zero]
    · rw [digs_pos h0, List.length_cons]
      have : (digs (n / 10)).length ≤ k := digs_len (by rw [Nat.div_lt_iff_lt_mul (by omega), ← Nat.pow_succ]; exact h)
      omega
def decL (n : Nat) : List UInt8 := if n = 0 then [48] else (digs n).reverse
def decB (n : Nat) : ByteArray := ⟨(decL n).toArray⟩
def byc (l : List UInt8) : List AV := l.map fun b => AV.int .u8 (b.toNat : Int)
theorem byc_len (l : List UInt8) : (byc l).length = l.length := by simp [byc]
theorem byc_append {l r : List UInt8} : byc (l ++ r) = byc l ++ byc r := by simp [byc]
theorem byc_plain (l : List UInt8) : Plain (byc l) := fun x hx => by
  obtain ⟨b, _, rfl⟩ := List.mem_map.1 hx
  exact ⟨trivial, rfl⟩
theorem byc_reverse (l : List UInt8) : (byc l).reverse = byc l.reverse := by simp [byc]
def Tx (n : Nat) : Prop := lenN n ≤ 10000000000
theorem digs_limbs {n k : Nat} (h : n < 4294967296 ^ k) : (digs n).length ≤ 10 * k := by
  refine digs_len (Nat.lt_of_lt_of_le h ?_)
  rw [Nat.pow_mul]
  exact Nat.pow_le_pow_left (by decide) _
theorem Tx.len {n : Nat} (h : Tx n) : (digs n).length ≤ 100000000000 := by
  have := digs_limbs (lt_pow_lenN n)
  unfold Tx at h
  omega
theorem Tx.mono {m n : Nat} (h : Tx n) (hm : m ≤ n) : Tx m := Nat.le_trans (lenN_mono hm) h
theorem Tx.lenN {n : Nat} (h : Tx n) : lenN n ≤ 10000000000 := h
theorem digit_byte (r : Nat) : ∃ d : UInt8, d = UInt8.ofNat (48 + r % 10) ∧ (d.toNat : Int) = 48 + (r % 10 : Nat) := by
  refine ⟨_, rfl, ?_⟩
  have : r % 10 < 10 := Nat.mod_lt _ (by omega)
  rw [UInt8.toNat_ofNat']
  have : (48 + r % 10) % 2 ^ 8 = 48 + r % 10 := Nat.mod_eq_of_lt (by omega)
  omega
theorem u8_id {x : Int} (h1 : 0 ≤ x) (h2 : x ≤ 255) : IntKind.u8.wrap x = x := by
  rw [IntKind.wrap_u8]; omega
theorem text_inner {n q r : Nat} {l : List UInt8} (hn : (digs n).length ≤ 100000000000) (hr : r < 1000000000) (hl : l ++ digs (q * 10 ^ 9 + r) = digs n) {X : AV} (hX : X.gc (pos [2]) = X) {K : Ex → St → Prop}
    (hK : ∀ l' e, l' ++ digs q = digs n → e 0 = X → e 3 = .osl none 0 0 l'.length → e 4 = .sl (u32c (limbs q)) → K (.exit 2) ⟨e, [.cells (byc l')]⟩) :
    T Tryz.prog 45 0 (.loop cnum_text_L1) ⟨envL [(0, X), (3, .osl none 0 0 l.length), (4, .sl (u32c (limbs q))), (5, .int .u32 (r : Int)), (6, .int .i64 0)], [.cells (byc l)]⟩ K := by
  refine T_rounds (fun z : Nat × Nat × List UInt8 => ⟨envL [(0, X), (3, .osl none 0 0 z.2.2.length), (4, .sl (u32c (limbs q))), (5, .int .u32 (z.2.1 : Int)), (6, .int .i64 (z.1 : Int))], [.cells (byc z.2.2)]⟩)
    (fun z => z.1 ≤ 9 ∧ z.2.1 < 10 ^ (9 - z.1) ∧ z.2.2 ++ digs (q * 10 ^ (9 - z.1) + z.2.1) = digs n) (fun z => 9 - z.1) (0, r, l) ⟨by simp, hr, hl⟩ (Le_keep _ (by simp only [go_sem]; simp)) (fun z hI N hN => ?_)
  obtain ⟨i, r1, l1⟩ := z
  obtain ⟨h1, h2, h3⟩ := hI
  simp only at h1 h2 h3 ⊢
  unfold cnum_text_L1
  by_cases hi : i < 9
  · have pi : (i : Int) < 9 := by omega
    have hpow : (10 : Nat) ^ (9 - i) = 10 ^ (9 - (i + 1)) * 10 := by rw [← Nat.pow_succ]; congr 1; omega
    have hple : (10 : Nat) ^ (9 - i) ≤ 10 ^ 9 := Nat.pow_le_pow_right (by omega) (by omega)
    by_cases hz : q = 0 ∧ r1 = 0
    · obtain ⟨rfl, rfl⟩ := hz
      have p1 : ¬ (0 : Int) < ((0 : Nat) : Int) := by omega
      simp only [go_sem, cnum_text_r8, pi, limbs_zero, u32c_nil, p1]
      rw [Nat.zero_mul] at h3
      exact hK l1 _ h3 (by simp only [go_sem]) (by simp only [go_sem]) (by simp only [go_sem, limbs_zero, u32c_nil])
    · have hpos : q * 10 ^ (9 - i) + r1 ≠ 0 := by
        intro h
        apply hz
        have h4 : q * 10 ^ (9 - i) = 0 := by omega
        rcases Nat.mul_eq_zero.1 h4 with h5 | h5
        · exact ⟨h5, by omega⟩
        · have := Nat.pow_pos (n := 9 - i) (show 0 < 10 by omega); omega
      have hmod : (q * 10 ^ (9 - i) + r1) % 10 = r1 % 10 := by rw [hpow, ← Nat.mul_assoc, Nat.add_comm, Nat.add_mul_mod_self_right]
      have hdiv : (q * 10 ^ (9 - i) + r1) / 10 = q * 10 ^ (9 - (i + 1)) + r1 / 10 := by rw [hpow, ← Nat.mul_assoc, Nat.add_comm, Nat.add_mul_div_right _ _ (by omega)]; omega
      rw [digs_pos hpos, hmod, hdiv] at h3
      obtain ⟨d, hd, hdn⟩ := digit_byte r1
      rw [← hd] at h3
      have hlen : l1.length + 1 ≤ 100000000000 := by
        have := congrArg List.length h3
        simp at this; omega
      have e1 : ((r1 : Nat) : Int).tmod 10 = ((r1 % 10 : Nat) : Int) := tmod_nat (b := 10)
      have e2 : IntKind.u32.wrap (48 + ((r1 % 10 : Nat) : Int)) = (d.toNat : Int) := by rw [u32_id (by omega) (by omega)]; omega
      have e3 : IntKind.u8.wrap (d.toNat : Int) = (d.toNat : Int) := u8_id (by omega) (by have := d.toNat_lt; omega)
      have e4 : IntKind.u32.wrap (((r1 : Nat) : Int).tdiv 10) = ((r1 / 10 : Nat) : Int) := by
        have : ((r1 : Nat) : Int).tdiv 10 = ((r1 / 10 : Nat) : Int) := (Int.ofNat_tdiv r1 10).symm
        rw [this, u32_id (by omega) (by omega)]
      have e5 : IntKind.i64.wrap ((i : Int) + 1) = ((i + 1 : Nat) : Int) := by rw [i64_id (by omega) (by omega)]; omega
      have p10 : ¬ (10 : Int) = 0 := by omega
      have hsz : (l1.length + 1) * 1 ≤ 1099511627776 := by omega
      have hfit : 0 + l1.length * 1 ≤ (byc l1).length := by rw [byc_len]; omega
      have done : ∀ e : Nat → AV, e 0 = X → e 3 = .osl none 2 0 (l1.length + 1) → e 4 = .sl (u32c (limbs q)) → e 5 = .int .u32 ((r1 / 10 : Nat) : Int) → e 6 = .int .i64 ((i + 1 : Nat) : Int) →
          N ⟨e, [.dead, .cells [.int .u8 (d.toNat : Int)], .cells (byc l1 ++ [.int .u8 (d.toNat : Int)])]⟩ := fun e q0 q3 q4 q5 q6 => by
        refine hN (i + 1, r1 / 10, l1 ++ [d]) _ ⟨hi, ?_, by simpa using h3⟩ (by show 9 - (i + 1) < 9 - i; omega) ?_
        · simp only
          rw [Nat.div_lt_iff_lt_mul (by omega), ← hpow]; exact h2
        · refine Le_eq (Le_gc [2] (by simp) (fun i hi => by omega) [(0, X), (3, .osl none 2 0 (l1.length + 1)), (4, .sl (u32c (limbs q))), (5, .int .u32 ((r1 / 10 : Nat) : Int)), (6, .int .i64 ((i + 1 : Nat) : Int))] ⟨q0, q3, q4, q5, q6, trivial⟩) ?_
          have hg : gcL (pos [2]) (byc l1 ++ [.int .u8 (d.toNat : Int)]) = byc (l1 ++ [d]) := by
            rw [gcL_map, byc_append, List.map_append]
            congr 1
            unfold byc
            rw [List.map_map]
            rfl
          have hp2 : pos [2] 2 = some 0 := rfl
          simp only [List.map_cons, List.map_nil, List.getD_cons_succ, List.getD_cons_zero, Blk.gc, hg, AV.gc, hp2, List.length_append, List.length_singleton, hX]
      simp only [go_sem, cnum_text_r8, cnum_text_r9, cnum_text_r10, cnum_text_r11, pi, p10, e1, e2, e3, e4, e5, hsz, hfit]
      have hl1 : l1.length ≤ (byc l1).length := by rw [byc_len]; omega
      have htake : (byc l1).take l1.length = byc l1 := List.take_of_length_le (by rw [byc_len]; omega)
      rw [htake]
      refine ⟨fun h => ⟨by omega, hl1, done _ (by simp only [go_sem]) (by simp only [go_sem]) (by simp only [go_sem]) (by simp only [go_sem]) (by simp only [go_sem])⟩, fun h => ⟨fun h2 => ⟨by omega, hl1, done _ (by simp only [go_sem]) (by simp only [go_sem]) (by simp only [go_sem]) (by simp only [go_sem]) (by simp only [go_sem])⟩, fun h2 => ?_⟩⟩
      exfalso
      apply hz
      rw [u32c_len, limbs_len_pos] at h
      exact ⟨Classical.byContradiction h, by omega⟩
  · have hi9 : i = 9 := by omega
    subst hi9
    have pi : ¬ ((9 : Nat) : Int) < 9 := by omega
    simp only [go_sem, cnum_text_r8, pi]
    have hr0 : r1 = 0 := by simpa using h2
    subst hr0
    simp only [Nat.sub_self, Nat.pow_zero, Nat.mul_one, Nat.add_zero] at h3
    exact hK l1 _ h3 (by simp only [go_sem]) (by simp only [go_sem]) (by simp only [go_sem])
theorem text_loop {n : Nat} (hn : Tx n) {K : Ex → St → Prop}
    (hK : ∀ l e, l = digs n → e 3 = .osl none 0 0 l.length → K (.exit 0) ⟨e, [.cells (byc l)]⟩) :
    T Tryz.prog 45 0 (.loop cnum_text_L2) ⟨envL [(3, .osl none 0 0 0), (0, .sl (u32c (limbs n)))], [.cells []]⟩ K := by
  refine T_rounds (fun z : Nat × List UInt8 => ⟨envL [(3, .osl none 0 0 z.2.length), (0, .sl (u32c (limbs z.1)))], [.cells (byc z.2)]⟩)
    (fun z => Tx z.1 ∧ z.2 ++ digs z.1 = digs n) (fun z => z.1) (n, []) ⟨hn, rfl⟩ (Le_keep _ (by simp only [go_sem])) (fun z hI N hN => ?_)
  obtain ⟨m, l⟩ := z
  obtain ⟨h1, h2⟩ := hI
  simp only at h1 h2 ⊢
  unfold cnum_text_L2
  by_cases hm : m = 0
  · subst hm
    have p1 : ¬ (0 : Int) < ((0 : Nat) : Int) := by omega
    simp only [go_sem, cnum_text_r5, limbs_zero, u32c_nil, p1]
    rw [digs_zero, List.append_nil] at h2
    exact hK l _ h2 (by simp only [go_sem])
  · have p1 := (limbs_len_pos (n := m)).2 hm
    simp only [go_sem, cnum_text_r5, cnum_text_r6, cnum_text_r7, u32c_len, p1]
    refine call_P (byWord_spec (w := 1000000000) (limbs_ok m) (Nat.le_trans h1 (by omega)) (by omega) (by omega)) (by simp only [go_sem]) ?_
    rw [val_limbs]
    simp only [go_sem]
    have hdm : m / 1000000000 * 10 ^ 9 + m % 1000000000 = m := by rw [show (10 : Nat) ^ 9 = 1000000000 from rfl, Nat.mul_comm]; exact Nat.div_add_mod _ _
    refine T_keep [(0, .sl (u32c (limbs m))), (3, .osl none 0 0 l.length), (4, .sl (u32c (limbs (m / 1000000000)))), (5, .int .u32 ((m % 1000000000 : Nat) : Int)), (6, .int .i64 0)] (by simp only [go_sem])
      (text_inner (n := n) hn.len (Nat.mod_lt _ (by omega)) (by rw [hdm]; exact h2) rfl (fun l' e k1 k2 k3 k4 => ?_))
    simp only [go_sem, cnum_text_r12, k4]
    exact hN (m / 1000000000, l') _ ⟨h1.mono (Nat.div_le_self _ _), k1⟩ (Nat.div_lt_self (by omega) (by omega)) (Le_keep _ (by simp only [go_sem, k3]))
theorem text_spec {n : Nat} (hn : Tx n) : SpecV Tryz.prog n_num_text [.sl (u32c (limbs n))] (.str (decB n)) := by
  refine specV_T ok_num_text (by simp) (T_cut 2 rfl ?_)
  unfold cnum_text
  by_cases h0 : n = 0
  · subst h0
    have p1 : ((0 : Nat) : Int) = 0 := rfl
    simp only [go_sem, cnum_text_r1, cnum_text_r2, cnum_text_r3, limbs_zero, u32c_nil, p1]
    rfl
  · have p1 : ¬ ((limbs n).length : Int) = 0 := by have := (limbs_len_pos (n := n)).2 h0; omega
    simp only [go_sem, cnum_text_r1, cnum_text_r2, cnum_text_r4, u32c_len, p1]
    refine T_le (Le_row0 3 none (by simp only [go_sem]) [(0, .sl (u32c (limbs n)))] (by simp only [go_sem])) (T_W ?_)
    simp only [go_sem]
    refine text_loop hn (fun l e k1 k2 => ?_)
    have hlen : l.length ≤ 100000000000 := by rw [k1]; exact hn.len
    simp only [go_sem, cnum_text_r13, k2]
    refine call_R (reverse_spec (H := [.cells (byc l)]) rfl (byc_len l) (byc_plain l) (by omega)) ?_
    simp only [go_sem, cnum_text_r14, k2]
    have hl0 : l.length ≠ 0 := by
      rw [k1, digs_pos h0]; simp
    refine ⟨fun h => absurd h hl0, fun _ => ⟨by rw [List.length_reverse, byc_len]; omega, l.reverse, ?_, ?_⟩⟩
    · rw [List.take_of_length_le (by rw [List.length_reverse, byc_len]; omega), byc_reverse]; rfl
    · show _ = _
      rw [decB, decL, if_neg h0, k1]
end GoAbs
namespace GoAbs
open Go Go.Proofs
def bs (l : List UInt8) : ByteArray := ⟨l.toArray⟩
theorem bs_size (l : List UInt8) : (bs l).size = l.length := by simp [bs, ByteArray.size]
theorem bs_get (l : List UInt8) (i : Nat) : (bs l)[i]? = l[i]? := by
  by_cases h : i < l.length
  · rw [getElem?_pos (bs l) i (by rw [bs_size]; exact h), List.getElem?_eq_getElem h]
    rfl
  · rw [getElem?_neg (bs l) i (by rw [bs_size]; exact h), List.getElem?_eq_none (by omega)]
theorem bs_inj {l r : List UInt8} : bs l = bs r ↔ l = r := by
  constructor
  · intro h
    have := congrArg (fun b => b.data.toList) h
    simpa [bs] using this
  · intro h; rw [h]
theorem bs_extract (l : List UInt8) (a b : Nat) : (bs l).extract a b = bs ((l.take b).drop a) := by
  apply ByteArray.ext
  simp only [ByteArray.data_extract, bs]
  apply Array.ext'
  simp [List.drop_take]
theorem bs_append (l r : List UInt8) : bs l ++ bs r = bs (l ++ r) := by
  apply ByteArray.ext
  simp [bs]
theorem bs_of (s : ByteArray) : ∃ l, s = bs l := ⟨s.data.toList, by simp [bs]⟩
theorem decB_eq (n : Nat) : decB n = bs (decL n) := rfl
def isDig (c : UInt8) : Prop := 48 ≤ c.toNat ∧ c.toNat ≤ 57
instance (c : UInt8) : Decidable (isDig c) := by unfold isDig; infer_instance
def numL (l : List UInt8) : Nat := l.foldl (fun a c => 10 * a + (c.toNat - 48)) 0
theorem numL_foldl (l : List UInt8) : ∀ a : Nat, l.foldl (fun a c => 10 * a + (c.toNat - 48)) a = a * 10 ^ l.length + numL l := by
  unfold numL
  induction l with
  | nil => intro a; simp
  | cons c l ih =>
    intro a
    simp only [List.foldl_cons, List.length_cons]
    rw [ih (10 * a + (c.toNat - 48)), ih (10 * 0 + (c.toNat - 48)), Nat.pow_succ]
    generalize (10 : Nat) ^ l.length = p
    generalize c.toNat - 48 = d
    grind
theorem numL_append (l r : List UInt8) : numL (l ++ r) = numL l * 10 ^ r.length + numL r := by
  have : numL (l ++ r) = r.foldl (fun a c => 10 * a + (c.toNat - 48)) (numL l) := by simp [numL, List.foldl_append]
  rw [this, numL_foldl]
theorem numL_snoc (l : List UInt8) (c : UInt8) : numL (l ++ [c]) = 10 * numL l + (c.toNat - 48) := by
  rw [numL_append]; simp [numL]; omega
theorem numL_lt {l : List UInt8} (h : ∀ c, c ∈ l → isDig c) : numL l < 10 ^ l.length := by
  have main : ∀ l : List UInt8, (∀ c, c ∈ l.reverse → isDig c) → numL l.reverse < 10 ^ l.length := by
    intro l
    induction l with
    | nil => intro _; simp [numL]
    | cons c l ih =>
      intro h
      rw [List.reverse_cons] at h ⊢
      have h1 := ih (fun d hd => h d (by simp at hd ⊢; exact .inl hd))
      have h2 := h c (by simp)
      rw [numL_snoc, List.length_cons, Nat.pow_succ]
      unfold isDig at h2
      omega
  have := main l.reverse (by simpa using h)
  simpa using this
def digOk (l : List UInt8) : Prop := (∀ c, c ∈ l → isDig c) ∧ l ≠ [] ∧ ¬ (l.head? = some 48 ∧ 1 < l.length) ∧ l.length ≤ 4000
instance (l : List UInt8) : Decidable (digOk l) := by unfold digOk; infer_instance
theorem lenN_dec {n k : Nat} (h : n < 10 ^ k) : lenN n ≤ k := lenN_le (Nat.lt_of_lt_of_le h (Nat.pow_le_pow_left (by decide) _))
theorem read_group {l : List UInt8} {k : Nat} (hd : ∀ c, c ∈ l → isDig c) (hk : k ≤ 9) (hkl : k ≤ l.length) {X : AV} {K : Ex → St → Prop}
    (hK : ∀ e, e 0 = .str (bs l) → e 5 = X → e 6 = .int .i64 (k : Int) → e 7 = .int .u32 ((numL (l.take k) : Nat) : Int) → e 8 = .int .u32 ((10 ^ k : Nat) : Int) → K (.exit 4) ⟨e, []⟩) :
    T Tryz.prog 77 0 (.loop cnum_read_L2) ⟨envL [(0, .str (bs l)), (5, X), (6, .int .i64 (k : Int)), (7, .int .u32 0), (8, .int .u32 1), (50, .int .i64 (k : Int)), (51, .int .i64 0)], []⟩ K := by
  refine T_rounds (fun i : Nat => ⟨envL [(0, .str (bs l)), (5, X), (6, .int .i64 (k : Int)), (7, .int .u32 ((numL (l.take i) : Nat) : Int)), (8, .int .u32 ((10 ^ i : Nat) : Int)), (50, .int .i64 (k : Int)), (51, .int .i64 (i : Int))], []⟩)
    (fun i => i ≤ k) (fun i => k - i) 0 (by simp) (Le_keep _ (by simp only [go_sem]; simp [numL])) (fun i hi N hN => ?_)
  unfold cnum_read_L2
  by_cases hik : i < k
  · have gi := List.getElem?_eq_getElem (show i < l.length by omega)
    generalize l[i]'(by omega) = c at gi
    have hc := hd c (List.mem_of_getElem? gi)
    obtain ⟨hc1, hc2⟩ := hc
    have hlt : numL (l.take i) < 10 ^ i := by
      have := numL_lt (l := l.take i) (fun c hc => hd c (List.mem_of_mem_take hc))
      rwa [List.length_take, Nat.min_eq_left (by omega)] at this
    have hpow : (10 : Nat) ^ i ≤ 10 ^ 8 := Nat.pow_le_pow_right (by omega) (by omega)
    have htake : l.take (i + 1) = l.take i ++ [c] := by rw [List.take_add_one, gi]; rfl
    have p1 : (i : Int) < (k : Int) := by omega
    have p2 : (0 : Int) ≤ (i : Int) := by omega
    have e1 : IntKind.u8.wrap ((c.toNat : Int) - 48) = ((c.toNat - 48 : Nat) : Int) := by rw [u8_id (by omega) (by omega)]; omega
    have e2 : IntKind.u32.wrap ((c.toNat - 48 : Nat) : Int) = ((c.toNat - 48 : Nat) : Int) := u32_id (by omega) (by omega)
    have e3 : IntKind.u32.wrap (10 * ((numL (l.take i) : Nat) : Int)) = ((10 * numL (l.take i) : Nat) : Int) := by rw [u32_id (by omega) (by omega)]; omega
    have e4 : IntKind.u32.wrap (((10 * numL (l.take i) : Nat) : Int) + ((c.toNat - 48 : Nat) : Int)) = ((numL (l.take (i + 1)) : Nat) : Int) := by
      rw [htake, numL_snoc, u32_id (by omega) (by omega)]; omega
    have e5 : IntKind.u32.wrap (10 * ((10 ^ i : Nat) : Int)) = ((10 ^ (i + 1) : Nat) : Int) := by
      rw [Nat.pow_succ, u32_id (by omega) (by omega)]; omega
    have e6 : IntKind.i64.wrap ((i : Int) + 1) = ((i + 1 : Nat) : Int) := by rw [i64_id (by omega) (by omega)]; omega
    simp only [go_sem, cnum_read_r15, cnum_read_r16, cnum_read_r17, cnum_read_r18, p1, p2, bs_get, gi, e1, e2, e3, e4, e5, e6]
    exact hN (i + 1) _ (by omega) (by omega) (Le_keep _ (by simp only [go_sem]))
  · have hi' : i = k := by omega
    subst hi'
    have p1 : ¬ (i : Int) < (i : Int) := by omega
    simp only [go_sem, cnum_read_r15, p1]
    exact hK _ (by simp only [go_sem]) (by simp only [go_sem]) (by simp only [go_sem]) (by simp only [go_sem]) (by simp only [go_sem])
theorem read_loop {l : List UInt8} (hd : ∀ c, c ∈ l → isDig c) (hl : l.length ≤ 4000) {K : Ex → St → Prop}
    (hK : ∀ e, e 5 = .sl (u32c (limbs (numL l))) → K (.exit 2) ⟨e, []⟩) :
    T Tryz.prog 77 0 (.loop cnum_read_L3) ⟨envL [(0, .str (bs l)), (5, .sl [])], []⟩ K := by
  refine T_rounds (fun z : Nat × List UInt8 => ⟨envL [(0, .str (bs z.2)), (5, .sl (u32c (limbs z.1)))], []⟩)
    (fun z => (∀ c, c ∈ z.2 → isDig c) ∧ z.2.length ≤ 4000 ∧ z.1 * 10 ^ z.2.length + numL z.2 = numL l) (fun z => z.2.length) (0, l) ⟨hd, hl, by simp⟩ (Le_keep _ (by simp only [go_sem, limbs_zero, u32c_nil])) (fun z hI N hN => ?_)
  obtain ⟨X, r⟩ := z
  obtain ⟨h1, h2, h3⟩ := hI
  simp only at h1 h2 h3 ⊢
  unfold cnum_read_L3
  by_cases hr : r = []
  · subst hr
    have p1 : ¬ (bs [] ≠ (⟨#[]⟩ : ByteArray)) := fun h => h rfl
    simp only [go_sem, cnum_read_r11, p1]
    simp only [List.length_nil, Nat.pow_zero, Nat.mul_one] at h3
    have : X = numL l := by simpa [numL] using h3
    refine hK _ ?_
    rw [← this]; simp only [go_sem]
  · have p1 : bs r ≠ (⟨#[]⟩ : ByteArray) := fun h => hr (bs_inj.1 h)
    have hlen : 0 < r.length := List.length_pos_iff.2 hr
    obtain ⟨k, hk⟩ : ∃ k, k = (r.length - 1) % 9 + 1 := ⟨_, rfl⟩
    have hk9 : k ≤ 9 := by omega
    have hkl : k ≤ r.length := by omega
    have e1 : IntKind.i64.wrap ((r.length : Int) - 1) = ((r.length - 1 : Nat) : Int) := by rw [i64_id (by omega) (by omega)]; omega
    have e2 : ((r.length - 1 : Nat) : Int).tmod 9 = (((r.length - 1) % 9 : Nat) : Int) := tmod_nat (b := 9)
    have e3 : IntKind.i64.wrap ((((r.length - 1) % 9 : Nat) : Int) + 1) = (k : Int) := by rw [i64_id (by omega) (by omega)]; omega
    have p9 : ¬ (9 : Int) = 0 := by omega
    simp only [go_sem, cnum_read_r11, cnum_read_r12, cnum_read_r13, cnum_read_r14, p1, p9, bs_size, e1, e2, e3]
    refine T_keep [(0, .str (bs r)), (5, .sl (u32c (limbs X))), (6, .int .i64 (k : Int)), (7, .int .u32 0), (8, .int .u32 1), (50, .int .i64 (k : Int)), (51, .int .i64 0)] (by simp only [go_sem])
      (read_group h1 hk9 hkl (fun e k0 k5 k6 k7 k8 => ?_))
    have hXk : X * 10 ^ k + numL (r.take k) ≤ numL l := by
      have h4 : numL r = numL (r.take k) * 10 ^ (r.drop k).length + numL (r.drop k) := by rw [← numL_append, List.take_append_drop]
      have h5 : r.length = k + (r.drop k).length := by rw [List.length_drop]; omega
      rw [h4, h5, Nat.pow_add, ← Nat.mul_assoc] at h3
      have h6 : 1 ≤ 10 ^ (r.drop k).length := Nat.pow_pos (by omega)
      have h7 : (X * 10 ^ k + numL (r.take k)) * 1 ≤ (X * 10 ^ k + numL (r.take k)) * 10 ^ (r.drop k).length := Nat.mul_le_mul_left _ h6
      rw [Nat.add_mul _ _ (10 ^ (r.drop k).length)] at h7
      omega
    have hlim : numL l < 10 ^ l.length := numL_lt hd
    have hsz : ∀ m, m ≤ numL l → lenN m ≤ 4000 := fun m hm => Nat.le_trans (lenN_dec (Nat.lt_of_le_of_lt hm hlim)) hl
    have hX : lenN X ≤ 4000 := by
      refine hsz X (Nat.le_trans ?_ hXk)
      have : X * 1 ≤ X * 10 ^ k := Nat.mul_le_mul_left _ (Nat.pow_pos (by omega))
      omega
    have hp9 : (10 : Nat) ^ k ≤ 10 ^ 9 := Nat.pow_le_pow_right (by omega) hk9
    have hv9 : numL (r.take k) < 10 ^ k := by
      have := numL_lt (l := r.take k) (fun c hc => h1 c (List.mem_of_mem_take hc))
      rwa [List.length_take, Nat.min_eq_left hkl] at this
    have okS : Ok32 [10 ^ k] := fun x hx => by simp at hx; omega
    have okV : Ok32 [numL (r.take k)] := fun x hx => by simp at hx; omega
    simp only [go_sem, cnum_read_r19, k0, k5, k6, k7, k8]
    have hs := times_spec (limbs_ok X) okS (Nat.le_trans hX (by omega)) (by simp)
    rw [val_limbs] at hs
    simp only [val, Nat.mul_zero, Nat.add_zero] at hs
    refine call_F (ids := [0]) hs ?_ ?_
    · simp only [go_sem]
      exact bv_u32c (r := [10 ^ k]) rfl (by simp) rfl rfl
    simp only [go_sem, k0, k5, k6, k7, k8]
    refine call_F (ids := [1]) (trim_spec [numL (r.take k)] (by simp)) ?_ ?_
    · simp only [go_sem]
      exact bv_u32c (r := [numL (r.take k)]) rfl (by simp) rfl rfl
    have htv : trimL [numL (r.take k)] = limbs (numL (r.take k)) := by rw [← limbs_val okV]; simp [val]
    rw [htv]
    simp only [go_sem, k0, k6]
    refine call_P (plus_nat (m := X * 10 ^ k) (n := numL (r.take k)) (Nat.le_trans (hsz _ (by omega)) (by omega)) (Nat.le_trans (hsz _ (by omega)) (by omega))) (by simp only [go_sem]) ?_
    have p0 : (0 : Int) ≤ (k : Int) := by omega
    simp only [go_sem, cnum_read_r20, k0, k6, p0, bs_size, hkl, Nat.le_refl, bs_extract, List.take_length]
    have h5 : r.length = k + (r.drop k).length := by rw [List.length_drop]; omega
    have h4 : numL r = numL (r.take k) * 10 ^ (r.drop k).length + numL (r.drop k) := by rw [← numL_append, List.take_append_drop]
    refine hN (X * 10 ^ k + numL (r.take k), r.drop k) _ ⟨fun c hc => h1 c (List.mem_of_mem_drop hc), by simp; omega, ?_⟩ (by show (r.drop k).length < r.length; omega) ?_
    · simp only
      rw [← h3, h4]
      conv => rhs; rw [h5, Nat.pow_add]
      rw [Nat.add_mul, Nat.mul_assoc]; omega
    · refine Le_eq (Le_gc [] (by simp) (fun i hi => by omega) [(0, .str (bs (r.drop k))), (5, .sl (u32c (limbs (X * 10 ^ k + numL (r.take k)))))] ?_) ?_
      · simp only [go_sem]
      · rfl
theorem read_digits {l : List UInt8} (hl : l.length ≤ 1000000000) {K : Ex → St → Prop}
    (hgood : (∀ c, c ∈ l → isDig c) → ∀ e, e 0 = .str (bs l) → K (.exit 0) ⟨e, []⟩)
    (hbad : (¬ ∀ c, c ∈ l → isDig c) → ∀ e, e 2 = .nils → e 3 = .bool false → K .ret ⟨e, []⟩) :
    T Tryz.prog 77 0 (.loop cnum_read_L1) ⟨envL [(0, .str (bs l)), (11, .int .i64 (l.length : Int)), (12, .int .i64 0)], []⟩ K := by
  refine T_rounds (fun i : Nat => ⟨envL [(0, .str (bs l)), (11, .int .i64 (l.length : Int)), (12, .int .i64 (i : Int))], []⟩)
    (fun i => i ≤ l.length ∧ ∀ c, c ∈ l.take i → isDig c) (fun i => l.length - i) 0 ⟨by simp, by simp⟩ (Le_keep _ (by simp only [go_sem]; simp)) (fun i hI N hN => ?_)
  obtain ⟨hi, hd⟩ := hI
  unfold cnum_read_L1
  by_cases hil : i < l.length
  · have gi := List.getElem?_eq_getElem hil
    generalize l[i]'hil = c at gi
    have p1 : (i : Int) < (l.length : Int) := by omega
    have p2 : (0 : Int) ≤ (i : Int) := by omega
    have e6 : IntKind.i64.wrap ((i : Int) + 1) = ((i + 1 : Nat) : Int) := by rw [i64_id (by omega) (by omega)]; omega
    by_cases hc : isDig c
    · have hc' := hc
      obtain ⟨hc1, hc2⟩ := hc'
      have q1 : ¬ (c.toNat : Int) < 48 := by omega
      have q2 : ¬ (57 : Int) < (c.toNat : Int) := by omega
      simp only [go_sem, cnum_read_r3, cnum_read_r4, cnum_read_r5, cnum_read_r7, p1, p2, bs_get, gi, q1, q2, e6]
      refine hN (i + 1) _ ⟨by omega, fun d hdm => ?_⟩ (by omega) (Le_keep _ (by simp only [go_sem]))
      rw [List.take_add_one, gi] at hdm
      rcases List.mem_append.1 hdm with h | h
      · exact hd d h
      · simp at h; rw [h]; exact hc
    · have hnb : ¬ ∀ c, c ∈ l → isDig c := fun h => hc (h c (List.mem_of_getElem? gi))
      by_cases q1 : (c.toNat : Int) < 48
      · simp only [go_sem, cnum_read_r3, cnum_read_r4, cnum_read_r5, cnum_read_r6, p1, p2, bs_get, gi, q1]
        exact hbad hnb _ (by simp only [go_sem]) (by simp only [go_sem])
      · have q2 : (57 : Int) < (c.toNat : Int) := by unfold isDig at hc; omega
        simp only [go_sem, cnum_read_r3, cnum_read_r4, cnum_read_r5, cnum_read_r6, p1, p2, bs_get, gi, q1, q2]
        exact hbad hnb _ (by simp only [go_sem]) (by simp only [go_sem])
  · have p1 : ¬ (i : Int) < (l.length : Int) := by omega
    simp only [go_sem, cnum_read_r3, p1]
    rw [List.take_of_length_le (by omega)] at hd
    exact hgood hd _ (by simp only [go_sem])
theorem read_spec {l : List UInt8} (hl : l.length ≤ 1000000000) :
    SpecV Tryz.prog n_num_read [.str (bs l)] (if digOk l then .tup [.sl (u32c (limbs (numL l))), .bool true] else .tup [.nils, .bool false]) := by
  refine specV_T ok_num_read (by simp) (T_cut 2 rfl ?_)
  unfold cnum_read
  have fin : digOk l → ∀ e : Nat → AV, e 0 = .str (bs l) → T Tryz.prog 77 0 (.seq (.rg false cnum_read_r10) (.seq (.block 2 (.loop cnum_read_L3)) (.seq (.rg false cnum_read_r21) .ret))) ⟨e, []⟩
      (retQ [.tmp 2, .tmp 3] (if digOk l then .tup [.sl (u32c (limbs (numL l))), .bool true] else .tup [.nils, .bool false])) := fun hok e e0 => T_W (by
    rw [if_pos hok]
    simp only [go_sem, cnum_read_r10, e0]
    refine T_freeze [] [(0, .str (bs l)), (5, .sl [])] ⟨.inr (by simp only [go_sem, e0]), .inl (by simp only [go_sem]), trivial⟩ (read_loop hok.1 hok.2.2.2 (fun e e5 => ?_))
    simp only [go_sem, cnum_read_r21, e5])
  simp only [go_sem, cnum_read_r1, cnum_read_r2, bs_size]
  refine T_keep [(0, .str (bs l)), (11, .int .i64 (l.length : Int)), (12, .int .i64 0)] (by simp only [go_sem]) (read_digits hl (fun hd e e0 => ?_) (fun hnd e e2 e3 => ?_))
  · by_cases h1 : l = []
    · subst h1
      have hno : ¬ digOk [] := fun h => h.2.1 rfl
      have p1 : bs [] = (⟨#[]⟩ : ByteArray) := rfl
      rw [if_neg hno]
      simp only [go_sem, cnum_read_r8, cnum_read_r9, e0, p1]
    · have p1 : ¬ bs l = (⟨#[]⟩ : ByteArray) := fun h => h1 (bs_inj.1 h)
      obtain ⟨c, g0, hh⟩ : ∃ c, l[0]? = some c ∧ l.head? = some c := by cases l with
        | nil => exact absurd rfl h1
        | cons c r => exact ⟨c, rfl, rfl⟩
      by_cases h4 : 4000 < l.length
      · have hno : ¬ digOk l := fun h => by have := h.2.2.2; omega
        have q4 : (4000 : Int) < (l.length : Int) := by omega
        have q3 : (1 : Int) < (l.length : Int) := by omega
        rw [if_neg hno]
        simp only [go_sem, cnum_read_r8, cnum_read_r9, e0, p1, bs_get, g0, bs_size, q3, q4]
      · have q4 : ¬ (4000 : Int) < (l.length : Int) := by omega
        by_cases hc : (c.toNat : Int) = 48
        · by_cases h3 : 1 < l.length
          · have hc48 : c = 48 := by apply UInt8.toNat_inj.1; show c.toNat = 48; omega
            have hno : ¬ digOk l := fun h => h.2.2.1 ⟨by rw [hh, hc48], h3⟩
            have q3 : (1 : Int) < (l.length : Int) := by omega
            rw [if_neg hno]
            simp only [go_sem, cnum_read_r8, cnum_read_r9, e0, p1, bs_get, g0, bs_size, hc, q3]
          · have hok : digOk l := ⟨hd, h1, fun h => h3 h.2, by omega⟩
            have q3 : ¬ (1 : Int) < (l.length : Int) := by omega
            simp only [go_sem, cnum_read_r8, cnum_read_r9, e0, p1, bs_get, g0, bs_size, hc, q3, q4]
            exact fin hok _ (by simp only [go_sem, e0])
        · have hok : digOk l := ⟨hd, h1, fun h => hc (by
            have := h.1.symm.trans hh
            simp at this
            rw [← this]; rfl), by omega⟩
          simp only [go_sem, cnum_read_r8, cnum_read_r9, e0, p1, bs_get, g0, bs_size, hc, q4]
          exact fin hok _ (by simp only [go_sem, e0])
  · have hno : ¬ digOk l := fun h => hnd h.1
    rw [if_neg hno]
    simp only [go_sem, e2, e3]
end GoAbs
namespace GoAbs
open Go Go.Proofs
def cstrings_Cut_r1 : List IOp := [oI 4 (.mv (.c (.str ⟨#[]⟩))) 0, oI 5 (.mv (.c (.str ⟨#[]⟩))) 0, oI 6 (.mv (.c (.bool false))) 0]
def cstrings_Cut_r2 : List IOp := [oI 7 (.mv (.t 0)) 0, oI 8 (.mv (.t 1)) 0, oI 9 (.call 165 [.t 7, .t 8]) 0, oI 10 (.ext 0 (.t 9)) 0, oI 11 (.ext 1 (.t 9)) 0, oI 12 (.ext 2 (.t 9)) 0, oI 4 (.mv (.t 10)) 0, oI 5 (.mv (.t 11)) 0, oI 6 (.mv (.t 12)) 0]
def cstrings_Cut : CC := .seq (.rg false cstrings_Cut_r1) (.seq (.rg false cstrings_Cut_r2) .ret)
abbrev n_strings_Cut : Nat := 137
theorem ok_strings_Cut : fnOk Tryz.prog 137 = some (13, cstrings_Cut, [.tmp 4, .tmp 5, .tmp 6]) := by kernel_rfl
def cstrings_CutPrefix_r1 : List IOp := [oI 4 (.mv (.c (.str ⟨#[]⟩))) 0, oI 5 (.mv (.c (.bool false))) 0]
def cstrings_CutPrefix_r2 : List IOp := [oI 6 (.mv (.t 0)) 0, oI 7 (.mv (.t 1)) 0, oI 8 (.call 166 [.t 6, .t 7]) 0, oI 9 (.ext 0 (.t 8)) 0, oI 10 (.ext 1 (.t 8)) 0, oI 4 (.mv (.t 9)) 0, oI 5 (.mv (.t 10)) 0]
def cstrings_CutPrefix : CC := .seq (.rg false cstrings_CutPrefix_r1) (.seq (.rg false cstrings_CutPrefix_r2) .ret)
abbrev n_strings_CutPrefix : Nat := 138
theorem ok_strings_CutPrefix : fnOk Tryz.prog 138 = some (11, cstrings_CutPrefix, [.tmp 4, .tmp 5]) := by kernel_rfl
def cstringslite_Cut_r1 : List IOp := [oI 4 (.mv (.c (.str ⟨#[]⟩))) 0, oI 5 (.mv (.c (.str ⟨#[]⟩))) 0, oI 6 (.mv (.c (.bool false))) 0]
def cstringslite_Cut_r2 : List IOp := [oI 8 (.mv (.t 0)) 0, oI 9 (.mv (.t 1)) 0, oI 10 (.call 176 [.t 8, .t 9]) 0, oI 7 (.mv (.t 10)) 0]
def cstringslite_Cut_r3 : List IOp := [oI 11 (.mv (.t 7)) 0, oI 12 (.bin .geq (.t 11) (cI 0)) 0]
def cstringslite_Cut_r4 : List IOp := [oI 13 (.mv (.t 0)) 0, oI 14 (.mv (.t 7)) 0, oI 15 (.sslc (.t 13) none (some (.t 14))) 0, oI 16 (.mv (.t 0)) 0, oI 17 (.mv (.t 7)) 0, oI 18 (.mv (.t 1)) 0, oI 19 (.slen (.t 18)) 0, oI 20 (.bin .add (.t 17) (.t 19)) 0, oI 21 (.sslc (.t 16) (some (.t 20)) none) 0, oI 4 (.mv (.t 15)) 0, oI 5 (.mv (.t 21)) 0, oI 6 (.mv (.c (.bool true))) 0]
@[go_sem ↓] theorem cstringslite_Cut_r4_k : autoK cstringslite_Cut_r4 = (0, 0) := by kernel_rfl
@[go_sem] theorem cstringslite_Cut_r4_k1 : autoK [oI 13 (.mv (.t 0)) 0, oI 14 (.mv (.t 7)) 0, oI 15 (.sslc (.t 13) none (some (.t 14))) 0, oI 16 (.mv (.t 0)) 0, oI 17 (.mv (.t 7)) 0, oI 18 (.mv (.t 1)) 0, oI 19 (.slen (.t 18)) 0, oI 20 (.bin .add (.t 17) (.t 19)) 0, oI 21 (.sslc (.t 16) (some (.t 20)) none) 0, oI 4 (.mv (.t 15)) 0, oI 5 (.mv (.t 21)) 0, oI 6 (.mv (.c (.bool true))) 0] = (0, 0) := cstringslite_Cut_r4_k
def cstringslite_Cut_r5 : List IOp := [oI 22 (.mv (.t 0)) 0, oI 4 (.mv (.t 22)) 0, oI 5 (.mv (.c (.str ⟨#[]⟩))) 0, oI 6 (.mv (.c (.bool false))) 0]
def cstringslite_Cut : CC := .seq (.rg false cstringslite_Cut_r1) (.seq (.seq (.rg false cstringslite_Cut_r2) (.seq (.rg false cstringslite_Cut_r3) (.cond (.t 12) (.seq (.rg true cstringslite_Cut_r4) .ret) .skip))) (.seq (.rg false cstringslite_Cut_r5) .ret))
abbrev n_stringslite_Cut : Nat := 165
theorem ok_stringslite_Cut : fnOk Tryz.prog 165 = some (23, cstringslite_Cut, [.tmp 4, .tmp 5, .tmp 6]) := by kernel_rfl
def cstringslite_CutPrefix_r1 : List IOp := [oI 4 (.mv (.c (.str ⟨#[]⟩))) 0, oI 5 (.mv (.c (.bool false))) 0]
def cstringslite_CutPrefix_r2 : List IOp := [oI 6 (.mv (.t 0)) 0, oI 7 (.mv (.t 1)) 0, oI 8 (.call 177 [.t 6, .t 7]) 0, oI 9 (.un .not (.t 8)) 0]
def cstringslite_CutPrefix_r3 : List IOp := [oI 10 (.mv (.t 0)) 0, oI 4 (.mv (.t 10)) 0, oI 5 (.mv (.c (.bool false))) 0]
def cstringslite_CutPrefix_r4 : List IOp := [oI 11 (.mv (.t 0)) 0, oI 12 (.mv (.t 1)) 0, oI 13 (.slen (.t 12)) 0, oI 14 (.sslc (.t 11) (some (.t 13)) none) 0, oI 4 (.mv (.t 14)) 0, oI 5 (.mv (.c (.bool true))) 0]
def cstringslite_CutPrefix : CC := .seq (.rg false cstringslite_CutPrefix_r1) (.seq (.seq (.rg false cstringslite_CutPrefix_r2) (.cond (.t 9) (.seq (.rg false cstringslite_CutPrefix_r3) .ret) .skip)) (.seq (.rg false cstringslite_CutPrefix_r4) .ret))
abbrev n_stringslite_CutPrefix : Nat := 166
theorem ok_stringslite_CutPrefix : fnOk Tryz.prog 166 = some (15, cstringslite_CutPrefix, [.tmp 4, .tmp 5]) := by kernel_rfl
def cstringslite_Index_r1 : List IOp := [oI 4 (.mv (cI 0)) 0]
def cstringslite_Index_r2 : List IOp := [oI 14 (.mv (.t 1)) 0, oI 15 (.slen (.t 14)) 0, oI 5 (.mv (.t 15)) 0]
def cstringslite_Index_r3 : List IOp := [oI 17 (.mv (.t 5)) 0, oI 18 (.bin .eql (.t 17) (cI 0)) 0, oI 19 (.mv (.t 18)) 0, ⟨some 20, .mv (.t 1), 0, [], [], some (19, false)⟩, ⟨some 21, .mv (.t 0), 0, [], [], some (19, false)⟩, ⟨some 22, .bin .eql (.t 20) (.t 21), 0, [], [], some (19, false)⟩, oI 23 (.pick (.t 19) (.c (.bool true)) (.t 22)) 0, oI 16 (.mv (.t 23)) 0]
def cstringslite_Index_r4 : List IOp := [oI 4 (.mv (cI 0)) 0]
def cstringslite_Index_r5 : List IOp := [oI 25 (.mv (.t 5)) 0, oI 26 (.bin .eql (.t 25) (cI 1)) 0, oI 24 (.mv (.t 26)) 0]
def cstringslite_Index_r6 : List IOp := [oI 27 (.mv (.t 0)) 0, oI 28 (.mv (.t 1)) 0, oI 29 (.sidx (.t 28) (cI 0)) 0, oI 30 (.call 183 [.t 27, .t 29]) 0, oI 4 (.mv (.t 30)) 0]
def cstringslite_Index_r7 : List IOp := [oI 32 (.mv (.t 5)) 0, oI 33 (.mv (.t 0)) 0, oI 34 (.slen (.t 33)) 0, oI 35 (.bin .geq (.t 32) (.t 34)) 0, oI 31 (.mv (.t 35)) 0]
def cstringslite_Index_r8 : List IOp := [oI 4 (.mv (cI (-1))) 0]
def cstringslite_Index_r9 : List IOp := [oI 37 (.mv (.t 5)) 0, oI 38 .bad 0, oI 39 (.bin .leq (.t 37) (.t 38)) 0, oI 40 (.mv (.t 39)) 0, ⟨some 41, .mv (.t 0), 0, [], [], some (40, true)⟩, ⟨some 42, .slen (.t 41), 0, [], [], some (40, true)⟩, ⟨some 43, .bin .leq (.t 42) (cI 64), 0, [], [], some (40, true)⟩, oI 44 (.pick (.t 40) (.t 43) (.c (.bool false))) 0, oI 36 (.mv (.t 44)) 0]
def cstringslite_Index_r10 : List IOp := [oI 45 (.mv (.t 0)) 0, oI 46 (.mv (.t 1)) 0, oI 47 (.xt 184 [.t 45, .t 46]) 0, oI 4 (.mv (.t 47)) 0]
def cstringslite_Index_r11 : List IOp := [oI 48 (.mv (.t 1)) 0, oI 49 (.sidx (.t 48) (cI 0)) 0, oI 6 (.mv (.t 49)) 0]
def cstringslite_Index_r12 : List IOp := [oI 50 (.mv (.t 1)) 0, oI 51 (.sidx (.t 50) (cI 1)) 0, oI 7 (.mv (.t 51)) 0]
def cstringslite_Index_r13 : List IOp := [oI 8 (.mv (cI 0)) 0]
def cstringslite_Index_r14 : List IOp := [oI 52 (.mv (.t 0)) 0, oI 53 (.slen (.t 52)) 0, oI 54 (.mv (.t 5)) 0, oI 55 (.bin .sub (.t 53) (.t 54)) 0, oI 56 (.bin .add (.t 55) (cI 1)) 0, oI 9 (.mv (.t 56)) 0]
def cstringslite_Index_r15 : List IOp := [oI 10 (.mv (cI 0)) 0]
def cstringslite_Index_r16 : List IOp := [oI 57 (.mv (.t 8)) 0, oI 58 (.mv (.t 9)) 0, oI 59 (.bin .lss (.t 57) (.t 58)) 0]
def cstringslite_Index_r17 : List IOp := [oI 60 (.mv (.t 0)) 0, oI 61 (.mv (.t 8)) 0, oI 62 (.sidx (.t 60) (.t 61)) 0, oI 63 (.mv (.t 6)) 0, oI 64 (.bin .neq (.t 62) (.t 63)) 0]
def cstringslite_Index_r18 : List IOp := [oI 65 (.mv (.t 0)) 0, oI 66 (.mv (.t 8)) 0, oI 67 (.bin .add (.t 66) (cI 1)) 0, oI 68 (.mv (.t 9)) 0, oI 69 (.sslc (.t 65) (some (.t 67)) (some (.t 68))) 0, oI 70 (.mv (.t 6)) 0, oI 71 (.call 183 [.t 69, .t 70]) 0, oI 11 (.mv (.t 71)) 0]
def cstringslite_Index_r19 : List IOp := [oI 72 (.mv (.t 11)) 0, oI 73 (.bin .lss (.t 72) (cI 0)) 0]
def cstringslite_Index_r20 : List IOp := [oI 4 (.mv (cI (-1))) 0]
def cstringslite_Index_r21 : List IOp := [oI 74 (.mv (.t 8)) 0, oI 75 (.mv (.t 11)) 0, oI 76 (.bin .add (.t 75) (cI 1)) 0, oI 77 (.bin .add (.t 74) (.t 76)) 0, oI 8 (.mv (.t 77)) 0]
def cstringslite_Index_r22 : List IOp := [oI 78 (.mv (.t 0)) 0, oI 79 (.mv (.t 8)) 0, oI 80 (.bin .add (.t 79) (cI 1)) 0, oI 81 (.sidx (.t 78) (.t 80)) 0, oI 82 (.mv (.t 7)) 0, oI 83 (.bin .eql (.t 81) (.t 82)) 0, oI 84 (.mv (.t 83)) 0, ⟨some 85, .mv (.t 0), 0, [], [], some (84, true)⟩, ⟨some 86, .mv (.t 8), 0, [], [], some (84, true)⟩, ⟨some 87, .mv (.t 8), 0, [], [], some (84, true)⟩, ⟨some 88, .mv (.t 5), 0, [], [], some (84, true)⟩, ⟨some 89, .bin .add (.t 87) (.t 88), 0, [], [], some (84, true)⟩, ⟨some 90, .sslc (.t 85) (some (.t 86)) (some (.t 89)), 0, [], [], some (84, true)⟩, ⟨some 91, .mv (.t 1), 0, [], [], some (84, true)⟩, ⟨some 92, .bin .eql (.t 90) (.t 91), 0, [], [], some (84, true)⟩, oI 93 (.pick (.t 84) (.t 92) (.c (.bool false))) 0]
def cstringslite_Index_r23 : List IOp := [oI 94 (.mv (.t 8)) 0, oI 4 (.mv (.t 94)) 0]
def cstringslite_Index_r24 : List IOp := [oI 95 (.mv (.t 8)) 0, oI 96 (.bin .add (.t 95) (cI 1)) 0, oI 8 (.mv (.t 96)) 0]
def cstringslite_Index_r25 : List IOp := [oI 97 (.mv (.t 10)) 0, oI 98 (.bin .add (.t 97) (cI 1)) 0, oI 10 (.mv (.t 98)) 0]
def cstringslite_Index_r26 : List IOp := [oI 99 (.mv (.t 5)) 0, oI 100 .bad 0, oI 101 (.bin .leq (.t 99) (.t 100)) 0, oI 102 (.mv (.t 101)) 0, ⟨some 103, .mv (.t 10), 0, [], [], some (102, true)⟩, ⟨some 104, .mv (.t 8), 0, [], [], some (102, true)⟩, ⟨some 105, .call 185 [.t 104], 0, [], [], some (102, true)⟩, ⟨some 106, .bin .gtr (.t 103) (.t 105), 0, [], [], some (102, true)⟩, oI 107 (.pick (.t 102) (.t 106) (.c (.bool false))) 0]
def cstringslite_Index_r27 : List IOp := [oI 108 (.mv (.t 0)) 0, oI 109 (.mv (.t 8)) 0, oI 110 (.sslc (.t 108) (some (.t 109)) none) 0, oI 111 (.mv (.t 1)) 0, oI 112 (.xt 184 [.t 110, .t 111]) 0, oI 12 (.mv (.t 112)) 0]
def cstringslite_Index_r28 : List IOp := [oI 113 (.mv (.t 12)) 0, oI 114 (.bin .geq (.t 113) (cI 0)) 0]
def cstringslite_Index_r29 : List IOp := [oI 115 (.mv (.t 12)) 0, oI 116 (.mv (.t 8)) 0, oI 117 (.bin .add (.t 115) (.t 116)) 0, oI 4 (.mv (.t 117)) 0]
def cstringslite_Index_r30 : List IOp := [oI 4 (.mv (cI (-1))) 0]
def cstringslite_Index_r31 : List IOp := [oI 118 (.mv (.t 5)) 0, oI 119 .bad 0, oI 120 (.bin .gtr (.t 118) (.t 119)) 0, oI 121 (.mv (.t 120)) 0, ⟨some 122, .mv (.t 10), 0, [], [], some (121, true)⟩, ⟨some 123, .mv (.t 8), 0, [], [], some (121, true)⟩, ⟨some 124, .bin .shr (.t 123) (.c (.int .u64 4)), 0, [], [], some (121, true)⟩, ⟨some 125, .bin .add (cI 4) (.t 124), 0, [], [], some (121, true)⟩, ⟨some 126, .bin .geq (.t 122) (.t 125), 0, [], [], some (121, true)⟩, oI 127 (.pick (.t 121) (.t 126) (.c (.bool false))) 0, oI 128 (.mv (.t 127)) 0, ⟨some 129, .mv (.t 8), 0, [], [], some (128, true)⟩, ⟨some 130, .mv (.t 9), 0, [], [], some (128, true)⟩, ⟨some 131, .bin .lss (.t 129) (.t 130), 0, [], [], some (128, true)⟩, oI 132 (.pick (.t 128) (.t 131) (.c (.bool false))) 0]
def cstringslite_Index_r32 : List IOp := [oI 133 (.mv (.t 0)) 0, oI 134 (.mv (.t 8)) 0, oI 135 (.sslc (.t 133) (some (.t 134)) none) 0, oI 136 (.mv (.t 1)) 0, oI 137 (.call 186 [.t 135, .t 136]) 0, oI 13 (.mv (.t 137)) 0]
def cstringslite_Index_r33 : List IOp := [oI 138 (.mv (.t 13)) 0, oI 139 (.bin .lss (.t 138) (cI 0)) 0]
def cstringslite_Index_r34 : List IOp := [oI 4 (.mv (cI (-1))) 0]
def cstringslite_Index_r35 : List IOp := [oI 140 (.mv (.t 8)) 0, oI 141 (.mv (.t 13)) 0, oI 142 (.bin .add (.t 140) (.t 141)) 0, oI 4 (.mv (.t 142)) 0]
def cstringslite_Index_L1 : CC := .seq (.seq (.rg false cstringslite_Index_r16) (.cond (.t 59) .skip (.exit 1))) (.block 2 (.seq (.seq (.rg false cstringslite_Index_r17) (.cond (.t 64) (.seq (.rg false cstringslite_Index_r18) (.seq (.seq (.rg false cstringslite_Index_r19) (.cond (.t 73) (.seq (.rg false cstringslite_Index_r20) .ret) .skip)) (.rg false cstringslite_Index_r21))) .skip)) (.seq (.seq (.rg false cstringslite_Index_r22) (.cond (.t 93) (.seq (.rg false cstringslite_Index_r23) .ret) .skip)) (.seq (.rg false cstringslite_Index_r24) (.seq (.rg false cstringslite_Index_r25) (.seq (.rg false cstringslite_Index_r26) (.cond (.t 107) (.seq (.rg false cstringslite_Index_r27) (.seq (.seq (.rg false cstringslite_Index_r28) (.cond (.t 114) (.seq (.rg false cstringslite_Index_r29) .ret) .skip)) (.seq (.rg false cstringslite_Index_r30) .ret))) (.seq (.rg false cstringslite_Index_r31) (.cond (.t 132) (.seq (.rg false cstringslite_Index_r32) (.seq (.seq (.rg false cstringslite_Index_r33) (.cond (.t 139) (.seq (.rg false cstringslite_Index_r34) .ret) .skip)) (.seq (.rg false cstringslite_Index_r35) .ret))) .skip)))))))))
def cstringslite_Index_r36 : List IOp := [oI 4 (.mv (cI (-1))) 0]
def cstringslite_Index : CC := .seq (.rg false cstringslite_Index_r1) (.seq (.rg false cstringslite_Index_r2) (.seq (.block 0 (.seq (.rg false cstringslite_Index_r3) (.cond (.t 16) (.seq (.rg false cstringslite_Index_r4) .ret) (.seq (.rg false cstringslite_Index_r5) (.cond (.t 24) (.seq (.rg false cstringslite_Index_r6) .ret) (.seq (.rg false cstringslite_Index_r7) (.cond (.t 31) (.seq (.rg false cstringslite_Index_r8) .ret) (.seq (.rg false cstringslite_Index_r9) (.cond (.t 36) (.seq (.rg false cstringslite_Index_r10) .ret) .skip))))))))) (.seq (.rg false cstringslite_Index_r11) (.seq (.rg false cstringslite_Index_r12) (.seq (.rg false cstringslite_Index_r13) (.seq (.rg false cstringslite_Index_r14) (.seq (.rg false cstringslite_Index_r15) (.seq (.block 1 (.loop cstringslite_Index_L1)) (.seq (.rg false cstringslite_Index_r36) .ret)))))))))
abbrev n_stringslite_Index : Nat := 176
theorem ok_stringslite_Index : fnOk Tryz.prog 176 = some (143, cstringslite_Index, [.tmp 4]) := by kernel_rfl
def cstringslite_IndexByte_r1 : List IOp := [oI 4 (.mv (cI 0)) 0]
def cstringslite_IndexByte_r2 : List IOp := [oI 5 (.mv (.t 0)) 0, oI 6 (.mv (.t 1)) 0, oI 7 (.xt 187 [.t 5, .t 6]) 0, oI 4 (.mv (.t 7)) 0]
def cstringslite_IndexByte : CC := .seq (.rg false cstringslite_IndexByte_r1) (.seq (.rg false cstringslite_IndexByte_r2) .ret)
abbrev n_stringslite_IndexByte : Nat := 183
theorem ok_stringslite_IndexByte : fnOk Tryz.prog 183 = some (8, cstringslite_IndexByte, [.tmp 4]) := by kernel_rfl
def cstringslite_HasPrefix_r1 : List IOp := [oI 4 (.mv (.c (.bool false))) 0]
def cstringslite_HasPrefix_r2 : List IOp := [oI 5 (.mv (.t 0)) 0, oI 6 (.slen (.t 5)) 0, oI 7 (.mv (.t 1)) 0, oI 8 (.slen (.t 7)) 0, oI 9 (.bin .geq (.t 6) (.t 8)) 0, oI 10 (.mv (.t 9)) 0, ⟨some 11, .mv (.t 0), 0, [], [], some (10, true)⟩, ⟨some 12, .mv (.t 1), 0, [], [], some (10, true)⟩, ⟨some 13, .slen (.t 12), 0, [], [], some (10, true)⟩, ⟨some 14, .sslc (.t 11) none (some (.t 13)), 0, [], [], some (10, true)⟩, ⟨some 15, .mv (.t 1), 0, [], [], some (10, true)⟩, ⟨some 16, .bin .eql (.t 14) (.t 15), 0, [], [], some (10, true)⟩, oI 17 (.pick (.t 10) (.t 16) (.c (.bool false))) 0, oI 4 (.mv (.t 17)) 0]
def cstringslite_HasPrefix : CC := .seq (.rg false cstringslite_HasPrefix_r1) (.seq (.rg false cstringslite_HasPrefix_r2) .ret)
abbrev n_stringslite_HasPrefix : Nat := 177
theorem ok_stringslite_HasPrefix : fnOk Tryz.prog 177 = some (18, cstringslite_HasPrefix, [.tmp 4]) := by kernel_rfl
end GoAbs
namespace GoAbs
open Go Go.Proofs
def idxB : List UInt8 → UInt8 → Int
  | [], _ => -1
  | b :: l, c => if b = c then 0 else if idxB l c = -1 then -1 else idxB l c + 1
theorem idxB_eq (l : List UInt8) (c : UInt8) : Lib.indexByte l c = idxB l c := by
  induction l with
  | nil => rfl
  | cons b l ih => unfold Lib.indexByte idxB; rw [ih]; simp
theorem indexByteString_X (l : List UInt8) (c : UInt8) : PureX Tryz.prog 187 [.str (bs l), .int .u8 (c.toNat : Int)] (.int .i64 (idxB l c)) := by
  refine ⟨.int _ _, fun w O ρ vs hr => ?_⟩
  obtain ⟨h1, h2⟩ := hr
  have h1 : vs.size = 2 := h1
  obtain ⟨a, b, rfl⟩ : ∃ a b, vs = #[a, b] := ⟨vs[0], vs[1], by
    apply Array.ext
    · simpa using h1
    · intro i hi hj
      have : i = 0 ∨ i = 1 := by simp at hj; omega
      rcases this with rfl | rfl <;> rfl⟩
  have ha := h2 0 _ a rfl rfl
  have hb := h2 1 _ b rfl rfl
  cases ha
  cases hb
  refine ⟨.int .i64 (idxB l c), ?_, .int _ _⟩
  have hf : Tryz.prog.funcs[187]? = some Tryz.f187 := by kernel_rfl
  rw [run_callFunc_extern hf (by kernel_rfl) (by kernel_rfl) (by kernel_rfl) (e := Extern.BytealgIndexByte.indexByte) (by kernel_rfl), Lib.run_indexByteString]
  have e1 : (bs l).data.toList = l := by simp [bs]
  have e2 : ((c.toNat : Int).toNat.toUInt8) = c := by simp
  rw [e1, e2, idxB_eq]
  rfl
theorem indexByte_spec (l : List UInt8) (c : UInt8) : SpecV Tryz.prog n_stringslite_IndexByte [.str (bs l), .int .u8 (c.toNat : Int)] (.int .i64 (idxB l c)) := by
  refine specV_W ok_stringslite_IndexByte (by simp) ?_
  unfold cstringslite_IndexByte
  simp only [go_sem, cstringslite_IndexByte_r1, cstringslite_IndexByte_r2]
  refine call_X (indexByteString_X l c) (fun x hx => ?_) ?_
  · rcases List.mem_cons.1 hx with rfl | hx
    · exact .str _
    · rcases List.mem_cons.1 hx with rfl | hx
      · exact .int _ _
      · simp at hx
  · simp only [go_sem]
theorem index_one (l : List UInt8) (c : UInt8) : SpecV Tryz.prog n_stringslite_Index [.str (bs l), .str (bs [c])] (.int .i64 (idxB l c)) := by
  refine specV_W ok_stringslite_Index (by simp) ?_
  unfold cstringslite_Index
  have e1 : (bs [c]).size = 1 := rfl
  have g0 : (bs [c])[0]? = some c := rfl
  have q0 : ¬ ((1 : Nat) : Int) = 0 := by omega
  have q1 : ((1 : Nat) : Int) = 1 := rfl
  by_cases he : bs [c] = bs l
  · have hl := (bs_inj.1 he).symm
    subst hl
    simp only [go_sem, cstringslite_Index_r1, cstringslite_Index_r2, cstringslite_Index_r3, cstringslite_Index_r4, e1, q0]
    show _ = _
    simp [idxB]
  · simp only [go_sem, cstringslite_Index_r1, cstringslite_Index_r2, cstringslite_Index_r3, cstringslite_Index_r5, cstringslite_Index_r6, e1, q0, q1, g0, he]
    refine call_P (indexByte_spec l c) (by simp only [go_sem]) ?_
    simp only [go_sem]
theorem idxB_none {l : List UInt8} {c : UInt8} : idxB l c = -1 ↔ c ∉ l := by
  induction l with
  | nil => simp [idxB]
  | cons b l ih =>
    unfold idxB
    by_cases hb : b = c
    · simp [hb]
    · rw [if_neg hb]
      by_cases hi : idxB l c = -1
      · rw [if_pos hi]
        have := ih.1 hi
        simp [this, Ne.symm hb]
      · rw [if_neg hi]
        have h1 : c ∈ l := Classical.byContradiction fun h => hi (ih.2 h)
        constructor
        · intro h
          have : ∀ l : List UInt8, -1 ≤ idxB l c := by
            intro l
            induction l with
            | nil => simp [idxB]
            | cons b l ih => unfold idxB; (repeat' split) <;> omega
          have := this l
          omega
        · intro h; simp [h1] at h
theorem idxB_some {l r : List UInt8} {c : UInt8} (h : c ∉ l) : idxB (l ++ c :: r) c = l.length := by
  induction l with
  | nil => simp [idxB]
  | cons b l ih =>
    simp only [List.mem_cons, not_or] at h
    simp only [List.cons_append, idxB]
    rw [if_neg (fun e => h.1 e.symm), ih h.2, if_neg (by omega)]
    simp
theorem cut_or (l : List UInt8) (c : UInt8) : c ∉ l ∨ ∃ a b, c ∉ a ∧ l = a ++ c :: b := by
  induction l with
  | nil => simp
  | cons x l ih =>
    by_cases hx : x = c
    · exact .inr ⟨[], l, by simp, by simp [hx]⟩
    · rcases ih with h | ⟨a, b, h1, h2⟩
      · exact .inl (by simp [Ne.symm hx, h])
      · exact .inr ⟨x :: a, b, by simp [Ne.symm hx, h1], by simp [h2]⟩
theorem scut_no {l : List UInt8} {c : UInt8} (h : c ∉ l) : SpecV Tryz.prog n_stringslite_Cut [.str (bs l), .str (bs [c])] (.tup [.str (bs l), .str (bs []), .bool false]) := by
  refine specV_W ok_stringslite_Cut (by simp) ?_
  unfold cstringslite_Cut
  simp only [go_sem, cstringslite_Cut_r1, cstringslite_Cut_r2]
  refine call_P (index_one l c) (by simp only [go_sem]) ?_
  have q1 : ¬ (0 : Int) ≤ -1 := by omega
  rw [idxB_none.2 h]
  simp only [go_sem, cstringslite_Cut_r3, cstringslite_Cut_r5, q1]
  rfl
theorem scut_yes {a b : List UInt8} {c : UInt8} (h : c ∉ a) (hl : (a ++ c :: b).length ≤ 1000000000) : SpecV Tryz.prog n_stringslite_Cut [.str (bs (a ++ c :: b)), .str (bs [c])] (.tup [.str (bs a), .str (bs b), .bool true]) := by
  refine specV_W ok_stringslite_Cut (by simp) ?_
  unfold cstringslite_Cut
  simp only [go_sem, cstringslite_Cut_r1, cstringslite_Cut_r2]
  refine call_P (index_one _ c) (by simp only [go_sem]) ?_
  rw [idxB_some h]
  have hm : Tryz.prog.follows .mixedOrders = true := by kernel_rfl
  have q1 : (0 : Int) ≤ (a.length : Int) := by omega
  simp at hl
  have e1 : IntKind.i64.wrap ((a.length : Int) + ((1 : Nat) : Int)) = ((a.length + 1 : Nat) : Int) := by rw [i64_id (by omega) (by omega)]; omega
  have q2 : (0 : Int) ≤ ((a.length + 1 : Nat) : Int) := by omega
  have e2 : ((bs [c]).size : Int) = 1 := rfl
  have l1 : a.length ≤ (a ++ c :: b).length := by simp
  have l2 : a.length + 1 ≤ (a ++ c :: b).length := by simp
  have t1 : (a ++ c :: b).take a.length = a := by simp
  have t2 : (a ++ c :: b).drop (a.length + 1) = b := by
    simp [List.drop_append]
  simp only [go_sem, cstringslite_Cut_r3, cstringslite_Cut_r4, q1, q2, e1, hm, bs_size, bs_extract, l1, l2, Nat.zero_le, Nat.le_refl, t1, t2, List.take_length]
theorem cut_no {l : List UInt8} {c : UInt8} (h : c ∉ l) : SpecV Tryz.prog n_strings_Cut [.str (bs l), .str (bs [c])] (.tup [.str (bs l), .str (bs []), .bool false]) := by
  refine specV_W ok_strings_Cut (by simp) ?_
  unfold cstrings_Cut
  simp only [go_sem, cstrings_Cut_r1, cstrings_Cut_r2]
  refine call_P (scut_no h) (by simp only [go_sem]) ?_
  simp only [go_sem]
theorem cut_yes {a b : List UInt8} {c : UInt8} (h : c ∉ a) (hl : (a ++ c :: b).length ≤ 1000000000) : SpecV Tryz.prog n_strings_Cut [.str (bs (a ++ c :: b)), .str (bs [c])] (.tup [.str (bs a), .str (bs b), .bool true]) := by
  refine specV_W ok_strings_Cut (by simp) ?_
  unfold cstrings_Cut
  simp only [go_sem, cstrings_Cut_r1, cstrings_Cut_r2]
  refine call_P (scut_yes h hl) (by simp only [go_sem]) ?_
  simp only [go_sem]
theorem hasPrefix_one (l : List UInt8) (c : UInt8) : SpecV Tryz.prog n_stringslite_HasPrefix [.str (bs l), .str (bs [c])] (.bool (decide (l.head? = some c))) := by
  refine specV_W ok_stringslite_HasPrefix (by simp) ?_
  unfold cstringslite_HasPrefix
  have e2 : ((bs [c]).size : Int) = 1 := rfl
  have e3 : (bs [c]).size = 1 := rfl
  cases l with
  | nil =>
    have q1 : ¬ (1 : Int) ≤ ((0 : Nat) : Int) := by omega
    simp only [go_sem, cstringslite_HasPrefix_r1, cstringslite_HasPrefix_r2, e2, bs_size, q1]
    simp
  | cons b r =>
    have q1 : ((1 : Nat) : Int) ≤ ((r.length + 1 : Nat) : Int) := by omega
    have q2 : (0 : Int) ≤ ((1 : Nat) : Int) := by omega
    have l1 : 1 ≤ r.length + 1 := by omega
    simp only [go_sem, cstringslite_HasPrefix_r1, cstringslite_HasPrefix_r2, bs_size, q1, q2, l1, Nat.zero_le, bs_extract]
    have : (bs [b] = bs [c]) ↔ b = c := by rw [bs_inj]; simp
    refine ⟨fun h => ?_, fun h => ?_⟩
    · rw [this] at h; simp [h]
    · rw [this] at h; simp [h]
theorem cutPrefix_one (l : List UInt8) (c : UInt8) : SpecV Tryz.prog n_strings_CutPrefix [.str (bs l), .str (bs [c])] (if l.head? = some c then .tup [.str (bs l.tail), .bool true] else .tup [.str (bs l), .bool false]) := by
  have inner : SpecV Tryz.prog n_stringslite_CutPrefix [.str (bs l), .str (bs [c])] (if l.head? = some c then .tup [.str (bs l.tail), .bool true] else .tup [.str (bs l), .bool false]) := by
    refine specV_W ok_stringslite_CutPrefix (by simp) ?_
    unfold cstringslite_CutPrefix
    have e2 : ((bs [c]).size : Int) = 1 := rfl
    simp only [go_sem, cstringslite_CutPrefix_r1, cstringslite_CutPrefix_r2]
    refine call_P (hasPrefix_one l c) (by simp only [go_sem]) ?_
    by_cases h : l.head? = some c
    · have q2 : (0 : Int) ≤ 1 := by omega
      have l1 : 1 ≤ l.length := by cases l with
        | nil => simp at h
        | cons b r => simp
      rw [if_pos h]
      simp only [go_sem, decide_eq_true h, cstringslite_CutPrefix_r4, e2, bs_size, l1, Nat.le_refl, bs_extract, List.take_length]
      simp
    · rw [if_neg h]
      simp only [go_sem, decide_eq_false h, cstringslite_CutPrefix_r3]
  refine specV_W ok_strings_CutPrefix (by simp) ?_
  unfold cstrings_CutPrefix
  simp only [go_sem, cstrings_CutPrefix_r1, cstrings_CutPrefix_r2]
  refine call_P inner (by simp only [go_sem]) ?_
  by_cases h : l.head? = some c
  · rw [if_pos h]; simp only [go_sem]
  · rw [if_neg h]; simp only [go_sem]
end GoAbs
namespace GoAbs
open Go Go.Proofs
theorem parse_end {slash minus : Bool} {N D : Nat} (hN : Sz N) (hD : Sz D)
    {e : Nat → AV} (e2 : e 2 = .ptr 0 0) (e6 : e 6 = .bool slash) (e8 : e 8 = .bool minus) (e9 : e 9 = .sl (u32c (limbs N))) (e11 : e 11 = .sl (u32c (limbs D))) :
    T Tryz.prog 78 0 (.seq (.rg false cnum_Parse_r11) (.seq (.rg true cnum_Parse_r12) .ret)) ⟨e, [.cells [.bool false, .nils, .bool false, .nils]]⟩
      (retQ [.cell 2 (some 4), .tmp 3] (.tup [avF (if minus then -(N : Int) else N) D, .bool (!slash || decide (Int.gcd (if minus then -(N : Int) else N) D = 1))])) := by
  have hm : Tryz.prog.follows .mixedOrders = true := by kernel_rfl
  refine T_W ?_
  generalize hz : (if minus = true then -(N : Int) else N) = z
  have hzn : z.natAbs = N := by subst hz; cases minus <;> simp
  have hzS : Sz z.natAbs := by rw [hzn]; exact hN
  have hDS : Sz (D : Int).natAbs := by simpa using hD
  have hD0 : decide ((D : Int) < 0) = false := by simp
  simp only [go_sem, cnum_Parse_r11, e2, e6, e8, e9, e11]
  refine call_P (made_is (s := minus) (n := N) (z := z) hz) (by simp only [go_sem]) ?_
  simp only [go_sem, e11]
  refine call_P (made_is (s := false) (n := D) (z := (D : Int)) (by simp)) (by simp only [go_sem]) ?_
  simp only [go_sem, avI_agg, cnum_Parse_r12, hm, e2, e6]
  cases slash with
  | false => simp only [go_sem, e2, e6]; simp
  | true =>
    simp only [go_sem, e2, e6]
    refine call_P (gcd_spec hzS hDS) (by simp only [go_sem, avI_agg]) ?_
    simp only [go_sem]
    refine call_P one_spec (by simp only [go_sem]) ?_
    simp only [go_sem]
    have hgs : Sz (Int.gcd z D : Int).natAbs := by
      have : Int.gcd z D ≤ max N D := by
        rcases Nat.eq_zero_or_pos D with h | h
        · subst h
          simp [hzn]
        · exact Nat.le_trans (Nat.le_of_dvd h (by simpa using Int.gcd_dvd_natAbs_right z D)) (Nat.le_max_right _ _)
      simp only [Int.natAbs_natCast]
      rcases Nat.le_total N D with h | h
      · exact hD.mono (by omega)
      · exact hN.mono (by omega)
    refine call_P (cmp_spec (b := 1) hgs.l Sz.one.l) (by simp only [go_sem, avI_agg]) ?_
    simp only [go_sem, avI_agg, e2, e6]
    have key : ((if (Int.gcd z D : Int) < 1 then (-1 : Int) else if (1 : Int) < (Int.gcd z D : Int) then 1 else 0) = 0) ↔ Int.gcd z D = 1 := by
      split
      · constructor
        · intro h; omega
        · intro h; omega
      · split
        · constructor
          · intro h; omega
          · intro h; omega
        · constructor
          · intro h; omega
          · intro h; rfl
    refine ⟨fun h => ?_, fun h => ?_⟩
    · rw [key] at h
      simp [h]
    · rw [key] at h
      simp [h]
def badQ : AV := .tup [.agg [.bool false, .nils, .bool false, .nils], .bool false]
def goodQ (slash minus : Bool) (N D : Nat) : AV := .tup [avF (if minus then -(N : Int) else N) D, .bool (!slash || decide (Int.gcd (if minus then -(N : Int) else N) D = 1))]
theorem parse_fin {slash minus ok t : Bool} {X Y r : AV} {N D : Nat} (hX : ok = true → X = .sl (u32c (limbs N))) (hN : Sz N) (hD : Sz D) (hY : t = true → Y = .sl (u32c (limbs D)))
    (hbad : ok = false ∨ t = false ∨ (minus = true ∧ N = 0) → r = badQ) (hgood : ok = true → t = true → ¬ (minus = true ∧ N = 0) → r = goodQ slash minus N D)
    {e : Nat → AV} (e2 : e 2 = .ptr 0 0) (e6 : e 6 = .bool slash) (e8 : e 8 = .bool minus) (e9 : e 9 = X) (e10 : e 10 = .bool ok) (e11 : e 11 = Y) (e12 : e 12 = .bool t) :
    T Tryz.prog 78 0 (.seq (.seq (.rg false cnum_Parse_r9) (.cond (.t 57) (.seq (.rg false cnum_Parse_r10) .ret) .skip)) (.seq (.rg false cnum_Parse_r11) (.seq (.rg true cnum_Parse_r12) .ret))) ⟨e, [.cells [.bool false, .nils, .bool false, .nils]]⟩
      (retQ [.cell 2 (some 4), .tmp 3] r) := by
  refine T_cut 0 rfl ?_
  cases ok with
  | false =>
    rw [hbad (.inl rfl)]
    simp only [go_sem, cnum_Parse_r9, cnum_Parse_r10, e2, e6, e8, e9, e10, e11, e12, badQ]
  | true =>
    cases t with
    | false =>
      rw [hbad (.inr (.inl rfl))]
      simp only [go_sem, cnum_Parse_r9, cnum_Parse_r10, e2, e6, e8, e9, e10, e11, e12, badQ]
    | true =>
      have hx := hX rfl
      have hy := hY rfl
      have fin : ¬ (minus = true ∧ N = 0) → ∀ e : Nat → AV, e 2 = .ptr 0 0 → e 6 = .bool slash → e 8 = .bool minus → e 9 = X → e 11 = Y →
          T Tryz.prog 78 0 (.seq (.rg false cnum_Parse_r11) (.seq (.rg true cnum_Parse_r12) .ret)) ⟨e, [.cells [.bool false, .nils, .bool false, .nils]]⟩ (retQ [.cell 2 (some 4), .tmp 3] r) := fun h e q2 q6 q8 q9 q11 => by
        rw [hgood rfl rfl h]
        exact parse_end hN hD q2 q6 q8 (q9.trans hx) (q11.trans hy)
      cases minus with
      | false =>
        simp only [go_sem, cnum_Parse_r9, cnum_Parse_r10, e2, e6, e8, e9, e10, e11, e12]
        exact fin (fun h => by cases h.1) _ (by simp only [go_sem, e2]) (by simp only [go_sem, e6]) (by simp only [go_sem, e8]) (by simp only [go_sem, e9]) (by simp only [go_sem, e11])
      | true =>
        by_cases h0 : N = 0
        · rw [hbad (.inr (.inr ⟨rfl, h0⟩))]
          subst h0
          have q1 : ((0 : Nat) : Int) = 0 := rfl
          simp only [go_sem, cnum_Parse_r9, cnum_Parse_r10, e2, e6, e8, e9, e10, e11, e12, hx, limbs_zero, u32c_nil, q1, badQ]
        · have q1 : ¬ ((limbs N).length : Int) = 0 := by have := (limbs_len_pos (n := N)).2 h0; omega
          simp only [go_sem, cnum_Parse_r9, cnum_Parse_r10, e2, e6, e8, e9, e10, e11, e12, hx, u32c_len, q1]
          exact fin (fun h => h0 h.2) _ (by simp only [go_sem, e2]) (by simp only [go_sem, e6]) (by simp only [go_sem, e8]) (by simp only [go_sem, e9, hx]) (by simp only [go_sem, e11])
theorem parse_den {slash minus ok : Bool} {X r : AV} {N : Nat} {under : List UInt8} (hul : under.length ≤ 1000000000) (hX : ok = true → X = .sl (u32c (limbs N))) (hN : Sz N)
    (hbad : ok = false ∨ (slash = true ∧ ¬ (digOk under ∧ 1 < numL under)) ∨ (minus = true ∧ N = 0) → r = badQ)
    (hgood : ok = true → (slash = true → digOk under ∧ 1 < numL under) → ¬ (minus = true ∧ N = 0) → r = goodQ slash minus N (if slash = true then numL under else 1))
    {e : Nat → AV} (e2 : e 2 = .ptr 0 0) (e5 : e 5 = .str (bs under)) (e6 : e 6 = .bool slash) (e8 : e 8 = .bool minus) (e9 : e 9 = X) (e10 : e 10 = .bool ok) (e11 : e 11 = .sl (u32c (limbs 1))) (e12 : e 12 = .bool true) :
    T Tryz.prog 78 0 (.seq (.seq (.rg false cnum_Parse_r6) (.cond (.t 31) (.seq (.rg false cnum_Parse_r7) (.rg false cnum_Parse_r8)) .skip)) (.seq (.seq (.rg false cnum_Parse_r9) (.cond (.t 57) (.seq (.rg false cnum_Parse_r10) .ret) .skip)) (.seq (.rg false cnum_Parse_r11) (.seq (.rg true cnum_Parse_r12) .ret)))) ⟨e, [.cells [.bool false, .nils, .bool false, .nils]]⟩
      (retQ [.cell 2 (some 4), .tmp 3] r) := by
  refine T_cut 0 rfl ?_
  cases slash with
  | false =>
    simp only [go_sem, cnum_Parse_r6, e6]
    exact parse_fin (slash := false) (minus := minus) (ok := ok) (t := true) (D := 1) hX hN Sz.one (fun _ => rfl) (fun h => hbad (h.elim .inl (fun h => h.elim (fun h => by cases h) (fun h => .inr (.inr h)))))
      (fun h1 h2 h3 => hgood h1 (fun h => by cases h) h3) (by simp only [go_sem, e2]) (by simp only [go_sem, e6]) (by simp only [go_sem, e8]) (by simp only [go_sem, e9]) (by simp only [go_sem, e10]) (by simp only [go_sem, e11]) (by simp only [go_sem, e12])
  | true =>
    simp only [go_sem, cnum_Parse_r6, cnum_Parse_r7, e5, e6]
    refine call_P (read_spec hul) (by simp only [go_sem]) ?_
    have s4 : digOk under → Sz (numL under) := fun h => by
      have := lenN_dec (numL_lt h.1)
      have := h.2.2.2
      unfold Sz; omega
    have one : limbs 1 = [1] := by rw [limbs_pos (by omega), show 1 / 4294967296 = 0 by omega, limbs_zero]
    by_cases hu : digOk under
    · rw [if_pos hu]
      simp only [go_sem, cnum_Parse_r8]
      refine call_V (ids := [1]) (compare_nat (m := numL under) (n := 1) (s4 hu).l Sz.one.l) ?_ (.inr (.int _ _)) (fun b hb => trivial) ?_
      · simp only [go_sem]
        rw [one]
        exact bv_u32c (r := [1]) rfl (by simp) rfl rfl
      · by_cases h1 : 1 < numL under
        · have q1 : ¬ numL under < 1 := by omega
          have q2 : (0 : Int) < 1 := by omega
          simp only [go_sem, q1, h1, q2]
          refine T_le (Le_gc [0] (by simp) (fun i hi => by omega) [(2, .ptr 0 0), (6, .bool true), (8, .bool minus), (9, X), (10, .bool ok), (11, .sl (u32c (limbs (numL under)))), (12, .bool true)] (by simp only [go_sem, e2, e6, e8, e9, e10])) ?_
          exact parse_fin (slash := true) (minus := minus) (ok := ok) (t := true) (D := numL under) (X := X.gc (pos [0])) (fun h => by rw [hX h]; rfl) hN (s4 hu) (fun _ => rfl) (fun h => hbad (h.elim .inl (fun h => h.elim (fun h => by cases h) (fun h => .inr (.inr h)))))
            (fun h1 h2 h3 => hgood h1 (fun _ => ⟨hu, by assumption⟩) h3) rfl rfl rfl rfl rfl rfl rfl
        · have q2 : ¬ (0 : Int) < (if numL under < 1 then -1 else 0) := by split <;> omega
          simp only [go_sem, h1, q2]
          refine T_le (Le_gc [0] (by simp) (fun i hi => by omega) [(2, .ptr 0 0), (6, .bool true), (8, .bool minus), (9, X), (10, .bool ok), (11, .sl (u32c (limbs (numL under)))), (12, .bool false)] (by simp only [go_sem, e2, e6, e8, e9, e10])) ?_
          exact parse_fin (slash := true) (minus := minus) (ok := ok) (t := false) (D := numL under) (X := X.gc (pos [0])) (fun h => by rw [hX h]; rfl) hN (s4 hu) (fun _ => rfl) (fun _ => hbad (.inr (.inl ⟨rfl, fun h => h1 h.2⟩)))
            (fun h1 h2 h3 => by cases h2) rfl rfl rfl rfl rfl rfl rfl
    · rw [if_neg hu]
      simp only [go_sem, cnum_Parse_r8]
      exact parse_fin (slash := true) (minus := minus) (ok := ok) (t := false) (D := 1) (Y := .nils) hX hN Sz.one (fun h => by cases h) (fun _ => hbad (.inr (.inl ⟨rfl, fun h => hu h.1⟩)))
            (fun h1 h2 h3 => by cases h2) (by simp only [go_sem, e2]) (by simp only [go_sem, e6]) (by simp only [go_sem, e8]) (by simp only [go_sem, e9]) (by simp only [go_sem, e10]) (by simp only [go_sem]) (by simp only [go_sem])
theorem parse_parts {l over under : List UInt8} {slash : Bool} {r : AV} (hol : over.length ≤ 1000000000) (hul : under.length ≤ 1000000000)
    (hcut : SpecV Tryz.prog n_strings_Cut [.str (bs l), .str (bs [47])] (.tup [.str (bs over), .str (bs under), .bool slash]))
    (minus : Bool) (digits : List UInt8) (hmd : (over.head? = some 45 ∧ minus = true ∧ digits = over.tail) ∨ (¬ over.head? = some 45 ∧ minus = false ∧ digits = over))
    (hbad : ¬ digOk digits ∨ (slash = true ∧ ¬ (digOk under ∧ 1 < numL under)) ∨ (minus = true ∧ numL digits = 0) → r = badQ)
    (hgood : digOk digits → (slash = true → digOk under ∧ 1 < numL under) → ¬ (minus = true ∧ numL digits = 0) → r = goodQ slash minus (numL digits) (if slash = true then numL under else 1)) :
    SpecV Tryz.prog n_num_Parse [.str (bs l)] r := by
  refine specV_T ok_num_Parse (by simp) (T_cut 4 rfl ?_)
  unfold cnum_Parse
  have c47 : (⟨#[47]⟩ : ByteArray) = bs [47] := rfl
  have c45 : (⟨#[45]⟩ : ByteArray) = bs [45] := rfl
  simp only [go_sem, cnum_Parse_r1, cnum_Parse_r2, c47]
  refine call_P hcut (by simp only [go_sem]) ?_
  simp only [go_sem, cnum_Parse_r3, c45]
  have hcp : SpecV Tryz.prog n_strings_CutPrefix [.str (bs over), .str (bs [45])] (.tup [.str (bs digits), .bool minus]) := by
    have := cutPrefix_one over 45
    rcases hmd with ⟨h1, h2, h3⟩ | ⟨h1, h2, h3⟩
    · rw [if_pos h1] at this; rw [h2, h3]; exact this
    · rw [if_neg h1] at this; rw [h2, h3]; exact this
  have hdl : digits.length ≤ 1000000000 := by
    rcases hmd with ⟨_, _, h3⟩ | ⟨_, _, h3⟩
    · rw [h3, List.length_tail]; omega
    · rw [h3]; exact hol
  refine call_P hcp (by simp only [go_sem]) ?_
  simp only [go_sem, cnum_Parse_r4]
  refine call_P (read_spec hdl) (by simp only [go_sem]) ?_
  have one : limbs 1 = [1] := by rw [limbs_pos (by omega), show 1 / 4294967296 = 0 by omega, limbs_zero]
  have fin : ∀ (X : AV) (ok : Bool), (ok = true → X = .sl (u32c (limbs (numL digits)))) → X.gc (pos [0]) = X → (ok = true ↔ digOk digits) → ∀ e : Nat → AV, e 2 = .ptr 0 0 → e 5 = .str (bs under) → e 6 = .bool slash → e 8 = .bool minus → e 9 = X → e 10 = .bool ok → e 11 = .osl none 1 0 1 → e 12 = .bool true →
      T Tryz.prog 78 0 (.seq (.seq (.rg false cnum_Parse_r6) (.cond (.t 31) (.seq (.rg false cnum_Parse_r7) (.rg false cnum_Parse_r8)) .skip)) (.seq (.seq (.rg false cnum_Parse_r9) (.cond (.t 57) (.seq (.rg false cnum_Parse_r10) .ret) .skip)) (.seq (.rg false cnum_Parse_r11) (.seq (.rg true cnum_Parse_r12) .ret))))
        ⟨e, [.cells [.bool false, .nils, .bool false, .nils], .cells [.int .u32 1]]⟩ (retQ [.cell 2 (some 4), .tmp 3] r) := fun X ok hX hXg hok e q2 q5 q6 q8 q9 q10 q11 q12 => by
    refine T_freeze [1] [(2, .ptr 0 0), (5, .str (bs under)), (6, .bool slash), (8, .bool minus), (9, X), (10, .bool ok), (11, .sl (u32c (limbs 1))), (12, .bool true)]
      ⟨.inr q2, .inr q5, .inr q6, .inr q8, .inr q9, .inr q10, .inl (by show BV _ _ (e 11) _; rw [q11, one]; exact bv_u32c (r := [1]) rfl (by simp) rfl rfl), .inr q12, trivial⟩ ?_
    refine T_le (Le_gc [0] (by simp) (fun i hi => by omega) [(2, .ptr 0 0), (5, .str (bs under)), (6, .bool slash), (8, .bool minus), (9, X), (10, .bool ok), (11, .sl (u32c (limbs 1))), (12, .bool true)] (by simp only [go_sem])) ?_
    have hN : Sz (numL digits) ∨ ok = false := by
      cases ok with
      | false => exact .inr rfl
      | true =>
        have h := hok.1 rfl
        have := lenN_dec (numL_lt h.1)
        have := h.2.2.2
        exact .inl (by unfold Sz; omega)
    rcases hN with hN | hN
    · exact parse_den (slash := slash) (minus := minus) (ok := ok) (N := numL digits) hul (X := X) (fun h => hX h) hN
        (fun h => hbad (h.elim (fun h => .inl (fun h2 => by rw [hok.2 h2] at h; cases h)) .inr)) (fun h1 h2 h3 => hgood (hok.1 h1) h2 h3) rfl rfl rfl rfl hXg rfl rfl rfl
    · subst hN
      have hnd : ¬ digOk digits := fun h => by cases hok.2 h
      exact parse_den (slash := slash) (minus := minus) (ok := false) (N := 0) hul (fun h => by cases h) (Sz.one.mono (by omega))
        (fun _ => hbad (.inl hnd)) (fun h1 h2 h3 => by cases h1) rfl rfl rfl rfl rfl rfl rfl rfl
  by_cases hd : digOk digits
  · rw [if_pos hd]
    simp only [go_sem, cnum_Parse_r5]
    exact fin (.sl (u32c (limbs (numL digits)))) true (fun _ => rfl) rfl ⟨fun _ => hd, fun _ => rfl⟩ _ (by simp only [go_sem]) (by simp only [go_sem]) (by simp only [go_sem]) (by simp only [go_sem]) (by simp only [go_sem]) (by simp only [go_sem]) (by simp only [go_sem]) (by simp only [go_sem])
  · rw [if_neg hd]
    simp only [go_sem, cnum_Parse_r5]
    exact fin .nils false (fun h => by cases h) rfl ⟨fun h => (by cases h), fun h => absurd h hd⟩ _ (by simp only [go_sem]) (by simp only [go_sem]) (by simp only [go_sem]) (by simp only [go_sem]) (by simp only [go_sem]) (by simp only [go_sem]) (by simp only [go_sem]) (by simp only [go_sem])
def cutL (l : List UInt8) : List UInt8 × List UInt8 × Bool := if 47 ∈ l then (l.takeWhile (· != 47), (l.dropWhile (· != 47)).tail, true) else (l, [], false)
def signL (o : List UInt8) : List UInt8 × Bool := if o.head? = some 45 then (o.tail, true) else (o, false)
def partsL (l : List UInt8) : Int × Nat × Bool :=
  (if (signL (cutL l).1).2 then -(numL (signL (cutL l).1).1 : Int) else numL (signL (cutL l).1).1, if (cutL l).2.2 then numL (cutL l).2.1 else 1, (cutL l).2.2)
def formL (l : List UInt8) : Prop := digOk (signL (cutL l).1).1 ∧ ((cutL l).2.2 = true → digOk (cutL l).2.1 ∧ 1 < numL (cutL l).2.1) ∧ ¬ ((signL (cutL l).1).2 = true ∧ numL (signL (cutL l).1).1 = 0)
instance (l : List UInt8) : Decidable (formL l) := by unfold formL; infer_instance
def parseL (l : List UInt8) : Option Rat := if formL l ∧ ((partsL l).2.2 = true → Int.gcd (partsL l).1 (partsL l).2.1 = 1) then some (Rat.divInt (partsL l).1 (partsL l).2.1) else none
theorem cutL_spec {l : List UInt8} (hl : l.length ≤ 1000000000) : SpecV Tryz.prog n_strings_Cut [.str (bs l), .str (bs [47])] (.tup [.str (bs (cutL l).1), .str (bs (cutL l).2.1), .bool (cutL l).2.2]) ∧ (cutL l).1.length ≤ l.length ∧ (cutL l).2.1.length ≤ l.length := by
  rcases cut_or l 47 with h | ⟨a, b, h, rfl⟩
  · unfold cutL
    rw [if_neg h]
    exact ⟨cut_no h, Nat.le_refl _, by simp⟩
  · have h1 : ∀ x, x ∈ a → (x != 47) = true := fun x hx => by
      have : x ≠ 47 := fun e => h (e ▸ hx)
      simpa using this
    have e : cutL (a ++ 47 :: b) = (a, b, true) := by
      unfold cutL
      rw [if_pos (by simp), List.takeWhile_append_of_pos h1, List.dropWhile_append_of_pos h1]
      simp
    rw [e]
    refine ⟨cut_yes h hl, by simp, by simp; omega⟩
theorem partsL_good {l : List UInt8} : goodQ (cutL l).2.2 (signL (cutL l).1).2 (numL (signL (cutL l).1).1) (if (cutL l).2.2 = true then numL (cutL l).2.1 else 1) =
    .tup [avF (partsL l).1 (partsL l).2.1, .bool (!(partsL l).2.2 || decide (Int.gcd (partsL l).1 (partsL l).2.1 = 1))] := rfl
theorem parse_all {l : List UInt8} {r : AV} (hl : l.length ≤ 1000000000) (hbad : ¬ formL l → r = badQ)
    (hgood : formL l → r = .tup [avF (partsL l).1 (partsL l).2.1, .bool (!(partsL l).2.2 || decide (Int.gcd (partsL l).1 (partsL l).2.1 = 1))]) : SpecV Tryz.prog n_num_Parse [.str (bs l)] r := by
  obtain ⟨h1, h2, h3⟩ := cutL_spec hl
  refine parse_parts (by omega) (by omega) h1 (signL (cutL l).1).2 (signL (cutL l).1).1 ?_ (fun h => hbad (fun hf => ?_)) (fun a b c => ?_)
  · unfold signL
    by_cases h : (cutL l).1.head? = some 45
    · rw [if_pos h]; exact .inl ⟨h, rfl, rfl⟩
    · rw [if_neg h]; exact .inr ⟨h, rfl, rfl⟩
  · obtain ⟨f1, f2, f3⟩ := hf
    rcases h with h | ⟨h, h'⟩ | h
    · exact h f1
    · exact h' (f2 h)
    · exact f3 h
  · rw [partsL_good]
    exact hgood ⟨a, b, c⟩
theorem partsL_pos {l : List UInt8} (h : formL l) : (0 : Int) < ((partsL l).2.1 : Int) := by
  unfold partsL
  simp only
  split
  · have := (h.2.1 (by assumption)).2; omega
  · omega
theorem parse_some {l : List UInt8} {q : Rat} (hl : l.length ≤ 1000000000) (h : parseL l = some q) : SpecV Tryz.prog n_num_Parse [.str (bs l)] (.tup [avQ q, .bool true]) := by
  unfold parseL at h
  split at h
  · rename_i hc
    obtain ⟨hf, hg⟩ := hc
    cases h
    refine parse_all hl (fun h => absurd hf h) (fun _ => ?_)
    have hpos := partsL_pos hf
    have hgcd : Int.gcd (partsL l).1 (partsL l).2.1 = 1 := by
      cases hs : (partsL l).2.2 with
      | true => exact hg hs
      | false =>
        have : (partsL l).2.1 = 1 := by
          unfold partsL at hs ⊢
          simp only at hs ⊢
          rw [hs]; rfl
        rw [this]; simp
    rw [avF_divInt hpos hgcd, hgcd]
    simp
  · cases h
def Wk (x : AV) : Prop := x = .agg [.bool false, .nils, .bool false, .nils] ∨ ∃ n d, x = avF n d
theorem parse_none {l : List UInt8} (hl : l.length ≤ 1000000000) (h : parseL l = none) : ∃ x, Wk x ∧ SpecV Tryz.prog n_num_Parse [.str (bs l)] (.tup [x, .bool false]) := by
  unfold parseL at h
  split at h
  · cases h
  · rename_i hc
    by_cases hf : formL l
    · refine ⟨avF (partsL l).1 (partsL l).2.1, .inr ⟨_, _, rfl⟩, parse_all hl (fun h => absurd hf h) (fun _ => ?_)⟩
      have hg : ¬ ((partsL l).2.2 = true → Int.gcd (partsL l).1 (partsL l).2.1 = 1) := fun h => hc ⟨hf, h⟩
      have hs : (partsL l).2.2 = true := Classical.byContradiction fun h => hg (fun h2 => absurd h2 h)
      have hg' : ¬ Int.gcd (partsL l).1 (partsL l).2.1 = 1 := fun h => hg (fun _ => h)
      rw [hs]
      simp [hg']
    · exact ⟨_, .inl rfl, parse_all hl (fun _ => rfl) (fun h => absurd h hf)⟩
end GoAbs
namespace GoAbs
open Go Go.Proofs
theorem tx_bits {n k : Nat} (h : n < 2 ^ k) (hk : k ≤ 300000000000) : Tx n := by
  have h1 : n < 4294967296 ^ (k / 32 + 1) := by
    have e : (4294967296 : Nat) = 2 ^ 32 := by decide
    rw [e, ← Nat.pow_mul]
    exact Nat.lt_of_lt_of_le h (Nat.pow_le_pow_right (by omega) (by omega))
  have h2 := lenN_le h1
  unfold Tx
  omega
theorem decL_len {n : Nat} (h : Tx n) : (decL n).length ≤ 100000000000 := by
  unfold decL
  split
  · simp
  · rw [List.length_reverse]; exact h.len
def numS (q : Rat) : List UInt8 := (if q.num < 0 then [45] else []) ++ decL q.num.natAbs ++ (if q.den = 1 then [] else 47 :: decL q.den)
def NumOk (q : Rat) : Prop := (decL q.num.natAbs).length ≤ 4000 ∧ (q.den = 1 ∨ (decL q.den).length ≤ 4000)
instance (q : Rat) : Decidable (NumOk q) := by unfold NumOk; infer_instance
theorem fits_q {q : Rat} {d : Int} (hn : Tx q.num.natAbs) (hd : Tx q.den) : SpecV Tryz.prog n_Rat_Fits [avQ q, .int .i64 d] (.bool (decide (((decL q.num.natAbs).length : Int) ≤ d ∧ ((decL q.den).length : Int) ≤ d))) := by
  refine specV_W ok_Rat_Fits (by simp) ?_
  unfold cRat_Fits
  simp only [go_sem, avQ_agg, cRat_Fits_r1, cRat_Fits_r2]
  refine call_P (text_spec hn) (by simp only [go_sem]) ?_
  rw [decB_eq]
  have ht := text_spec hd
  rw [decB_eq] at ht
  by_cases h1 : ((decL q.num.natAbs).length : Int) ≤ d
  · simp only [go_sem, bs_size, h1, natAbs_den]
    refine call_P ht (by simp only [go_sem]) ?_
    by_cases h2 : ((decL q.den).length : Int) ≤ d
    · simp only [go_sem, bs_size, h2]; simp
    · simp only [go_sem, bs_size, h2]; simp
  · simp only [go_sem, bs_size, h1]; simp
theorem num_fin {q : Rat} (hn : Tx q.num.natAbs) (hd : Tx q.den) (ho : (decL q.num.natAbs).length ≤ 4000) {S : List UInt8} (hS : S = (if q.num < 0 then [45] else []) ++ decL q.num.natAbs)
    {e : Nat → AV} (e1 : e 1 = .ptr 0 0) (e4 : e 4 = .str (bs S)) :
    T Tryz.prog 32 0 (.seq (.seq (.rg false cRat_Num_r7) (.cond (.t 19) (.seq (.rg false cRat_Num_r8) .ret) .skip)) (.seq (.rg false cRat_Num_r9) (.seq (.seq (.rg false cRat_Num_r10) (.cond (.t 27) (.seq (.rg false cRat_Num_r11) .ret) .skip)) (.seq (.rg false cRat_Num_r12) .ret))))
      ⟨e, [.cells [.bool (decide (q.num < 0)), .sl (u32c (limbs q.num.natAbs)), .bool (decide ((q.den : Int) < 0)), .sl (u32c (limbs (q.den : Int).natAbs))]]⟩
      (retQ [.tmp 2, .tmp 3] (if q.den = 1 ∨ (decL q.den).length ≤ 4000 then .tup [.str (bs (numS q)), .int .i64 0] else .tup [.str (bs []), .int .i64 4])) := by
  refine T_W ?_
  have hSl : S.length ≤ 4001 := by
    rw [hS, List.length_append]
    split <;> simp <;> omega
  simp only [go_sem, cRat_Num_r7, e1]
  refine call_P (integer_spec (a := q.num) (b := q.den) (den_pos' q)) (by simp only [go_sem]) ?_
  by_cases h1 : (q.den : Int) = 1
  · have h1' : q.den = 1 := by omega
    rw [if_pos (.inl h1')]
    simp only [go_sem, decide_eq_true h1, cRat_Num_r8, e4]
    rw [hS, numS, if_pos h1', List.append_nil]
  · have h1' : ¬ q.den = 1 := by omega
    have ht := text_spec hd
    rw [decB_eq] at ht
    simp only [go_sem, decide_eq_false h1, cRat_Num_r9, e1, natAbs_den]
    refine call_P ht (by simp only [go_sem]) ?_
    have hdl := decL_len hd
    by_cases h2 : (decL q.den).length ≤ 4000
    · have q2 : ¬ (4000 : Int) < ((decL q.den).length : Int) := by omega
      have hmax : IntKind.i64.max = 9223372036854775807 := rfl
      have m1 : ((S.length + 1 : Nat) : Int) ≤ IntKind.i64.max := by rw [hmax]; omega
      have m2 : (((S ++ [47]).length + (decL q.den).length : Nat) : Int) ≤ IntKind.i64.max := by rw [hmax]; simp; omega
      have c47 : (⟨#[47]⟩ : ByteArray) = bs [47] := rfl
      rw [if_pos (.inr h2)]
      simp only [go_sem, cRat_Num_r10, cRat_Num_r12, bs_size, q2, e4, c47, bs_append, m1, m2]
      rw [hS, numS, if_neg h1']
      simp
    · have q2 : (4000 : Int) < ((decL q.den).length : Int) := by omega
      rw [if_neg (fun h => h.elim h1' h2)]
      simp only [go_sem, cRat_Num_r10, cRat_Num_r11, bs_size, q2]
      first | exact ⟨trivial, trivial⟩ | rfl
theorem num_q {q : Rat} (hn : Tx q.num.natAbs) (hd : Tx q.den) : SpecV Tryz.prog n_Rat_Num [avQ q] (if NumOk q then .tup [.str (bs (numS q)), .int .i64 0] else .tup [.str (bs []), .int .i64 4]) := by
  refine specV_T ok_Rat_Num (by simp) (T_cut 3 rfl ?_)
  unfold cRat_Num
  simp only [go_sem, avQ_agg, cRat_Num_r1, cRat_Num_r2]
  refine call_P (text_spec hn) (by simp only [go_sem]) ?_
  rw [decB_eq]
  have hnl := decL_len hn
  by_cases ho : (decL q.num.natAbs).length ≤ 4000
  · have q1 : ¬ (4000 : Int) < ((decL q.num.natAbs).length : Int) := by omega
    have hk : NumOk q ↔ (q.den = 1 ∨ (decL q.den).length ≤ 4000) := ⟨fun h => h.2, fun h => ⟨ho, h⟩⟩
    simp only [hk]
    have c45 : (⟨#[45]⟩ : ByteArray) = bs [45] := rfl
    by_cases hs : q.num < 0
    · have hmax : IntKind.i64.max = 9223372036854775807 := rfl
      have m1 : ((1 + (decL q.num.natAbs).length : Nat) : Int) ≤ IntKind.i64.max := by rw [hmax]; omega
      simp only [go_sem, cRat_Num_r3, cRat_Num_r5, cRat_Num_r6, bs_size, q1, decide_eq_true hs, c45, bs_append, m1]
      have := fun e e1 e4 => num_fin (q := q) hn hd ho (S := 45 :: decL q.num.natAbs) (by rw [if_pos hs]; rfl) (e := e) e1 e4
      rw [decide_eq_true hs] at this
      refine this _ ?_ ?_ <;> simp only [go_sem]
    · simp only [go_sem, cRat_Num_r3, cRat_Num_r5, cRat_Num_r6, bs_size, q1, decide_eq_false hs]
      have := fun e e1 e4 => num_fin (q := q) hn hd ho (S := decL q.num.natAbs) (by rw [if_neg hs]; rfl) (e := e) e1 e4
      rw [decide_eq_false hs] at this
      refine this _ ?_ ?_ <;> simp only [go_sem]
  · have q1 : (4000 : Int) < ((decL q.num.natAbs).length : Int) := by omega
    have hk : ¬ NumOk q := fun h => ho h.1
    rw [if_neg hk]
    simp only [go_sem, cRat_Num_r3, cRat_Num_r4, bs_size, q1]
    first | exact ⟨trivial, trivial⟩ | rfl
end GoAbs
namespace GoAbs
open Go Go.Proofs
def cslices_Repeat_r1 : List IOp := [oI 4 (.mv (.c .nils)) 0]
def cslices_Repeat_r2 : List IOp := [oI 9 (.mv (.t 1)) 0, oI 10 (.bin .lss (.t 9) (cI 0)) 0]
def cslices_Repeat_r3 : List IOp := [oI 11 .bad 0, ⟨none, .bad, 0, [], [], none⟩]
def cslices_Repeat_r4 : List IOp := [oI 13 (.mv (.t 0)) 0, oI 14 (.len (.t 13)) 0, oI 15 (.cvi .u64 (.t 14)) 0, oI 16 (.mv (.t 1)) 0, oI 17 (.cvi .u64 (.t 16)) 0, oI 18 (.call 132 [.t 15, .t 17]) 0, oI 12 (.mv (.t 18)) 0, oI 19 (.ext 0 (.t 12)) 0, oI 20 (.ext 1 (.t 12)) 0, oI 5 (.mv (.t 19)) 0, oI 6 (.mv (.t 20)) 0]
def cslices_Repeat_r5 : List IOp := [oI 21 (.mv (.t 5)) 0, oI 22 (.bin .gtr (.t 21) (.c (.int .u64 0))) 0, oI 23 (.mv (.t 22)) 0, ⟨some 24, .mv (.t 6), 0, [], [], some (23, false)⟩, ⟨some 25, .bin .gtr (.t 24) (.c (.int .u64 9223372036854775807)), 0, [], [], some (23, false)⟩, oI 26 (.pick (.t 23) (.c (.bool true)) (.t 25)) 0]
def cslices_Repeat_r6 : List IOp := [oI 27 .bad 0, ⟨none, .bad, 0, [], [], none⟩]
def cslices_Repeat_r7 : List IOp := [oI 28 (.mv (.t 6)) 0, oI 29 (.cvi .i64 (.t 28)) 0, oI 30 (.mks (some 4) 64 [.bool false, .nils, .bool false, .nils] (.t 29) (.t 29)) 0, oI 7 (.mv (.t 30)) 1]
def cslices_Repeat_r8 : List IOp := [oI 31 (.mv (.t 7)) 0, oI 32 (.mv (.t 0)) 0, oI 33 (.cpy 4 (.t 31) (.t 32)) 0, oI 8 (.mv (.t 33)) 0]
def cslices_Repeat_r9 : List IOp := [oI 34 (.mv (.t 8)) 0, oI 35 (.mv (.t 7)) 0, oI 36 (.len (.t 35)) 0, oI 37 (.bin .lss (.t 34) (.t 36)) 0]
def cslices_Repeat_r10 : List IOp := [oI 38 (.mv (.t 8)) 0, oI 39 (.mv (.t 7)) 0, oI 40 (.mv (.t 8)) 0, oI 41 (.slc 4 (.t 39) (some (.t 40)) none) 0, oI 42 (.mv (.t 7)) 0, oI 43 (.mv (.t 8)) 0, oI 44 (.slc 4 (.t 42) none (some (.t 43))) 0, oI 45 (.cpy 4 (.t 41) (.t 44)) 0, oI 46 (.bin .add (.t 38) (.t 45)) 0, oI 8 (.mv (.t 46)) 0]
@[go_sem ↓] theorem cslices_Repeat_r10_k : autoK cslices_Repeat_r10 = (0, 1) := by kernel_rfl
@[go_sem] theorem cslices_Repeat_r10_k1 : autoK [oI 38 (.mv (.t 8)) 0, oI 39 (.mv (.t 7)) 0, oI 40 (.mv (.t 8)) 0, oI 41 (.slc 4 (.t 39) (some (.t 40)) none) 0, oI 42 (.mv (.t 7)) 0, oI 43 (.mv (.t 8)) 0, oI 44 (.slc 4 (.t 42) none (some (.t 43))) 0, oI 45 (.cpy 4 (.t 41) (.t 44)) 0, oI 46 (.bin .add (.t 38) (.t 45)) 0, oI 8 (.mv (.t 46)) 0] = (0, 1) := cslices_Repeat_r10_k
def cslices_Repeat_L1 : CC := .seq (.seq (.rg false cslices_Repeat_r9) (.cond (.t 37) .skip (.exit 0))) (.block 1 (.rg true cslices_Repeat_r10))
def cslices_Repeat_r11 : List IOp := [oI 47 (.mv (.t 7)) 0, oI 4 (.mv (.t 47)) 0]
def cslices_Repeat : CC := .seq (.rg false cslices_Repeat_r1) (.seq (.seq (.rg false cslices_Repeat_r2) (.cond (.t 10) (.rg false cslices_Repeat_r3) .skip)) (.seq (.rg false cslices_Repeat_r4) (.seq (.seq (.rg false cslices_Repeat_r5) (.cond (.t 26) (.rg false cslices_Repeat_r6) .skip)) (.seq (.rg false cslices_Repeat_r7) (.seq (.rg false cslices_Repeat_r8) (.seq (.block 0 (.loop cslices_Repeat_L1)) (.seq (.rg false cslices_Repeat_r11) .ret)))))))
abbrev n_slices_Repeat : Nat := 99
theorem ok_slices_Repeat : fnOk Tryz.prog 99 = some (48, cslices_Repeat, [.tmp 4]) := by kernel_rfl
def cbits_Mul_r1 : List IOp := [oI 4 (.mv (.c (.int .u64 0))) 0, oI 5 (.mv (.c (.int .u64 0))) 0]
def cbits_Mul_r2 : List IOp := [oI 11 (.mv (.t 0)) 0, oI 12 (.cvi .u32 (.t 11)) 0, oI 13 (.mv (.t 1)) 0, oI 14 (.cvi .u32 (.t 13)) 0, oI 15 (.call 153 [.t 12, .t 14]) 0, oI 10 (.mv (.t 15)) 0, oI 16 (.ext 0 (.t 10)) 0, oI 17 (.ext 1 (.t 10)) 0, oI 6 (.mv (.t 16)) 0, oI 7 (.mv (.t 17)) 0]
def cbits_Mul_r3 : List IOp := [oI 18 (.mv (.t 6)) 0, oI 19 (.cvi .u64 (.t 18)) 0, oI 20 (.mv (.t 7)) 0, oI 21 (.cvi .u64 (.t 20)) 0, oI 4 (.mv (.t 19)) 0, oI 5 (.mv (.t 21)) 0]
def cbits_Mul_r4 : List IOp := [oI 23 (.mv (.t 0)) 0, oI 24 (.mv (.t 1)) 0, oI 25 (.call 154 [.t 23, .t 24]) 0, oI 22 (.mv (.t 25)) 0, oI 26 (.ext 0 (.t 22)) 0, oI 27 (.ext 1 (.t 22)) 0, oI 8 (.mv (.t 26)) 0, oI 9 (.mv (.t 27)) 0]
def cbits_Mul_r5 : List IOp := [oI 28 (.mv (.t 8)) 0, oI 29 (.mv (.t 9)) 0, oI 4 (.mv (.t 28)) 0, oI 5 (.mv (.t 29)) 0]
def cbits_Mul : CC := .seq (.rg false cbits_Mul_r1) (.seq (.cond (.c (.bool false)) (.seq (.rg false cbits_Mul_r2) (.seq (.rg false cbits_Mul_r3) .ret)) .skip) (.seq (.rg false cbits_Mul_r4) (.seq (.rg false cbits_Mul_r5) .ret)))
abbrev n_bits_Mul : Nat := 132
theorem ok_bits_Mul : fnOk Tryz.prog 132 = some (30, cbits_Mul, [.tmp 4, .tmp 5]) := by kernel_rfl
def cbits_Mul64_r1 : List IOp := [oI 4 (.mv (.c (.int .u64 0))) 0, oI 5 (.mv (.c (.int .u64 0))) 0]
def cbits_Mul64_r2 : List IOp := [oI 14 (.mv (.t 0)) 0, oI 15 (.bin .and (.t 14) (.c (.int .u64 4294967295))) 0, oI 6 (.mv (.t 15)) 0]
def cbits_Mul64_r3 : List IOp := [oI 16 (.mv (.t 0)) 0, oI 17 (.bin .shr (.t 16) (.c (.int .u64 32))) 0, oI 7 (.mv (.t 17)) 0]
def cbits_Mul64_r4 : List IOp := [oI 18 (.mv (.t 1)) 0, oI 19 (.bin .and (.t 18) (.c (.int .u64 4294967295))) 0, oI 8 (.mv (.t 19)) 0]
def cbits_Mul64_r5 : List IOp := [oI 20 (.mv (.t 1)) 0, oI 21 (.bin .shr (.t 20) (.c (.int .u64 32))) 0, oI 9 (.mv (.t 21)) 0]
def cbits_Mul64_r6 : List IOp := [oI 22 (.mv (.t 6)) 0, oI 23 (.mv (.t 8)) 0, oI 24 (.bin .mul (.t 22) (.t 23)) 0, oI 10 (.mv (.t 24)) 0]
def cbits_Mul64_r7 : List IOp := [oI 25 (.mv (.t 7)) 0, oI 26 (.mv (.t 8)) 0, oI 27 (.bin .mul (.t 25) (.t 26)) 0, oI 28 (.mv (.t 10)) 0, oI 29 (.bin .shr (.t 28) (.c (.int .u64 32))) 0, oI 30 (.bin .add (.t 27) (.t 29)) 0, oI 11 (.mv (.t 30)) 0]
def cbits_Mul64_r8 : List IOp := [oI 31 (.mv (.t 11)) 0, oI 32 (.bin .and (.t 31) (.c (.int .u64 4294967295))) 0, oI 12 (.mv (.t 32)) 0]
def cbits_Mul64_r9 : List IOp := [oI 33 (.mv (.t 11)) 0, oI 34 (.bin .shr (.t 33) (.c (.int .u64 32))) 0, oI 13 (.mv (.t 34)) 0]
def cbits_Mul64_r10 : List IOp := [oI 35 (.mv (.t 12)) 0, oI 36 (.mv (.t 6)) 0, oI 37 (.mv (.t 9)) 0, oI 38 (.bin .mul (.t 36) (.t 37)) 0, oI 39 (.bin .add (.t 35) (.t 38)) 0, oI 12 (.mv (.t 39)) 0]
def cbits_Mul64_r11 : List IOp := [oI 40 (.mv (.t 7)) 0, oI 41 (.mv (.t 9)) 0, oI 42 (.bin .mul (.t 40) (.t 41)) 0, oI 43 (.mv (.t 13)) 0, oI 44 (.bin .add (.t 42) (.t 43)) 0, oI 45 (.mv (.t 12)) 0, oI 46 (.bin .shr (.t 45) (.c (.int .u64 32))) 0, oI 47 (.bin .add (.t 44) (.t 46)) 0, oI 4 (.mv (.t 47)) 0]
def cbits_Mul64_r12 : List IOp := [oI 48 (.mv (.t 0)) 0, oI 49 (.mv (.t 1)) 0, oI 50 (.bin .mul (.t 48) (.t 49)) 0, oI 5 (.mv (.t 50)) 0]
def cbits_Mul64 : CC := .seq (.rg false cbits_Mul64_r1) (.seq (.rg false cbits_Mul64_r2) (.seq (.rg false cbits_Mul64_r3) (.seq (.rg false cbits_Mul64_r4) (.seq (.rg false cbits_Mul64_r5) (.seq (.rg false cbits_Mul64_r6) (.seq (.rg false cbits_Mul64_r7) (.seq (.rg false cbits_Mul64_r8) (.seq (.rg false cbits_Mul64_r9) (.seq (.rg false cbits_Mul64_r10) (.seq (.rg false cbits_Mul64_r11) (.seq (.rg false cbits_Mul64_r12) .ret)))))))))))
abbrev n_bits_Mul64 : Nat := 154
theorem ok_bits_Mul64 : fnOk Tryz.prog 154 = some (51, cbits_Mul64, [.tmp 4, .tmp 5]) := by kernel_rfl
def clinear_Zero_r1 : List IOp := [oI 4 (.mv (.c .nils)) 0]
def clinear_Zero_r2 : List IOp := [oI 7 (.mv (.t 0)) 0, oI 8 (.mks none 24 [.nils] (.t 7) (.t 7)) 0, oI 5 (.mv (.t 8)) 1]
def clinear_Zero_r3 : List IOp := [oI 9 (.mv (.t 5)) 0, oI 10 (.len (.t 9)) 0, oI 11 (.mv (cI 0)) 0]
def clinear_Zero_r4 : List IOp := [oI 12 (.bin .lss (.t 11) (.t 10)) 0]
def clinear_Zero_r5 : List IOp := [oI 13 (.mv (.t 11)) 0, oI 6 (.mv (.t 13)) 0]
def clinear_Zero_r6 : List IOp := [oI 14 (.mv (.t 5)) 0, oI 15 (.mv (.t 6)) 0, oI 16 (.call 77 [cI 0]) 0, oI 17 (.bsl (some 4) 1 [.bool false, .nils, .bool false, .nils] [(0, .t 16)]) 0, oI 18 (.mv (.t 1)) 1, oI 19 (.call 99 [.t 17, .t 18]) 1, oI 20 (.idx 1 (.t 14) (.t 15)) 1, ⟨none, .st 1 (.t 20) (.t 19), 1, [], [], none⟩]
def clinear_Zero_r7 : List IOp := [oI 21 (.bin .add (.t 11) (cI 1)) 0, oI 11 (.mv (.t 21)) 0]
def clinear_Zero_L1 : CC := .seq (.rg false clinear_Zero_r4) (.seq (.cond (.t 12) .skip (.exit 0)) (.seq (.block 1 (.seq (.rg false clinear_Zero_r5) (.rg false clinear_Zero_r6))) (.rg false clinear_Zero_r7)))
def clinear_Zero_r8 : List IOp := [oI 22 (.mv (.t 5)) 0, oI 4 (.mv (.t 22)) 0]
def clinear_Zero : CC := .seq (.rg false clinear_Zero_r1) (.seq (.rg false clinear_Zero_r2) (.seq (.seq (.rg false clinear_Zero_r3) (.block 0 (.loop clinear_Zero_L1))) (.seq (.rg false clinear_Zero_r8) .ret)))
abbrev n_linear_Zero : Nat := 111
theorem ok_linear_Zero : fnOk Tryz.prog 111 = some (23, clinear_Zero, [.tmp 4]) := by kernel_rfl
def cMatrix_Add_r1 : List IOp := [oI 7 (.box (.t 3)) 0]
def cMatrix_Add_r2 : List IOp := [oI 8 (.mv (.t 0)) 0, oI 9 (.mv (.t 1)) 0, oI 10 (.idx 1 (.t 8) (.t 9)) 0, oI 11 (.ld none (.t 10)) 0, oI 12 (.mv (.t 2)) 0, oI 13 (.mv (.t 0)) 0, oI 14 (.mv (.t 1)) 0, oI 15 (.idx 1 (.t 13) (.t 14)) 0, oI 16 (.ld none (.t 15)) 0, oI 17 (.mv (.t 2)) 0, oI 18 (.idx 4 (.t 16) (.t 17)) 0, oI 19 (.ld (some 4) (.t 18)) 0, oI 20 (.ld (some 4) (.t 7)) 0, oI 21 (.call 94 [.t 19, .t 20]) 0, oI 22 (.idx 4 (.t 11) (.t 12)) 0, ⟨none, .st 4 (.t 22) (.t 21), 0, [], [], none⟩]
@[go_sem ↓] theorem cMatrix_Add_r2_k : autoK cMatrix_Add_r2 = (0, 1) := by kernel_rfl
@[go_sem] theorem cMatrix_Add_r2_k1 : autoK [oI 8 (.mv (.t 0)) 0, oI 9 (.mv (.t 1)) 0, oI 10 (.idx 1 (.t 8) (.t 9)) 0, oI 11 (.ld none (.t 10)) 0, oI 12 (.mv (.t 2)) 0, oI 13 (.mv (.t 0)) 0, oI 14 (.mv (.t 1)) 0, oI 15 (.idx 1 (.t 13) (.t 14)) 0, oI 16 (.ld none (.t 15)) 0, oI 17 (.mv (.t 2)) 0, oI 18 (.idx 4 (.t 16) (.t 17)) 0, oI 19 (.ld (some 4) (.t 18)) 0, oI 20 (.ld (some 4) (.t 7)) 0, oI 21 (.call 94 [.t 19, .t 20]) 0, oI 22 (.idx 4 (.t 11) (.t 12)) 0, ⟨none, .st 4 (.t 22) (.t 21), 0, [], [], none⟩] = (0, 1) := cMatrix_Add_r2_k
def cMatrix_Add : CC := .seq (.rg false cMatrix_Add_r1) (.rg true cMatrix_Add_r2)
abbrev n_Matrix_Add : Nat := 112
theorem ok_Matrix_Add : fnOk Tryz.prog 112 = some (23, cMatrix_Add, []) := by kernel_rfl
def cMatrix_triangle_r1 : List IOp := [oI 2 (.alloc [.bool false, .nils, .bool false, .nils]) 0]
def cMatrix_triangle_r2 : List IOp := [oI 9 (.call 77 [cI 1]) 0, oI 3 (.alloc [.bool false, .nils, .bool false, .nils]) 0, ⟨none, .st 4 (.t 3) (.t 9), 1, [], [], none⟩]
def cMatrix_triangle_r3 : List IOp := [oI 10 (.mv (.t 0)) 0, oI 11 (.len (.t 10)) 0, oI 12 (.mv (cI 0)) 0]
def cMatrix_triangle_r4 : List IOp := [oI 13 (.bin .lss (.t 12) (.t 11)) 0]
def cMatrix_triangle_r5 : List IOp := [oI 14 (.mv (.t 12)) 0, oI 4 (.mv (.t 14)) 0]
def cMatrix_triangle_r6 : List IOp := [oI 15 (.mv (.t 4)) 0, oI 5 (.mv (.t 15)) 0]
def cMatrix_triangle_r7 : List IOp := [oI 16 (.mv (.t 5)) 0, oI 17 (.mv (.t 0)) 0, oI 18 (.len (.t 17)) 0, oI 19 (.bin .lss (.t 16) (.t 18)) 0, oI 20 (.mv (.t 19)) 0, ⟨some 21, .mv (.t 0), 0, [], [], some (20, true)⟩, ⟨some 22, .mv (.t 5), 0, [], [], some (20, true)⟩, ⟨some 23, .idx 1 (.t 21) (.t 22), 0, [], [], some (20, true)⟩, ⟨some 24, .ld none (.t 23), 0, [], [], some (20, true)⟩, ⟨some 25, .mv (.t 4), 0, [], [], some (20, true)⟩, ⟨some 26, .idx 4 (.t 24) (.t 25), 0, [], [], some (20, true)⟩, ⟨some 27, .ld (some 4) (.t 26), 0, [], [], some (20, true)⟩, ⟨some 28, .call 95 [.t 27], 0, [], [], some (20, true)⟩, ⟨some 29, .bin .eql (.t 28) (cI 0), 0, [], [], some (20, true)⟩, oI 30 (.pick (.t 20) (.t 29) (.c (.bool false))) 0]
def cMatrix_triangle_r8 : List IOp := [oI 31 (.mv (.t 5)) 0, oI 32 (.bin .add (.t 31) (cI 1)) 0, oI 5 (.mv (.t 32)) 0]
def cMatrix_triangle_L1 : CC := .seq (.seq (.rg false cMatrix_triangle_r7) (.cond (.t 30) .skip (.exit 2))) (.block 3 (.rg false cMatrix_triangle_r8))
def cMatrix_triangle_r9 : List IOp := [oI 33 (.mv (.t 5)) 0, oI 34 (.mv (.t 0)) 0, oI 35 (.len (.t 34)) 0, oI 36 (.bin .eql (.t 33) (.t 35)) 0]
def cMatrix_triangle_r10 : List IOp := [oI 37 (.call 77 [cI 0]) 0, ⟨none, .st 4 (.t 2) (.t 37), 0, [], [], none⟩]
def cMatrix_triangle_r11 : List IOp := [oI 38 (.mv (.t 5)) 0, oI 39 (.mv (.t 4)) 0, oI 40 (.bin .neq (.t 38) (.t 39)) 0]
def cMatrix_triangle_r12 : List IOp := [oI 41 (.mv (.t 0)) 0, oI 42 (.mv (.t 5)) 0, oI 43 (.mv (.t 0)) 0, oI 44 (.mv (.t 4)) 0, oI 45 (.mv (.t 0)) 0, oI 46 (.mv (.t 4)) 0, oI 47 (.idx 1 (.t 45) (.t 46)) 0, oI 48 (.ld none (.t 47)) 0, oI 49 (.mv (.t 0)) 0, oI 50 (.mv (.t 5)) 0, oI 51 (.idx 1 (.t 49) (.t 50)) 0, oI 52 (.ld none (.t 51)) 0, oI 53 (.idx 1 (.t 41) (.t 42)) 0, ⟨none, .st 1 (.t 53) (.t 48), 0, [], [], none⟩, oI 54 (.idx 1 (.t 43) (.t 44)) 0, ⟨none, .st 1 (.t 54) (.t 52), 0, [], [], none⟩]
@[go_sem ↓] theorem cMatrix_triangle_r12_k : autoK cMatrix_triangle_r12 = (0, 1) := by kernel_rfl
@[go_sem] theorem cMatrix_triangle_r12_k1 : autoK [oI 41 (.mv (.t 0)) 0, oI 42 (.mv (.t 5)) 0, oI 43 (.mv (.t 0)) 0, oI 44 (.mv (.t 4)) 0, oI 45 (.mv (.t 0)) 0, oI 46 (.mv (.t 4)) 0, oI 47 (.idx 1 (.t 45) (.t 46)) 0, oI 48 (.ld none (.t 47)) 0, oI 49 (.mv (.t 0)) 0, oI 50 (.mv (.t 5)) 0, oI 51 (.idx 1 (.t 49) (.t 50)) 0, oI 52 (.ld none (.t 51)) 0, oI 53 (.idx 1 (.t 41) (.t 42)) 0, ⟨none, .st 1 (.t 53) (.t 48), 0, [], [], none⟩, oI 54 (.idx 1 (.t 43) (.t 44)) 0, ⟨none, .st 1 (.t 54) (.t 52), 0, [], [], none⟩] = (0, 1) := cMatrix_triangle_r12_k
def cMatrix_triangle_r13 : List IOp := [oI 55 (.ld (some 4) (.t 3)) 0, oI 56 (.call 113 [.t 55]) 0, ⟨none, .st 4 (.t 3) (.t 56), 0, [], [], none⟩]
def cMatrix_triangle_r14 : List IOp := [oI 57 (.ld (some 4) (.t 3)) 0, oI 58 (.mv (.t 0)) 0, oI 59 (.mv (.t 4)) 0, oI 60 (.idx 1 (.t 58) (.t 59)) 0, oI 61 (.ld none (.t 60)) 0, oI 62 (.mv (.t 4)) 0, oI 63 (.idx 4 (.t 61) (.t 62)) 0, oI 64 (.ld (some 4) (.t 63)) 0, oI 65 (.callw 87 [.t 57, .t 64]) 0, ⟨none, .st 4 (.t 3) (.t 65), 0, [], [], none⟩]
@[go_sem ↓] theorem cMatrix_triangle_r14_k : autoK cMatrix_triangle_r14 = (0, 1) := by kernel_rfl
@[go_sem] theorem cMatrix_triangle_r14_k1 : autoK [oI 57 (.ld (some 4) (.t 3)) 0, oI 58 (.mv (.t 0)) 0, oI 59 (.mv (.t 4)) 0, oI 60 (.idx 1 (.t 58) (.t 59)) 0, oI 61 (.ld none (.t 60)) 0, oI 62 (.mv (.t 4)) 0, oI 63 (.idx 4 (.t 61) (.t 62)) 0, oI 64 (.ld (some 4) (.t 63)) 0, oI 65 (.callw 87 [.t 57, .t 64]) 0, ⟨none, .st 4 (.t 3) (.t 65), 0, [], [], none⟩] = (0, 1) := cMatrix_triangle_r14_k
def cMatrix_triangle_r15 : List IOp := [oI 66 (.mv (.t 4)) 0, oI 67 (.bin .add (.t 66) (cI 1)) 0, oI 6 (.mv (.t 67)) 0]
def cMatrix_triangle_r16 : List IOp := [oI 68 (.mv (.t 6)) 0, oI 69 (.mv (.t 0)) 0, oI 70 (.len (.t 69)) 0, oI 71 (.bin .lss (.t 68) (.t 70)) 0]
def cMatrix_triangle_r17 : List IOp := [oI 74 (.mv (.t 0)) 0, oI 75 (.mv (.t 6)) 0, oI 76 (.idx 1 (.t 74) (.t 75)) 0, oI 77 (.ld none (.t 76)) 0, oI 78 (.mv (.t 4)) 0, oI 79 (.idx 4 (.t 77) (.t 78)) 0, oI 80 (.ld (some 4) (.t 79)) 0, oI 81 (.call 95 [.t 80]) 0, oI 82 (.bin .eql (.t 81) (cI 0)) 0]
def cMatrix_triangle_r18 : List IOp := [oI 83 (.mv (.t 0)) 0, oI 84 (.mv (.t 6)) 0, oI 85 (.idx 1 (.t 83) (.t 84)) 0, oI 86 (.ld none (.t 85)) 0, oI 87 (.mv (.t 4)) 0, oI 88 (.idx 4 (.t 86) (.t 87)) 0, oI 89 (.ld (some 4) (.t 88)) 0, oI 90 (.mv (.t 0)) 0, oI 91 (.mv (.t 4)) 0, oI 92 (.idx 1 (.t 90) (.t 91)) 0, oI 93 (.ld none (.t 92)) 0, oI 94 (.mv (.t 4)) 0, oI 95 (.idx 4 (.t 93) (.t 94)) 0, oI 96 (.ld (some 4) (.t 95)) 0, oI 97 (.call 78 [.t 89, .t 96]) 0, oI 7 (.alloc [.bool false, .nils, .bool false, .nils]) 0, ⟨none, .st 4 (.t 7) (.t 97), 1, [0], [], none⟩]
@[go_sem ↓] theorem cMatrix_triangle_r18_k : autoK cMatrix_triangle_r18 = (1, 1) := by kernel_rfl
@[go_sem] theorem cMatrix_triangle_r18_k1 : autoK [oI 83 (.mv (.t 0)) 0, oI 84 (.mv (.t 6)) 0, oI 85 (.idx 1 (.t 83) (.t 84)) 0, oI 86 (.ld none (.t 85)) 0, oI 87 (.mv (.t 4)) 0, oI 88 (.idx 4 (.t 86) (.t 87)) 0, oI 89 (.ld (some 4) (.t 88)) 0, oI 90 (.mv (.t 0)) 0, oI 91 (.mv (.t 4)) 0, oI 92 (.idx 1 (.t 90) (.t 91)) 0, oI 93 (.ld none (.t 92)) 0, oI 94 (.mv (.t 4)) 0, oI 95 (.idx 4 (.t 93) (.t 94)) 0, oI 96 (.ld (some 4) (.t 95)) 0, oI 97 (.call 78 [.t 89, .t 96]) 0, oI 7 (.alloc [.bool false, .nils, .bool false, .nils]) 0, ⟨none, .st 4 (.t 7) (.t 97), 1, [0], [], none⟩] = (1, 1) := cMatrix_triangle_r18_k
def cMatrix_triangle_r19 : List IOp := [oI 98 (.mv (.t 4)) 0, oI 8 (.mv (.t 98)) 0]
def cMatrix_triangle_r20 : List IOp := [oI 99 (.mv (.t 8)) 0, oI 100 (.mv (.t 0)) 0, oI 101 (.mv (.t 6)) 0, oI 102 (.idx 1 (.t 100) (.t 101)) 0, oI 103 (.ld none (.t 102)) 0, oI 104 (.len (.t 103)) 0, oI 105 (.bin .lss (.t 99) (.t 104)) 0]
def cMatrix_triangle_r21 : List IOp := [oI 108 (.mv (.t 0)) 0, oI 109 (.mv (.t 6)) 0, oI 110 (.idx 1 (.t 108) (.t 109)) 0, oI 111 (.ld none (.t 110)) 0, oI 112 (.mv (.t 8)) 0, oI 113 (.mv (.t 0)) 0, oI 114 (.mv (.t 6)) 0, oI 115 (.idx 1 (.t 113) (.t 114)) 0, oI 116 (.ld none (.t 115)) 0, oI 117 (.mv (.t 8)) 0, oI 118 (.idx 4 (.t 116) (.t 117)) 0, oI 119 (.ld (some 4) (.t 118)) 0, oI 120 (.ld (some 4) (.t 7)) 0, oI 121 (.mv (.t 0)) 0, oI 122 (.mv (.t 4)) 0, oI 123 (.idx 1 (.t 121) (.t 122)) 0, oI 124 (.ld none (.t 123)) 0, oI 125 (.mv (.t 8)) 0, oI 126 (.idx 4 (.t 124) (.t 125)) 0, oI 127 (.ld (some 4) (.t 126)) 0, oI 128 (.call 87 [.t 120, .t 127]) 0, oI 129 (.call 79 [.t 119, .t 128]) 0, oI 130 (.idx 4 (.t 111) (.t 112)) 0, ⟨none, .st 4 (.t 130) (.t 129), 0, [], [], none⟩]
@[go_sem ↓] theorem cMatrix_triangle_r21_k : autoK cMatrix_triangle_r21 = (0, 1) := by kernel_rfl
@[go_sem] theorem cMatrix_triangle_r21_k1 : autoK [oI 108 (.mv (.t 0)) 0, oI 109 (.mv (.t 6)) 0, oI 110 (.idx 1 (.t 108) (.t 109)) 0, oI 111 (.ld none (.t 110)) 0, oI 112 (.mv (.t 8)) 0, oI 113 (.mv (.t 0)) 0, oI 114 (.mv (.t 6)) 0, oI 115 (.idx 1 (.t 113) (.t 114)) 0, oI 116 (.ld none (.t 115)) 0, oI 117 (.mv (.t 8)) 0, oI 118 (.idx 4 (.t 116) (.t 117)) 0, oI 119 (.ld (some 4) (.t 118)) 0, oI 120 (.ld (some 4) (.t 7)) 0, oI 121 (.mv (.t 0)) 0, oI 122 (.mv (.t 4)) 0, oI 123 (.idx 1 (.t 121) (.t 122)) 0, oI 124 (.ld none (.t 123)) 0, oI 125 (.mv (.t 8)) 0, oI 126 (.idx 4 (.t 124) (.t 125)) 0, oI 127 (.ld (some 4) (.t 126)) 0, oI 128 (.call 87 [.t 120, .t 127]) 0, oI 129 (.call 79 [.t 119, .t 128]) 0, oI 130 (.idx 4 (.t 111) (.t 112)) 0, ⟨none, .st 4 (.t 130) (.t 129), 0, [], [], none⟩] = (0, 1) := cMatrix_triangle_r21_k
def cMatrix_triangle_r22 : List IOp := [oI 106 (.mv (.t 8)) 0, oI 107 (.bin .add (.t 106) (cI 1)) 0, oI 8 (.mv (.t 107)) 0]
def cMatrix_triangle_L2 : CC := .seq (.seq (.rg false cMatrix_triangle_r20) (.cond (.t 105) .skip (.exit 6))) (.seq (.block 7 (.rg true cMatrix_triangle_r21)) (.rg false cMatrix_triangle_r22))
def cMatrix_triangle_r23 : List IOp := [oI 72 (.mv (.t 6)) 0, oI 73 (.bin .add (.t 72) (cI 1)) 0, oI 6 (.mv (.t 73)) 0]
def cMatrix_triangle_L3 : CC := .seq (.seq (.rg false cMatrix_triangle_r16) (.cond (.t 71) .skip (.exit 4))) (.seq (.block 5 (.seq (.seq (.rg false cMatrix_triangle_r17) (.cond (.t 82) (.exit 5) .skip)) (.seq (.rg true cMatrix_triangle_r18) (.seq (.rg false cMatrix_triangle_r19) (.block 6 (.loop cMatrix_triangle_L2)))))) (.rg false cMatrix_triangle_r23))
def cMatrix_triangle_r24 : List IOp := [oI 131 (.bin .add (.t 12) (cI 1)) 0, oI 12 (.mv (.t 131)) 0]
def cMatrix_triangle_L4 : CC := .seq (.rg false cMatrix_triangle_r4) (.seq (.cond (.t 13) .skip (.exit 0)) (.seq (.block 1 (.seq (.rg false cMatrix_triangle_r5) (.seq (.rg false cMatrix_triangle_r6) (.seq (.block 2 (.loop cMatrix_triangle_L1)) (.seq (.seq (.rg false cMatrix_triangle_r9) (.cond (.t 36) (.seq (.rg false cMatrix_triangle_r10) .ret) .skip)) (.seq (.seq (.rg false cMatrix_triangle_r11) (.cond (.t 40) (.seq (.rg true cMatrix_triangle_r12) (.rg false cMatrix_triangle_r13)) .skip)) (.seq (.rg true cMatrix_triangle_r14) (.seq (.rg false cMatrix_triangle_r15) (.block 4 (.loop cMatrix_triangle_L3)))))))))) (.rg false cMatrix_triangle_r24)))
def cMatrix_triangle_r25 : List IOp := [oI 132 (.ld (some 4) (.t 3)) 0, ⟨none, .st 4 (.t 2) (.t 132), 0, [], [], none⟩]
def cMatrix_triangle : CC := .seq (.rg false cMatrix_triangle_r1) (.seq (.rg false cMatrix_triangle_r2) (.seq (.seq (.rg false cMatrix_triangle_r3) (.block 0 (.loop cMatrix_triangle_L4))) (.seq (.rg false cMatrix_triangle_r25) .ret)))
abbrev n_Matrix_triangle : Nat := 114
theorem ok_Matrix_triangle : fnOk Tryz.prog 114 = some (133, cMatrix_triangle, [.cell 2 (some 4)]) := by kernel_rfl
def cMatrix_Det_r1 : List IOp := [oI 2 (.alloc [.bool false, .nils, .bool false, .nils]) 0]
def cMatrix_Det_r2 : List IOp := [oI 3 (.mv (.t 0)) 0, oI 4 (.call 114 [.t 3]) 0, ⟨none, .st 4 (.t 2) (.t 4), 0, [], [], none⟩]
def cMatrix_Det : CC := .seq (.rg false cMatrix_Det_r1) (.seq (.rg false cMatrix_Det_r2) .ret)
abbrev n_Matrix_Det : Nat := 64
theorem ok_Matrix_Det : fnOk Tryz.prog 64 = some (5, cMatrix_Det, [.cell 2 (some 4)]) := by kernel_rfl
def cnet_matrix_r1 : List IOp := [oI 1 (.box (.t 0)) 0, oI 2 (.mv (.c .nils)) 1]
def cnet_matrix_r2 : List IOp := [oI 9 (.fa 0 (.t 1)) 0, oI 10 (.ld none (.t 9)) 0, oI 11 (.bin .sub (.t 10) (cI 1)) 0, oI 12 (.fa 0 (.t 1)) 0, oI 13 (.ld none (.t 12)) 0, oI 14 (.bin .sub (.t 13) (cI 1)) 0, oI 15 (.call 111 [.t 11, .t 14]) 0, oI 3 (.mv (.t 15)) 0]
def cnet_matrix_r3 : List IOp := [oI 16 (.fa 1 (.t 1)) 0, oI 17 (.ld none (.t 16)) 0, oI 18 (.len (.t 17)) 0, oI 19 (.mv (cI 0)) 0]
def cnet_matrix_r4 : List IOp := [oI 20 (.bin .lss (.t 19) (.t 18)) 0]
def cnet_matrix_r5 : List IOp := [oI 21 (.mv (.t 19)) 0, oI 22 (.idx 2 (.t 17) (.t 19)) 0, oI 23 (.ld (some 2) (.t 22)) 0, oI 5 (.alloc [.int .i64 0, .int .i64 0]) 0, oI 4 (.mv (.t 21)) 1, ⟨none, .st 2 (.t 5) (.t 23), 1, [], [], none⟩]
def cnet_matrix_r6 : List IOp := [oI 24 (.fa 2 (.t 1)) 0, oI 25 (.ld none (.t 24)) 0, oI 26 (.mv (.t 4)) 0, oI 27 (.idx 4 (.t 25) (.t 26)) 0, oI 28 (.ld (some 4) (.t 27)) 0, oI 6 (.alloc [.bool false, .nils, .bool false, .nils]) 0, ⟨none, .st 4 (.t 6) (.t 28), 1, [], [], none⟩]
def cnet_matrix_r7 : List IOp := [oI 29 (.fa 0 (.t 5)) 0, oI 30 (.ld none (.t 29)) 0, oI 31 (.fa 1 (.t 5)) 0, oI 32 (.ld none (.t 31)) 0, oI 33 (.build [.int .i64 0, .int .i64 0] [(0, 1, .t 30), (1, 1, .t 32)]) 0, oI 34 (.fa 1 (.t 5)) 0, oI 35 (.ld none (.t 34)) 0, oI 36 (.fa 0 (.t 5)) 0, oI 37 (.ld none (.t 36)) 0, oI 38 (.build [.int .i64 0, .int .i64 0] [(0, 1, .t 35), (1, 1, .t 37)]) 0, oI 39 (.bsl (some 2) 2 [.int .i64 0, .int .i64 0] [(0, .t 33), (1, .t 38)]) 0, oI 40 (.len (.t 39)) 1, oI 41 (.mv (cI 0)) 1]
def cnet_matrix_r8 : List IOp := [oI 42 (.bin .lss (.t 41) (.t 40)) 0]
def cnet_matrix_r9 : List IOp := [oI 43 (.idx 2 (.t 39) (.t 41)) 0, oI 44 (.ld (some 2) (.t 43)) 0, oI 8 (.alloc [.int .i64 0, .int .i64 0]) 0, ⟨none, .st 2 (.t 8) (.t 44), 1, [], [], none⟩]
def cnet_matrix_r10 : List IOp := [oI 45 (.fa 0 (.t 8)) 0, oI 46 (.ld none (.t 45)) 0, oI 47 (.bin .eql (.t 46) (cI 0)) 0]
def cnet_matrix_r11 : List IOp := [oI 48 (.mv (.t 3)) 0, oI 49 (.fa 0 (.t 8)) 0, oI 50 (.ld none (.t 49)) 0, oI 51 (.bin .sub (.t 50) (cI 1)) 0, oI 52 (.fa 0 (.t 8)) 0, oI 53 (.ld none (.t 52)) 0, oI 54 (.bin .sub (.t 53) (cI 1)) 0, oI 55 (.ld (some 4) (.t 6)) 0, oI 56 (.call 112 [.t 48, .t 51, .t 54, .t 55]) 0]
def cnet_matrix_r12 : List IOp := [oI 57 (.fa 1 (.t 8)) 0, oI 58 (.ld none (.t 57)) 0, oI 59 (.bin .neq (.t 58) (cI 0)) 0]
def cnet_matrix_r13 : List IOp := [oI 60 (.mv (.t 3)) 0, oI 61 (.fa 0 (.t 8)) 0, oI 62 (.ld none (.t 61)) 0, oI 63 (.bin .sub (.t 62) (cI 1)) 0, oI 64 (.fa 1 (.t 8)) 0, oI 65 (.ld none (.t 64)) 0, oI 66 (.bin .sub (.t 65) (cI 1)) 0, oI 67 (.ld (some 4) (.t 6)) 0, oI 68 (.call 113 [.t 67]) 0, oI 69 (.callw 112 [.t 60, .t 63, .t 66, .t 68]) 0]
@[go_sem ↓] theorem cnet_matrix_r13_k : autoK cnet_matrix_r13 = (0, 0) := by kernel_rfl
@[go_sem] theorem cnet_matrix_r13_k1 : autoK [oI 60 (.mv (.t 3)) 0, oI 61 (.fa 0 (.t 8)) 0, oI 62 (.ld none (.t 61)) 0, oI 63 (.bin .sub (.t 62) (cI 1)) 0, oI 64 (.fa 1 (.t 8)) 0, oI 65 (.ld none (.t 64)) 0, oI 66 (.bin .sub (.t 65) (cI 1)) 0, oI 67 (.ld (some 4) (.t 6)) 0, oI 68 (.call 113 [.t 67]) 0, oI 69 (.callw 112 [.t 60, .t 63, .t 66, .t 68]) 0] = (0, 0) := cnet_matrix_r13_k
def cnet_matrix_r14 : List IOp := [oI 70 (.bin .add (.t 41) (cI 1)) 0, oI 41 (.mv (.t 70)) 0]
def cnet_matrix_L1 : CC := .seq (.rg false cnet_matrix_r8) (.seq (.cond (.t 42) .skip (.exit 2)) (.seq (.block 3 (.seq (.rg false cnet_matrix_r9) (.seq (.seq (.rg false cnet_matrix_r10) (.cond (.t 47) (.exit 3) .skip)) (.seq (.rg false cnet_matrix_r11) (.seq (.rg false cnet_matrix_r12) (.cond (.t 59) (.rg true cnet_matrix_r13) .skip)))))) (.rg false cnet_matrix_r14)))
def cnet_matrix_r15 : List IOp := [oI 71 (.bin .add (.t 19) (cI 1)) 0, oI 19 (.mv (.t 71)) 0]
def cnet_matrix_L2 : CC := .seq (.rg false cnet_matrix_r4) (.seq (.cond (.t 20) .skip (.exit 0)) (.seq (.block 1 (.seq (.rg false cnet_matrix_r5) (.seq (.rg false cnet_matrix_r6) (.seq (.rg false cnet_matrix_r7) (.block 2 (.loop cnet_matrix_L1)))))) (.rg false cnet_matrix_r15)))
def cnet_matrix_r16 : List IOp := [oI 72 (.mv (.t 3)) 0, oI 2 (.mv (.t 72)) 0]
def cnet_matrix : CC := .seq (.rg false cnet_matrix_r1) (.seq (.rg false cnet_matrix_r2) (.seq (.seq (.rg false cnet_matrix_r3) (.block 0 (.loop cnet_matrix_L2))) (.seq (.rg false cnet_matrix_r16) .ret)))
abbrev n_net_matrix : Nat := 63
theorem ok_net_matrix : fnOk Tryz.prog 63 = some (73, cnet_matrix, [.tmp 2]) := by kernel_rfl
def cspring_Trees_r1 : List IOp := [oI 4 (.mv (.c (.str ⟨#[]⟩))) 0, oI 5 (.mv (cI 0)) 0]
def cspring_Trees_r2 : List IOp := [oI 9 (.mv (.t 0)) 0, oI 10 (.mv (.t 1)) 0, oI 11 (.call 62 [.t 9, .t 10]) 0, oI 8 (.mv (.t 11)) 0, oI 12 (.ext 0 (.t 8)) 0, oI 13 (.ext 1 (.t 8)) 0, oI 6 (.alloc [.int .i64 0, .nils, .nils]) 0, ⟨none, .st 3 (.t 6) (.t 12), 1, [], [], none⟩, oI 7 (.mv (.t 13)) 1]
def cspring_Trees_r3 : List IOp := [oI 14 (.mv (.t 7)) 0, oI 15 (.bin .neq (.t 14) (cI 0)) 0]
def cspring_Trees_r4 : List IOp := [oI 16 (.mv (.t 7)) 0, oI 4 (.mv (.c (.str ⟨#[]⟩))) 0, oI 5 (.mv (.t 16)) 0]
def cspring_Trees_r5 : List IOp := [oI 17 (.ld (some 3) (.t 6)) 0, oI 18 (.call 63 [.t 17]) 0, oI 19 (.call 64 [.t 18]) 0, oI 20 (.call 65 [.t 19]) 0, oI 21 (.ext 0 (.t 20)) 0, oI 22 (.ext 1 (.t 20)) 0, oI 4 (.mv (.t 21)) 0, oI 5 (.mv (.t 22)) 0]
def cspring_Trees : CC := .seq (.rg false cspring_Trees_r1) (.seq (.rg false cspring_Trees_r2) (.seq (.seq (.rg false cspring_Trees_r3) (.cond (.t 15) (.seq (.rg false cspring_Trees_r4) .ret) .skip)) (.seq (.rg false cspring_Trees_r5) .ret)))
abbrev n_spring_Trees : Nat := 16
theorem ok_spring_Trees : fnOk Tryz.prog 16 = some (23, cspring_Trees, [.tmp 4, .tmp 5]) := by kernel_rfl
def cspring_read_r1 : List IOp := [oI 4 (.alloc [.int .i64 0, .nils, .nils]) 0, oI 5 (.mv (cI 0)) 1]
def cspring_read_r2 : List IOp := [oI 13 (.mv (.t 0)) 0, oI 14 (.build [.int .i64 0, .nils, .nils] [(0, 1, .t 13)]) 0, oI 6 (.alloc [.int .i64 0, .nils, .nils]) 0, ⟨none, .st 3 (.t 6) (.t 14), 1, [], [], none⟩]
def cspring_read_r3 : List IOp := [oI 15 (.mv (.t 0)) 0, oI 16 (.bin .geq (.t 15) (cI 2)) 0, oI 17 (.mv (.t 16)) 0, ⟨some 18, .mv (.t 0), 0, [], [], some (17, true)⟩, ⟨some 19, .bin .leq (.t 18) (cI 10), 0, [], [], some (17, true)⟩, oI 20 (.pick (.t 17) (.t 19) (.c (.bool false))) 0, oI 21 (.mv (.t 20)) 0, ⟨some 22, .mv (.t 1), 0, [], [], some (21, true)⟩, ⟨some 23, .len (.t 22), 0, [], [], some (21, true)⟩, ⟨some 24, .bin .leq (.t 23) (cI 40), 0, [], [], some (21, true)⟩, oI 25 (.pick (.t 21) (.t 24) (.c (.bool false))) 0, oI 7 (.mv (.c (.bool true))) 0, oI 8 (.mv (.t 25)) 0]
def cspring_read_r4 : List IOp := [oI 26 (.mv (.t 1)) 0, oI 27 (.len (.t 26)) 0, oI 28 (.mv (cI 0)) 0]
def cspring_read_r5 : List IOp := [oI 29 (.bin .lss (.t 28) (.t 27)) 0]
def cspring_read_r6 : List IOp := [oI 30 (.idx 3 (.t 26) (.t 28)) 0, oI 31 (.ld (some 3) (.t 30)) 0, oI 10 (.alloc [.int .i64 0, .int .i64 0, .str ⟨#[]⟩]) 0, ⟨none, .st 3 (.t 10) (.t 31), 1, [], [], none⟩]
def cspring_read_r7 : List IOp := [oI 33 (.fa 2 (.t 10)) 0, oI 34 (.ld none (.t 33)) 0, oI 35 (.call 109 [.t 34]) 0, oI 32 (.mv (.t 35)) 0, oI 36 (.ext 0 (.t 32)) 0, oI 37 (.ext 1 (.t 32)) 0, oI 11 (.alloc [.bool false, .nils, .bool false, .nils]) 0, ⟨none, .st 4 (.t 11) (.t 36), 1, [], [], none⟩, oI 12 (.mv (.t 37)) 1]
def cspring_read_r8 : List IOp := [oI 38 (.mv (.t 7)) 0, oI 39 (.mv (.t 38)) 0, ⟨some 40, .mv (.t 12), 0, [], [], some (39, true)⟩, oI 41 (.pick (.t 39) (.t 40) (.c (.bool false))) 0, oI 7 (.mv (.t 41)) 0]
def cspring_read_r9 : List IOp := [oI 42 (.mv (.t 8)) 0, oI 43 (.mv (.t 42)) 0, ⟨some 44, .fa 0 (.t 10), 0, [], [], some (43, true)⟩, ⟨some 45, .ld none (.t 44), 0, [], [], some (43, true)⟩, ⟨some 46, .bin .geq (.t 45) (cI 0), 0, [], [], some (43, true)⟩, oI 47 (.pick (.t 43) (.t 46) (.c (.bool false))) 0, oI 48 (.mv (.t 47)) 0, ⟨some 49, .fa 0 (.t 10), 0, [], [], some (48, true)⟩, ⟨some 50, .ld none (.t 49), 0, [], [], some (48, true)⟩, ⟨some 51, .mv (.t 0), 0, [], [], some (48, true)⟩, ⟨some 52, .bin .lss (.t 50) (.t 51), 0, [], [], some (48, true)⟩, oI 53 (.pick (.t 48) (.t 52) (.c (.bool false))) 0, oI 54 (.mv (.t 53)) 0, ⟨some 55, .fa 1 (.t 10), 0, [], [], some (54, true)⟩, ⟨some 56, .ld none (.t 55), 0, [], [], some (54, true)⟩, ⟨some 57, .bin .geq (.t 56) (cI 0), 0, [], [], some (54, true)⟩, oI 58 (.pick (.t 54) (.t 57) (.c (.bool false))) 0, oI 59 (.mv (.t 58)) 0, ⟨some 60, .fa 1 (.t 10), 0, [], [], some (59, true)⟩, ⟨some 61, .ld none (.t 60), 0, [], [], some (59, true)⟩, ⟨some 62, .mv (.t 0), 0, [], [], some (59, true)⟩, ⟨some 63, .bin .lss (.t 61) (.t 62), 0, [], [], some (59, true)⟩, oI 64 (.pick (.t 59) (.t 63) (.c (.bool false))) 0, oI 65 (.mv (.t 64)) 0, ⟨some 66, .fa 0 (.t 10), 0, [], [], some (65, true)⟩, ⟨some 67, .ld none (.t 66), 0, [], [], some (65, true)⟩, ⟨some 68, .fa 1 (.t 10), 0, [], [], some (65, true)⟩, ⟨some 69, .ld none (.t 68), 0, [], [], some (65, true)⟩, ⟨some 70, .bin .neq (.t 67) (.t 69), 0, [], [], some (65, true)⟩, oI 71 (.pick (.t 65) (.t 70) (.c (.bool false))) 0, oI 8 (.mv (.t 71)) 0]
def cspring_read_r10 : List IOp := [oI 72 (.mv (.t 12)) 0]
def cspring_read_r11 : List IOp := [oI 73 (.mv (.t 8)) 0, oI 74 (.mv (.t 73)) 0, ⟨some 75, .ld (some 4) (.t 11), 0, [], [], some (74, true)⟩, ⟨some 76, .call 95 [.t 75], 0, [], [], some (74, true)⟩, ⟨some 77, .bin .gtr (.t 76) (cI 0), 0, [], [], some (74, true)⟩, oI 78 (.pick (.t 74) (.t 77) (.c (.bool false))) 0, oI 79 (.mv (.t 78)) 0, ⟨some 80, .ld (some 4) (.t 11), 0, [], [], some (79, true)⟩, ⟨some 81, .call 110 [.t 80, cI 20], 0, [], [], some (79, true)⟩, oI 82 (.pick (.t 79) (.t 81) (.c (.bool false))) 0, oI 8 (.mv (.t 82)) 0]
def cspring_read_r12 : List IOp := [oI 83 (.fa 1 (.t 6)) 0, oI 84 (.ld none (.t 83)) 0, oI 85 (.fa 0 (.t 10)) 0, oI 86 (.ld none (.t 85)) 0, oI 87 (.fa 1 (.t 10)) 0, oI 88 (.ld none (.t 87)) 0, oI 89 (.build [.int .i64 0, .int .i64 0] [(0, 1, .t 86), (1, 1, .t 88)]) 0, oI 90 (.bsl (some 2) 1 [.int .i64 0, .int .i64 0] [(0, .t 89)]) 0, ⟨some 91, .app (some 2) 16 (.t 84) (.t 90), 1, [0], [], none⟩, oI 92 (.fa 2 (.t 6)) 2, ⟨some 93, .ld none (.t 92), 2, [], [1], none⟩, ⟨some 94, .ld (some 4) (.t 11), 2, [], [1], none⟩, ⟨some 95, .bsl (some 4) 1 [.bool false, .nils, .bool false, .nils] [(0, .t 94)], 2, [], [1], none⟩, ⟨some 96, .app (some 4) 64 (.t 93) (.t 95), 3, [0, 1, 2], [], none⟩, ⟨some 97, .fa 1 (.t 6), 4, [0, 1], [], none⟩, ⟨none, .st 1 (.t 97) (.t 91), 4, [0, 1, 2, 3], [], none⟩, ⟨some 98, .fa 2 (.t 6), 4, [0, 1, 2, 3], [], none⟩, ⟨none, .st 1 (.t 98) (.t 96), 4, [0, 1, 2, 3], [], none⟩]
@[go_sem ↓] theorem cspring_read_r12_k : autoK cspring_read_r12 = (4, 2) := by kernel_rfl
@[go_sem] theorem cspring_read_r12_k1 : autoK [oI 83 (.fa 1 (.t 6)) 0, oI 84 (.ld none (.t 83)) 0, oI 85 (.fa 0 (.t 10)) 0, oI 86 (.ld none (.t 85)) 0, oI 87 (.fa 1 (.t 10)) 0, oI 88 (.ld none (.t 87)) 0, oI 89 (.build [.int .i64 0, .int .i64 0] [(0, 1, .t 86), (1, 1, .t 88)]) 0, oI 90 (.bsl (some 2) 1 [.int .i64 0, .int .i64 0] [(0, .t 89)]) 0, ⟨some 91, .app (some 2) 16 (.t 84) (.t 90), 1, [0], [], none⟩, oI 92 (.fa 2 (.t 6)) 2, ⟨some 93, .ld none (.t 92), 2, [], [1], none⟩, ⟨some 94, .ld (some 4) (.t 11), 2, [], [1], none⟩, ⟨some 95, .bsl (some 4) 1 [.bool false, .nils, .bool false, .nils] [(0, .t 94)], 2, [], [1], none⟩, ⟨some 96, .app (some 4) 64 (.t 93) (.t 95), 3, [0, 1, 2], [], none⟩, ⟨some 97, .fa 1 (.t 6), 4, [0, 1], [], none⟩, ⟨none, .st 1 (.t 97) (.t 91), 4, [0, 1, 2, 3], [], none⟩, ⟨some 98, .fa 2 (.t 6), 4, [0, 1, 2, 3], [], none⟩, ⟨none, .st 1 (.t 98) (.t 96), 4, [0, 1, 2, 3], [], none⟩] = (4, 2) := cspring_read_r12_k
def cspring_read_r13 : List IOp := [oI 99 (.bin .add (.t 28) (cI 1)) 0, oI 28 (.mv (.t 99)) 0]
def cspring_read_L1 : CC := .seq (.rg false cspring_read_r5) (.seq (.cond (.t 29) .skip (.exit 0)) (.seq (.block 1 (.seq (.rg false cspring_read_r6) (.seq (.rg false cspring_read_r7) (.seq (.rg false cspring_read_r8) (.seq (.rg false cspring_read_r9) (.seq (.seq (.rg false cspring_read_r10) (.cond (.t 72) (.rg false cspring_read_r11) .skip)) (.rg true cspring_read_r12))))))) (.rg false cspring_read_r13)))
def cspring_read_r14 : List IOp := [oI 101 (.mv (.t 7)) 0, oI 102 (.un .not (.t 101)) 0, oI 100 (.mv (.t 102)) 0]
def cspring_read_r15 : List IOp := [oI 103 (.build [.int .i64 0, .nils, .nils] []) 0, ⟨none, .st 3 (.t 4) (.t 103), 0, [], [], none⟩, oI 5 (.mv (cI 2)) 0]
def cspring_read_r16 : List IOp := [oI 105 (.mv (.t 8)) 0, oI 106 (.un .not (.t 105)) 0, oI 104 (.mv (.t 106)) 0]
def cspring_read_r17 : List IOp := [oI 107 (.build [.int .i64 0, .nils, .nils] []) 0, ⟨none, .st 3 (.t 4) (.t 107), 0, [], [], none⟩, oI 5 (.mv (cI 1)) 0]
def cspring_read_r18 : List IOp := [oI 108 (.ld (some 3) (.t 6)) 0, ⟨none, .st 3 (.t 4) (.t 108), 0, [], [], none⟩, oI 5 (.mv (cI 0)) 0]
def cspring_read : CC := .seq (.rg false cspring_read_r1) (.seq (.rg false cspring_read_r2) (.seq (.rg false cspring_read_r3) (.seq (.seq (.rg false cspring_read_r4) (.block 0 (.loop cspring_read_L1))) (.seq (.block 2 (.seq (.rg false cspring_read_r14) (.cond (.t 100) (.seq (.rg false cspring_read_r15) .ret) (.seq (.rg false cspring_read_r16) (.cond (.t 104) (.seq (.rg false cspring_read_r17) .ret) .skip))))) (.seq (.rg false cspring_read_r18) .ret)))))
abbrev n_spring_read : Nat := 62
theorem ok_spring_read : fnOk Tryz.prog 62 = some (109, cspring_read, [.cell 4 (some 3), .tmp 5]) := by kernel_rfl
end GoAbs
namespace GoAbs
open Go Go.Proofs
theorem mul64_one {n : Nat} (hn : n < 4294967296) : SpecV Tryz.prog n_bits_Mul64 [.int .u64 1, .int .u64 (n : Int)] (.tup [.int .u64 0, .int .u64 (n : Int)]) := by
  refine specV_W ok_bits_Mul64 (by simp) ?_
  unfold cbits_Mul64
  have h32 : (32 : Int) = ((32 : Nat) : Int) := rfl
  have a1 : andI .u64 1 4294967295 = 1 := by have := and64 (a := 1) (b := 4294967295) (by omega) (by omega); simpa using this
  have a2 : andI .u64 (n : Int) 4294967295 = n := by
    have := and64 (a := n) (b := 4294967295) (by omega) (by omega)
    rw [show ((4294967295 : Nat) : Int) = 4294967295 from rfl] at this
    rw [this, show (4294967295 : Nat) = 2 ^ 32 - 1 from rfl, Nat.and_two_pow_sub_one_eq_mod, Nat.mod_eq_of_lt (by simpa using hn)]
  have a0 : andI .u64 0 4294967295 = 0 := by have := and64 (a := 0) (b := 4294967295) (by omega) (by omega); simpa using this
  have s1 : shrI .u64 1 32 = 0 := by
    have := shr_nat .u64 1 32 (by decide)
    rw [h32]; simpa using this
  have s2 : shrI .u64 (n : Int) 32 = 0 := by
    rw [h32, shr_nat .u64 n 32 (by decide), Nat.div_eq_of_lt (by simpa using hn)]; rfl
  have s0 : shrI .u64 0 32 = 0 := by
    have := shr_nat .u64 0 32 (by decide)
    rw [h32]; simpa using this
  have w0 : IntKind.u64.wrap 0 = 0 := u64_id (by omega) (by omega)
  have wn : IntKind.u64.wrap (n : Int) = n := u64_id (by omega) (by omega)
  have p32 : (0 : Int) ≤ 32 := by omega
  have m1 : (1 : Int) * n = n := Int.one_mul _
  have m2 : (0 : Int) * n = 0 := Int.zero_mul _
  simp only [go_sem, cbits_Mul64_r1, cbits_Mul64_r2, cbits_Mul64_r3, cbits_Mul64_r4, cbits_Mul64_r5, cbits_Mul64_r6, cbits_Mul64_r7, cbits_Mul64_r8, cbits_Mul64_r9, cbits_Mul64_r10, cbits_Mul64_r11, cbits_Mul64_r12, a0, a1, a2, s0, s1, s2, w0, wn, p32, m1, m2, Int.mul_zero, Int.add_zero]
theorem mul_one {n : Nat} (hn : n < 4294967296) : SpecV Tryz.prog n_bits_Mul [.int .u64 1, .int .u64 (n : Int)] (.tup [.int .u64 0, .int .u64 (n : Int)]) := by
  refine specV_W ok_bits_Mul (by simp) ?_
  unfold cbits_Mul
  simp only [go_sem, cbits_Mul_r1, cbits_Mul_r4]
  refine call_P (mul64_one hn) (by simp only [go_sem]) ?_
  simp only [go_sem, cbits_Mul_r5]
def rows (c : Nat) (x : List AV) : List AV := (List.replicate c x).flatten
theorem rows_len {c : Nat} {x : List AV} (hx : x.length = 4) : (rows c x).length = c * 4 := by
  unfold rows
  induction c with
  | zero => rfl
  | succ c ih => rw [List.replicate_succ, List.flatten_cons, List.length_append, ih, hx]; omega
theorem rows_add {a b : Nat} {x : List AV} : rows (a + b) x = rows a x ++ rows b x := by
  unfold rows
  rw [← List.replicate_append_replicate, List.flatten_append]
theorem rows_step {c k n : Nat} {x z : List AV} (hx : x.length = 4) (hz : z.length = 4) (hk : k ≤ c) (hkn : c + k ≤ n) :
    (rows c x ++ rows (n - c) z).take (c * 4) ++ ((rows c x ++ rows (n - c) z).take (c * 4)).take (k * 4) ++ (rows c x ++ rows (n - c) z).drop (c * 4 + ((((rows c x ++ rows (n - c) z).take (c * 4)).take (k * 4)).length)) = rows (c + k) x ++ rows (n - (c + k)) z := by
  have h1 : (rows c x ++ rows (n - c) z).take (c * 4) = rows c x := by rw [← rows_len hx, List.take_left]
  have h2 : (rows c x).take (k * 4) = rows k x := by
    have : rows c x = rows k x ++ rows (c - k) x := by rw [← rows_add]; congr 1; omega
    rw [this, ← rows_len hx (c := k), List.take_left]
  rw [h1, h2, rows_len hx]
  have h3 : (rows c x ++ rows (n - c) z).drop (c * 4 + k * 4) = rows (n - (c + k)) z := by
    rw [← List.drop_drop]
    have : (rows c x ++ rows (n - c) z).drop (c * 4) = rows (n - c) z := by rw [← rows_len hx, List.drop_left]
    rw [this]
    have : rows (n - c) z = rows k z ++ rows (n - (c + k)) z := by rw [← rows_add]; congr 1; omega
    rw [this, ← rows_len hz (c := k), List.drop_left]
  rw [h3, rows_add]
theorem repeat_own {n : Nat} {x : List AV} (hn : 1 ≤ n) (hnl : n ≤ 1000000) (hx : x.length = 4) :
    SpecR Tryz.prog n_slices_Repeat [] [.sl [.agg x], .int .i64 (n : Int)] (.osl (some 4) 0 0 n) [.cells (rows n x)] := by
  have hm : Tryz.prog.follows .mixedOrders = true := by kernel_rfl
  refine specR_W ok_slices_Repeat (by simp) ?_
  unfold cslices_Repeat
  have q0 : ¬ (n : Int) < 0 := by omega
  have e1 : IntKind.u64.wrap ((1 : Nat) : Int) = 1 := u64_id (by omega) (by omega)
  have e1' : IntKind.u64.wrap 1 = 1 := u64_id (by omega) (by omega)
  have e2 : IntKind.u64.wrap (n : Int) = n := u64_id (by omega) (by omega)
  have q00 : ¬ (0 : Int) < 0 := by omega
  have q1 : ¬ (9223372036854775807 : Int) < (n : Int) := by omega
  have e3 : IntKind.i64.wrap (n : Int) = n := i64_id (by omega) (by omega)
  simp only [go_sem, cslices_Repeat_r1, cslices_Repeat_r2, cslices_Repeat_r4, q0, e1, e1', e2]
  refine call_P (mul_one (n := n) (by omega)) (by simp only [go_sem]) ?_
  have p0 : (0 : Int) ≤ (n : Int) := by omega
  have p1 : (n : Int) ≤ n := Int.le_refl _
  have p2 : (64 : Int) * (n : Int) ≤ 281474976710656 := by omega
  have p4 : (0 : Nat) < 4 := by omega
  have hmin : min 1 n = 1 := by omega
  simp only [go_sem, cslices_Repeat_r5, cslices_Repeat_r7, cslices_Repeat_r8, q00, q1, e3, p0, p1, p2, hx]
  have hzl : (rows n [AV.bool false, AV.nils, AV.bool false, AV.nils]).length = n * 4 := rows_len rfl
  refine ⟨by omega, fun y hy => by subst hy; exact hx, by show n * 4 ≤ (rows n _).length; omega, ?_⟩
  refine T_rounds (fun c : Nat => ⟨envL [(7, .osl (some 4) 0 0 n), (8, .int .i64 (c : Int))], [.cells (rows c x ++ rows (n - c) [.bool false, .nils, .bool false, .nils])]⟩)
    (fun c => 1 ≤ c ∧ c ≤ n) (fun c => n - c) 1 ⟨by omega, hn⟩ ?_ (fun c hI N hN => ?_)
  · have hfill : fillA (List.replicate n [AV.bool false, .nils, .bool false, .nils]).flatten [(0, .agg ((x ++ []).take (min 1 n * 4)))] = rows 1 x ++ rows (n - 1) [.bool false, .nils, .bool false, .nils] := by
      rw [hmin, List.append_nil]
      simp only [fillA, AV.cells]
      have ht : x.take (1 * 4) = x := List.take_of_length_le (by omega)
      rw [ht, hx, List.take_zero, List.nil_append]
      have h1 : (List.replicate n [AV.bool false, .nils, .bool false, .nils]).flatten = rows 1 [.bool false, .nils, .bool false, .nils] ++ rows (n - 1) [.bool false, .nils, .bool false, .nils] := by
        rw [← rows_add]; show rows n _ = _; congr 1; omega
      rw [h1]
      simp [rows]
    refine Le_eq (Le_keep [(7, .osl (some 4) 0 0 n), (8, .int .i64 ((1 : Nat) : Int))] (by simp only [go_sem, hmin])) ?_
    rw [← hfill]
    simp only [fillA, cells_agg, List.append_nil, List.take_zero, List.nil_append, Nat.zero_add, List.flatMap_cons, List.flatMap_nil]
  · obtain ⟨h1, h2⟩ := hI
    unfold cslices_Repeat_L1
    have hl : (rows c x ++ rows (n - c) [AV.bool false, .nils, .bool false, .nils]).length = n * 4 := by rw [List.length_append, rows_len hx, rows_len rfl, ← Nat.add_mul]; congr 1; omega
    by_cases hc : c < n
    · have r1 : (c : Int) < (n : Int) := by omega
      have r0 : (0 : Int) ≤ (c : Int) := by omega
      have e5 : IntKind.i64.wrap ((c : Int) + ((min c (n - c) : Nat) : Int)) = ((c + min c (n - c) : Nat) : Int) := by rw [i64_id (by omega) (by omega)]; omega
      have e5' : IntKind.i64.wrap (((min c (n - c) : Nat) : Int) + (c : Int)) = ((c + min c (n - c) : Nat) : Int) := by rw [i64_id (by omega) (by omega)]; omega
      have r2 : c ≤ n := h2
      have r3 : ¬ c = 0 := by omega
      simp only [go_sem, cslices_Repeat_r9, cslices_Repeat_r10, r1, r0, r2, r3, hm, Nat.le_refl, Nat.zero_le, Nat.sub_zero, e5, e5', hl]
      have hk : min c (n - c) ≤ c := Nat.min_le_left _ _
      have hkn : c + min c (n - c) ≤ n := by omega
      have hst := rows_step (z := [.bool false, .nils, .bool false, .nils]) hx rfl hk hkn
      refine ⟨by omega, by omega, ?_⟩
      rw [hst]
      exact hN (c + min c (n - c)) _ ⟨by omega, hkn⟩ (by omega) (Le_keep _ (by simp only [go_sem]))
    · have hcn : c = n := by omega
      subst hcn
      have r1 : ¬ (c : Int) < (c : Int) := by omega
      simp only [go_sem, cslices_Repeat_r9, cslices_Repeat_r11, r1, Nat.sub_self]
      simp [rows]
end GoAbs
