/- Lemmas for the claim (contracts of the functions that it reaches, and what they compute), without conditions. -/
import Derived.Test.YtnpgooaiiboanaaGreatK27
import Derived.Test.YtnpgooaiiboanaaGreatProg
import Derived.KernelRfl
set_option linter.unusedVariables false
set_option linter.unusedSimpArgs false
set_option maxRecDepth 10000
set_option maxHeartbeats 2000000
namespace GoAbs
open Go Go.Proofs
def addAt (M : RM) (i j : Nat) (x : Rat) : RM := M.set i ((M.getD i []).set j (mget M i j + x))
def half (M : RM) (a b : Nat) (x : Rat) : RM := if a = 0 then M else if b = 0 then addAt M (a - 1) (a - 1) x else addAt (addAt M (a - 1) (a - 1) x) (a - 1) (b - 1) (-x)
abbrev Sp := Nat × Nat × Rat
def edgeM (M : RM) (e : Sp) : RM := half (half M e.1 e.2.1 e.2.2) e.2.1 e.1 e.2.2
def lapl (m : Nat) (E : List Sp) : RM := E.foldl edgeM (List.replicate m (List.replicate m 0))
theorem addAt_len {M : RM} {i j : Nat} {x : Rat} : (addAt M i j x).length = M.length := by simp [addAt]
theorem half_len {M : RM} {a b : Nat} {x : Rat} : (half M a b x).length = M.length := by
  unfold half; split
  · rfl
  · split <;> simp [addAt_len]
theorem edgeM_len {M : RM} {e : Sp} : (edgeM M e).length = M.length := by simp [edgeM, half_len]
theorem Wid.addAt {w : Nat} {M : RM} (h : Wid w M) {i j : Nat} {x : Rat} : Wid w (GoAbs.addAt M i j x) := fun r hr => by
  by_cases hi : i < M.length
  · rcases List.mem_or_eq_of_mem_set hr with h1 | rfl
    · exact h r h1
    · rw [List.length_set]; exact h.get hi
  · unfold GoAbs.addAt at hr
    rw [List.set_eq_of_length_le (by omega)] at hr
    exact h r hr
theorem Wid.half {w : Nat} {M : RM} (h : Wid w M) {a b : Nat} {x : Rat} : Wid w (GoAbs.half M a b x) := by
  unfold GoAbs.half; split
  · exact h
  · split
    · exact h.addAt
    · exact h.addAt.addAt
theorem Wid.edge {w : Nat} {M : RM} (h : Wid w M) {e : Sp} : Wid w (edgeM M e) := h.half.half
theorem Qb.add2 {k l : Nat} {a b : Rat} (ha : Qb k a) (hb : Qb l b) : Qb (k + l + 1) (a + b) := by
  rw [← avQ_add]
  have h0 : (a.den : Int) * b.den ≠ 0 := by have := den_pos' a; have := den_pos' b; exact Int.mul_ne_zero (by omega) (by omega)
  obtain ⟨h1, h2⟩ := divInt_le (n := a.num * b.den + b.num * a.den) h0
  have m : ∀ {x y : Nat}, x < 2 ^ k → y < 2 ^ l → x * y < 2 ^ (k + l) := fun hx hy => by rw [Nat.pow_add]; exact Nat.mul_lt_mul'' hx hy
  refine ⟨Nat.lt_of_le_of_lt h1 ?_, ?_⟩
  · have h3 := Int.natAbs_add_le (a.num * b.den) (b.num * a.den)
    rw [Int.natAbs_mul, Int.natAbs_mul, Nat.mul_comm b.num.natAbs] at h3
    have h4 := m ha.n hb.dz
    have h5 := m ha.dz hb.n
    rw [Nat.pow_succ]
    omega
  · rw [Int.natAbs_mul] at h2
    have := m ha.dz hb.dz
    rw [Nat.pow_succ]
    omega
theorem Mb.addAt {k l : Nat} {M : RM} (h : Mb k M) {i j : Nat} {x : Rat} (hx : Qb l x) (hk : 1 ≤ k) : Mb (k + l + 1) (GoAbs.addAt M i j x) := fun r hr => by
  by_cases hi : i < M.length
  · rcases List.mem_or_eq_of_mem_set hr with h1 | rfl
    · exact (h r h1).mono (by omega)
    · intro y hy
      by_cases hj : j < (M.getD i []).length
      · rcases List.mem_or_eq_of_mem_set hy with h2 | rfl
        · exact ((h.get hi) y h2).mono (by omega)
        · exact ((h.get hi).get hj).add2 hx
      · rw [List.set_eq_of_length_le (by omega)] at hy
        exact ((h.get hi) y hy).mono (by omega)
  · unfold GoAbs.addAt at hr
    rw [List.set_eq_of_length_le (by omega)] at hr
    exact (h r hr).mono (by omega)
theorem Mb.half {k l : Nat} {M : RM} (h : Mb k M) {a b : Nat} {x : Rat} (hx : Qb l x) (hk : 1 ≤ k) : Mb (k + 2 * (l + 1)) (GoAbs.half M a b x) := by
  unfold GoAbs.half; split
  · exact h.mono (by omega)
  · split
    · exact (h.addAt hx hk).mono (by omega)
    · exact ((h.addAt hx hk).addAt hx.neg (by omega)).mono (by omega)
theorem Mb.edge {k l : Nat} {M : RM} (h : Mb k M) {e : Sp} (hx : Qb l e.2.2) (hk : 1 ≤ k) : Mb (k + 4 * (l + 1)) (edgeM M e) :=
  ((h.half hx hk).half hx (by omega)).mono (by omega)
theorem madd_at {pre post : Heap} {o w i j k : Nat} {M : RM} {x : Rat} (ho : pre.length = o) (hW : Wid w M) (hi : i < M.length) (hj : j < w) (hml : M.length ≤ 1000000) (hwl : w ≤ 1000000)
    (hB : Mb k M) (bx : Qb k x) (hk : 2 * k + 1 ≤ 1000000000000) :
    SpecR Tryz.prog n_Matrix_Add (pre ++ (matH o w M ++ post)) [.osl none o 0 M.length, .int .i64 (i : Int), .int .i64 (j : Int), .agg (qcell x)] (.tup []) (pre ++ (matH o w (addAt M i j x) ++ (post ++ [.cells (qcell x)]))) := by
  have hl := hW.get hi
  exact madd_spec ho (getD_some hi) (rget_some (by rw [hl]; exact hj)) hl hml hwl ((hB.get hi).get (by rw [hl]; exact hj)) bx hk
theorem net_L1 {pre : Heap} {ps : List AV} {nn ii : Int} {m a b k n0 : Nat} {x : Rat} {M : RM} (hpre : pre.length = 1) (hclo : ∀ m, Clo m pre) (hm : M.length = m) (hml : m ≤ 1000) (hW : Wid m M) (ha : a ≤ m) (hb : b ≤ m) (hB : Mb k M) (bx : Qb k x) (hk1 : 1 ≤ k) (hk : k ≤ 10000000000)
    (hn0 : n0 ≤ 1 + (1 + 2 * m)) {K : Ex → St → Prop}
    (hK : ∀ e : Nat → AV, e 1 = .ptr 0 0 → e 3 = .osl none 1 0 m → e 17 = .sl ps → e 18 = .int .i64 nn → e 19 = .int .i64 ii → K (.exit 2) ⟨e, pre ++ (matH 1 m (half (half M a b x) b a x) ++ [.cells [.int .i64 (a : Int), .int .i64 (b : Int)], .cells (qcell x), .cells [.int .i64 (a : Int), .int .i64 (b : Int), .int .i64 (b : Int), .int .i64 (a : Int)]])⟩) :
    T Tryz.prog 73 n0 (.loop cnet_matrix_L1) ⟨envL [(1, .ptr 0 0), (3, .osl none 1 0 m), (6, .ptr (1 + (1 + 2 * m) + 1) 0), (17, .sl ps), (18, .int .i64 nn), (19, .int .i64 ii), (39, .osl (some 2) (1 + (1 + 2 * m) + 2) 0 2), (40, .int .i64 2), (41, .int .i64 0)],
      pre ++ (matH 1 m M ++ [.cells [.int .i64 (a : Int), .int .i64 (b : Int)], .cells (qcell x), .cells [.int .i64 (a : Int), .int .i64 (b : Int), .int .i64 (b : Int), .int .i64 (a : Int)]])⟩ K := by
  have hmx : Tryz.prog.follows .mixedOrders = true := by kernel_rfl
  refine T_rounds (fun z : Nat × RM => ⟨envL [(1, .ptr 0 0), (3, .osl none 1 0 m), (6, .ptr (1 + (1 + 2 * m) + 1) 0), (17, .sl ps), (18, .int .i64 nn), (19, .int .i64 ii), (39, .osl (some 2) (1 + (1 + 2 * m) + 2) 0 2), (40, .int .i64 2), (41, .int .i64 (z.1 : Int))],
      pre ++ (matH 1 m z.2 ++ [.cells [.int .i64 (a : Int), .int .i64 (b : Int)], .cells (qcell x), .cells [.int .i64 (a : Int), .int .i64 (b : Int), .int .i64 (b : Int), .int .i64 (a : Int)]])⟩)
    (fun z => z.1 ≤ 2 ∧ z.2.length = m ∧ Wid m z.2 ∧ Mb (k + z.1 * (2 * (k + 1))) z.2 ∧ z.2 = (if z.1 = 0 then M else if z.1 = 1 then half M a b x else half (half M a b x) b a x)) (fun z => 2 - z.1) (0, M)
    ⟨by simp, hm, hW, by simpa using hB, rfl⟩ (Le_keep _ (by simp only [go_sem]; simp)) (fun z hI N hN => ?_)
  obtain ⟨t, S⟩ := z
  obtain ⟨h1, h2, h3, h4, h5⟩ := hI
  simp only at h1 h2 h3 h4 h5 ⊢
  unfold cnet_matrix_L1
  by_cases ht : t < 2
  · obtain ⟨u, v, hu, hv, hd, hl4, hnx⟩ : ∃ u v : Nat, u ≤ m ∧ v ≤ m ∧ ([AV.int .i64 (a : Int), .int .i64 (b : Int), .int .i64 (b : Int), .int .i64 (a : Int)].drop (t * 2)).take 2 = [.int .i64 (u : Int), .int .i64 (v : Int)] ∧
        2 ≤ ([AV.int .i64 (a : Int), .int .i64 (b : Int), .int .i64 (b : Int), .int .i64 (a : Int)].drop (t * 2)).length ∧ half S u v x = (if t + 1 = 0 then M else if t + 1 = 1 then half M a b x else half (half M a b x) b a x) := by
      have : t = 0 ∨ t = 1 := by omega
      rcases this with rfl | rfl
      · exact ⟨a, b, ha, hb, rfl, by simp, by simp [h5]⟩
      · exact ⟨b, a, hb, ha, rfl, by simp, by simp [h5]⟩
    generalize hPB : [AV.int .i64 (a : Int), .int .i64 (b : Int), .int .i64 (b : Int), .int .i64 (a : Int)] = PB at *
    have q0 : (0 : Int) ≤ (t : Int) := by omega
    have q1 : (t : Int) < 2 := by omega
    have q2 : (t : Int) < ((2 : Nat) : Int) := by omega
    have e1 : IntKind.i64.wrap ((t : Int) + 1) = ((t + 1 : Nat) : Int) := by rw [i64_id (by omega) (by omega)]; omega
    have gP : ∀ (S' : RM) (post' : Heap) (t' : Nat), S'.length = m → (pre ++ (matH 1 m S' ++ post'))[1 + (1 + 2 * m) + t']? = post'[t']? := fun S' post' t' h => mat_post hpre h
    have sP : ∀ (S' : RM) (post' : Heap) (t' : Nat) (bl : Blk), S'.length = m → (pre ++ (matH 1 m S' ++ post')).set (1 + (1 + 2 * m) + t') bl = pre ++ (matH 1 m S' ++ post'.set t' bl) := fun S' post' t' bl h => mat_set_post hpre h
    have gL : ∀ (S' : RM) (post' : Heap), S'.length = m → (pre ++ (matH 1 m S' ++ post')).length = 1 + (1 + 2 * m) + post'.length := fun S' post' h => by rw [List.length_append, List.length_append, matH_len, h, hpre]; omega
    have eA : ∀ (S' : RM) (post' : Heap) (Y : Blk), (pre ++ (matH 1 m S' ++ post')) ++ [Y] = pre ++ (matH 1 m S' ++ (post' ++ [Y])) := fun S' post' Y => by simp
    simp only [go_sem, eA, List.cons_append, List.nil_append, sP _ _ _ _ h2, cnet_matrix_r8, cnet_matrix_r9, cnet_matrix_r10, q0, q1, q2, gP _ _ _ h2, hd, hl4, gL _ _ h2]
    have hw2 : (if t + 1 = 0 then M else if t + 1 = 1 then half M a b x else half (half M a b x) b a x).length = m := by rw [← hnx, half_len, h2]
    have fin : ∀ (e : Nat → AV) (post' : Heap), e 1 = .ptr 0 0 → e 3 = .osl none 1 0 m → e 6 = .ptr (1 + (1 + 2 * m) + 1) 0 → e 17 = .sl ps → e 18 = .int .i64 nn → e 19 = .int .i64 ii → e 39 = .osl (some 2) (1 + (1 + 2 * m) + 2) 0 2 → e 40 = .int .i64 2 → e 41 = .int .i64 ((t + 1 : Nat) : Int) →
        N ⟨e, pre ++ (matH 1 m (half S u v x) ++ ([.cells [.int .i64 (a : Int), .int .i64 (b : Int)], .cells (qcell x), .cells PB] ++ post'))⟩ := fun e post' f1 f3 f6 f17 f18 f19 f39 f40 f41 => by
      have hh := half_len (M := S) (a := u) (b := v) (x := x)
      refine hN (t + 1, half S u v x) _ ⟨by show t + 1 ≤ 2; omega, by rw [half_len, h2], h3.half, ?_, hnx⟩ (by show 2 - (t + 1) < 2 - t; omega) ?_
      · have := h4.half (a := u) (b := v) bx (by omega)
        exact this.mono (by show k + t * (2 * (k + 1)) + 2 * (k + 1) ≤ k + (t + 1) * (2 * (k + 1)); rw [Nat.add_mul]; omega)
      · have hsplit : pre ++ (matH 1 m (half S u v x) ++ ([Blk.cells [.int .i64 (a : Int), .int .i64 (b : Int)], .cells (qcell x), .cells PB] ++ post')) = (pre ++ (matH 1 m (half S u v x) ++ [Blk.cells [.int .i64 (a : Int), .int .i64 (b : Int)], .cells (qcell x), .cells PB])) ++ post' := by simp
        rw [hsplit]
        refine Le_drop (m := 1 + (1 + 2 * m) + 3) (gL _ _ (by rw [half_len, h2])) ((hclo _).append ((clo_mat (by rw [half_len, h2]; omega)).append ?_)) (by omega) _ ?_ ?_
        · rw [← hPB]; rfl
        · simp only [go_sem, f1, f3, f6, f17, f18, f19, f39, f40, f41]
        · simp [AV.gc, pos_range]
    by_cases hu0 : u = 0
    · subst hu0
      have z0 : ((0 : Nat) : Int) = 0 := rfl
      simp only [go_sem, z0, cnet_matrix_r14, e1]
      have hh : half S 0 v x = S := by simp [half]
      rw [hh] at fin
      exact fin _ [.cells [.int .i64 ((0 : Nat) : Int), .int .i64 (v : Int)]] (by simp only [go_sem]) (by simp only [go_sem]) (by simp only [go_sem]) (by simp only [go_sem]) (by simp only [go_sem]) (by simp only [go_sem]) (by simp only [go_sem]) (by simp only [go_sem]) (by simp only [go_sem])
    · have z0 : ¬ (u : Int) = 0 := by omega
      have eu : IntKind.i64.wrap ((u : Int) - 1) = ((u - 1 : Nat) : Int) := by rw [i64_id (by omega) (by omega)]; omega
      have hql : ∀ q : Rat, (4 : Nat) ≤ (qcell q).length := fun q => by rw [qcell_len]; omega
      have hqt : ∀ q : Rat, (qcell q).take 4 = qcell q := fun q => List.take_of_length_le (by rw [qcell_len]; omega)
      have hkk : 2 * (k + 2 * (2 * (k + 1))) + 1 ≤ 1000000000000 := by omega
      have hb4 : Mb (k + 2 * (2 * (k + 1))) S := h4.mono (Nat.add_le_add_left (Nat.mul_le_mul_right _ h1) _)
      have ma := fun (post' : Heap) => madd_at (post := post') (i := u - 1) (j := u - 1) hpre h3 (by omega) (by omega) (by omega) (by omega) hb4 (bx.mono (by omega)) hkk
      rw [h2] at ma
      have la : (addAt S (u - 1) (u - 1) x).length = m := by rw [addAt_len, h2]
      simp only [go_sem, z0, cnet_matrix_r11, eu, gP _ _ _ h2, hql, hqt]
      refine call_R (ma _) ?_
      simp only [go_sem, cnet_matrix_r12, gP _ _ _ la, List.cons_append, List.nil_append]
      by_cases hv0 : v = 0
      · subst hv0
        have y0 : ((0 : Nat) : Int) = 0 := rfl
        simp only [go_sem, y0, cnet_matrix_r14, e1]
        have hh : half S u 0 x = addAt S (u - 1) (u - 1) x := by simp [half, hu0]
        rw [hh] at fin
        exact fin _ [.cells [.int .i64 (u : Int), .int .i64 ((0 : Nat) : Int)], .cells (qcell x)] (by simp only [go_sem]) (by simp only [go_sem]) (by simp only [go_sem]) (by simp only [go_sem]) (by simp only [go_sem]) (by simp only [go_sem]) (by simp only [go_sem]) (by simp only [go_sem]) (by simp only [go_sem])
      · have y0 : ¬ (v : Int) = 0 := by omega
        have ev : IntKind.i64.wrap ((v : Int) - 1) = ((v - 1 : Nat) : Int) := by rw [i64_id (by omega) (by omega)]; omega
        have hb5 : Mb (k + 2 * (2 * (k + 1)) + k + 1) (addAt S (u - 1) (u - 1) x) := hb4.addAt bx (by omega)
        have mb := fun (post' : Heap) => madd_at (post := post') (i := u - 1) (j := v - 1) (x := -x) hpre h3.addAt (by rw [addAt_len]; omega) (by omega) (by rw [addAt_len]; omega) (by omega) hb5 (bx.neg.mono (by omega)) (by omega)
        rw [la] at mb
        have l0 : 1 + (1 + 2 * m) + 1 < 1 + (1 + 2 * m) + 5 := by omega
        have l1 : 1 + (1 + 2 * m) + 3 < 1 + (1 + 2 * m) + 5 := by omega
        simp only [go_sem, y0, hmx, cnet_matrix_r13, eu, ev, gP _ _ _ la, gL _ _ la, hql, hqt, l0, l1]
        refine call_P (neg_q x) (by simp only [go_sem, avQ_q, bvs_qcell]) ?_
        simp only [go_sem, avQ_q]
        refine call_R (mb _) ?_
        simp only [go_sem, cnet_matrix_r14, e1, List.cons_append, List.nil_append]
        have hh : half S u v x = addAt (addAt S (u - 1) (u - 1) x) (u - 1) (v - 1) (-x) := by simp [half, hu0, hv0]
        rw [hh] at fin
        exact fin _ [.cells [.int .i64 (u : Int), .int .i64 (v : Int)], .cells (qcell x), .cells (qcell (-x))] (by simp only [go_sem]) (by simp only [go_sem]) (by simp only [go_sem]) (by simp only [go_sem]) (by simp only [go_sem]) (by simp only [go_sem]) (by simp only [go_sem]) (by simp only [go_sem]) (by simp only [go_sem])
  · have ht2 : t = 2 := by omega
    subst ht2
    have h5' : S = half (half M a b x) b a x := by simpa using h5
    have q1 : ¬ ((2 : Nat) : Int) < 2 := by omega
    simp only [go_sem, cnet_matrix_r8, q1]
    rw [h5']
    exact hK _ (by simp only [go_sem]) (by simp only [go_sem]) (by simp only [go_sem]) (by simp only [go_sem]) (by simp only [go_sem])
end GoAbs
namespace GoAbs
open Go Go.Proofs
def pairAV (e : Sp) : AV := .agg [.int .i64 (e.1 : Int), .int .i64 (e.2.1 : Int)]
def pairsL (E : List Sp) : List AV := E.map pairAV
def condsL (E : List Sp) : List AV := E.map fun e => avQ e.2.2
def netC (n : Nat) (E : List Sp) : List AV := [.int .i64 (n : Int), .sl (pairsL E), .sl (condsL E)]
theorem gc_ptrs {o w n s : Nat} : gcL (fun i => some (i + s)) (ptrs o w n) = ptrs (o + s) w n := by
  rw [gcL_map]
  unfold ptrs
  rw [List.map_map]
  refine List.map_congr_left fun i _ => ?_
  show AV.gc _ (AV.osl _ _ _ _) = _
  simp only [AV.gc]
  congr 1; omega
theorem gc_rowsH {f : Nat → Option Nat} {M : RM} : (rowsH M).map (Blk.gc f) = rowsH M := by
  induction M with
  | nil => rfl
  | cons r M ih =>
    show ([Blk.dead, .cells (qc r)] ++ rowsH M).map _ = [Blk.dead, .cells (qc r)] ++ rowsH M
    rw [List.map_append, ih]
    simp only [List.map_cons, List.map_nil, Blk.gc, gc_qc]
theorem gc_matH {o w s : Nat} {M : RM} : (matH o w M).map (Blk.gc (fun i => some (i + s))) = matH (o + s) w M := by
  unfold matH
  rw [List.map_cons, gc_rowsH]
  simp only [Blk.gc, gc_ptrs]
theorem net_spec {n k : Nat} {E : List Sp} (hn : 2 ≤ n) (hnl : n ≤ 100) (hE : ∀ e, e ∈ E → e.1 < n ∧ e.2.1 < n ∧ Qb k e.2.2) (hk : 1 ≤ k) (hEl : E.length ≤ 1000) (hK : k + E.length * (4 * (k + 1)) ≤ 10000000000) :
    SpecR Tryz.prog n_net_matrix [] [.agg (netC n E)] (.osl none 1 0 (n - 1)) ([.cells (netC n E)] ++ matH 1 (n - 1) (lapl (n - 1) E)) := by
  obtain ⟨m, hm⟩ : ∃ m, n = m + 1 := ⟨n - 1, by omega⟩
  have hm1 : n - 1 = m := by omega
  rw [hm1]
  obtain ⟨nc, hnc⟩ : ∃ nc, nc = netC n E := ⟨_, rfl⟩
  refine specR_W ok_net_matrix (by simp) ?_
  unfold cnet_matrix
  have en : IntKind.i64.wrap ((n : Int) - 1) = (m : Int) := by rw [i64_id (by omega) (by omega)]; omega
  simp only [go_sem, cnet_matrix_r1, cnet_matrix_r2, netC, en]
  have hz := specR_fresh (H := [.cells nc]) (zero_own (m := m) (n := m) (by omega) (by omega) (by omega)) (by simp only [go_sem])
  rw [gc_matH, hnc] at hz
  refine call_R hz ?_
  have e1 : (AV.osl none 0 0 m).gc (fun i => some (i + [Blk.cells (netC n E)].length)) = .osl none 1 0 m := rfl
  have e2 : ∀ X : Heap, [Blk.cells (netC n E)] ++ X = Blk.cells (netC n E) :: X := fun X => rfl
  rw [e1]
  simp only [go_sem, cnet_matrix_r3, netC]
  have hnc' : [Blk.cells [AV.int .i64 (n : Int), .sl (pairsL E), .sl (condsL E)]] = [Blk.cells nc] := by rw [hnc]; rfl
  have hpl : (pairsL E).length = E.length := by simp [pairsL]
  obtain ⟨pre, hpre⟩ : ∃ pre : Heap, pre = [.cells nc] := ⟨_, rfl⟩
  have hp1 : pre.length = 1 := by rw [hpre]; rfl
  have hclo : ∀ m, Clo m pre := fun m => by rw [hpre, hnc]; rfl
  have hp0 : ∀ X : Heap, (pre ++ X)[0]? = some (.cells [AV.int .i64 (n : Int), .sl (pairsL E), .sl (condsL E)]) := fun X => by rw [hpre, hnc]; rfl
  have hpc : ∀ X : Heap, Blk.cells [AV.int .i64 (n : Int), .sl (pairsL E), .sl (condsL E)] :: X = pre ++ X := fun X => by rw [hpre, hnc]; rfl
  rw [hpl, hpc, hpc]
  refine T_rounds (fun i : Nat => ⟨envL [(1, .ptr 0 0), (3, .osl none 1 0 m), (17, .sl (pairsL E)), (18, .int .i64 (E.length : Int)), (19, .int .i64 (i : Int))], pre ++ matH 1 m (lapl m (E.take i))⟩)
    (fun i => i ≤ E.length) (fun i => E.length - i) 0 (by omega) (Le_keep _ (by simp only [go_sem]; simp)) (fun i hi N hN => ?_)
  unfold cnet_matrix_L2
  have gen : ∀ (l : List Sp) (M : RM) (k0 : Nat), (∀ e, e ∈ l → Qb k e.2.2) → 1 ≤ k0 → M.length = m → Wid m M → Mb k0 M → (l.foldl edgeM M).length = m ∧ Wid m (l.foldl edgeM M) ∧ Mb (k0 + l.length * (4 * (k + 1))) (l.foldl edgeM M) := by
    intro l
    induction l with
    | nil => intro M k0 _ _ h1 h2 h3; exact ⟨h1, h2, by simpa using h3⟩
    | cons e l ih =>
      intro M k0 hl h0 h1 h2 h3
      have := ih (edgeM M e) (k0 + 4 * (k + 1)) (fun x hx => hl x (List.mem_cons_of_mem _ hx)) (by omega) (by rw [edgeM_len, h1]) h2.edge (h3.edge (hl e (by simp)) h0)
      refine ⟨this.1, this.2.1, this.2.2.mono ?_⟩
      rw [List.length_cons, Nat.add_mul]; omega
  obtain ⟨w1, w2, w3⟩ := gen (E.take i) (List.replicate m (List.replicate m 0)) k (fun e he => (hE e (List.mem_of_mem_take he)).2.2) hk (by simp) (fun r hr => by rw [(List.mem_replicate.1 hr).2]; simp) (fun r hr x hx => by
    rw [(List.mem_replicate.1 hr).2] at hx
    rw [(List.mem_replicate.1 hx).2]
    exact Qb.zero hk)
  by_cases hin : i < E.length
  · obtain ⟨⟨a, b, x⟩, he⟩ : ∃ e : Sp, E[i]? = some e := ⟨_, List.getElem?_eq_getElem hin⟩
    obtain ⟨ha, hb, hx⟩ := hE _ (List.mem_of_getElem? he)
    simp only at ha hb hx
    generalize hS : lapl m (E.take i) = S at *
    have w1' : S.length = m := by rw [← hS]; exact w1
    have w2' : Wid m S := by rw [← hS]; exact w2
    have w3' : Mb (k + E.length * (4 * (k + 1))) S := by
      rw [← hS]; exact w3.mono (Nat.add_le_add_left (Nat.mul_le_mul_right _ (by rw [List.length_take]; omega)) _)
    have hps : (pairsL E)[i]? = some (.agg [.int .i64 (a : Int), .int .i64 (b : Int)]) := by
      unfold pairsL; rw [List.getElem?_map, he]; rfl
    have hcs : (condsL E)[i]? = some (.agg (qcell x)) := by
      unfold condsL; rw [List.getElem?_map, he]; rfl
    have q0 : (0 : Int) ≤ (i : Int) := by omega
    have q1 : (i : Int) < (E.length : Int) := by omega
    have e1 : IntKind.i64.wrap ((i : Int) + 1) = ((i + 1 : Nat) : Int) := by rw [i64_id (by omega) (by omega)]; omega
    have eA : ∀ (Y : Blk), (pre ++ matH 1 m S) ++ [Y] = pre ++ (matH 1 m S ++ [Y]) := fun Y => by simp
    have eB : ∀ (X : Heap) (Y : Blk), (pre ++ (matH 1 m S ++ X)) ++ [Y] = pre ++ (matH 1 m S ++ (X ++ [Y])) := fun X Y => by simp
    have gP : ∀ (X : Heap) (t : Nat), (pre ++ (matH 1 m S ++ X))[1 + (1 + 2 * m) + t]? = X[t]? := fun X t => mat_post hp1 w1'
    have sP : ∀ (X : Heap) (t : Nat) (bl : Blk), (pre ++ (matH 1 m S ++ X)).set (1 + (1 + 2 * m) + t) bl = pre ++ (matH 1 m S ++ X.set t bl) := fun X t bl => mat_set_post hp1 w1'
    have gP0 : ∀ (X : Heap), (pre ++ (matH 1 m S ++ X))[1 + (1 + 2 * m)]? = X[0]? := fun X => mat_post (t := 0) hp1 w1'
    have sP0 : ∀ (X : Heap) (bl : Blk), (pre ++ (matH 1 m S ++ X)).set (1 + (1 + 2 * m)) bl = pre ++ (matH 1 m S ++ X.set 0 bl) := fun X bl => mat_set_post (t := 0) hp1 w1'
    have gL : ∀ (X : Heap), (pre ++ (matH 1 m S ++ X)).length = 1 + (1 + 2 * m) + X.length := fun X => by rw [List.length_append, List.length_append, matH_len, w1', hp1]; omega
    have gL0 : (pre ++ matH 1 m S).length = 1 + (1 + 2 * m) := by rw [List.length_append, matH_len, w1', hp1]
    have hql : ∀ q : Rat, (4 : Nat) ≤ (qcell q).length := fun q => by rw [qcell_len]; omega
    have hqt : ∀ q : Rat, (qcell q).take 4 = qcell q := fun q => List.take_of_length_le (by rw [qcell_len]; omega)
    have hqd : ∀ q : Rat, (qcell q).drop 4 = [] := fun q => rfl
    have hz4 : z4.length = 4 := rfl
    simp only [go_sem, cnet_matrix_r4, cnet_matrix_r5, cnet_matrix_r6, cnet_matrix_r7, q0, q1, hps, hcs, hp0, eA, eB, gP, sP, gP0, sP0, gL, gL0, qcell_len, hql, hqt, hqd, List.cons_append, List.nil_append]
    refine T_keep [(1, .ptr 0 0), (3, .osl none 1 0 m), (6, .ptr (1 + (1 + 2 * m) + 1) 0), (17, .sl (pairsL E)), (18, .int .i64 (E.length : Int)), (19, .int .i64 (i : Int)), (39, .osl (some 2) (1 + (1 + 2 * m) + 2) 0 2), (40, .int .i64 2), (41, .int .i64 0)] (by simp only [go_sem]; simp)
      (T_mono (net_L1 (a := a) (b := b) (x := x) hp1 hclo w1' (by omega) w2' (by omega) (by omega) w3' (hx.mono (by omega)) (by omega) hK (by omega) (K := fun e st => ∃ f, e = .exit 2 ∧ st = ⟨f, pre ++ (matH 1 m (half (half S a b x) b a x) ++ [.cells [.int .i64 (a : Int), .int .i64 (b : Int)], .cells (qcell x), .cells [.int .i64 (a : Int), .int .i64 (b : Int), .int .i64 (b : Int), .int .i64 (a : Int)]])⟩ ∧ f 1 = .ptr 0 0 ∧ f 3 = .osl none 1 0 m ∧ f 17 = .sl (pairsL E) ∧ f 18 = .int .i64 (E.length : Int) ∧ f 19 = .int .i64 (i : Int))
        (fun f f1 f3 f17 f18 f19 => ⟨f, rfl, rfl, f1, f3, f17, f18, f19⟩)) (fun e st hst => ?_))
    obtain ⟨f, rfl, rfl, f1, f3, f17, f18, f19⟩ := hst
    have hS2 : half (half S a b x) b a x = lapl m (E.take (i + 1)) := by
      rw [← hS, List.take_add_one, he]
      unfold lapl
      rw [List.foldl_append]; rfl
    simp only [go_sem, cnet_matrix_r15, f19, e1]
    rw [hS2]
    refine hN (i + 1) _ (by omega) (by omega) ?_
    have hsplit : ∀ X Y : Heap, pre ++ (X ++ Y) = (pre ++ X) ++ Y := fun X Y => by simp
    rw [hsplit]
    have wl : (lapl m (E.take (i + 1))).length = m := by rw [← hS2, half_len, half_len, w1']
    refine Le_drop (m := 1 + (1 + 2 * m)) (by rw [List.length_append, matH_len, wl, hp1]) ((hclo _).append (clo_mat (by rw [wl]; omega))) (by omega) _ ?_ ?_
    · simp only [go_sem, f1, f3, f17, f18]
    · have k0 : pos (List.range (1 + (1 + 2 * m))) 0 = some 0 := pos_range (by omega)
      have k1 : pos (List.range (1 + (1 + 2 * m))) 1 = some 1 := pos_range (by omega)
      simp [AV.gc, k0, k1]
  · have hie : i = E.length := by omega
    subst hie
    have q1 : ¬ ((E.length : Nat) : Int) < (E.length : Int) := by omega
    simp only [go_sem, cnet_matrix_r4, cnet_matrix_r16, q1, List.take_length]
end GoAbs
namespace GoAbs
open Go Go.Proofs
set_option exponentiation.threshold 20000
theorem ten_bits (k : Nat) : 10 ^ k ≤ 2 ^ (4 * k) := by rw [Nat.pow_mul]; exact Nat.pow_le_pow_left (by decide) k
theorem numL_bits {l : List UInt8} {b : Nat} (hb : 4 * 4000 ≤ b) (h : digOk l) : numL l < 2 ^ b :=
  Nat.lt_of_lt_of_le (numL_lt h.1) (Nat.le_trans (Nat.pow_le_pow_right (by omega) h.2.2.2) (Nat.le_trans (ten_bits 4000) (Nat.pow_le_pow_right (by omega) hb)))
theorem parse_bits {l : List UInt8} {q : Rat} (h : parseL l = some q) : Qb 16000 q := by
  unfold parseL at h
  split at h
  · rename_i hc
    obtain ⟨⟨h1, h2, _⟩, _⟩ := hc
    cases h
    have hd : ((partsL l).2.1 : Int) ≠ 0 ∧ (partsL l).2.1 < 2 ^ 16000 := by
      unfold partsL
      simp only
      split
      · rename_i hs
        have := h2 hs
        exact ⟨by omega, numL_bits (by decide) this.1⟩
      · exact ⟨by decide, Nat.one_lt_two_pow (n := 16000) (by decide)⟩
    have hn : (partsL l).1.natAbs < 2 ^ 16000 := by
      unfold partsL
      simp only
      split
      · rw [Int.natAbs_neg]; exact numL_bits (by decide) h1
      · exact numL_bits (by decide) h1
    obtain ⟨g1, g2⟩ := divInt_le (n := (partsL l).1) hd.1
    exact ⟨Nat.lt_of_le_of_lt g1 hn, Nat.lt_of_le_of_lt g2 (by rw [Int.natAbs_natCast]; exact hd.2)⟩
  · cases h
theorem digs_lt {k : Nat} : ∀ {n : Nat}, (digs n).length ≤ k → n < 10 ^ k := by
  induction k with
  | zero =>
    intro n h
    by_cases h0 : n = 0
    · subst h0; simp
    · rw [digs_pos h0] at h; simp at h
  | succ k ih =>
    intro n h
    by_cases h0 : n = 0
    · subst h0; exact Nat.pow_pos (by omega)
    · rw [digs_pos h0, List.length_cons] at h
      have := ih (n := n / 10) (by omega)
      rw [Nat.pow_succ]; omega
theorem decL_lt {n k : Nat} (h : (decL n).length ≤ k) : n < 10 ^ k := by
  unfold decL at h
  split at h
  · rename_i h0; subst h0; exact Nat.pow_pos (by omega)
  · rw [List.length_reverse] at h; exact digs_lt h
theorem decL_le {n k : Nat} (hk : 1 ≤ k) (h : n < 10 ^ k) : (decL n).length ≤ k := by
  unfold decL
  split
  · simpa using hk
  · rw [List.length_reverse]; exact digs_len h
def Fitd (d : Nat) (q : Rat) : Prop := (decL q.num.natAbs).length ≤ d ∧ (decL q.den).length ≤ d
instance (d : Nat) (q : Rat) : Decidable (Fitd d q) := by unfold Fitd; infer_instance
theorem Fitd.bits {q : Rat} (h : Fitd 20 q) : Qb 67 q := by
  have e : 10 ^ 20 ≤ 2 ^ 67 := by decide
  exact ⟨Nat.lt_of_lt_of_le (decL_lt h.1) e, Nat.lt_of_lt_of_le (decL_lt h.2) e⟩
abbrev Spr := Int × Int × List UInt8
def sprAV (s : Spr) : AV := .agg [.int .i64 s.1, .int .i64 s.2.1, .str (bs s.2.2)]
def EndsOk (n a b : Int) : Prop := 0 ≤ a ∧ a < n ∧ 0 ≤ b ∧ b < n ∧ a ≠ b
instance (n a b : Int) : Decidable (EndsOk n a b) := by unfold EndsOk; infer_instance
def StiffOk (q : Rat) : Prop := 0 < q ∧ Fitd 20 q
instance (q : Rat) : Decidable (StiffOk q) := by unfold StiffOk; infer_instance
theorem rd_r9 {nt n0 : Nat} {e : Nat → AV} {H : Heap} {Q : Ex → St → Prop} {a b n : Int} {s : ByteArray} {f : Bool} (e0 : e 0 = .int .i64 n) (e8 : e 8 = .bool f) (e10 : e 10 = .ptr 4 0)
    (h4 : H[4]? = some (.cells [.int .i64 a, .int .i64 b, .str s]))
    (hQ : ∀ e', e' 0 = e 0 → e' 4 = e 4 → e' 6 = e 6 → e' 7 = e 7 → e' 10 = e 10 → e' 11 = e 11 → e' 12 = e 12 → e' 26 = e 26 → e' 27 = e 27 → e' 28 = e 28 → e' 8 = .bool (f && decide (EndsOk n a b)) → Q .normal ⟨e', H⟩) :
    T Tryz.prog nt n0 (.rg false cspring_read_r9) ⟨e, H⟩ Q := by
  refine T_W ?_
  cases f with
  | false =>
    simp only [go_sem, cspring_read_r9, e8]
    exact hQ _ (by simp only [go_sem]) (by simp only [go_sem]) (by simp only [go_sem]) (by simp only [go_sem]) (by simp only [go_sem]) (by simp only [go_sem]) (by simp only [go_sem]) (by simp only [go_sem]) (by simp only [go_sem]) (by simp only [go_sem]) (by simp only [go_sem]; simp)
  | true =>
    have main : (0 ≤ a ∧ a < n ∧ 0 ≤ b ∧ b < n ∧ ¬ a = b) ∨ (0 ≤ a ∧ a < n ∧ 0 ≤ b ∧ b < n ∧ a = b) ∨ (0 ≤ a ∧ a < n ∧ 0 ≤ b ∧ ¬ b < n) ∨ (0 ≤ a ∧ a < n ∧ ¬ 0 ≤ b) ∨ (0 ≤ a ∧ ¬ a < n) ∨ ¬ 0 ≤ a := by omega
    rcases main with ⟨h1, h2, h3, h5, h6⟩ | ⟨h1, h2, h3, h5, h6⟩ | ⟨h1, h2, h3, h5⟩ | ⟨h1, h2, h3⟩ | ⟨h1, h2⟩ | h1
    · simp only [go_sem, cspring_read_r9, e0, e8, e10, h4, h1, h2, h3, h5, h6]
      exact hQ _ (by simp only [go_sem]) (by simp only [go_sem]) (by simp only [go_sem]) (by simp only [go_sem]) (by simp only [go_sem]) (by simp only [go_sem]) (by simp only [go_sem]) (by simp only [go_sem]) (by simp only [go_sem]) (by simp only [go_sem]) (by simp only [go_sem]; simp [EndsOk, h1, h2, h3, h5, h6])
    · simp only [go_sem, cspring_read_r9, e0, e8, e10, h4, h1, h2, h3, h5, h6]
      exact hQ _ (by simp only [go_sem]) (by simp only [go_sem]) (by simp only [go_sem]) (by simp only [go_sem]) (by simp only [go_sem]) (by simp only [go_sem]) (by simp only [go_sem]) (by simp only [go_sem]) (by simp only [go_sem]) (by simp only [go_sem]) (by simp only [go_sem]; simp [EndsOk, h1, h2, h3, h5, h6])
    · simp only [go_sem, cspring_read_r9, e0, e8, e10, h4, h1, h2, h3, h5]
      exact hQ _ (by simp only [go_sem]) (by simp only [go_sem]) (by simp only [go_sem]) (by simp only [go_sem]) (by simp only [go_sem]) (by simp only [go_sem]) (by simp only [go_sem]) (by simp only [go_sem]) (by simp only [go_sem]) (by simp only [go_sem]) (by simp only [go_sem]; simp [EndsOk, h1, h2, h3, h5])
    · simp only [go_sem, cspring_read_r9, e0, e8, e10, h4, h1, h2, h3]
      exact hQ _ (by simp only [go_sem]) (by simp only [go_sem]) (by simp only [go_sem]) (by simp only [go_sem]) (by simp only [go_sem]) (by simp only [go_sem]) (by simp only [go_sem]) (by simp only [go_sem]) (by simp only [go_sem]) (by simp only [go_sem]) (by simp only [go_sem]; simp [EndsOk, h1, h2, h3])
    · simp only [go_sem, cspring_read_r9, e0, e8, e10, h4, h1, h2]
      exact hQ _ (by simp only [go_sem]) (by simp only [go_sem]) (by simp only [go_sem]) (by simp only [go_sem]) (by simp only [go_sem]) (by simp only [go_sem]) (by simp only [go_sem]) (by simp only [go_sem]) (by simp only [go_sem]) (by simp only [go_sem]) (by simp only [go_sem]; simp [EndsOk, h1, h2])
    · simp only [go_sem, cspring_read_r9, e0, e8, e10, h4, h1]
      exact hQ _ (by simp only [go_sem]) (by simp only [go_sem]) (by simp only [go_sem]) (by simp only [go_sem]) (by simp only [go_sem]) (by simp only [go_sem]) (by simp only [go_sem]) (by simp only [go_sem]) (by simp only [go_sem]) (by simp only [go_sem]) (by simp only [go_sem]; simp [EndsOk, h1])
theorem rd_r11 {nt n0 : Nat} {e : Nat → AV} {H : Heap} {Q : Ex → St → Prop} {q : Rat} {f : Bool} (hb : Qb 16000 q) (e8 : e 8 = .bool f) (e11 : e 11 = .ptr 5 0) (h5 : H[5]? = some (.cells (qcell q)))
    (hQ : ∀ e', e' 0 = e 0 → e' 4 = e 4 → e' 6 = e 6 → e' 7 = e 7 → e' 10 = e 10 → e' 11 = e 11 → e' 12 = e 12 → e' 26 = e 26 → e' 27 = e 27 → e' 28 = e 28 → e' 8 = .bool (f && decide (StiffOk q)) → Q .normal ⟨e', H⟩) :
    T Tryz.prog nt n0 (.rg false cspring_read_r11) ⟨e, H⟩ Q := by
  refine T_W ?_
  have hql : (4 : Nat) ≤ (qcell q).length := by rw [qcell_len]; omega
  have hqt : (qcell q).take 4 = qcell q := List.take_of_length_le (by rw [qcell_len]; omega)
  cases f with
  | false =>
    simp only [go_sem, cspring_read_r11, e8]
    exact hQ _ (by simp only [go_sem]) (by simp only [go_sem]) (by simp only [go_sem]) (by simp only [go_sem]) (by simp only [go_sem]) (by simp only [go_sem]) (by simp only [go_sem]) (by simp only [go_sem]) (by simp only [go_sem]) (by simp only [go_sem]) (by simp only [go_sem]; simp)
  | true =>
    simp only [go_sem, cspring_read_r11, e8, e11, h5, hql, hqt]
    refine call_P (sign_q q) (by simp only [go_sem, avQ_q, bvs_qcell]) ?_
    have hF : decide (((decL q.num.natAbs).length : Int) ≤ 20 ∧ ((decL q.den).length : Int) ≤ 20) = decide (Fitd 20 q) := by
      unfold Fitd
      apply decide_eq_decide.2
      omega
    by_cases hq : 0 < q
    · have h1 : ¬ q = 0 := fun h => by rw [h] at hq; exact absurd hq (by decide)
      have h2 : ¬ q < 0 := fun h => by grind
      have hg : (0 : Int) < 1 := by decide
      simp only [go_sem, h1, h2, hg, h5, e11, hql, hqt]
      refine call_P (fits_q (tx_bits hb.n (by omega)) (tx_bits hb.d (by omega))) (by simp only [go_sem, avQ_q, bvs_qcell]) ?_
      simp only [go_sem, hF]
      exact hQ _ (by simp only [go_sem]) (by simp only [go_sem]) (by simp only [go_sem]) (by simp only [go_sem]) (by simp only [go_sem]) (by simp only [go_sem]) (by simp only [go_sem]) (by simp only [go_sem]) (by simp only [go_sem]) (by simp only [go_sem]) (by simp only [go_sem]; simp [StiffOk, hq])
    · have hg : ¬ (0 : Int) < (if q = 0 then 0 else if q < 0 then -1 else 1) := by
        split
        · decide
        · split
          · decide
          · exfalso; grind
      simp only [go_sem, hg]
      exact hQ _ (by simp only [go_sem]) (by simp only [go_sem]) (by simp only [go_sem]) (by simp only [go_sem]) (by simp only [go_sem]) (by simp only [go_sem]) (by simp only [go_sem]) (by simp only [go_sem]) (by simp only [go_sem]) (by simp only [go_sem]) (by simp only [go_sem]; simp [StiffOk, hq])
end GoAbs
namespace GoAbs
open Go Go.Proofs
def AllD (l : List UInt8) : Prop := ∀ c, c ∈ l → isDig c
theorem numL_nil : numL [] = 0 := rfl
theorem decL_numL {l : List UInt8} (h : AllD l) (h0 : l ≠ []) (hh : l.head? ≠ some 48) : decL (numL l) = l := by
  have main : ∀ k (l : List UInt8), l.length = k → AllD l → l.head? ≠ some 48 → (l ≠ [] → numL l ≠ 0) ∧ (digs (numL l)).reverse = l := by
    intro k
    induction k with
    | zero =>
      intro l hl _ _
      have : l = [] := List.length_eq_zero_iff.1 hl
      subst this
      exact ⟨fun h => absurd rfl h, by rw [numL_nil, digs_zero]; rfl⟩
    | succ k ih =>
      intro l hl hd hh
      obtain ⟨r, c, rfl⟩ : ∃ r c, l = r ++ [c] := by
        cases h : l.getLast? with
        | none => rw [List.getLast?_eq_none_iff] at h; subst h; simp at hl
        | some c => obtain ⟨r, rfl⟩ := List.getLast?_eq_some_iff.1 h; exact ⟨r, c, rfl⟩
      have hc := hd c (by simp)
      have hrd : AllD r := fun x hx => hd x (by simp [hx])
      unfold isDig at hc
      rw [numL_snoc]
      have hn : 10 * numL r + (c.toNat - 48) ≠ 0 := by
        by_cases hr : r = []
        · subst hr
          simp only [List.nil_append, List.head?_cons] at hh
          have : c.toNat ≠ 48 := fun e => hh (by congr 1; exact UInt8.toNat_inj.1 e)
          omega
        · have hrh : r.head? ≠ some 48 := fun e => hh (by
            cases r with
            | nil => exact absurd rfl hr
            | cons x r => simpa using e)
          have := (ih r (by simp at hl; exact hl) hrd hrh).1 hr
          omega
      refine ⟨fun _ => hn, ?_⟩
      rw [digs_pos hn]
      have e1 : (10 * numL r + (c.toNat - 48)) / 10 = numL r := by omega
      have e2 : UInt8.ofNat (48 + (10 * numL r + (c.toNat - 48)) % 10) = c := by
        have : 48 + (10 * numL r + (c.toNat - 48)) % 10 = c.toNat := by omega
        rw [this]; exact UInt8.ofNat_toNat
      rw [e1, e2, List.reverse_cons]
      congr 1
      by_cases hr : r = []
      · subst hr; rw [numL_nil, digs_zero]; rfl
      · exact (ih r (by simp at hl; exact hl) hrd (fun e => hh (by
          cases r with
          | nil => exact absurd rfl hr
          | cons x r => simpa using e))).2
  obtain ⟨m1, m2⟩ := main l.length l rfl h hh
  unfold decL
  rw [if_neg (m1 h0)]
  exact m2
def four (d : Nat) : List UInt8 := [UInt8.ofNat (48 + d / 1000), UInt8.ofNat (48 + d / 100 % 10), UInt8.ofNat (48 + d / 10 % 10), UInt8.ofNat (48 + d % 10)]
theorem ofNat_dig {x : Nat} (h : x < 10) : (UInt8.ofNat (48 + x)).toNat = 48 + x := by rw [UInt8.toNat_ofNat']; exact Nat.mod_eq_of_lt (by omega)
theorem four_num {d : Nat} (h : d < 10000) : numL (four d) = d := by
  unfold four numL
  simp only [List.foldl_cons, List.foldl_nil]
  rw [ofNat_dig (by omega), ofNat_dig (by omega), ofNat_dig (by omega), ofNat_dig (by omega)]
  omega
theorem four_dig {d : Nat} (h : d < 10000) : AllD (four d) := fun c hc => by
  unfold four at hc
  unfold isDig
  simp only [List.mem_cons, List.not_mem_nil, or_false] at hc
  rcases hc with rfl | rfl | rfl | rfl
  · rw [ofNat_dig (by omega)]; omega
  · rw [ofNat_dig (by omega)]; omega
  · rw [ofNat_dig (by omega)]; omega
  · rw [ofNat_dig (by omega)]; omega
theorem rfig_L1 {m : Bool} {A : List Nat} (hA : Od A) (hla : A.length ≤ 100000000) {K : Ex → St → Prop}
    (hK : ∀ (e : Nat → AV) (F : List UInt8) (H : Heap), AllD F → numL F = vd A → F.length = 4 * A.length → e 3 = .str (bs F) → K (.exit 0) ⟨e, H⟩) :
    T Tryz.prog 53 0 (.loop cref_figures_L1) ⟨envL [(1, .ptr 0 0), (3, .str (bs [])), (4, .int .i64 ((A.length : Int) - 1))], [.cells [.bool m, .sl (ic A)]]⟩ K := by
  refine T_rounds (fun z : Nat × List UInt8 => ⟨envL [(1, .ptr 0 0), (3, .str (bs z.2)), (4, .int .i64 ((z.1 : Int) - 1))], [.cells [.bool m, .sl (ic A)]]⟩)
    (fun z => z.1 ≤ A.length ∧ AllD z.2 ∧ numL z.2 = vd (A.drop z.1) ∧ z.2.length = 4 * (A.length - z.1)) (fun z => z.1) (A.length, [])
    ⟨Nat.le_refl _, fun c hc => by simp at hc, by simp [numL_nil, vd], by simp⟩ (Le_keep _ (by simp only [go_sem])) (fun z hI N hN => ?_)
  obtain ⟨i, F⟩ := z
  obtain ⟨h1, h2, h3, h4⟩ := hI
  simp only at h1 h2 h3 h4 ⊢
  unfold cref_figures_L1
  cases i with
  | zero =>
    have q1 : ¬ (0 : Int) ≤ ((0 : Nat) : Int) - 1 := by omega
    simp only [go_sem, cref_figures_r6, q1]
    rw [List.drop_zero] at h3
    exact hK _ F _ h2 h3 (by omega) (by simp only [go_sem])
  | succ j =>
    have e0 : ((j + 1 : Nat) : Int) - 1 = (j : Int) := by omega
    have q1 : (0 : Int) ≤ (j : Int) := by omega
    have e1 : IntKind.i64.wrap ((j : Int) - 1) = (j : Int) - 1 := i64_id (by omega) (by omega)
    have hx : A[j]? = some (A.getD j 0) := getElem?_getD (by omega)
    have hxl := hA.get hx
    have hdA := drop_vd (l := A) (j := j) (by omega)
    generalize A.getD j 0 = x at *
    have p1 : ¬ (1000 : Int) = 0 := by omega
    have p2 : ¬ (100 : Int) = 0 := by omega
    have p3 : ¬ (10 : Int) = 0 := by omega
    have dv : ∀ (y k : Nat), y < 10000 → 0 < k → IntKind.i64.wrap (((y : Nat) : Int).tdiv (k : Int)) = ((y / k : Nat) : Int) := fun y k hy hk => by
      have : ((y : Nat) : Int).tdiv (k : Int) = ((y / k : Nat) : Int) := (Int.ofNat_tdiv y k).symm
      rw [this]
      have hle := Nat.div_le_self y k
      generalize y / k = w at *
      exact i64_id (by omega) (by omega)
    have d1 : IntKind.i64.wrap ((x : Int).tdiv 1000) = ((x / 1000 : Nat) : Int) := dv x 1000 hxl (by omega)
    have d2 : IntKind.i64.wrap ((x : Int).tdiv 100) = ((x / 100 : Nat) : Int) := dv x 100 hxl (by omega)
    have d3 : IntKind.i64.wrap ((x : Int).tdiv 10) = ((x / 10 : Nat) : Int) := dv x 10 hxl (by omega)
    have em : ∀ t : Nat, ((t : Nat) : Int).tmod 10 = ((t % 10 : Nat) : Int) := fun t => tmod_nat (b := 10)
    have ea : ∀ t : Nat, t < 10 → IntKind.i64.wrap (48 + ((t : Nat) : Int)) = ((48 + t : Nat) : Int) := fun t ht => by rw [i64_id (by omega) (by omega)]; omega
    have eu : ∀ t : Nat, t < 10 → IntKind.u8.wrap (((48 + t : Nat) : Int)) = (((UInt8.ofNat (48 + t)).toNat : Nat) : Int) := fun t ht => by rw [ofNat_dig ht, u8_id (by omega) (by omega)]
    have hsz : F.length + 4 ≤ 4 * 100000000 := by omega
    simp only [go_sem, cref_figures_r6, cref_figures_r7, cref_figures_r8, cref_figures_r9, cref_figures_r10, e0, q1, ic_get hx, p1, p2, p3, d1, d2, d3, em, ea (x / 1000) (by omega), ea (x / 100 % 10) (by omega), ea (x / 10 % 10) (by omega), ea (x % 10) (by omega), eu (x / 1000) (by omega), eu (x / 100 % 10) (by omega), eu (x / 10 % 10) (by omega), eu (x % 10) (by omega), e1]
    refine ⟨four x, rfl, ?_⟩
    have hb : (⟨(four x).toArray⟩ : ByteArray) = bs (four x) := rfl
    have h4l : (four x).length = 4 := rfl
    have hmax : (((bs F).size + (bs (four x)).size : Nat) : Int) ≤ IntKind.i64.max := by
      rw [bs_size, bs_size, h4l]
      have : IntKind.i64.max = 9223372036854775807 := by decide
      rw [this]; omega
    simp only [go_sem, hb, bs_append]
    refine ⟨hmax, ?_⟩
    refine hN (j, F ++ four x) _ ⟨by simp only; omega, fun c hc => ?_, ?_, ?_⟩ (by show j < j + 1; omega) ?_
    · rcases List.mem_append.1 hc with hc | hc
      · exact h2 c hc
      · exact four_dig hxl c hc
    · simp only
      rw [numL_append, four_num hxl, h4l, h3, hdA]
      omega
    · simp only [List.length_append, h4l]; omega
    · exact Le_eq (Le_gc [0] (by decide) (fun i hi => by omega) [(1, .ptr 0 0), (3, .str (bs (F ++ four x))), (4, .int .i64 ((j : Int) - 1))] (by simp only [go_sem])) rfl
theorem rfig_L2 {F : List UInt8} {n0 : Nat} {H : Heap} (hF : AllD F) (h0 : numL F ≠ 0) {K : Ex → St → Prop}
    (hK : ∀ (e : Nat → AV), e 3 = .str (bs (decL (numL F))) → K (.exit 2) ⟨e, H⟩) :
    T Tryz.prog 53 n0 (.loop cref_figures_L2) ⟨envL [(3, .str (bs F))], H⟩ K := by
  refine T_rounds (fun z : List UInt8 => ⟨envL [(3, .str (bs z))], H⟩) (fun z => AllD z ∧ numL z = numL F) (fun z => z.length) F ⟨hF, rfl⟩ (Le_keep _ (by simp only [go_sem])) (fun z hI N hN => ?_)
  obtain ⟨h1, h2⟩ := hI
  unfold cref_figures_L2
  cases z with
  | nil => rw [numL_nil] at h2; exact absurd h2.symm h0
  | cons c z =>
    have gi : (c :: z)[0]? = some c := rfl
    by_cases hc : c.toNat = 48
    · have hci : (c.toNat : Int) = 48 := by omega
      have q0 : (1 : Nat) ≤ (c :: z).length := by simp
      simp only [go_sem, cref_figures_r11, cref_figures_r12, bs_get, bs_size, gi, hci, bs_extract]
      refine ⟨Nat.le_refl _, ?_⟩
      rw [List.take_length]
      refine hN z _ ⟨fun x hx => h1 x (by simp [hx]), ?_⟩ (by simp) (Le_keep _ (by simp only [go_sem]))
      rw [← h2]
      have := numL_append [c] z
      have hc1 : numL [c] = 0 := by simp [numL, hc]
      rw [hc1, Nat.zero_mul, Nat.zero_add] at this
      exact this.symm
    · have hci : ¬ (c.toNat : Int) = 48 := by omega
      simp only [go_sem, cref_figures_r11, bs_get, gi, hci]
      have hd := decL_numL h1 (by simp) (by simp only [List.head?_cons]; intro e; apply hc; cases e; rfl)
      rw [h2] at hd
      exact hK _ (by simp only [go_sem, hd])
theorem rfig_nat {n : Nat} (hn : Zs n) {m : Bool} : SpecV Tryz.prog n_ref_figures [.agg [.bool m, .sl (ic (dg n))]] (.str (bs (decL n))) := by
  have hlen := hn.len
  by_cases h0 : n = 0
  · subst h0
    refine specV_W ok_ref_figures (by simp) ?_
    unfold cref_figures
    simp only [go_sem, cref_figures_r1, cref_figures_r2, cref_figures_r3, dg_zero, ic_nil]
    exact ⟨fun _ => rfl, fun h => absurd rfl h⟩
  · refine specV_T ok_ref_figures (by simp) (T_cut 1 rfl ?_)
    unfold cref_figures
    have hp : ¬ ((dg n).length : Int) = 0 := by have := (dg_len_pos (n := n)).2 h0; omega
    have e0 : IntKind.i64.wrap (((dg n).length : Int) - 1) = ((dg n).length : Int) - 1 := i64_id (by omega) (by omega)
    simp only [go_sem, cref_figures_r1, cref_figures_r2, ic_len, hp]
    refine T_W ?_
    simp only [go_sem, cref_figures_r4, cref_figures_r5, ic_len, e0]
    refine T_keep [(1, .ptr 0 0), (3, .str (bs [])), (4, .int .i64 (((dg n).length : Int) - 1))] (by simp only [go_sem]; rfl) (rfig_L1 (dg_ok n) hlen (fun e F H g1 g2 g3 k3 => ?_))
    rw [vd_dg] at g2
    simp only [go_sem]
    refine T_keep [(3, .str (bs F))] (by simp only [go_sem, k3]) (rfig_L2 g1 (by omega) (fun e2 j3 => ?_))
    rw [g2] at j3
    simp only [go_sem, cref_figures_r13, j3]
end GoAbs
namespace GoAbs
open Go Go.Proofs
theorem decL_one {n : Nat} : decL n = [49] ↔ n = 1 := by
  constructor
  · intro h
    have h1 : n < 10 := by have := decL_lt (n := n) (k := 1) (by rw [h]; simp); omega
    unfold decL at h
    split at h
    · cases h
    · rename_i h0
      rw [digs_pos h0, show n / 10 = 0 by omega, digs_zero] at h
      simp only [List.reverse_cons, List.reverse_nil, List.nil_append, List.cons.injEq, and_true] at h
      have := congrArg UInt8.toNat h
      rw [ofNat_dig (by omega)] at this
      have h49 : (49 : UInt8).toNat = 49 := rfl
      omega
  · intro h
    subst h
    exact decL_numL (l := [49]) (fun c hc => by simp at hc; subst hc; decide) (by simp) (by simp)
theorem rnum {n d : Int} {k : Nat} {q : Rat} (h1 : Ib k n) (h2 : Ib k d) (hd : 0 < d) (hk : k ≤ 10000000) (hq : Rat.divInt n d = q) :
    SpecV Tryz.prog n_ref_Num [avR n d] (if NumOk q then .tup [.str (bs (numS q)), .bool true] else .tup [.str (bs []), .bool false]) := by
  have hm : Tryz.prog.follows .mixedOrders = true := by kernel_rfl
  refine specV_W ok_ref_Num (by simp) ?_
  unfold cref_Num
  have hl := rlow h1 h2 hd hk
  rw [hq] at hl
  obtain ⟨g1, g2⟩ := divInt_le (n := n) (d := d) (by omega)
  rw [hq] at g1 g2
  have zn : Zs q.num.natAbs := (h1.zs hk).mono g1
  have zd : Zs q.den := (h2.zs hk).mono g2
  have ha := rabs_z (z := q.num)
  rw [avZ_nat, avZ_agg] at ha
  have f1 := rfig_nat zn (m := false)
  have f2 := rfig_nat zd (m := decide ((q.den : Int) < 0))
  rw [avR_agg, avR_agg] at hl
  rw [avR_agg]
  rw [Int.natAbs_natCast] at hl
  have hmax : IntKind.i64.max = 9223372036854775807 := rfl
  have c45 : (⟨#[45]⟩ : ByteArray) = bs [45] := rfl
  have c47 : (⟨#[47]⟩ : ByteArray) = bs [47] := rfl
  have c49 : (⟨#[49]⟩ : ByteArray) = bs [49] := rfl
  have hok : NumOk q ↔ ((decL q.num.natAbs).length ≤ 4000 ∧ (decL q.den).length ≤ 4000) := by
    unfold NumOk
    constructor
    · rintro ⟨h1, h2 | h2⟩
      · exact ⟨h1, by rw [decL_one.2 h2]; simp⟩
      · exact ⟨h1, h2⟩
    · rintro ⟨h1, h2⟩; exact ⟨h1, .inr h2⟩
  have hden : (bs (decL q.den) = bs [49]) = (q.den = 1) := propext (bs_inj.trans decL_one)
  simp only [go_sem, cref_Num_r1, cref_Num_r2]
  refine call_P hl (by simp only [go_sem]) ?_
  simp only [go_sem, cref_Num_r3, hm]
  refine call_P ha (by simp only [go_sem]) ?_
  simp only [go_sem]
  refine call_P f1 (by simp only [go_sem]) ?_
  simp only [go_sem]
  refine call_P f2 (by simp only [go_sem]) ?_
  by_cases hA : (decL q.num.natAbs).length ≤ 4000
  · have q1 : ¬ (4000 : Int) < ((decL q.num.natAbs).length : Int) := by omega
    by_cases hB : (decL q.den).length ≤ 4000
    · have q2 : ¬ (4000 : Int) < ((decL q.den).length : Int) := by omega
      rw [if_pos (hok.2 ⟨hA, hB⟩)]
      have m1 : ((1 + (decL q.num.natAbs).length : Nat) : Int) ≤ IntKind.i64.max := by rw [hmax]; omega
      have m2 : ((1 + (decL q.den).length : Nat) : Int) ≤ IntKind.i64.max := by rw [hmax]; omega
      have m3 : ∀ S : List UInt8, S.length ≤ 4001 → ((S.length + (1 + (decL q.den).length) : Nat) : Int) ≤ IntKind.i64.max := fun S hS => by rw [hmax]; omega
      by_cases hs : q.num < 0
      · by_cases h1 : q.den = 1
        · have hden' : (bs (decL q.den) = bs [49]) = True := by rw [hden]; simp [h1]
          have hS : numS q = [45] ++ decL q.num.natAbs ++ [] := by unfold numS; simp [hs, h1]
          rw [hS]
          simp only [go_sem, cref_Num_r4, cref_Num_r6, cref_Num_r7, cref_Num_r8, cref_Num_r10, bs_size, q1, q2, decide_eq_true hs, c45, c47, c49, bs_append, m1, m2, hden', List.length_cons, List.length_append, List.length_nil]
        · have hden' : (bs (decL q.den) = bs [49]) = False := by rw [hden]; simp [h1]
          have hS : numS q = [45] ++ decL q.num.natAbs ++ (47 :: decL q.den) := by unfold numS; simp [hs, h1]
          rw [hS]
          simp only [go_sem, cref_Num_r4, cref_Num_r6, cref_Num_r7, cref_Num_r8, cref_Num_r9, cref_Num_r10, bs_size, q1, q2, decide_eq_true hs, c45, c47, c49, bs_append, m1, m2, hden', List.length_cons, List.length_append, List.length_nil]
          rw [hmax]; omega
      · by_cases h1 : q.den = 1
        · have hden' : (bs (decL q.den) = bs [49]) = True := by rw [hden]; simp [h1]
          have hS : numS q = [] ++ decL q.num.natAbs ++ [] := by unfold numS; simp [hs, h1]
          rw [hS]
          simp only [go_sem, cref_Num_r4, cref_Num_r6, cref_Num_r8, cref_Num_r10, bs_size, q1, q2, decide_eq_false hs, c45, c47, c49, bs_append, m1, m2, hden', List.length_cons, List.length_append, List.length_nil]
        · have hden' : (bs (decL q.den) = bs [49]) = False := by rw [hden]; simp [h1]
          have hS : numS q = [] ++ decL q.num.natAbs ++ (47 :: decL q.den) := by unfold numS; simp [hs, h1]
          rw [hS]
          simp only [go_sem, cref_Num_r4, cref_Num_r6, cref_Num_r8, cref_Num_r9, cref_Num_r10, bs_size, q1, q2, decide_eq_false hs, c45, c47, c49, bs_append, m1, m2, hden', List.length_cons, List.length_append, List.length_nil]
          rw [hmax]; omega
    · have q2 : (4000 : Int) < ((decL q.den).length : Int) := by omega
      rw [if_neg (fun h => hB (hok.1 h).2)]
      simp only [go_sem, cref_Num_r4, cref_Num_r5, bs_size, q1, q2]
      rfl
  · have q1 : (4000 : Int) < ((decL q.num.natAbs).length : Int) := by omega
    rw [if_neg (fun h => hA (hok.1 h).1)]
    simp only [go_sem, cref_Num_r4, cref_Num_r5, bs_size, q1]
    rfl
theorem ris {n d : Int} {k : Nat} {q : Rat} {s : ByteArray} (h1 : Ib k n) (h2 : Ib k d) (hd : 0 < d) (hk : k ≤ 10000000) (hq : Rat.divInt n d = q) :
    SpecV Tryz.prog n_ref_Is [.str s, avR n d] (.bool (decide (NumOk q ∧ s = bs (numS q)))) := by
  refine specV_W ok_ref_Is (by simp) ?_
  unfold cref_Is
  have hn := rnum h1 h2 hd hk hq
  rw [avR_agg] at hn ⊢
  simp only [go_sem, cref_Is_r1, cref_Is_r2]
  refine call_P hn (by simp only [go_sem]) ?_
  by_cases ho : NumOk q
  · rw [if_pos ho]
    by_cases hs : s = bs (numS q)
    · have : decide (NumOk q ∧ s = bs (numS q)) = true := by simp [ho, hs]
      rw [this]
      simp only [go_sem, cref_Is_r3, hs]
    · have : decide (NumOk q ∧ s = bs (numS q)) = false := by simp [hs]
      rw [this]
      simp only [go_sem, cref_Is_r3, hs]
  · have : decide (NumOk q ∧ s = bs (numS q)) = false := by simp [ho]
    rw [if_neg ho, this]
    simp only [go_sem, cref_Is_r3]
end GoAbs
namespace GoAbs
open Go Go.Proofs
def claw_fold_r1 : List IOp := [oI 4 (.mv (cI 0)) 0]
def claw_fold_r2 : List IOp := [mI 5 0 0, mI 6 1 0, oI 7 (.bin .rem (.t 5) (.t 6)) 0, mI 8 1 0, oI 9 (.bin .add (.t 7) (.t 8)) 0, mI 10 1 0, oI 11 (.bin .rem (.t 9) (.t 10)) 0, mI 4 11 0]
def claw_fold : CC := .seq (.rg false claw_fold_r1) (.seq (.rg false claw_fold_r2) .ret)
abbrev n_law_fold : Nat := 37
theorem ok_law_fold : fnOk Tryz.prog 37 = some (12, claw_fold, [.tmp 4]) := by kernel_rfl
def claw_num_r1 : List IOp := [oI 2 (.mv (.c (.str ⟨#[]⟩))) 0]
def claw_num_r2 : List IOp := [mI 6 0 0, oI 7 (.call 37 [.t 6, cI 12]) 0, oI 8 (.bin .add (.t 7) (cI 1)) 0, mI 9 0 0, oI 10 (.bin .quo (.t 9) (cI 12)) 0, oI 11 (.call 37 [.t 10, cI 4]) 0, oI 12 (.bin .add (.t 11) (cI 1)) 0, oI 13 (.call 84 [.t 8, .t 12]) 0, oI 14 (.call 39 [.t 13]) 0, mI 5 14 0, eI 15 0 5 0, eI 16 1 5 0, mI 3 15 0, mI 4 16 0]
def claw_num_r3 : List IOp := [mI 17 3 0, mI 2 17 0]
def claw_num : CC := .seq (.rg false claw_num_r1) (.seq (.rg false claw_num_r2) (.seq (.rg false claw_num_r3) .ret))
abbrev n_law_num : Nat := 38
theorem ok_law_num : fnOk Tryz.prog 38 = some (18, claw_num, [.tmp 2]) := by kernel_rfl
def claw_made_r1 : List IOp := [oI 6 (.alloc [.int .i64 0, .nils]) 0]
def claw_made_r2 : List IOp := [mI 13 0 0, oI 14 (.cvi .i64 (.t 13)) 0, oI 15 (.bin .rem (.t 14) (cI 5)) 0, oI 16 (.bin .add (.t 15) (cI 2)) 0, oI 17 (.build [.int .i64 0, .nils] [(0, 1, .t 16)]) 0, oI 7 (.alloc [.int .i64 0, .nils]) 0, ⟨none, .st 2 (.t 7) (.t 17), 1, [], [], none⟩]
def claw_made_r3 : List IOp := [oI 8 (.mv (cI 0)) 0]
def claw_made_r4 : List IOp := [mI 18 8 0, oI 19 (.bin .add (.t 18) (cI 1)) 0, fI 20 0 7 0, lI 21 20 0, oI 22 (.bin .lss (.t 19) (.t 21)) 0]
def claw_made_r5 : List IOp := [oI 9 (.mv (cI 0)) 0]
def claw_made_r6 : List IOp := [mI 25 8 0, mI 26 2 0, oI 27 (.len (.t 26)) 0, oI 28 (.bin .lss (.t 25) (.t 27)) 0]
def claw_made_r7 : List IOp := [mI 29 2 0, mI 30 8 0, xI 31 1 29 30 0, lI 32 31 0, mI 9 32 0]
def claw_made_r8 : List IOp := [fI 33 1 7 0, lI 34 33 0, mI 35 8 0, mI 36 8 0, oI 37 (.bin .add (.t 36) (cI 1)) 0, mI 38 9 0, oI 39 (.call 38 [.t 38]) 0, oI 40 (.build [.int .i64 0, .int .i64 0, .str ⟨#[]⟩] [(0, 1, .t 35), (1, 1, .t 37), (2, 1, .t 39)]) 0, oI 41 (.bsl (some 3) 1 [.int .i64 0, .int .i64 0, .str ⟨#[]⟩] [(0, .t 40)]) 0, ⟨some 42, .app (some 3) 32 (.t 34) (.t 41), 1, [0], [], none⟩, ⟨some 43, .fa 1 (.t 7), 2, [0, 1], [], none⟩, ⟨none, .st 1 (.t 43) (.t 42), 2, [0, 1], [], none⟩]
@[go_sem ↓] theorem claw_made_r8_k : autoK claw_made_r8 = (2, 1) := by kernel_rfl
@[go_sem] theorem claw_made_r8_k1 : autoK [fI 33 1 7 0, lI 34 33 0, mI 35 8 0, mI 36 8 0, oI 37 (.bin .add (.t 36) (cI 1)) 0, mI 38 9 0, oI 39 (.call 38 [.t 38]) 0, oI 40 (.build [.int .i64 0, .int .i64 0, .str ⟨#[]⟩] [(0, 1, .t 35), (1, 1, .t 37), (2, 1, .t 39)]) 0, oI 41 (.bsl (some 3) 1 [.int .i64 0, .int .i64 0, .str ⟨#[]⟩] [(0, .t 40)]) 0, ⟨some 42, .app (some 3) 32 (.t 34) (.t 41), 1, [0], [], none⟩, ⟨some 43, .fa 1 (.t 7), 2, [0, 1], [], none⟩, ⟨none, .st 1 (.t 43) (.t 42), 2, [0, 1], [], none⟩] = (2, 1) := claw_made_r8_k
def claw_made_r9 : List IOp := [mI 23 8 0, oI 24 (.bin .add (.t 23) (cI 1)) 0, mI 8 24 0]
def claw_made_L1 : CC := .seq (.seq (.rg false claw_made_r4) (.cond (.t 22) .skip (.exit 0))) (.seq (.block 1 (.seq (.rg false claw_made_r5) (.seq (.seq (.rg false claw_made_r6) (.cond (.t 28) (.rg false claw_made_r7) .skip)) (.rg true claw_made_r8)))) (.rg false claw_made_r9))
def claw_made_r10 : List IOp := [oI 10 (.mv (cI 0)) 0]
def claw_made_r11 : List IOp := [mI 44 10 0, mI 45 1 0, oI 46 (.len (.t 45)) 0, oI 47 (.bin .lss (.t 44) (.t 46)) 0, mI 48 47 0, gI 49 (.mv (.t 10)) 0 48 true, gI 50 (.bin .lss (.t 49) (cI 6)) 0 48 true, oI 51 (.pick (.t 48) (.t 50) (.c (.bool false))) 0]
def claw_made_r12 : List IOp := [mI 54 1 0, mI 55 10 0, xI 56 3 54 55 0, fI 57 0 56 0, lI 58 57 0, fI 59 0 7 0, lI 60 59 0, oI 61 (.call 37 [.t 58, .t 60]) 0, mI 62 1 0, mI 63 10 0, xI 64 3 62 63 0, fI 65 1 64 0, lI 66 65 0, fI 67 0 7 0, lI 68 67 0, oI 69 (.callw 37 [.t 66, .t 68]) 0, mI 11 61 0, mI 12 69 0]
@[go_sem ↓] theorem claw_made_r12_k : autoK claw_made_r12 = (0, 0) := by kernel_rfl
@[go_sem] theorem claw_made_r12_k1 : autoK [mI 54 1 0, mI 55 10 0, xI 56 3 54 55 0, fI 57 0 56 0, lI 58 57 0, fI 59 0 7 0, lI 60 59 0, oI 61 (.call 37 [.t 58, .t 60]) 0, mI 62 1 0, mI 63 10 0, xI 64 3 62 63 0, fI 65 1 64 0, lI 66 65 0, fI 67 0 7 0, lI 68 67 0, oI 69 (.callw 37 [.t 66, .t 68]) 0, mI 11 61 0, mI 12 69 0] = (0, 0) := claw_made_r12_k
def claw_made_r13 : List IOp := [mI 70 11 0, mI 71 12 0, oI 72 (.bin .neq (.t 70) (.t 71)) 0]
def claw_made_r14 : List IOp := [fI 73 1 7 0, lI 74 73 0, mI 75 11 0, mI 76 12 0, mI 77 1 0, mI 78 10 0, xI 79 3 77 78 0, fI 80 0 79 0, lI 81 80 0, oI 82 (.bin .quo (.t 81) (cI 7)) 0, mI 83 1 0, mI 84 10 0, xI 85 3 83 84 0, fI 86 1 85 0, lI 87 86 0, oI 88 (.bin .add (.t 82) (.t 87)) 0, oI 89 (.call 38 [.t 88]) 0, oI 90 (.build [.int .i64 0, .int .i64 0, .str ⟨#[]⟩] [(0, 1, .t 75), (1, 1, .t 76), (2, 1, .t 89)]) 0, oI 91 (.bsl (some 3) 1 [.int .i64 0, .int .i64 0, .str ⟨#[]⟩] [(0, .t 90)]) 0, ⟨some 92, .app (some 3) 32 (.t 74) (.t 91), 1, [0], [], none⟩, ⟨some 93, .fa 1 (.t 7), 2, [0, 1], [], none⟩, ⟨none, .st 1 (.t 93) (.t 92), 2, [0, 1], [], none⟩]
@[go_sem ↓] theorem claw_made_r14_k : autoK claw_made_r14 = (2, 1) := by kernel_rfl
@[go_sem] theorem claw_made_r14_k1 : autoK [fI 73 1 7 0, lI 74 73 0, mI 75 11 0, mI 76 12 0, mI 77 1 0, mI 78 10 0, xI 79 3 77 78 0, fI 80 0 79 0, lI 81 80 0, oI 82 (.bin .quo (.t 81) (cI 7)) 0, mI 83 1 0, mI 84 10 0, xI 85 3 83 84 0, fI 86 1 85 0, lI 87 86 0, oI 88 (.bin .add (.t 82) (.t 87)) 0, oI 89 (.call 38 [.t 88]) 0, oI 90 (.build [.int .i64 0, .int .i64 0, .str ⟨#[]⟩] [(0, 1, .t 75), (1, 1, .t 76), (2, 1, .t 89)]) 0, oI 91 (.bsl (some 3) 1 [.int .i64 0, .int .i64 0, .str ⟨#[]⟩] [(0, .t 90)]) 0, ⟨some 92, .app (some 3) 32 (.t 74) (.t 91), 1, [0], [], none⟩, ⟨some 93, .fa 1 (.t 7), 2, [0, 1], [], none⟩, ⟨none, .st 1 (.t 93) (.t 92), 2, [0, 1], [], none⟩] = (2, 1) := claw_made_r14_k
def claw_made_r15 : List IOp := [mI 52 10 0, oI 53 (.bin .add (.t 52) (cI 1)) 0, mI 10 53 0]
def claw_made_L2 : CC := .seq (.seq (.rg false claw_made_r11) (.cond (.t 51) .skip (.exit 2))) (.seq (.block 3 (.seq (.rg true claw_made_r12) (.seq (.rg false claw_made_r13) (.cond (.t 72) (.rg true claw_made_r14) .skip)))) (.rg false claw_made_r15))
def claw_made_r16 : List IOp := [lJ 94 2 7 0, ⟨none, .st 2 (.t 6) (.t 94), 0, [], [], none⟩]
def claw_made : CC := .seq (.rg false claw_made_r1) (.seq (.rg false claw_made_r2) (.seq (.seq (.rg false claw_made_r3) (.block 0 (.loop claw_made_L1))) (.seq (.seq (.rg false claw_made_r10) (.block 2 (.loop claw_made_L2))) (.seq (.rg false claw_made_r16) .ret))))
abbrev n_law_made : Nat := 22
theorem ok_law_made : fnOk Tryz.prog 22 = some (95, claw_made, [.cell 6 (some 2)]) := by kernel_rfl
def claw_pair_r1 : List IOp := [oI 3 (.box (.t 1)) 0, oI 4 (.mv (cI 0)) 1, oI 5 (.mv (cI 0)) 1]
def claw_pair_r2 : List IOp := [fI 7 0 3 0, lI 8 7 0, mI 9 0 0, oI 10 (.call 37 [.t 8, .t 9]) 0, mI 6 10 0]
def claw_pair_r3 : List IOp := [mI 11 6 0, mI 12 6 0, oI 13 (.bin .add (.t 12) (cI 1)) 0, fI 14 1 3 0, lI 15 14 0, mI 16 0 0, oI 17 (.bin .sub (.t 16) (cI 1)) 0, oI 18 (.call 37 [.t 15, .t 17]) 0, oI 19 (.bin .add (.t 13) (.t 18)) 0, mI 20 0 0, oI 21 (.bin .rem (.t 19) (.t 20)) 0, mI 4 11 0, mI 5 21 0]
@[go_sem ↓] theorem claw_pair_r3_k : autoK claw_pair_r3 = (0, 0) := by kernel_rfl
@[go_sem] theorem claw_pair_r3_k1 : autoK [mI 11 6 0, mI 12 6 0, oI 13 (.bin .add (.t 12) (cI 1)) 0, fI 14 1 3 0, lI 15 14 0, mI 16 0 0, oI 17 (.bin .sub (.t 16) (cI 1)) 0, oI 18 (.call 37 [.t 15, .t 17]) 0, oI 19 (.bin .add (.t 13) (.t 18)) 0, mI 20 0 0, oI 21 (.bin .rem (.t 19) (.t 20)) 0, mI 4 11 0, mI 5 21 0] = (0, 0) := claw_pair_r3_k
def claw_pair : CC := .seq (.rg false claw_pair_r1) (.seq (.rg false claw_pair_r2) (.seq (.rg true claw_pair_r3) .ret))
abbrev n_law_pair : Nat := 30
theorem ok_law_pair : fnOk Tryz.prog 30 = some (22, claw_pair, [.tmp 4, .tmp 5]) := by kernel_rfl
end GoAbs
namespace GoAbs
open Go Go.Proofs
theorem rover {a b : Int} : SpecV Tryz.prog n_ref_Over [avZ a, avZ b] (if b < 0 then avR (-a) (-b) else avR a b) := by
  have hm : Tryz.prog.follows .mixedOrders = true := by kernel_rfl
  refine specV_W ok_ref_Over (by simp) ?_
  unfold cref_Over
  have n1 := rneg_z (z := a)
  have n2 := rneg_z (z := b)
  rw [avZ_agg, avZ_agg] at n1 n2
  rw [avZ_agg, avZ_agg]
  by_cases h : b < 0
  · rw [if_pos h, avR_agg]
    simp only [go_sem, cref_Over_r1, cref_Over_r2, cref_Over_r3, cref_Over_r4, h, decide_true, hm]
    simp only [h, decide_true] at n2
    refine call_P n1 (by simp only [go_sem]) ?_
    simp only [go_sem]
    refine call_P n2 (by simp only [go_sem]) ?_
    simp only [go_sem]
  · rw [if_neg h, avR_agg]
    simp only [go_sem, cref_Over_r1, cref_Over_r2, cref_Over_r4, h, decide_false]
theorem rsubq {n1 d1 n2 d2 : Int} {k : Nat} (h1 : Ib k n1) (h2 : Ib k d1) (h3 : Ib k n2) (h4 : Ib k d2) (hk : k ≤ 1000000) : SpecV Tryz.prog n_ref_SubQ [avR n1 d1, avR n2 d2] (avR (n1 * d2 - n2 * d1) (d1 * d2)) := by
  have hm : Tryz.prog.follows .mixedOrders = true := by kernel_rfl
  refine specV_W ok_ref_SubQ (by simp) ?_
  unfold cref_SubQ
  have z1 := h1.zs (by omega)
  have z2 := h2.zs (by omega)
  have z3 := h3.zs (by omega)
  have z4 := h4.zs (by omega)
  have m1 := rmul_z z1 z4
  have m2 := rmul_z z3 z2
  have m3 := rmul_z z2 z4
  have m4 := rsub_z ((h1.mul h4).zs (by omega)) ((h3.mul h2).zs (by omega))
  rw [avZ_agg, avZ_agg, avZ_agg] at m1 m2 m3 m4
  rw [avR_agg, avR_agg, avR_agg]
  simp only [go_sem, cref_SubQ_r1, cref_SubQ_r2, hm]
  refine call_P m1 (by simp only [go_sem]) ?_
  simp only [go_sem]
  refine call_P m2 (by simp only [go_sem]) ?_
  simp only [go_sem]
  refine call_P m4 (by simp only [go_sem]) ?_
  simp only [go_sem]
  refine call_P m3 (by simp only [go_sem]) ?_
  simp only [go_sem]
theorem rcmpq {n1 d1 n2 d2 : Int} {k : Nat} (h1 : Ib k n1) (h2 : Ib k d1) (h3 : Ib k n2) (h4 : Ib k d2) (hk : k ≤ 1000000) : SpecV Tryz.prog n_ref_CmpQ [avR n1 d1, avR n2 d2] (.int .i64 (if n1 * d2 = n2 * d1 then 0 else if n1 * d2 < n2 * d1 then -1 else 1)) := by
  have hm : Tryz.prog.follows .mixedOrders = true := by kernel_rfl
  refine specV_W ok_ref_CmpQ (by simp) ?_
  unfold cref_CmpQ
  have z1 := h1.zs (by omega)
  have z2 := h2.zs (by omega)
  have z3 := h3.zs (by omega)
  have z4 := h4.zs (by omega)
  have m1 := rmul_z z1 z4
  have m2 := rmul_z z3 z2
  have m4 := rcmp_z ((h1.mul h4).zs (by omega)) ((h3.mul h2).zs (by omega))
  rw [avZ_agg, avZ_agg, avZ_agg] at m1 m2
  rw [avZ_agg, avZ_agg] at m4
  rw [avR_agg, avR_agg]
  simp only [go_sem, cref_CmpQ_r1, cref_CmpQ_r2, hm]
  refine call_P m1 (by simp only [go_sem]) ?_
  simp only [go_sem]
  refine call_P m2 (by simp only [go_sem]) ?_
  simp only [go_sem]
  refine call_P m4 (by simp only [go_sem]) ?_
  simp only [go_sem]
theorem rmake {n d : Int} (hn : n.natAbs ≤ 9223372036854775807) (hd : 0 < d) (hdl : d ≤ 9223372036854775807) : SpecV Tryz.prog n_ref_Make [.int .i64 n, .int .i64 d] (avR (Rat.divInt n d).num (Rat.divInt n d).den) := by
  refine specV_W ok_ref_Make (by simp) ?_
  unfold cref_Make
  have i1 := rint_z (v := n) (by omega)
  have i2 := rint_z (v := d) (by omega)
  have o := rover (a := n) (b := d)
  rw [if_neg (by omega)] at o
  have c : (9223372036854775808 : Nat) = 2 ^ 63 := by decide
  have l := rlow (n := n) (d := d) (k := 63) (by unfold Ib; omega) (by unfold Ib; omega) hd (by omega)
  rw [avZ_agg] at i1 i2
  rw [avZ_agg, avZ_agg, avR_agg] at o
  rw [avR_agg, avR_agg] at l
  rw [avR_agg]
  simp only [go_sem, cref_Make_r1, cref_Make_r2]
  refine call_P i1 (by simp only [go_sem]) ?_
  simp only [go_sem]
  refine call_P i2 (by simp only [go_sem]) ?_
  simp only [go_sem]
  refine call_P o (by simp only [go_sem]) ?_
  simp only [go_sem]
  refine call_P l (by simp only [go_sem]) ?_
  simp only [go_sem]
end GoAbs
namespace GoAbs
open Go Go.Proofs
theorem rdig_L1 {l : List UInt8} {lo hi n0 : Nat} {b1 b2 : Blk} (hlo : lo ≤ hi) (hh : hi ≤ lo + 4) (hl : hi ≤ l.length) (hll : l.length ≤ 4000) {K : Ex → St → Prop}
    (hbad : ∀ e : Nat → AV, ¬ AllD l → e 2 = .ptr 0 0 → e 3 = .bool false → K .ret ⟨e, [.cells [.bool false, .nils], b1, b2]⟩)
    (hK : ∀ e : Nat → AV, AllD ((l.take hi).drop lo) → e 0 = .str (bs l) → e 2 = .ptr 0 0 → e 4 = .ptr 1 0 → e 5 = .int .i64 (hi : Int) → e 6 = .int .i64 (numL ((l.take hi).drop lo) : Int) → K (.exit 2) ⟨e, [.cells [.bool false, .nils], b1, b2]⟩) :
    T Tryz.prog 69 n0 (.loop cref_digits_L1) ⟨envL [(0, .str (bs l)), (2, .ptr 0 0), (4, .ptr 1 0), (5, .int .i64 (hi : Int)), (6, .int .i64 0), (7, .int .i64 (lo : Int))], [.cells [.bool false, .nils], b1, b2]⟩ K := by
  refine T_rounds (fun i : Nat => ⟨envL [(0, .str (bs l)), (2, .ptr 0 0), (4, .ptr 1 0), (5, .int .i64 (hi : Int)), (6, .int .i64 (numL ((l.take i).drop lo) : Int)), (7, .int .i64 (i : Int))], [.cells [.bool false, .nils], b1, b2]⟩)
    (fun i => lo ≤ i ∧ i ≤ hi ∧ AllD ((l.take i).drop lo)) (fun i => hi - i) lo
    ⟨Nat.le_refl _, hlo, fun c hc => by rw [List.drop_eq_nil_of_le (by simp; omega)] at hc; simp at hc⟩ (Le_keep _ (by
      have : (l.take lo).drop lo = [] := List.drop_eq_nil_of_le (by simp; omega)
      simp only [go_sem, this, numL_nil]; simp)) (fun i hI N hN => ?_)
  obtain ⟨h1, h2, h3⟩ := hI
  unfold cref_digits_L1
  by_cases hi' : i < hi
  · obtain ⟨c, gi⟩ : ∃ c, l[i]? = some c := ⟨_, List.getElem?_eq_getElem (show i < l.length by omega)⟩
    have p1 : (i : Int) < (hi : Int) := by omega
    have p2 : (0 : Int) ≤ (i : Int) := by omega
    have e6 : IntKind.i64.wrap ((i : Int) + 1) = ((i + 1 : Nat) : Int) := by rw [i64_id (by omega) (by omega)]; omega
    have hst : (l.take (i + 1)).drop lo = (l.take i).drop lo ++ [c] := by
      rw [List.take_add_one, gi]
      rw [List.drop_append_of_le_length (by simp; omega)]; rfl
    have hlt : numL ((l.take i).drop lo) < 10 ^ 4 := by
      refine Nat.lt_of_lt_of_le (numL_lt h3) (Nat.pow_le_pow_right (by omega) ?_)
      simp; omega
    by_cases c1 : c.toNat < 48
    · have q1 : (c.toNat : Int) < 48 := by omega
      have hnd : ¬ AllD l := fun h => by have := h c (List.mem_of_getElem? gi); unfold isDig at this; omega
      simp only [go_sem, cref_digits_r9, cref_digits_r10, cref_digits_r11, p1, p2, bs_get, gi, q1]
      exact hbad _ hnd (by simp only [go_sem]) (by simp only [go_sem])
    · have q1 : ¬ (c.toNat : Int) < 48 := by omega
      by_cases c2 : 57 < c.toNat
      · have q2 : (57 : Int) < (c.toNat : Int) := by omega
        have hnd : ¬ AllD l := fun h => by have := h c (List.mem_of_getElem? gi); unfold isDig at this; omega
        simp only [go_sem, cref_digits_r9, cref_digits_r10, cref_digits_r11, p1, p2, bs_get, gi, q1, q2]
        exact hbad _ hnd (by simp only [go_sem]) (by simp only [go_sem])
      · have q2 : ¬ (57 : Int) < (c.toNat : Int) := by omega
        have e1 : IntKind.u8.wrap ((c.toNat : Int) - 48) = ((c.toNat - 48 : Nat) : Int) := by rw [u8_id (by omega) (by omega)]; omega
        have e2 : IntKind.i64.wrap ((c.toNat - 48 : Nat) : Int) = ((c.toNat - 48 : Nat) : Int) := i64_id (by omega) (by omega)
        have e3 : IntKind.i64.wrap (10 * ((numL ((l.take i).drop lo) : Nat) : Int)) = ((10 * numL ((l.take i).drop lo) : Nat) : Int) := by rw [i64_id (by omega) (by omega)]; omega
        have e4 : IntKind.i64.wrap (((10 * numL ((l.take i).drop lo) : Nat) : Int) + ((c.toNat - 48 : Nat) : Int)) = ((numL ((l.take (i + 1)).drop lo) : Nat) : Int) := by
          rw [hst, numL_snoc, i64_id (by omega) (by omega)]; omega
        simp only [go_sem, cref_digits_r9, cref_digits_r10, cref_digits_r12, cref_digits_r13, p1, p2, bs_get, gi, q1, q2, e1, e2, e3, e4, e6]
        refine hN (i + 1) _ ⟨by omega, by omega, fun x hx => ?_⟩ (by omega) (Le_keep _ (by simp only [go_sem]))
        rw [hst] at hx
        rcases List.mem_append.1 hx with hx | hx
        · exact h3 x hx
        · simp at hx; subst hx; unfold isDig; omega
  · have he : i = hi := by omega
    subst he
    have p1 : ¬ (i : Int) < (i : Int) := by omega
    simp only [go_sem, cref_digits_r9, p1]
    exact hK _ h3 (by simp only [go_sem]) (by simp only [go_sem]) (by simp only [go_sem]) (by simp only [go_sem]) (by simp only [go_sem])
theorem rdig_L2 {l : List UInt8} (hl0 : l ≠ []) (hll : l.length ≤ 4000) {K : Ex → St → Prop}
    (hbad : ∀ (e : Nat → AV) (b1 b2 : Blk), ¬ AllD l → e 2 = .ptr 0 0 → e 3 = .bool false → K .ret ⟨e, [.cells [.bool false, .nils], b1, b2]⟩)
    (hK : ∀ (e : Nat → AV) (s : List Nat), AllD l → Od s → vd s = numL l → s.length ≤ 4001 → e 2 = .ptr 0 0 → e 4 = .ptr 1 0 → K (.exit 0) ⟨e, [.cells [.bool false, .nils], .cells [.bool false, .osl none 2 0 s.length], .cells (ic s)]⟩) :
    T Tryz.prog 69 0 (.loop cref_digits_L2) ⟨envL [(0, .str (bs l)), (2, .ptr 0 0), (4, .ptr 1 0), (5, .int .i64 (l.length : Int))], [.cells [.bool false, .nils], .cells [.bool false, .osl none 2 0 0], .cells []]⟩ K := by
  refine T_rounds (fun s : List Nat => ⟨envL [(0, .str (bs l)), (2, .ptr 0 0), (4, .ptr 1 0), (5, .int .i64 ((l.length : Int) - 4 * s.length))], [.cells [.bool false, .nils], .cells [.bool false, .osl none 2 0 s.length], .cells (ic s)]⟩)
    (fun s => Od s ∧ 4 * s.length < l.length + 4 ∧ AllD (l.drop (l.length - 4 * s.length)) ∧ vd s = numL (l.drop (l.length - 4 * s.length))) (fun s => l.length + 4 - 4 * s.length) []
    ⟨fun x hx => by simp at hx, by simp, fun c hc => by simp at hc, by simp [vd, numL_nil]⟩ (Le_keep _ (by simp only [go_sem]; simp)) (fun s hI N hN => ?_)
  obtain ⟨h1, h2, h3, h4⟩ := hI
  unfold cref_digits_L2
  by_cases hgo : 4 * s.length < l.length
  · obtain ⟨hi, hhi⟩ : ∃ hi, hi = l.length - 4 * s.length := ⟨_, rfl⟩
    obtain ⟨lo, hlo⟩ : ∃ lo, lo = hi - 4 := ⟨_, rfl⟩
    have ehi : (l.length : Int) - 4 * (s.length : Int) = (hi : Int) := by omega
    have p1 : (0 : Int) < (hi : Int) := by omega
    have e1 : IntKind.i64.wrap ((hi : Int) - 4) = (hi : Int) - 4 := i64_id (by omega) (by omega)
    have e2 : (if (hi : Int) - 4 > 0 then (hi : Int) - 4 else 0) = (lo : Int) := by split <;> omega
    simp only [go_sem, cref_digits_r6, cref_digits_r7, cref_digits_r8, ehi, p1, e1]
    rw [← hhi] at h3 h4
    have hlo2 : l.length - 4 * (s.length + 1) = lo := by omega
    refine T_keep [(0, .str (bs l)), (2, .ptr 0 0), (4, .ptr 1 0), (5, .int .i64 (hi : Int)), (6, .int .i64 0), (7, .int .i64 (lo : Int))] (by simp only [go_sem, e2])
      (rdig_L1 (by omega) (by omega) (by omega) hll (fun e hn k2 k3 => by simp only [go_sem]; exact hbad e _ _ hn k2 k3) (fun e g1 k0 k2 k4 k5 k6 => ?_))
    have hsz : (s.length + 1) * 8 ≤ 1099511627776 := by omega
    have hfit : s.length ≤ (ic s).length := by rw [ic_len]; omega
    have htake : (ic s).take s.length = ic s := List.take_of_length_le (by rw [ic_len]; omega)
    have e3 : (hi : Int) - 4 = (l.length : Int) - 4 * ((s.length + 1 : Nat) : Int) := by omega
    have hgl : ((l.take hi).drop lo).length ≤ 4 := by simp; omega
    have hsplit : l.drop lo = (l.take hi).drop lo ++ l.drop hi := by
      have h := List.take_append_drop hi l
      conv => lhs; rw [← h]
      rw [List.drop_append_of_le_length (by simp; omega)]
    have hnum : numL (l.drop lo) = numL ((l.take hi).drop lo) * 10000 ^ s.length + numL (l.drop hi) := by
      rw [hsplit, numL_append]
      have : (l.drop hi).length = 4 * s.length := by rw [List.length_drop]; omega
      rw [this, Nat.pow_mul]
    have hd4 : numL ((l.take hi).drop lo) < 10000 := by
      have h1 := numL_lt g1
      have h2 : 10 ^ ((l.take hi).drop lo).length ≤ 10 ^ 4 := Nat.pow_le_pow_right (by omega) hgl
      exact Nat.lt_of_lt_of_le h1 h2
    generalize numL ((l.take hi).drop lo) = d at *
    simp only [go_sem, cref_digits_r14, cref_digits_r15, k4, k5, k6, hsz, hfit, htake, e1]
    refine hN (s ++ [d]) _ ⟨h1.append (fun x hx => by simp at hx; omega), by rw [List.length_append, List.length_singleton]; omega, ?_, ?_⟩ (by show _ < _; rw [List.length_append, List.length_singleton]; omega) ?_
    · rw [List.length_append, List.length_singleton, hlo2, hsplit]
      intro x hx
      rcases List.mem_append.1 hx with hx | hx
      · exact g1 x hx
      · exact h3 x hx
    · rw [List.length_append, List.length_singleton, hlo2, hnum, vd_append, h4]
      simp only [vd, Nat.mul_zero, Nat.add_zero]
      rw [Nat.mul_comm d]; omega
    · refine Le_eq (Le_gc [0, 1, 4] (by decide) (fun i hi => by omega) [(0, .str (bs l)), (2, .ptr 0 0), (4, .ptr 1 0), (5, .int .i64 ((l.length : Int) - 4 * ((s.length + 1 : Nat) : Int)))] (by simp only [go_sem, k0, k2, k4, e3])) ?_
      have h1 : ic s ++ [AV.int .i64 (d : Int)] = ic (s ++ [d]) := by rw [ic_append]; rfl
      simp only [List.length_append, List.length_singleton]
      congr 1
      show [Blk.cells [.bool false, .nils], Blk.cells [.bool false, .osl none 2 0 (s.length + 1)], Blk.cells (gcL _ (ic s ++ [AV.int .i64 (d : Int)]))] = _
      rw [h1, gc_ic]
  · have p1 : ¬ (0 : Int) < (l.length : Int) - 4 * (s.length : Int) := by omega
    have hz : l.length - 4 * s.length = 0 := by omega
    rw [hz, List.drop_zero] at h3 h4
    simp only [go_sem, cref_digits_r6, p1]
    exact hK _ s h3 h1 h4 (by omega) (by simp only [go_sem]) (by simp only [go_sem])
end GoAbs
namespace GoAbs
open Go Go.Proofs
def digR (l : List UInt8) : AV := if digOk l then .tup [avZ (numL l), .bool true] else .tup [.agg [.bool false, .nils], .bool false]
theorem rdigits {l : List UInt8} (hlen : l.length ≤ 1000000000) : SpecV Tryz.prog n_ref_digits [.str (bs l)] (digR l) := by
  refine specV_T ok_ref_digits (by simp) (T_cut 1 rfl ?_)
  unfold cref_digits
  have tail : ∀ (e : Nat → AV), l ≠ [] → l.length ≤ 4000 → ¬ (l.head? = some 48 ∧ 1 < l.length) → e 0 = .str (bs l) → e 2 = .ptr 0 0 →
      T Tryz.prog 69 0 (.seq (.rg false cref_digits_r4) (.seq (.seq (.rg false cref_digits_r5) (.block 0 (.loop cref_digits_L2))) (.seq (.rg false cref_digits_r16) .ret))) ⟨e, [.cells [.bool false, .nils]]⟩ (retQ [.cell 2 (some 2), .tmp 3] (digR l)) := fun e h0 hl h48 k0 k2 => by
    refine T_seq (T_W ?_)
    simp only [go_sem, cref_digits_r4]
    refine T_keep [(0, .str (bs l)), (2, .ptr 0 0), (4, .ptr 1 0)] (by simp only [go_sem, k0, k2]) ?_
    refine T_le (Le_cells (b := 1) (l := [.bool false, .nils]) (l' := [.bool false, .osl none 2 0 0]) rfl rfl (fun j x y hx hy => ?_)) (T_le Le_pad ?_)
    · match j, hx, hy with
      | 0, hx, hy => simp at hx hy; subst hx; subst hy; exact .inl rfl
      | 1, hx, hy => simp at hx hy; subst hx; subst hy; exact .inr ⟨rfl, _, _, _, rfl⟩
      | j + 2, hx, hy => simp at hx
    refine T_seq (T_seq (T_W ?_))
    simp only [go_sem, cref_digits_r5, bs_size]
    refine T_block ?_
    refine T_keep [(0, .str (bs l)), (2, .ptr 0 0), (4, .ptr 1 0), (5, .int .i64 (l.length : Int))] (by simp only [go_sem]) ?_
    refine rdig_L2 h0 hl (fun e2 b1 b2 hn j2 j3 => ?_) (fun e2 s g1 g2 g3 g4 j2 j4 => ?_)
    · have hr : digR l = .tup [.agg [.bool false, .nils], .bool false] := by unfold digR; rw [if_neg (fun h => hn h.1)]
      rw [hr]
      simp only [go_sem, j2, j3]
    · have hr : digR l = .tup [avZ (numL l), .bool true] := by unfold digR; rw [if_pos ⟨g1, h0, h48, hl⟩]
      rw [hr]
      have hln := rlean_z (m := false) g2 (by omega)
      rw [g3] at hln
      simp only [Bool.false_eq_true, if_false] at hln
      rw [avZ_nat] at hln ⊢
      simp only [go_sem]
      refine T_W ?_
      simp only [go_sem, cref_digits_r16, j2, j4]
      refine call_F (ids := [2]) hln ?_ ?_
      · simp only [go_sem]
        exact bv_ic (r := s) rfl (by simp) rfl (by rw [List.drop_zero]; exact List.take_of_length_le (by simp [ic_len]))
      simp only [go_sem, j2]
  have bad : ¬ digOk l → digR l = .tup [.agg [.bool false, .nils], .bool false] := fun h => by unfold digR; rw [if_neg h]
  by_cases h0 : l = []
  · have q1 : (l.length : Int) < 1 := by rw [h0]; simp
    rw [bad (fun h => h.2.1 h0)]
    simp only [go_sem, cref_digits_r1, cref_digits_r2, cref_digits_r3, bs_size, q1]
  · have hpos : 0 < l.length := List.length_pos_iff.2 h0
    have q1 : ¬ (l.length : Int) < 1 := by omega
    obtain ⟨c, gi⟩ : ∃ c, l[0]? = some c := ⟨_, List.getElem?_eq_getElem hpos⟩
    have hhd : l.head? = some c := by rw [List.head?_eq_getElem?]; exact gi
    by_cases h4 : l.length ≤ 4000
    · have q2 : ¬ (4000 : Int) < (l.length : Int) := by omega
      by_cases hc : c = 48
      · have hci : (c.toNat : Int) = 48 := by rw [hc]; rfl
        by_cases h1 : 1 < l.length
        · have q3 : (1 : Int) < (l.length : Int) := by omega
          rw [bad (fun h => h.2.2.1 ⟨by rw [hhd, hc], h1⟩)]
          simp only [go_sem, cref_digits_r1, cref_digits_r2, cref_digits_r3, bs_size, bs_get, gi, q1, q2, q3, hci]
        · have q3 : ¬ (1 : Int) < (l.length : Int) := by omega
          simp only [go_sem, cref_digits_r1, cref_digits_r2, bs_size, bs_get, gi, q1, q2, q3, hci]
          exact tail _ h0 h4 (fun h => h1 h.2) (by simp only [go_sem]) (by simp only [go_sem])
      · have hci : ¬ (c.toNat : Int) = 48 := fun h => hc (UInt8.toNat_inj.1 (by have : (48 : UInt8).toNat = 48 := rfl; omega))
        simp only [go_sem, cref_digits_r1, cref_digits_r2, bs_size, bs_get, gi, q1, q2, hci]
        exact tail _ h0 h4 (fun h => hc (by rw [hhd] at h; simpa using h.1)) (by simp only [go_sem]) (by simp only [go_sem])
    · have q2 : (4000 : Int) < (l.length : Int) := by omega
      rw [bad (fun h => h4 h.2.2.2)]
      simp only [go_sem, cref_digits_r1, cref_digits_r2, cref_digits_r3, bs_size, q1, q2]
end GoAbs
namespace GoAbs
open Go Go.Proofs
def befL (o : List UInt8) : List UInt8 := o.takeWhile (· != 47)
def aftL (o : List UInt8) : List UInt8 := (o.dropWhile (· != 47)).tail
theorem befL_drop {o : List UInt8} {i : Nat} {c : UInt8} (h : o[i]? = some c) : (befL (o.drop i)) = if c = 47 then [] else c :: befL (o.drop (i + 1)) := by
  obtain ⟨hi, he⟩ := List.getElem?_eq_some_iff.1 h
  rw [List.drop_eq_getElem_cons hi, he]
  unfold befL
  rw [List.takeWhile_cons]
  by_cases hc : c = 47 <;> simp [hc]
theorem rparse_L1 {o : List UInt8} {m : Bool} {n0 : Nat} {H : Heap} (ho : o.length ≤ 1000000000) {K : Ex → St → Prop}
    (hK : ∀ e : Nat → AV, e 2 = .ptr 0 0 → e 4 = .str (bs o) → e 5 = .bool m → e 6 = .int .i64 ((befL o).length : Int) → K (.exit 0) ⟨e, H⟩) :
    T Tryz.prog 98 n0 (.loop cref_Parse_L1) ⟨envL [(2, .ptr 0 0), (4, .str (bs o)), (5, .bool m), (6, .int .i64 (o.length : Int)), (7, .int .i64 ((o.length : Int) - 1))], H⟩ K := by
  refine T_rounds (fun i : Nat => ⟨envL [(2, .ptr 0 0), (4, .str (bs o)), (5, .bool m), (6, .int .i64 ((i + (befL (o.drop i)).length : Nat) : Int)), (7, .int .i64 ((i : Int) - 1))], H⟩)
    (fun i => i ≤ o.length) (fun i => i) o.length (Nat.le_refl _) (Le_keep _ (by simp only [go_sem, List.drop_length]; simp [befL])) (fun i hi N hN => ?_)
  unfold cref_Parse_L1
  cases i with
  | zero =>
    have q1 : ¬ (0 : Int) ≤ ((0 : Nat) : Int) - 1 := by omega
    simp only [go_sem, cref_Parse_r9, q1]
    exact hK _ (by simp only [go_sem]) (by simp only [go_sem]) (by simp only [go_sem]) (by simp only [go_sem, List.drop_zero, Nat.zero_add])
  | succ j =>
    have e0 : ((j + 1 : Nat) : Int) - 1 = (j : Int) := by omega
    have q1 : (0 : Int) ≤ (j : Int) := by omega
    have e1 : IntKind.i64.wrap ((j : Int) - 1) = (j : Int) - 1 := i64_id (by omega) (by omega)
    obtain ⟨c, gi⟩ : ∃ c, o[j]? = some c := ⟨_, List.getElem?_eq_getElem (show j < o.length by omega)⟩
    have hb := befL_drop gi
    by_cases hc : c = 47
    · have hci : (c.toNat : Int) = 47 := by rw [hc]; rfl
      rw [if_pos hc] at hb
      simp only [go_sem, cref_Parse_r9, cref_Parse_r10, cref_Parse_r11, cref_Parse_r12, e0, q1, bs_get, gi, hci, e1]
      refine hN j _ (by omega) (by omega) (Le_keep _ (by simp only [go_sem, hb]; try simp))
    · have hci : ¬ (c.toNat : Int) = 47 := fun h => hc (UInt8.toNat_inj.1 (by have : (47 : UInt8).toNat = 47 := rfl; omega))
      rw [if_neg hc] at hb
      simp only [go_sem, cref_Parse_r9, cref_Parse_r10, cref_Parse_r12, e0, q1, bs_get, gi, hci, e1]
      refine hN j _ (by omega) (by omega) (Le_keep _ (by simp only [go_sem, hb, List.length_cons]; simp; try omega))
theorem bef_take (o : List UInt8) : o.take (befL o).length = befL o := by
  have h := List.takeWhile_append_dropWhile (p := (· != 47)) (l := o)
  have h2 : (o.takeWhile (· != 47) ++ o.dropWhile (· != 47)).take (befL o).length = befL o := List.take_left' rfl
  rwa [h] at h2
theorem bef_lt (o : List UInt8) : (befL o).length < o.length ↔ 47 ∈ o := by
  have h := List.takeWhile_append_dropWhile (p := (· != 47)) (l := o)
  have hl := congrArg List.length h
  rw [List.length_append] at hl
  have key : (o.dropWhile (· != 47)) = [] ↔ ¬ 47 ∈ o := by
    clear h hl
    induction o with
    | nil => simp
    | cons x o ih =>
      rw [List.dropWhile_cons]
      by_cases hx : x = 47
      · subst hx; simp
      · have hx' : ¬ 47 = x := fun e => hx e.symm
        simp [hx, hx', ih]
  unfold befL
  constructor
  · intro h1
    by_cases h2 : 47 ∈ o
    · exact h2
    · rw [key.2 h2] at hl; simp at hl; omega
  · intro h1
    have : (o.dropWhile (· != 47)) ≠ [] := fun e => key.1 e h1
    have := List.length_pos_iff.2 this
    omega
theorem aft_drop (o : List UInt8) : o.drop ((befL o).length + 1) = aftL o := by
  have h := List.takeWhile_append_dropWhile (p := (· != 47)) (l := o)
  rw [← List.drop_drop]
  have : o.drop (befL o).length = o.dropWhile (· != 47) := by
    have h2 : (o.takeWhile (· != 47) ++ o.dropWhile (· != 47)).drop (befL o).length = o.dropWhile (· != 47) := List.drop_left' rfl
    rwa [h] at h2
  rw [this]
  unfold aftL
  rw [List.drop_one]
end GoAbs
namespace GoAbs
open Go Go.Proofs
def badR : AV := .tup [.agg [.bool false, .nils, .bool false, .nils], .bool false]
def digC (l : List UInt8) : List AV := if digOk l then [.bool false, .sl (ic (dg (numL l)))] else [.bool false, .nils]
theorem digR_eq (l : List UInt8) : digR l = .tup [.agg (digC l), .bool (decide (digOk l))] := by
  unfold digR digC
  by_cases h : digOk l
  · rw [if_pos h, if_pos h, avZ_nat]; simp [h]
  · rw [if_neg h, if_neg h]; simp [h]
theorem rparse_end {e : Nat → AV} {a : List UInt8} {m : Bool} {D : Nat} {rest : Heap} (e2 : e 2 = .ptr 0 0) (e5 : e 5 = .bool m) (e8 : e 8 = .ptr 1 0) (e9 : e 9 = .bool (decide (digOk a))) (e10 : e 10 = .ptr 2 0) :
    T Tryz.prog 98 0 (.seq (.seq (.rg false cref_Parse_r20) (.cond (.t 90) (.seq (.rg false cref_Parse_r21) .ret) .skip)) (.seq (.seq (.rg false cref_Parse_r22) (.cond (.t 92) (.rg false cref_Parse_r23) .skip)) (.seq (.rg false cref_Parse_r24) .ret)))
      ⟨e, .cells [.bool false, .nils, .bool false, .nils] :: .cells (digC a) :: .cells [.bool false, .sl (ic (dg D))] :: rest⟩
      (retQ [.cell 2 (some 4), .tmp 3] (if digOk a ∧ ¬ (m = true ∧ numL a = 0) then .tup [avR (if m then -(numL a : Int) else numL a) (D : Int), .bool true] else badR)) := by
  refine T_W ?_
  have hz2 : ([AV.bool false, .nils] : List AV).length = 2 := rfl
  by_cases hA : digOk a
  · have hc : digC a = [.bool false, .sl (ic (dg (numL a)))] := by unfold digC; rw [if_pos hA]
    have hd : decide (digOk a) = true := by simp [hA]
    rw [hc]
    cases m with
    | false =>
      have hr : (if digOk a ∧ ¬ (false = true ∧ numL a = 0) then AV.tup [avR (if false = true then -(numL a : Int) else numL a) (D : Int), .bool true] else badR) = .tup [.agg [.bool false, .sl (ic (dg (numL a))), .bool false, .sl (ic (dg D))], .bool true] := by
        rw [if_pos ⟨hA, by simp⟩, avR_agg]; simp
      rw [hr]
      simp only [go_sem, cref_Parse_r20, cref_Parse_r22, cref_Parse_r24, e2, e5, e8, e9, e10, hd, Bool.not_true, Bool.not_false]
    | true =>
      by_cases h0 : numL a = 0
      · have hr : (if digOk a ∧ ¬ (true = true ∧ numL a = 0) then AV.tup [avR (if true = true then -(numL a : Int) else numL a) (D : Int), .bool true] else badR) = badR := if_neg (fun h => h.2 ⟨rfl, h0⟩)
        rw [hr]
        have hl : (((dg (numL a)).length : Nat) : Int) = 0 := by rw [h0, dg_zero]; rfl
        unfold badR
        simp only [go_sem, cref_Parse_r20, cref_Parse_r21, e2, e5, e8, e9, e10, hd, Bool.not_true, Bool.not_false, ic_len, hl]
      · have hr : (if digOk a ∧ ¬ (true = true ∧ numL a = 0) then AV.tup [avR (if true = true then -(numL a : Int) else numL a) (D : Int), .bool true] else badR) = .tup [.agg [.bool (decide (-(numL a : Int) < 0)), .sl (ic (dg (-(numL a : Int)).natAbs)), .bool false, .sl (ic (dg D))], .bool true] := by
          rw [if_pos ⟨hA, fun h => h0 h.2⟩, avR_agg]; simp
        rw [hr]
        have hl : ¬ (((dg (numL a)).length : Nat) : Int) = 0 := by have := (dg_len_pos (n := numL a)).2 h0; omega
        have hn := rneg_z (z := (numL a : Int))
        rw [avZ_nat, avZ_agg] at hn
        simp only [go_sem, cref_Parse_r20, cref_Parse_r22, cref_Parse_r23, e2, e5, e8, e9, e10, hd, Bool.not_true, Bool.not_false, ic_len, hl]
        refine call_P hn (by simp only [go_sem]) ?_
        simp only [go_sem, cref_Parse_r24, e2, e8, e10]
  · have hc : digC a = [.bool false, .nils] := by unfold digC; rw [if_neg hA]
    have hd : decide (digOk a) = false := by simp [hA]
    rw [hc, if_neg (fun h => hA h.1)]
    unfold badR
    simp only [go_sem, cref_Parse_r20, cref_Parse_r21, e2, e5, e8, e9, e10, hd, Bool.not_true, Bool.not_false]
end GoAbs
namespace GoAbs
open Go Go.Proofs
def slashOk (o : List UInt8) : Prop := digOk (aftL o) ∧ 2 ≤ numL (aftL o) ∧ Nat.gcd (if digOk (befL o) then numL (befL o) else 0) (numL (aftL o)) = 1
instance (o : List UInt8) : Decidable (slashOk o) := by unfold slashOk; infer_instance
def midR (o : List UInt8) (m : Bool) : AV :=
  if 47 ∈ o → slashOk o then (if digOk (befL o) ∧ ¬ (m = true ∧ numL (befL o) = 0) then .tup [avR (if m then -(numL (befL o) : Int) else numL (befL o)) ((if 47 ∈ o then numL (aftL o) else 1 : Nat) : Int), .bool true] else badR) else badR
theorem digC_bvs {H : Heap} {a : List UInt8} : BVs H [] (digC a) [.bool false, .sl (ic (dg (if digOk a then numL a else 0)))] := by
  unfold digC
  by_cases h : digOk a
  · rw [if_pos h, if_pos h]; simp only [go_sem]
  · rw [if_neg h, if_neg h, dg_zero, ic_nil]; simp only [go_sem]
theorem digC_len {a : List UInt8} : (digC a).length = 2 := by unfold digC; split <;> rfl
theorem numL_len {l : List UInt8} (h : digOk l) : lenD (numL l) ≤ 4000 := by
  refine lenD_le (Nat.lt_of_lt_of_le (numL_lt h.1) ?_)
  exact Nat.le_trans (Nat.pow_le_pow_right (by omega) h.2.2.2) (Nat.pow_le_pow_left (show 10 ≤ 10000 by decide) 4000)
theorem rparse_mid {e : Nat → AV} {o : List UInt8} {m : Bool} (ho : o.length ≤ 1000000000) (e2 : e 2 = .ptr 0 0) (e4 : e 4 = .str (bs o)) (e5 : e 5 = .bool m) (e6 : e 6 = .int .i64 ((befL o).length : Int)) :
    T Tryz.prog 98 0 (.seq (.rg false cref_Parse_r13) (.seq (.rg false cref_Parse_r14) (.seq (.seq (.rg false cref_Parse_r15) (.cond (.t 53) (.seq (.rg false cref_Parse_r16) (.seq (.seq (.rg true cref_Parse_r17) (.cond (.t 77) (.seq (.rg false cref_Parse_r18) .ret) .skip)) (.rg false cref_Parse_r19))) .skip))
      (.seq (.seq (.rg false cref_Parse_r20) (.cond (.t 90) (.seq (.rg false cref_Parse_r21) .ret) .skip)) (.seq (.seq (.rg false cref_Parse_r22) (.cond (.t 92) (.rg false cref_Parse_r23) .skip)) (.seq (.rg false cref_Parse_r24) .ret))))))
      ⟨e, [.cells [.bool false, .nils, .bool false, .nils]]⟩ (retQ [.cell 2 (some 4), .tmp 3] (midR o m)) := by
  have hm : Tryz.prog.follows .mixedOrders = true := by kernel_rfl
  refine T_cut 2 rfl ?_
  have hbl : (befL o).length ≤ o.length := by
    have := congrArg List.length (bef_take o)
    rw [List.length_take] at this
    omega
  have p0 : (0 : Int) ≤ ((befL o).length : Int) := by omega
  have hdA := rdigits (l := befL o) (by omega)
  rw [digR_eq] at hdA
  have hdB := rdigits (l := aftL o) (by rw [← aft_drop, List.length_drop]; omega)
  rw [digR_eq] at hdB
  have i1 : SpecV Tryz.prog n_ref_Int [.int .i64 1] (.agg [.bool false, .sl (ic (dg 1))]) := by
    have := rint_z (v := 1) (by decide)
    rwa [show avZ 1 = .agg [.bool false, .sl (ic (dg 1))] from avZ_nat (m := 1)] at this
  have i2 : SpecV Tryz.prog n_ref_Int [.int .i64 2] (.agg [.bool false, .sl (ic (dg 2))]) := by
    have := rint_z (v := 2) (by decide)
    rwa [show avZ 2 = .agg [.bool false, .sl (ic (dg 2))] from avZ_nat (m := 2)] at this
  have htk : o.take (befL o).length = befL o := bef_take o
  have d2 : (digC (befL o)).drop 2 = [] := List.drop_eq_nil_of_le (by rw [digC_len]; omega)
  have dl := digC_len (a := befL o)
  simp only [go_sem, cref_Parse_r13, cref_Parse_r14, cref_Parse_r15, e2, e4, e5, e6, bs_size, bs_extract, htk, p0, hbl, List.drop_zero]
  refine ⟨by omega, ?_⟩
  refine call_P hdA (by simp only [go_sem]) ?_
  simp only [go_sem, dl, d2]
  refine call_P i1 (by simp only [go_sem]) ?_
  by_cases h47 : 47 ∈ o
  · have q1 : ((befL o).length : Int) < (o.length : Int) := by have := (bef_lt o).2 h47; omega
    have e1 : IntKind.i64.wrap (((befL o).length : Int) + 1) = (((befL o).length + 1 : Nat) : Int) := by rw [i64_id (by omega) (by omega)]; omega
    have p1 : (0 : Int) ≤ (((befL o).length + 1 : Nat) : Int) := by omega
    have hle : (befL o).length + 1 ≤ o.length := by omega
    have hdr : (o.take o.length).drop ((befL o).length + 1) = aftL o := by rw [List.take_length]; exact aft_drop o
    have hmid : midR o m = if slashOk o then (if digOk (befL o) ∧ ¬ (m = true ∧ numL (befL o) = 0) then .tup [avR (if m then -(numL (befL o) : Int) else numL (befL o)) (numL (aftL o) : Int), .bool true] else badR) else badR := by
      unfold midR
      simp only [h47, if_true, true_implies]
    have db := digC_len (a := aftL o)
    have d2b : (digC (aftL o)).drop 2 = [] := List.drop_eq_nil_of_le (by omega)
    have t2b : (digC (aftL o)).take 2 = digC (aftL o) := List.take_of_length_le (by omega)
    have t2a : (digC (befL o)).take 2 = digC (befL o) := List.take_of_length_le (by omega)
    have l2a : 2 ≤ (digC (befL o)).length := by omega
    have l2b : 2 ≤ (digC (aftL o)).length := by omega
    simp only [go_sem, e2, e4, e5, e6, bs_size, bs_extract, q1, cref_Parse_r16, e1, p1, hle, hdr]
    refine ⟨Nat.le_refl _, ?_⟩
    refine call_P hdB (by simp only [go_sem]) ?_
    by_cases hB : digOk (aftL o)
    · have hd : decide (digOk (aftL o)) = true := by simp [hB]
      have hcB : digC (aftL o) = [.bool false, .sl (ic (dg (numL (aftL o))))] := by unfold digC; rw [if_pos hB]
      have lB := numL_len hB
      rw [hcB] at db d2b t2b l2b ⊢
      rw [hd]
      simp only [go_sem, db, d2b, cref_Parse_r17, hm, Bool.not_true]
      refine call_P i2 (by simp only [go_sem]) ?_
      simp only [go_sem]
      have hc2 := rcmp_z (a := (numL (aftL o) : Int)) (b := 2) (by rw [Int.natAbs_natCast]; unfold Zs; omega) (by have : lenD 2 ≤ 1 := lenD_dig (by omega); show lenD 2 ≤ _; omega)
      rw [avZ_nat, show avZ 2 = .agg [.bool false, .sl (ic (dg 2))] from avZ_nat (m := 2)] at hc2
      refine call_P hc2 (by simp only [go_sem]) ?_
      by_cases hD2 : 2 ≤ numL (aftL o)
      · have hlt : ¬ (if (numL (aftL o) : Int) = 2 then (0 : Int) else if (numL (aftL o) : Int) < 2 then -1 else 1) < 0 := by split <;> (try split) <;> omega
        obtain ⟨N', hN'⟩ : ∃ N', N' = (if digOk (befL o) then numL (befL o) else 0) := ⟨_, rfl⟩
        have lN : lenD N' ≤ 10000000 := by
          rw [hN']; split
          · rename_i h; have := numL_len h; omega
          · show (dg 0).length ≤ _; rw [dg_zero]; simp
        have hgcd := rgcd_z (a := (N' : Int)) (b := (numL (aftL o) : Int)) (by rw [Int.natAbs_natCast]; exact lN) (by rw [Int.natAbs_natCast]; omega)
        have hgn : Int.gcd (N' : Int) (numL (aftL o) : Int) = Nat.gcd N' (numL (aftL o)) := rfl
        rw [hgn, avZ_nat, avZ_nat, avZ_nat] at hgcd
        have lg : lenD (Nat.gcd N' (numL (aftL o))) ≤ 4000 := Nat.le_trans (lenD_mono (Nat.le_of_dvd (by omega) (Nat.gcd_dvd_right _ _))) lB
        have hc1 := rcmp_z (a := (Nat.gcd N' (numL (aftL o)) : Int)) (b := 1) (by rw [Int.natAbs_natCast]; unfold Zs; omega) (by have : lenD 1 ≤ 1 := lenD_dig (by omega); show lenD 1 ≤ _; omega)
        rw [avZ_nat, show avZ 1 = .agg [.bool false, .sl (ic (dg 1))] from avZ_nat (m := 1)] at hc1
        have bvA := fun (H : Heap) => digC_bvs (H := H) (a := befL o)
        rw [← hN'] at bvA
        simp only [go_sem, hlt, l2a, t2a]
        refine call_V (ids := []) hgcd (by simp only [go_sem]; exact bvA _) (.inl rfl) (fun b hb => by simp at hb) ?_
        simp only [go_sem]
        refine call_P i1 (by simp only [go_sem]) ?_
        simp only [go_sem]
        refine call_P hc1 (by simp only [go_sem]) ?_
        by_cases hg : Nat.gcd N' (numL (aftL o)) = 1
        · have hne : (if ((Nat.gcd N' (numL (aftL o)) : Nat) : Int) = 1 then (0 : Int) else if ((Nat.gcd N' (numL (aftL o)) : Nat) : Int) < 1 then -1 else 1) = 0 := if_pos (by omega)
          have hso : slashOk o := ⟨hB, hD2, by rw [← hN']; exact hg⟩
          rw [hmid, if_pos hso]
          simp only [go_sem, hne, cref_Parse_r19]
          exact rparse_end (by simp only [go_sem, e2]) (by simp only [go_sem, e5]) (by simp only [go_sem]) (by simp only [go_sem]) (by simp only [go_sem])
        · have hne : ¬ (if ((Nat.gcd N' (numL (aftL o)) : Nat) : Int) = 1 then (0 : Int) else if ((Nat.gcd N' (numL (aftL o)) : Nat) : Int) < 1 then -1 else 1) = 0 := by
            rw [if_neg (by omega)]; split <;> omega
          have hso : ¬ slashOk o := fun h => hg (by rw [hN']; exact h.2.2)
          rw [hmid, if_neg hso]
          unfold badR
          simp only [go_sem, hne, cref_Parse_r18, e2]
      · have hlt : (if (numL (aftL o) : Int) = 2 then (0 : Int) else if (numL (aftL o) : Int) < 2 then -1 else 1) < 0 := by rw [if_neg (by omega), if_pos (by omega)]; omega
        have hso : ¬ slashOk o := fun h => hD2 h.2.1
        rw [hmid, if_neg hso]
        unfold badR
        simp only [go_sem, hlt, cref_Parse_r18, e2]
    · have hd : decide (digOk (aftL o)) = false := by simp [hB]
      have hso : ¬ slashOk o := fun h => hB h.1
      rw [hd, hmid, if_neg hso]
      unfold badR
      simp only [go_sem, db, d2b, cref_Parse_r17, cref_Parse_r18, hm, Bool.not_false, e2]
  · have q1 : ¬ ((befL o).length : Int) < (o.length : Int) := fun h => h47 ((bef_lt o).1 (by omega))
    have hmid : midR o m = if digOk (befL o) ∧ ¬ (m = true ∧ numL (befL o) = 0) then .tup [avR (if m then -(numL (befL o) : Int) else numL (befL o)) ((1 : Nat) : Int), .bool true] else badR := by
      unfold midR
      simp only [h47, if_false, false_implies, if_true]
    rw [hmid]
    simp only [go_sem, e2, e4, e5, e6, bs_size, q1]
    exact rparse_end (D := 1) (rest := []) (by simp only [go_sem, e2]) (by simp only [go_sem, e5]) (by simp only [go_sem]) (by simp only [go_sem]) (by simp only [go_sem])
end GoAbs
namespace GoAbs
open Go Go.Proofs
def refP (l : List UInt8) : AV := if 8002 < l.length then badR else midR (signL l).1 (signL l).2
theorem rparse_raw {l : List UInt8} (hlen : l.length ≤ 1000000000) : SpecV Tryz.prog n_ref_Parse [.str (bs l)] (refP l) := by
  refine specV_T ok_ref_Parse (by simp) (T_cut 4 rfl ?_)
  unfold cref_Parse
  by_cases hbig : 8002 < l.length
  · have q1 : (8002 : Int) < (l.length : Int) := by omega
    unfold refP
    rw [if_pos hbig]
    unfold badR
    simp only [go_sem, cref_Parse_r1, cref_Parse_r2, cref_Parse_r3, cref_Parse_r4, bs_size, q1]
  · have q1 : ¬ (8002 : Int) < (l.length : Int) := by omega
    unfold refP
    rw [if_neg hbig]
    have tail : ∀ (e : Nat → AV) (o : List UInt8) (m : Bool), o.length ≤ 1000000000 → e 2 = .ptr 0 0 → e 4 = .str (bs o) → e 5 = .bool m → e 6 = .int .i64 (o.length : Int) →
        T Tryz.prog 98 0 (.seq (.seq (.rg false cref_Parse_r8) (.block 0 (.loop cref_Parse_L1))) (.seq (.rg false cref_Parse_r13) (.seq (.rg false cref_Parse_r14) (.seq (.seq (.rg false cref_Parse_r15) (.cond (.t 53) (.seq (.rg false cref_Parse_r16) (.seq (.seq (.rg true cref_Parse_r17) (.cond (.t 77) (.seq (.rg false cref_Parse_r18) .ret) .skip)) (.rg false cref_Parse_r19))) .skip))
          (.seq (.seq (.rg false cref_Parse_r20) (.cond (.t 90) (.seq (.rg false cref_Parse_r21) .ret) .skip)) (.seq (.seq (.rg false cref_Parse_r22) (.cond (.t 92) (.rg false cref_Parse_r23) .skip)) (.seq (.rg false cref_Parse_r24) .ret)))))))
          ⟨e, [.cells [.bool false, .nils, .bool false, .nils]]⟩ (retQ [.cell 2 (some 4), .tmp 3] (midR o m)) := fun e o m ho k2 k4 k5 k6 => by
      have e1 : IntKind.i64.wrap ((o.length : Int) - 1) = (o.length : Int) - 1 := i64_id (by omega) (by omega)
      refine T_seq (T_seq (T_W ?_))
      simp only [go_sem, cref_Parse_r8, k4, bs_size, e1]
      refine T_block ?_
      refine T_keep [(2, .ptr 0 0), (4, .str (bs o)), (5, .bool m), (6, .int .i64 (o.length : Int)), (7, .int .i64 ((o.length : Int) - 1))] (by simp only [go_sem, k2, k4, k5, k6]) ?_
      refine rparse_L1 ho (fun e2 j2 j4 j5 j6 => ?_)
      simp only [go_sem]
      exact rparse_mid ho j2 j4 j5 j6
    by_cases hpos : 0 < l.length
    · have q2 : (0 : Int) < (l.length : Int) := by omega
      obtain ⟨c, gi⟩ : ∃ c, l[0]? = some c := ⟨_, List.getElem?_eq_getElem hpos⟩
      have hhd : l.head? = some c := by rw [List.head?_eq_getElem?]; exact gi
      by_cases hc : c = 45
      · have hci : (c.toNat : Int) = 45 := by rw [hc]; rfl
        have hs : signL l = (l.tail, true) := by unfold signL; rw [if_pos (by rw [hhd, hc])]
        have h1 : 1 ≤ l.length := hpos
        have hdr : (l.take l.length).drop 1 = l.tail := by rw [List.take_length, List.drop_one]
        rw [hs]
        simp only [go_sem, cref_Parse_r1, cref_Parse_r2, cref_Parse_r3, cref_Parse_r5, cref_Parse_r6, cref_Parse_r7, bs_size, bs_get, bs_extract, q1, q2, gi, hci, h1, hdr]
        refine ⟨Nat.le_refl _, ?_⟩
        exact tail _ l.tail true (by rw [List.length_tail]; omega) (by simp only [go_sem]) (by simp only [go_sem]) (by simp only [go_sem]) (by simp only [go_sem])
      · have hci : ¬ (c.toNat : Int) = 45 := fun h => hc (UInt8.toNat_inj.1 (by have : (45 : UInt8).toNat = 45 := rfl; omega))
        have hs : signL l = (l, false) := by unfold signL; rw [if_neg (by rw [hhd]; simpa using hc)]
        rw [hs]
        simp only [go_sem, cref_Parse_r1, cref_Parse_r2, cref_Parse_r3, cref_Parse_r5, cref_Parse_r7, bs_size, bs_get, q1, q2, gi, hci]
        exact tail _ l false hlen (by simp only [go_sem]) (by simp only [go_sem]) (by simp only [go_sem]) (by simp only [go_sem])
    · have q2 : ¬ (0 : Int) < (l.length : Int) := by omega
      have hs : signL l = (l, false) := by
        have : l = [] := List.length_eq_zero_iff.1 (by omega)
        subst this; rfl
      rw [hs]
      simp only [go_sem, cref_Parse_r1, cref_Parse_r2, cref_Parse_r3, cref_Parse_r5, cref_Parse_r7, bs_size, q1, q2]
      exact tail _ l false hlen (by simp only [go_sem]) (by simp only [go_sem]) (by simp only [go_sem]) (by simp only [go_sem])
end GoAbs
namespace GoAbs
open Go Go.Proofs
theorem bef_all {o : List UInt8} (h : 47 ∉ o) : befL o = o := by
  have h1 := bef_take o
  have h2 : ¬ (befL o).length < o.length := fun h3 => h ((bef_lt o).1 h3)
  rw [List.take_of_length_le (by omega)] at h1
  exact h1.symm
theorem cut_one (l : List UInt8) : (cutL l).1 = befL l := by
  unfold cutL
  split
  · rfl
  · rename_i h; exact (bef_all h).symm
theorem cut_flag (l : List UInt8) : (cutL l).2.2 = decide (47 ∈ l) := by
  unfold cutL
  split
  · rename_i h; simp [h]
  · rename_i h; simp [h]
theorem cut_aft {l : List UInt8} (h : 47 ∈ l) : (cutL l).2.1 = aftL l := by
  unfold cutL
  rw [if_pos h]; rfl
theorem sign_cut (l : List UInt8) : signL (befL l) = (befL (signL l).1, (signL l).2) ∧ (47 ∈ l ↔ 47 ∈ (signL l).1) ∧ aftL l = aftL (signL l).1 := by
  cases l with
  | nil => exact ⟨rfl, Iff.rfl, rfl⟩
  | cons c r =>
    by_cases hc : c = 45
    · subst hc
      have hs : signL (45 :: r) = (r, true) := rfl
      have hb : befL (45 :: r) = 45 :: befL r := by unfold befL; rw [List.takeWhile_cons]; rfl
      rw [hs, hb]
      refine ⟨rfl, by simp, ?_⟩
      unfold aftL
      rw [List.dropWhile_cons]; rfl
    · have hs : signL (c :: r) = (c :: r, false) := by unfold signL; rw [if_neg (by simpa using hc)]
      rw [hs]
      refine ⟨?_, Iff.rfl, rfl⟩
      by_cases h47 : c = 47
      · subst h47; rfl
      · have hb : befL (c :: r) = c :: befL r := by unfold befL; rw [List.takeWhile_cons]; simp [h47]
        rw [hb]
        unfold signL
        rw [if_neg (by simpa using hc)]
theorem divInt_co {n : Int} {d : Nat} (hd : 0 < d) (hg : Int.gcd n d = 1) : (Rat.divInt n d).num = n ∧ (Rat.divInt n d).den = d := by
  have hg' : Int.gcd (d : Int) n = 1 := by rw [Int.gcd_comm]; exact hg
  refine ⟨?_, ?_⟩
  · rw [Rat.num_divInt, hg', Int.sign_eq_one_of_pos (by omega)]; simp
  · rw [Rat.den_divInt, if_neg (by omega), hg']; simp
theorem len_parts {o : List UInt8} (h : 47 ∈ o) : o.length = (befL o).length + 1 + (aftL o).length := by
  have h1 := (bef_lt o).2 h
  have h2 := congrArg List.length (aft_drop o)
  rw [List.length_drop] at h2
  omega
theorem refP_eq (l : List UInt8) : refP l = match parseL l with | some q => .tup [avR q.num q.den, .bool true] | none => badR := by
  obtain ⟨s1, s2, s3⟩ := sign_cut l
  have hll : l.length ≤ (signL l).1.length + 1 := by unfold signL; split <;> simp <;> omega
  have hp1 : (partsL l).1 = if (signL l).2 then -(numL (befL (signL l).1) : Int) else numL (befL (signL l).1) := by unfold partsL; rw [cut_one, s1]
  have hp2 : (partsL l).2.1 = if 47 ∈ (signL l).1 then numL (aftL (signL l).1) else 1 := by
    unfold partsL
    simp only [cut_flag, decide_eq_true_eq, s2]
    by_cases h : 47 ∈ (signL l).1
    · rw [if_pos h, if_pos h, cut_aft (s2.2 h), s3]
    · rw [if_neg h, if_neg h]
  have hp3 : ((partsL l).2.2 = true) ↔ 47 ∈ (signL l).1 := by unfold partsL; simp only [cut_flag, decide_eq_true_eq, s2]
  have hform : formL l ↔ (digOk (befL (signL l).1) ∧ (47 ∈ (signL l).1 → digOk (aftL (signL l).1) ∧ 1 < numL (aftL (signL l).1)) ∧ ¬ ((signL l).2 = true ∧ numL (befL (signL l).1) = 0)) := by
    unfold formL
    rw [cut_one, s1, cut_flag]
    simp only [decide_eq_true_eq, s2]
    by_cases h : 47 ∈ (signL l).1
    · rw [cut_aft (s2.2 h), s3]
    · simp [h]
  unfold parseL
  rw [hp1, hp2]
  simp only [hform, hp3]
  unfold refP midR
  have hs' : (signL l).1 = (signL l).1 := rfl
  by_cases hA : digOk (befL (signL l).1)
  · by_cases hM : (signL l).2 = true ∧ numL (befL (signL l).1) = 0
    · simp only [hM, and_true, not_true, and_false, false_and, if_false, ite_self]
    · have hcond : (digOk (befL (signL l).1) ∧ ¬ ((signL l).2 = true ∧ numL (befL (signL l).1) = 0)) := ⟨hA, hM⟩
      generalize hz : (if (signL l).2 = true then -(numL (befL (signL l).1) : Int) else (numL (befL (signL l).1) : Int)) = z at *
      have hgz : ∀ D : Nat, Int.gcd z (D : Int) = Nat.gcd (numL (befL (signL l).1)) D := fun D => by
        rw [← hz]; split
        · rw [Int.neg_gcd]; rfl
        · rfl
      by_cases h47 : 47 ∈ (signL l).1
      · simp only [h47, if_true, true_implies]
        by_cases hS : slashOk (signL l).1
        · obtain ⟨g1, g2, g3⟩ := hS
          rw [if_pos hA] at g3
          have hg := hgz (numL (aftL (signL l).1))
          rw [g3] at hg
          have hlen := len_parts h47
          have hb1 := hA.2.2.2
          have hb2 := g1.2.2.2
          rw [if_neg (show ¬ 8002 < l.length by omega), if_pos (show slashOk (signL l).1 from ⟨g1, g2, by rw [if_pos hA]; exact g3⟩), if_pos hcond, if_pos ⟨⟨hA, ⟨g1, by omega⟩, hM⟩, hg⟩]
          obtain ⟨q1, q2⟩ := divInt_co (n := z) (d := numL (aftL (signL l).1)) (by omega) hg
          simp only [q1, q2]
        · have hno : ¬ ((digOk (befL (signL l).1) ∧ (digOk (aftL (signL l).1) ∧ 1 < numL (aftL (signL l).1)) ∧ ¬ ((signL l).2 = true ∧ numL (befL (signL l).1) = 0)) ∧ Int.gcd z (numL (aftL (signL l).1) : Int) = 1) := fun h => hS ⟨h.1.2.1.1, by have := h.1.2.1.2; omega, by rw [if_pos hA, ← hgz]; exact h.2⟩
          rw [if_neg hS, if_neg hno, ite_self]
      · simp only [h47, if_false, false_implies, if_true, true_and]
        have hb1 := hA.2.2.2
        rw [bef_all h47] at hb1
        rw [if_neg (show ¬ 8002 < l.length by omega), if_pos hcond, if_pos ⟨hcond, trivial⟩]
        obtain ⟨q1, q2⟩ := divInt_co (n := z) (d := 1) (by omega) (by rw [hgz]; simp)
        simp only [q1, q2]
  · simp only [hA, false_and, if_false, ite_self]
end GoAbs
namespace GoAbs
open Go Go.Proofs
theorem rparse {l : List UInt8} (hlen : l.length ≤ 1000000000) : SpecV Tryz.prog n_ref_Parse [.str (bs l)] (match parseL l with | some q => .tup [avR q.num q.den, .bool true] | none => badR) := by
  have := rparse_raw hlen
  rwa [refP_eq] at this
theorem rvalid {l : List UInt8} (hlen : l.length ≤ 1000000000) : SpecV Tryz.prog n_ref_Valid [.str (bs l)] (.bool (parseL l).isSome) := by
  have hp := rparse hlen
  refine specV_W ok_ref_Valid (by simp) ?_
  unfold cref_Valid
  cases h : parseL l with
  | some q =>
    rw [h] at hp
    simp only [avR_agg] at hp
    simp only [go_sem, cref_Valid_r1, cref_Valid_r2]
    refine call_P hp (by simp only [go_sem]) ?_
    simp only [go_sem, cref_Valid_r3, Option.isSome_some]
  | none =>
    rw [h] at hp
    unfold badR at hp
    simp only [go_sem, cref_Valid_r1, cref_Valid_r2]
    refine call_P hp (by simp only [go_sem]) ?_
    simp only [go_sem, cref_Valid_r3, Option.isSome_none]
theorem rof {l : List UInt8} {q : Rat} (hlen : l.length ≤ 1000000000) (h : parseL l = some q) : SpecV Tryz.prog n_ref_Of [.str (bs l)] (avR q.num q.den) := by
  have hp := rparse hlen
  rw [h] at hp
  simp only [avR_agg] at hp
  refine specV_W ok_ref_Of (by simp) ?_
  unfold cref_Of
  rw [avR_agg]
  simp only [go_sem, cref_Of_r1, cref_Of_r2]
  refine call_P hp (by simp only [go_sem]) ?_
  simp only [go_sem, cref_Of_r3]
end GoAbs
namespace GoAbs
open Go Go.Proofs
def claw_lives_r1 : List IOp := [oI 0 (.mv (.c (.bool false))) 0]
def claw_lives_r2 : List IOp := [oI 6 (.build [.int .i64 0, .int .i64 0, .str ⟨#[]⟩] [(0, 1, cI 0), (1, 1, cI 1), (2, 1, .c (.str ⟨#[49]⟩))]) 0, oI 7 (.build [.int .i64 0, .int .i64 0, .str ⟨#[]⟩] [(0, 1, cI 1), (1, 1, cI 2), (2, 1, .c (.str ⟨#[49]⟩))]) 0, oI 8 (.build [.int .i64 0, .int .i64 0, .str ⟨#[]⟩] [(0, 1, cI 0), (1, 1, cI 2), (2, 1, .c (.str ⟨#[49]⟩))]) 0, oI 9 (.bsl (some 3) 3 [.int .i64 0, .int .i64 0, .str ⟨#[]⟩] [(0, .t 6), (1, .t 7), (2, .t 8)]) 0, mI 1 9 1]
def claw_lives_r3 : List IOp := [mI 11 1 0, oI 12 (.call 16 [cI 3, .t 11]) 0, mI 10 12 0, eI 13 0 10 0, eI 14 1 10 0, mI 2 13 0, mI 3 14 0]
def claw_lives_r4 : List IOp := [mI 16 1 0, oI 17 (.call 31 [cI 3, .t 16, cI 0, cI 1]) 0, mI 15 17 0, eI 18 0 15 0, eI 19 1 15 0, mI 4 18 0, mI 5 19 0]
def claw_lives_r5 : List IOp := [mI 20 2 0, oI 21 (.bin .eql (.t 20) (.c (.str ⟨#[51]⟩))) 0, mI 22 21 0, gI 23 (.mv (.t 3)) 0 22 true, gI 24 (.bin .eql (.t 23) (cI 0)) 0 22 true, oI 25 (.pick (.t 22) (.t 24) (.c (.bool false))) 0, mI 26 25 0, gI 27 (.mv (.t 4)) 0 26 true, ⟨some 28, .bin .eql (.t 27) (.c (.str ⟨#[51, 47, 50]⟩)), 0, [], [], some (26, true)⟩, oI 29 (.pick (.t 26) (.t 28) (.c (.bool false))) 0, mI 30 29 0, gI 31 (.mv (.t 5)) 0 30 true, gI 32 (.bin .eql (.t 31) (cI 0)) 0 30 true, oI 33 (.pick (.t 30) (.t 32) (.c (.bool false))) 0, mI 0 33 0]
def claw_lives : CC := .seq (.rg false claw_lives_r1) (.seq (.rg false claw_lives_r2) (.seq (.rg false claw_lives_r3) (.seq (.rg false claw_lives_r4) (.seq (.rg false claw_lives_r5) .ret))))
abbrev n_law_lives : Nat := 18
theorem ok_law_lives : fnOk Tryz.prog 18 = some (34, claw_lives, [.tmp 0]) := by kernel_rfl
end GoAbs
namespace GoAbs
open Go Go.Proofs
end GoAbs
namespace GoAbs
open Go Go.Proofs
end GoAbs
namespace GoAbs
open Go Go.Proofs
def numsE (L : List (List UInt8)) : Int := if (L.all fun s => (parseL s).isSome) then 0 else 2
def strAV (s : List UInt8) : AV := .str (bs s)
theorem rnums {L : List (List UInt8)} (hL : L.length ≤ 1000000000) (hl : ∀ s, s ∈ L → s.length ≤ 1000000000) : SpecV Tryz.prog n_ref_Nums [.sl (L.map strAV)] (.int .i64 (numsE L)) := by
  obtain ⟨ls, hls⟩ : ∃ ls, ls = L.map strAV := ⟨_, rfl⟩
  have hlsl : ls.length = L.length := by rw [hls, List.length_map]
  rw [← hls]
  refine specV_W ok_ref_Nums (by simp) ?_
  unfold cref_Nums
  simp only [go_sem, cref_Nums_r1, cref_Nums_r2]
  refine T_rounds (fun i : Nat => ⟨envL [(0, .sl ls), (3, .int .i64 (i : Int))], []⟩) (fun i => i ≤ L.length ∧ ((L.take i).all fun s => (parseL s).isSome) = true) (fun i => L.length - i) 0 ⟨by simp, by simp⟩ (Le_keep _ (by simp only [go_sem]; simp)) (fun i hI N hN => ?_)
  obtain ⟨h1, h2⟩ := hI
  unfold cref_Nums_L1
  by_cases hi : i < L.length
  · obtain ⟨l, he⟩ : ∃ s, L[i]? = some s := ⟨_, List.getElem?_eq_getElem hi⟩
    have hll := hl _ (List.mem_of_getElem? he)
    have hlsi : ls[i]? = some (.str (bs l)) := by
      rw [hls, List.getElem?_map, he]; rfl
    have q0 : (0 : Int) ≤ (i : Int) := by omega
    have q1 : (i : Int) < (L.length : Int) := by omega
    have e1 : IntKind.i64.wrap ((i : Int) + 1) = ((i + 1 : Nat) : Int) := by rw [i64_id (by omega) (by omega)]; omega
    have tk : ((L.take (i + 1)).all fun s => (parseL s).isSome) = (((L.take i).all fun s => (parseL s).isSome) && (parseL l).isSome) := by
      rw [List.take_add_one, he]; simp [List.all_append]
    simp only [go_sem, cref_Nums_r3, cref_Nums_r4, hlsl, q0, q1, hlsi]
    refine call_P (rvalid hll) (by simp only [go_sem]) ?_
    cases hp : (parseL l).isSome with
    | true =>
      simp only [go_sem, Bool.not_true, cref_Nums_r6, e1]
      exact hN (i + 1) _ ⟨by omega, by rw [tk, h2, hp]; rfl⟩ (by omega) (Le_keep _ (by simp only [go_sem]))
    | false =>
      have hf : numsE L = 2 := by
        unfold numsE
        rw [if_neg]
        intro hall
        have := List.all_eq_true.1 hall _ (List.mem_of_getElem? he)
        rw [hp] at this; cases this
      rw [hf]
      simp only [go_sem, Bool.not_false, cref_Nums_r5]
  · have hie : i = L.length := by omega
    subst hie
    have q1 : ¬ ((L.length : Nat) : Int) < (L.length : Int) := by omega
    rw [List.take_length] at h2
    have hf : numsE L = 0 := by unfold numsE; rw [if_pos h2]
    rw [hf]
    simp only [go_sem, cref_Nums_r3, cref_Nums_r7, hlsl, q1]
end GoAbs
namespace GoAbs
open Go Go.Proofs
end GoAbs
namespace GoAbs
theorem digs_dig : ∀ {n : Nat} {c : UInt8}, c ∈ digs n → isDig c := by
  intro n
  induction n using Nat.strongRecOn with
  | ind n ih =>
    intro c hc
    by_cases h : n = 0
    · subst h; rw [digs_zero] at hc; simp at hc
    · rw [digs_pos h] at hc
      rcases List.mem_cons.1 hc with rfl | hc
      · unfold isDig; rw [ofNat_dig (Nat.mod_lt n (by omega))]; omega
      · exact ih (n / 10) (by omega) hc
theorem numL_digs : ∀ {n : Nat}, numL (digs n).reverse = n := by
  intro n
  induction n using Nat.strongRecOn with
  | ind n ih =>
    by_cases h : n = 0
    · subst h; rw [digs_zero]; rfl
    · rw [digs_pos h, List.reverse_cons, numL_snoc, ih (n / 10) (by omega), ofNat_dig (Nat.mod_lt n (by omega))]
      omega
theorem digs_last : ∀ {n : Nat}, n ≠ 0 → ∃ l c, digs n = l ++ [c] ∧ c.toNat ≠ 48 := by
  intro n
  induction n using Nat.strongRecOn with
  | ind n ih =>
    intro h
    rw [digs_pos h]
    by_cases h2 : n / 10 = 0
    · rw [h2, digs_zero]
      refine ⟨[], _, rfl, ?_⟩
      rw [ofNat_dig (Nat.mod_lt n (by omega))]; omega
    · obtain ⟨l, c, e, hc⟩ := ih (n / 10) (by omega) h2
      exact ⟨_ :: l, c, by rw [e]; rfl, hc⟩
theorem numL_decL {n : Nat} : numL (decL n) = n := by
  unfold decL
  split
  · rename_i h; rw [h]; rfl
  · exact numL_digs
theorem decL_digOk {n : Nat} (h : (decL n).length ≤ 4000) : digOk (decL n) := by
  refine ⟨fun c hc => ?_, fun e => by have := decL_pos n; rw [e] at this; simp at this, fun ⟨h1, h2⟩ => ?_, h⟩
  · unfold decL at hc
    split at hc
    · simp at hc; subst hc; unfold isDig; decide
    · exact digs_dig (List.mem_reverse.1 hc)
  · unfold decL at h1 h2
    split at h1
    · rename_i h0; rw [if_pos h0] at h2; simp at h2
    · rename_i h0
      obtain ⟨l, c, e, hc⟩ := digs_last h0
      rw [e, List.reverse_append] at h1
      simp at h1
      rw [h1] at hc
      exact hc (by decide)
theorem decL_no {n : Nat} {b : UInt8} (hb : ¬ isDig b) : b ∉ decL n := fun h => by
  unfold decL at h
  split at h
  · simp at h; subst h; exact hb (by unfold isDig; decide)
  · exact hb (digs_dig (List.mem_reverse.1 h))
theorem parse_numS {q : Rat} (h : NumOk q) : parseL (numS q) = some q := by
  have h47 : ¬ isDig 47 := by unfold isDig; decide
  have h45 : ¬ isDig 45 := by unfold isDig; decide
  obtain ⟨h1, h2⟩ := h
  have hd1 := decL_digOk h1
  have hs : ∀ (sg : List UInt8), sg = (if q.num < 0 then [45] else []) → 47 ∉ sg := fun sg e hh => by
    rw [e] at hh; split at hh <;> simp at hh
  have hsign : ∀ (sg : List UInt8), sg = (if q.num < 0 then [45] else []) → signL (sg ++ decL q.num.natAbs) = (decL q.num.natAbs, decide (q.num < 0)) := fun sg e => by
    unfold signL
    by_cases hn : q.num < 0
    · rw [if_pos hn] at e
      subst e
      rw [if_pos (by rfl)]
      simp [hn]
    · rw [if_neg hn] at e
      subst e
      rw [if_neg (fun hh => ?_)]
      · simp [hn]
      · have : (45 : UInt8) ∈ decL q.num.natAbs := List.mem_of_head? hh
        exact decL_no h45 this
  have hcut : cutL (numS q) = ((if q.num < 0 then [45] else []) ++ decL q.num.natAbs, if q.den = 1 then [] else decL q.den, !decide (q.den = 1)) := by
    unfold numS
    by_cases hd : q.den = 1
    · rw [if_pos hd, if_pos hd, List.append_nil]
      unfold cutL
      rw [if_neg (fun hh => ?_)]
      · simp [hd]
      · rcases List.mem_append.1 hh with hh | hh
        · exact hs _ rfl hh
        · exact decL_no h47 hh
    · rw [if_neg hd, if_neg hd]
      unfold cutL
      have hx : ∀ x, x ∈ (if q.num < 0 then [45] else []) ++ decL q.num.natAbs → (x != 47) = true := fun x hx => by
        have : x ≠ 47 := fun e => by
          subst e
          rcases List.mem_append.1 hx with hh | hh
          · exact hs _ rfl hh
          · exact decL_no h47 hh
        simpa using this
      rw [if_pos (by simp), List.takeWhile_append_of_pos hx, List.dropWhile_append_of_pos hx]
      simp [hd]
  have hP : partsL (numS q) = (q.num, q.den, !decide (q.den = 1)) := by
    unfold partsL
    rw [hcut]
    simp only [hsign _ rfl, numL_decL]
    refine Prod.ext ?_ (Prod.ext ?_ rfl)
    · by_cases hn : q.num < 0
      · simp [hn]; omega
      · simp [hn]; omega
    · by_cases hd : q.den = 1
      · simp [hd]
      · simp [hd, numL_decL]
  have hF : formL (numS q) := by
    unfold formL
    rw [hcut]
    simp only [hsign _ rfl, numL_decL]
    refine ⟨hd1, fun hh => ?_, fun ⟨a, b⟩ => ?_⟩
    · have hd : q.den ≠ 1 := by simpa using hh
      rw [if_neg hd, numL_decL]
      have := q.den_pos
      exact ⟨decL_digOk (h2.resolve_left hd), by omega⟩
    · have : q.num < 0 := by simpa using a
      omega
  unfold parseL
  rw [hP]
  rw [if_pos ⟨hF, fun _ => by
    have := q.reduced
    show Int.gcd q.num (q.den : Int) = 1
    rw [Int.gcd, Int.natAbs_natCast]; exact this⟩, Rat.num_divInt_den]
theorem numS_len {q : Rat} (h : NumOk q) : (numS q).length ≤ 8002 := by
  obtain ⟨h1, h2⟩ := h
  have e1 : (if q.num < 0 then [(45 : UInt8)] else []).length ≤ 1 := by split <;> simp
  have e2 : (if q.den = 1 then [] else 47 :: decL q.den).length ≤ 4001 := by
    split
    · simp
    · rename_i hd
      rw [List.length_cons]; have := h2.resolve_left hd; omega
  unfold numS
  rw [List.length_append, List.length_append]
  omega
end GoAbs
