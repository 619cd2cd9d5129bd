/- Lemmas for the claim (contracts of the functions that it reaches, and what they compute), without conditions. -/
import Derived.Test.YtnpgooaiiboanaaGreatK24
set_option linter.unusedVariables false
set_option linter.unusedSimpArgs false
set_option maxRecDepth 10000
set_option maxHeartbeats 2000000
namespace GoAbs
open Go Go.Proofs
def qcell (q : Rat) : List AV := [.bool (decide (q.num < 0)), .sl (u32c (limbs q.num.natAbs)), .bool (decide ((q.den : Int) < 0)), .sl (u32c (limbs (q.den : Int).natAbs))]
theorem avQ_q {q : Rat} : avQ q = .agg (qcell q) := rfl
theorem qcell_len {q : Rat} : (qcell q).length = 4 := rfl
theorem bvs_qcell {H : Heap} {ids : List Nat} {q : Rat} : BVs H ids (qcell q) (qcell q) = True := by
  unfold qcell; simp only [go_sem]
theorem gc_qcell {f : Nat → Option Nat} {q : Rat} : gcL f (qcell q) = qcell q := rfl
def qc (r : List Rat) : List AV := r.flatMap qcell
theorem qc_len (r : List Rat) : (qc r).length = r.length * 4 := by
  induction r with
  | nil => rfl
  | cons q r ih => show (qcell q ++ qc r).length = _; rw [List.length_append, ih, List.length_cons, qcell_len]; omega
theorem qc_append {r s : List Rat} : qc (r ++ s) = qc r ++ qc s := by simp [qc]
theorem qc_split {r : List Rat} {j : Nat} {q : Rat} (h : r[j]? = some q) : qc r = qc (r.take j) ++ (qcell q ++ qc (r.drop (j + 1))) := by
  obtain ⟨hj, he⟩ := List.getElem?_eq_some_iff.1 h
  have : r = r.take j ++ (q :: r.drop (j + 1)) := by
    rw [← he]; simp
  conv => lhs; rw [this, qc_append]
  rfl
theorem qc_pre {r : List Rat} {j : Nat} (h : j ≤ r.length) : (qc (r.take j)).length = j * 4 := by rw [qc_len, List.length_take, Nat.min_eq_left h]
theorem qc_drop {r : List Rat} {j : Nat} {q : Rat} (h : r[j]? = some q) : (qc r).drop (j * 4) = qcell q ++ qc (r.drop (j + 1)) := by
  have hj := (List.getElem?_eq_some_iff.1 h).1
  rw [qc_split h, ← qc_pre (r := r) (j := j) (by omega), List.drop_left]
theorem qc_take4 {r : List Rat} {j : Nat} {q : Rat} (h : r[j]? = some q) : ((qc r).drop (j * 4)).take 4 = qcell q := by
  rw [qc_drop h]; exact List.take_left' rfl
theorem qc_len4 {r : List Rat} {j : Nat} {q : Rat} (h : r[j]? = some q) : 4 ≤ ((qc r).drop (j * 4)).length := by
  rw [qc_drop h, List.length_append, qcell_len]; omega
theorem qc_set {r : List Rat} {j : Nat} {x : Rat} (h : j < r.length) : (qc r).take (j * 4) ++ qcell x ++ (qc r).drop (j * 4 + 4) = qc (r.set j x) := by
  have hg := List.getElem?_eq_getElem h
  have h1 : (qc r).take (j * 4) = qc (r.take j) := by rw [qc_split hg, ← qc_pre (r := r) (j := j) (by omega), List.take_left]
  have h2 : (qc r).drop (j * 4 + 4) = qc (r.drop (j + 1)) := by
    rw [← List.drop_drop, qc_drop hg]; exact List.drop_left' rfl
  rw [h1, h2, List.set_eq_take_append_cons_drop, if_pos h, qc_append, List.append_assoc]
  rfl
theorem qc_rep {n : Nat} {q : Rat} : qc (List.replicate n q) = rows n (qcell q) := by
  induction n with
  | zero => rfl
  | succ n ih => rw [List.replicate_succ]; show qcell q ++ qc _ = _; rw [ih]; rfl
def ptrs (o w n : Nat) : List AV := (List.range n).map fun i => AV.osl (some 4) (o + 2 + 2 * i) 0 w
def rowsH (M : List (List Rat)) : Heap := M.flatMap fun r => [.dead, .cells (qc r)]
def matH (o w : Nat) (M : List (List Rat)) : Heap := .cells (ptrs o w M.length) :: rowsH M
theorem ptrs_len (o w n : Nat) : (ptrs o w n).length = n := by simp [ptrs]
theorem ptrs_get {o w n i : Nat} (h : i < n) : (ptrs o w n)[i]? = some (.osl (some 4) (o + 2 + 2 * i) 0 w) := by simp [ptrs, h]
theorem ptrs_succ (o w n : Nat) : ptrs o w (n + 1) = ptrs o w n ++ [.osl (some 4) (o + 2 + 2 * n) 0 w] := by simp [ptrs, List.range_succ]
theorem rowsH_len (M : List (List Rat)) : (rowsH M).length = 2 * M.length := by
  induction M with
  | nil => rfl
  | cons r M ih => show ([Blk.dead, .cells (qc r)] ++ rowsH M).length = _; rw [List.length_append, ih, List.length_cons]; simp; omega
theorem rowsH_get : ∀ {M : List (List Rat)} {i : Nat} {r : List Rat}, M[i]? = some r → (rowsH M)[2 * i + 1]? = some (.cells (qc r))
  | [], i, r, h => by simp at h
  | s :: M, 0, r, h => by simp at h; subst h; rfl
  | s :: M, i + 1, r, h => by
    show ([Blk.dead, .cells (qc s)] ++ rowsH M)[2 * (i + 1) + 1]? = _
    rw [List.getElem?_append_right (by simp; omega)]
    have := rowsH_get (M := M) (i := i) (r := r) (by simpa using h)
    rw [← this]; congr 1
theorem rowsH_set : ∀ {M : List (List Rat)} {i : Nat} {r : List Rat}, i < M.length → (rowsH M).set (2 * i + 1) (.cells (qc r)) = rowsH (M.set i r)
  | [], i, r, h => by simp at h
  | s :: M, 0, r, h => rfl
  | s :: M, i + 1, r, h => by
    show ([Blk.dead, .cells (qc s)] ++ rowsH M).set (2 * (i + 1) + 1) _ = [Blk.dead, .cells (qc s)] ++ rowsH (M.set i r)
    rw [List.set_append_right _ _ (by simp; omega), ← rowsH_set (by simpa using h)]
    congr 1
theorem matH_len (o w : Nat) (M : List (List Rat)) : (matH o w M).length = 1 + 2 * M.length := by
  show (_ :: rowsH M).length = _; rw [List.length_cons, rowsH_len]; omega
section
variable {pre post : Heap} {o w : Nat} {M : List (List Rat)}
theorem mat_ptr (ho : pre.length = o) : (pre ++ (matH o w M ++ post))[o]? = some (.cells (ptrs o w M.length)) := by
  rw [List.getElem?_append_right (by omega), ho, Nat.sub_self]; rfl
theorem mat_row (ho : pre.length = o) {i : Nat} {r : List Rat} (h : M[i]? = some r) : (pre ++ (matH o w M ++ post))[o + 2 + 2 * i]? = some (.cells (qc r)) := by
  have hi := (List.getElem?_eq_some_iff.1 h).1
  rw [List.getElem?_append_right (by omega), ho, List.getElem?_append_left (by rw [matH_len]; omega)]
  show (_ :: rowsH M)[o + 2 + 2 * i - o]? = _
  rw [show o + 2 + 2 * i - o = (2 * i + 1) + 1 by omega, List.getElem?_cons_succ]
  exact rowsH_get h
theorem mat_set (ho : pre.length = o) {i : Nat} {r : List Rat} (h : i < M.length) : (pre ++ (matH o w M ++ post)).set (o + 2 + 2 * i) (.cells (qc r)) = pre ++ (matH o w (M.set i r) ++ post) := by
  rw [List.set_append_right _ _ (by omega), ho, List.set_append_left _ _ (by rw [matH_len]; omega)]
  congr 2
  show (_ :: rowsH M).set (o + 2 + 2 * i - o) _ = _ :: rowsH (M.set i r)
  rw [show o + 2 + 2 * i - o = (2 * i + 1) + 1 by omega, List.set_cons_succ, rowsH_set h, List.length_set]
end
theorem zero_cells {n : Nat} {m : Nat} : (List.replicate m [AV.nils]).flatten = List.replicate m .nils := by
  induction m with
  | zero => rfl
  | succ m ih => rw [List.replicate_succ, List.flatten_cons, ih]; rfl
theorem bv_one4 {H : Heap} {ids : List Nat} {b : Nat} {c : List AV} (hc : c.length = 4) (hb : H[b]? = some (.cells c)) (hi : b ∈ ids) (hq : BVs H ids c c) : BV H ids (.osl (some 4) b 0 1) (.sl [.agg c]) := by
  refine .osl (some 4) b 0 1 c [.agg c] hb hi rfl (fun x hx => by simp at hx; subst hx; exact hc) (by simp [es, hc]) (fun i x j y z hx hy hz => ?_)
  have hi0 : i = 0 := by
    have := (List.getElem?_eq_some_iff.1 hx).1
    simp at this; exact this
  subst hi0
  simp at hx
  subst hx
  simp only [es, Nat.zero_mul, Nat.zero_add] at hz
  have hy' : c[j]? = some y := hy
  rw [hy'] at hz
  cases hz
  exact (bvs_get hq).2 j y y hy' hy'
theorem gc_rows {f : Nat → Option Nat} {n : Nat} {q : Rat} : gcL f (rows n (qcell q)) = rows n (qcell q) := by
  rw [← qc_rep]
  induction n with
  | zero => rfl
  | succ n ih =>
    rw [List.replicate_succ]
    show gcL f (qcell q ++ qc _) = qcell q ++ qc _
    rw [gcL_map] at ih ⊢
    rw [List.map_append, ih]
    rfl
theorem repeat_zero {K : List AV} {M : List (List Rat)} {n : Nat} {q : Rat} (hn : 1 ≤ n) (hnl : n ≤ 1000000) :
    SpecR Tryz.prog n_slices_Repeat (.cells K :: (rowsH M ++ [.cells (qcell q)])) [.osl (some 4) (2 * M.length + 1) 0 1, .int .i64 (n : Int)] (.osl (some 4) (2 * M.length + 2) 0 n) (.cells K :: rowsH (M ++ [List.replicate n q])) := by
  have hb : (Blk.cells K :: (rowsH M ++ [Blk.cells (qcell q)]))[2 * M.length + 1]? = some (.cells (qcell q)) := by
    rw [List.getElem?_cons_succ, List.getElem?_append_right (by rw [rowsH_len]; omega), rowsH_len, Nat.sub_self]; rfl
  have h := specR_freshF (P := Tryz.prog) (H := .cells K :: (rowsH M ++ [.cells (qcell q)])) (ids := [2 * M.length + 1]) (xs := [.osl (some 4) (2 * M.length + 1) 0 1, .int .i64 (n : Int)]) (repeat_own hn hnl (x := qcell q) rfl)
    (by
      simp only [go_sem]
      exact bv_one4 rfl hb (by simp) (by rw [bvs_qcell]; trivial)) (by simp only [go_sem])
  have e1 : (AV.osl (some 4) 0 0 n).gc (fun i => some (i + (Blk.cells K :: (rowsH M ++ [Blk.cells (qcell q)])).length)) = .osl (some 4) (2 * M.length + 2) 0 n := by
    simp only [AV.gc, List.length_cons, List.length_append, rowsH_len, List.length_nil, Nat.zero_add]
  have e2 : kill [2 * M.length + 1] (Blk.cells K :: (rowsH M ++ [Blk.cells (qcell q)])) = .cells K :: (rowsH M ++ [.dead]) := by
    show List.set _ _ _ = _
    rw [List.set_cons_succ, List.set_append_right _ _ (by rw [rowsH_len]; omega), rowsH_len, Nat.sub_self]; rfl
  rw [e1, e2] at h
  have e3 : (Blk.cells K :: (rowsH M ++ [.dead])) ++ ([Blk.cells (rows n (qcell q))].map (Blk.gc (fun i => some (i + (Blk.cells K :: (rowsH M ++ [Blk.cells (qcell q)])).length)))) = .cells K :: rowsH (M ++ [List.replicate n q]) := by
    simp only [List.map_cons, List.map_nil, Blk.gc, gc_rows]
    unfold rowsH
    rw [List.flatMap_append, ← qc_rep]
    simp
  rw [e3] at h
  exact h
theorem zero_own {m n : Nat} (hm : m ≤ 1000000) (hn : 1 ≤ n) (hnl : n ≤ 1000000) :
    SpecR Tryz.prog n_linear_Zero [] [.int .i64 (m : Int), .int .i64 (n : Int)] (.osl none 0 0 m) (matH 0 n (List.replicate m (List.replicate n 0))) := by
  refine specR_W ok_linear_Zero (by simp) ?_
  unfold clinear_Zero
  have p0 : (0 : Int) ≤ (m : Int) := by omega
  have p1 : (24 : Int) * (m : Int) ≤ 281474976710656 := by omega
  simp only [go_sem, clinear_Zero_r1, clinear_Zero_r2, clinear_Zero_r3, p0, Int.le_refl]
  refine ⟨by omega, ?_⟩
  rw [zero_cells (n := n)]
  refine T_rounds (fun i : Nat => ⟨envL [(1, .int .i64 (n : Int)), (5, .osl none 0 0 m), (10, .int .i64 (m : Int)), (11, .int .i64 (i : Int))], .cells (ptrs 0 n i ++ List.replicate (m - i) .nils) :: rowsH (List.replicate i (List.replicate n 0))⟩)
    (fun i => i ≤ m) (fun i => m - i) 0 (by omega) (Le_eq (Le_keep [(1, .int .i64 (n : Int)), (5, .osl none 0 0 m), (10, .int .i64 (m : Int)), (11, .int .i64 ((0 : Nat) : Int))] (by simp only [go_sem]; simp)) (by simp [ptrs, rowsH])) (fun i hi N hN => ?_)
  unfold clinear_Zero_L1
  by_cases him : i < m
  · have r1 : (i : Int) < (m : Int) := by omega
    have r0 : (0 : Int) ≤ (i : Int) := by omega
    have e1 : IntKind.i64.wrap ((i : Int) + 1) = ((i + 1 : Nat) : Int) := by rw [i64_id (by omega) (by omega)]; omega
    simp only [go_sem, clinear_Zero_r4, clinear_Zero_r5, clinear_Zero_r6, r1]
    refine call_P zero_q (by simp only [go_sem]) ?_
    simp only [go_sem, avQ_q, qcell_len, List.append_nil]
    have hlen : (rowsH (List.replicate i (List.replicate n (0 : Rat)))).length = 2 * i := by rw [rowsH_len, List.length_replicate]
    rw [hlen]
    have hrep := repeat_zero (K := ptrs 0 n i ++ List.replicate (m - i) .nils) (M := List.replicate i (List.replicate n 0)) (q := 0) hn hnl
    rw [List.length_replicate, ← List.replicate_succ'] at hrep
    refine call_R hrep ?_
    have hl2 : i + 1 ≤ (ptrs 0 n i ++ List.replicate (m - i) AV.nils).length := by rw [List.length_append, ptrs_len, List.length_replicate]; omega
    simp only [go_sem, clinear_Zero_r7, r0, r1, hl2, e1]
    rw [set_form (by omega)]
    have hset : (ptrs 0 n i ++ List.replicate (m - i) AV.nils).set i (.osl (some 4) (2 * i + 2) 0 n) = ptrs 0 n (i + 1) ++ List.replicate (m - (i + 1)) .nils := by
      rw [List.set_append_right _ _ (by rw [ptrs_len]; omega), ptrs_len, Nat.sub_self]
      have : m - i = (m - (i + 1)) + 1 := by omega
      rw [this, List.replicate_succ, List.set_cons_zero, ptrs_succ, List.append_assoc]
      congr 3
      omega
    rw [hset]
    exact hN (i + 1) _ (by omega) (by omega) (Le_keep _ (by simp only [go_sem]))
  · have him' : i = m := by omega
    subst him'
    have r1 : ¬ (i : Int) < (i : Int) := by omega
    simp only [go_sem, clinear_Zero_r4, clinear_Zero_r8, r1, Nat.sub_self, List.replicate_zero, List.append_nil]
    unfold matH
    rw [List.length_replicate]
end GoAbs
namespace GoAbs
open Go Go.Proofs
theorem madd_spec {pre post : Heap} {o w i j k : Nat} {M : List (List Rat)} {r : List Rat} {q x : Rat} (ho : pre.length = o) (hr : M[i]? = some r) (hq : r[j]? = some q) (hw : r.length = w) (hml : M.length ≤ 1000000) (hwl : w ≤ 1000000)
    (bq : Qb k q) (bx : Qb k x) (hk : 2 * k + 1 ≤ 1000000000000) :
    SpecR Tryz.prog n_Matrix_Add (pre ++ (matH o w M ++ post)) [.osl none o 0 M.length, .int .i64 (i : Int), .int .i64 (j : Int), .agg (qcell x)] (.tup []) (pre ++ (matH o w (M.set i (r.set j (q + x))) ++ (post ++ [.cells (qcell x)]))) := by
  have hm : Tryz.prog.follows .mixedOrders = true := by kernel_rfl
  have hi := (List.getElem?_eq_some_iff.1 hr).1
  have hj := (List.getElem?_eq_some_iff.1 hq).1
  refine specR_W ok_Matrix_Add (by simp) ?_
  unfold cMatrix_Add
  have p0 : (0 : Int) ≤ (i : Int) := by omega
  have p1 : (i : Int) < (M.length : Int) := by omega
  have p2 : (0 : Int) ≤ (j : Int) := by omega
  have p3 : (j : Int) < (w : Int) := by omega
  have eA : (pre ++ (matH o w M ++ post)) ++ [Blk.cells (qcell x)] = pre ++ (matH o w M ++ (post ++ [.cells (qcell x)])) := by simp
  have gP := mat_ptr (post := post ++ [.cells (qcell x)]) (w := w) (M := M) ho
  have gR := mat_row (post := post ++ [.cells (qcell x)]) (w := w) ho hr
  have gX : (pre ++ (matH o w M ++ (post ++ [Blk.cells (qcell x)])))[(pre ++ (matH o w M ++ post)).length]? = some (.cells (qcell x)) := by
    rw [← eA, List.getElem?_append_right (Nat.le_refl _), Nat.sub_self]; rfl
  have hlen : (pre ++ (matH o w M ++ (post ++ [Blk.cells (qcell x)]))).length = (pre ++ (matH o w M ++ post)).length + 1 := by rw [← eA, List.length_append]; rfl
  have hoL : o < (pre ++ (matH o w M ++ post)).length + 1 := by simp [matH_len, ho]; omega
  have hrL : o + 2 + 2 * i < (pre ++ (matH o w M ++ post)).length + 1 := by simp [matH_len, ho]; omega
  have hxL : (pre ++ (matH o w M ++ post)).length < (pre ++ (matH o w M ++ post)).length + 1 := by omega
  have hg := ptrs_get (o := o) (w := w) hi
  have ht := qc_take4 hq
  have hl4 := qc_len4 hq
  have hql : (4 : Nat) ≤ (qcell x).length := by rw [qcell_len]; omega
  have hqt : (qcell x).take 4 = qcell x := List.take_of_length_le (by rw [qcell_len]; omega)
  have hfit : j * 4 + 4 ≤ (qc r).length := by rw [qc_len]; omega
  simp only [go_sem, cMatrix_Add_r1, cMatrix_Add_r2, hm, eA]
  generalize hHH : (pre ++ (matH o w M ++ post)).length = L at *
  simp only [go_sem, hlen, p0, p1, p2, p3, gP, gR, gX, hoL, hrL, hxL, List.getElem?_drop, hg, ht, hl4, hql, hqt]
  refine call_P (add_q bq bx hk) (by simp only [go_sem, avQ_q, bvs_qcell]) ?_
  simp only [go_sem, avQ_q, hlen, p0, p1, p2, p3, gP, gR, gX, hoL, hrL, hxL, qcell_len, hfit]
  rw [qc_set hj, mat_set ho hi]
end GoAbs
namespace GoAbs
open Go Go.Proofs
abbrev RM := List (List Rat)
def rget (r : List Rat) (j : Nat) : Rat := r.getD j 0
def mget (M : RM) (i j : Nat) : Rat := rget (M.getD i []) j
theorem rget_some {r : List Rat} {j : Nat} (h : j < r.length) : r[j]? = some (rget r j) := by
  unfold rget
  rw [List.getD_eq_getElem?_getD, List.getElem?_eq_getElem h]; rfl
theorem getD_some {M : RM} {i : Nat} (h : i < M.length) : M[i]? = some (M.getD i []) := by
  rw [List.getD_eq_getElem?_getD, List.getElem?_eq_getElem h]; rfl
def elimTo (p : List Rat) (c : Nat) (q : Rat) (r : List Rat) (J : Nat) : List Rat := (List.range r.length).map fun j => if c ≤ j ∧ j < J then rget r j - q * rget p j else rget r j
theorem elimTo_len {p r : List Rat} {c J : Nat} {q : Rat} : (elimTo p c q r J).length = r.length := by simp [elimTo]
theorem elimTo_get {p r : List Rat} {c J j : Nat} {q : Rat} (h : j < r.length) : (elimTo p c q r J)[j]? = some (if c ≤ j ∧ j < J then rget r j - q * rget p j else rget r j) := by simp [elimTo, h]
theorem elimTo_zero {p r : List Rat} {c J : Nat} {q : Rat} (h : J ≤ c) : elimTo p c q r J = r := by
  apply List.ext_getElem?
  intro j
  by_cases hj : j < r.length
  · rw [elimTo_get hj, if_neg (by omega), rget_some hj]
  · rw [List.getElem?_eq_none (by rw [elimTo_len]; omega), List.getElem?_eq_none (by omega)]
theorem elimTo_succ {p r : List Rat} {c J : Nat} {q : Rat} (h : J < r.length) (hc : c ≤ J) : (elimTo p c q r J).set J (rget r J - q * rget p J) = elimTo p c q r (J + 1) := by
  apply List.ext_getElem?
  intro j
  by_cases hj : j < r.length
  · rw [elimTo_get hj]
    by_cases h1 : j = J
    · subst h1
      rw [List.getElem?_set_self (by rw [elimTo_len]; exact hj), if_pos (by omega)]
    · rw [List.getElem?_set_ne (by omega), elimTo_get hj]
      by_cases h2 : c ≤ j ∧ j < J
      · rw [if_pos h2, if_pos (by omega)]
      · rw [if_neg h2, if_neg (by omega)]
  · rw [List.getElem?_eq_none (by rw [List.length_set, elimTo_len]; omega), List.getElem?_eq_none (by rw [elimTo_len]; omega)]
theorem mat_post {pre post : Heap} {o w : Nat} {M : RM} (ho : pre.length = o) {n t : Nat} (hn : M.length = n) : (pre ++ (matH o w M ++ post))[o + (1 + 2 * n) + t]? = post[t]? := by
  rw [List.getElem?_append_right (by omega), ho, List.getElem?_append_right (by rw [matH_len]; omega), matH_len]
  congr 1; omega
theorem set_set_M {M : RM} {i : Nat} {a b : List Rat} : (M.set i a).set i b = M.set i b := by simp
def Rb (k : Nat) (r : List Rat) : Prop := ∀ x, x ∈ r → Qb k x
def Mb (k : Nat) (M : RM) : Prop := ∀ r, r ∈ M → Rb k r
theorem Rb.get {k : Nat} {r : List Rat} (h : Rb k r) {j : Nat} (hj : j < r.length) : Qb k (rget r j) := h _ (List.mem_of_getElem? (rget_some hj))
theorem Rb.mono {k l : Nat} {r : List Rat} (h : Rb k r) (hkl : k ≤ l) : Rb l r := fun x hx => (h x hx).mono hkl
theorem Rb.elimTo {k : Nat} {p r : List Rat} {c J : Nat} {q : Rat} (hr : Rb k r) (hp : Rb k p) (hl : p.length = r.length) (hq : Qb (2 * k) q) : Rb (8 * k + 1) (GoAbs.elimTo p c q r J) := fun x hx => by
  unfold GoAbs.elimTo at hx
  obtain ⟨j, hj, rfl⟩ := List.mem_map.1 hx
  have hj' := List.mem_range.1 hj
  split
  · have h1 := (hr.get hj').mono (show k ≤ 4 * k by omega)
    have h2 := Qb.mul hq ((hp.get (j := j) (by omega)).mono (show k ≤ 2 * k by omega))
    have h3 := h1.sub (h2.mono (show 2 * (2 * k) ≤ 4 * k by omega))
    exact h3.mono (by omega)
  · exact (hr.get hj').mono (by omega)
theorem tri_L2 {pre post : Heap} {o w n i c t n0 bz : Nat} {M : RM} {q : Rat} {k : Nat} {p r : List Rat} (ho : pre.length = o) (hn : M.length = n) (hnl : n ≤ 1000000) (hwl : w ≤ 1000000) (hi : i < n) (hc : c < n) (hci : c ≠ i) (hcw : c ≤ w)
    (hp : M[c]? = some p) (hr : M[i]? = some r) (hpw : p.length = w) (hrw : r.length = w) (hbz : bz = o + (1 + 2 * n) + t) (hpost : post[t]? = some (.cells (qcell q)))
    (bp : Rb k p) (br : Rb k r) (bq : Qb (2 * k) q) (hk1 : 1 ≤ k) (hk : 2 * (4 * k) + 1 ≤ 1000000000000) {bA : Nat} {K : Ex → St → Prop}
    (hK : ∀ e : Nat → AV, e 0 = .osl none o 0 n → e 2 = .ptr bA 0 → e 3 = .ptr (bA + 1) 0 → e 4 = .int .i64 (c : Int) → e 6 = .int .i64 (i : Int) → e 11 = .int .i64 (n : Int) → e 12 = .int .i64 (c : Int) →
      K (.exit 6) ⟨e, pre ++ (matH o w (M.set i (elimTo p c q r w)) ++ post)⟩) :
    T Tryz.prog 133 n0 (.loop cMatrix_triangle_L2) ⟨envL [(0, .osl none o 0 n), (2, .ptr bA 0), (3, .ptr (bA + 1) 0), (4, .int .i64 (c : Int)), (6, .int .i64 (i : Int)), (7, .ptr bz 0), (8, .int .i64 (c : Int)), (11, .int .i64 (n : Int)), (12, .int .i64 (c : Int))], pre ++ (matH o w M ++ post)⟩ K := by
  have hm : Tryz.prog.follows .mixedOrders = true := by kernel_rfl
  have hMset : M.set i r = M := by
    apply List.ext_getElem?
    intro x
    by_cases hx : i = x
    · subst hx; rw [List.getElem?_set_self (by omega), hr]
    · rw [List.getElem?_set_ne hx]
  refine T_rounds (fun J : Nat => ⟨envL [(0, .osl none o 0 n), (2, .ptr bA 0), (3, .ptr (bA + 1) 0), (4, .int .i64 (c : Int)), (6, .int .i64 (i : Int)), (7, .ptr bz 0), (8, .int .i64 (J : Int)), (11, .int .i64 (n : Int)), (12, .int .i64 (c : Int))], pre ++ (matH o w (M.set i (elimTo p c q r J)) ++ post)⟩)
    (fun J => c ≤ J ∧ J ≤ w) (fun J => w - J) c ⟨Nat.le_refl _, hcw⟩ (Le_eq (Le_keep [(0, .osl none o 0 n), (2, .ptr bA 0), (3, .ptr (bA + 1) 0), (4, .int .i64 (c : Int)), (6, .int .i64 (i : Int)), (7, .ptr bz 0), (8, .int .i64 (c : Int)), (11, .int .i64 (n : Int)), (12, .int .i64 (c : Int))] (by simp only [go_sem])) (by rw [elimTo_zero (Nat.le_refl _), hMset])) (fun J hJ N hN => ?_)
  obtain ⟨h1, h2⟩ := hJ
  unfold cMatrix_triangle_L2
  have hnS : (M.set i (elimTo p c q r J)).length = n := by rw [List.length_set, hn]
  have gP := mat_ptr (pre := pre) (post := post) (w := w) (M := M.set i (elimTo p c q r J)) ho
  rw [hnS] at gP
  have gi := ptrs_get (o := o) (w := w) hi
  have gc := ptrs_get (o := o) (w := w) hc
  have q0 : (0 : Int) ≤ (i : Int) := by omega
  have q1 : (i : Int) < (n : Int) := by omega
  have q2 : (0 : Int) ≤ (c : Int) := by omega
  have q3 : (c : Int) < (n : Int) := by omega
  by_cases hJw : J < w
  · have rJ : (M.set i (elimTo p c q r J))[i]? = some (elimTo p c q r J) := List.getElem?_set_self (by omega)
    have rc : (M.set i (elimTo p c q r J))[c]? = some p := by rw [List.getElem?_set_ne (by omega)]; exact hp
    have gR := mat_row (post := post) (w := w) ho rJ
    have gC := mat_row (post := post) (w := w) ho rc
    have gQ := mat_post (post := post) (w := w) (t := t) ho hnS
    rw [hpost, ← hbz] at gQ
    have eJ : (elimTo p c q r J)[J]? = some (rget r J) := by rw [elimTo_get (by omega), if_neg (by omega)]
    have pJ : p[J]? = some (rget p J) := rget_some (by omega)
    have t1 := qc_take4 eJ
    have t2 := qc_len4 eJ
    have t3 := qc_take4 pJ
    have t4 := qc_len4 pJ
    have hql : (4 : Nat) ≤ (qcell q).length := by rw [qcell_len]; omega
    have hqt : (qcell q).take 4 = qcell q := List.take_of_length_le (by rw [qcell_len]; omega)
    have r0 : (0 : Int) ≤ (J : Int) := by omega
    have r1 : (J : Int) < (w : Int) := by omega
    have e1 : IntKind.i64.wrap ((J : Int) + 1) = ((J + 1 : Nat) : Int) := by rw [i64_id (by omega) (by omega)]; omega
    have hlen : (pre ++ (matH o w (M.set i (elimTo p c q r J)) ++ post)).length = o + (1 + 2 * n) + post.length := by rw [List.length_append, List.length_append, matH_len, hnS, ho]; omega
    have ht : t < post.length := (List.getElem?_eq_some_iff.1 hpost).1
    have l0 : o < o + (1 + 2 * n) + post.length := by omega
    have l1 : o + 2 + 2 * i < o + (1 + 2 * n) + post.length := by omega
    have l2 : o + 2 + 2 * c < o + (1 + 2 * n) + post.length := by omega
    have l3 : bz < o + (1 + 2 * n) + post.length := by omega
    have hfit : J * 4 + 4 ≤ (qc (elimTo p c q r J)).length := by rw [qc_len, elimTo_len]; omega
    simp only [go_sem, cMatrix_triangle_r20, cMatrix_triangle_r21, cMatrix_triangle_r22, hm, q0, q1, q2, q3, gP, gi, gc, gR, gC, gQ, List.getElem?_drop, r0, r1, hlen, l0, l1, l2, l3, hql, hqt, t1, t2, t3, t4]
    refine call_P (mul_q bq ((bp.get (j := J) (by omega)).mono (by omega)) (by omega)) (by simp only [go_sem, avQ_q, bvs_qcell]) ?_
    simp only [go_sem, avQ_q]
    refine call_P (sub_q (k := 4 * k) ((br.get (j := J) (by omega)).mono (by omega)) ((Qb.mul bq ((bp.get (j := J) (by omega)).mono (show k ≤ 2 * k by omega))).mono (by omega)) hk) (by simp only [go_sem, avQ_q, bvs_qcell]) ?_
    simp only [go_sem, avQ_q, q0, q1, q2, q3, gP, gi, gR, List.getElem?_drop, r0, r1, hlen, l0, l1, l2, l3, qcell_len, hfit, e1]
    rw [qc_set (by rw [elimTo_len]; omega), mat_set ho (by omega), set_set_M, elimTo_succ (by omega) h1]
    exact hN (J + 1) _ ⟨by omega, by omega⟩ (by omega) (Le_keep _ (by simp only [go_sem]))
  · have hJw' : J = w := by omega
    subst hJw'
    have r1 : ¬ (J : Int) < (J : Int) := by omega
    have l0 : True := trivial
    simp only [go_sem, cMatrix_triangle_r20, q0, q1, gP, gi, List.getElem?_drop, r1]
    exact hK _ (by simp only [go_sem]) (by simp only [go_sem]) (by simp only [go_sem]) (by simp only [go_sem]) (by simp only [go_sem]) (by simp only [go_sem]) (by simp only [go_sem])
def elimRow (p : List Rat) (c : Nat) (r : List Rat) : List Rat := if rget r c = 0 then r else elimTo p c (rget r c / rget p c) r r.length
theorem elimRow_len {p r : List Rat} {c : Nat} : (elimRow p c r).length = r.length := by
  unfold elimRow; split
  · rfl
  · exact elimTo_len
def elimCol (M : RM) (c I : Nat) : RM := (List.range M.length).map fun i => if c < i ∧ i < I then elimRow (M.getD c []) c (M.getD i []) else M.getD i []
theorem elimCol_len {M : RM} {c I : Nat} : (elimCol M c I).length = M.length := by simp [elimCol]
theorem elimCol_get {M : RM} {c I i : Nat} (h : i < M.length) : (elimCol M c I)[i]? = some (if c < i ∧ i < I then elimRow (M.getD c []) c (M.getD i []) else M.getD i []) := by simp [elimCol, h]
theorem elimCol_zero {M : RM} {c I : Nat} (h : I ≤ c + 1) : elimCol M c I = M := by
  apply List.ext_getElem?
  intro i
  by_cases hi : i < M.length
  · rw [elimCol_get hi, if_neg (by omega), getD_some hi]
  · rw [List.getElem?_eq_none (by rw [elimCol_len]; omega), List.getElem?_eq_none (by omega)]
theorem elimCol_succ {M : RM} {c I : Nat} (hI : I < M.length) (hc : c < I) : (elimCol M c I).set I (elimRow (M.getD c []) c (M.getD I [])) = elimCol M c (I + 1) := by
  apply List.ext_getElem?
  intro i
  by_cases hi : i < M.length
  · rw [elimCol_get hi]
    by_cases h1 : i = I
    · subst h1
      rw [List.getElem?_set_self (by rw [elimCol_len]; exact hi), if_pos (by omega)]
    · rw [List.getElem?_set_ne (by omega), elimCol_get hi]
      by_cases h2 : c < i ∧ i < I
      · rw [if_pos h2, if_pos (by omega)]
      · rw [if_neg h2, if_neg (by omega)]
  · rw [List.getElem?_eq_none (by rw [List.length_set, elimCol_len]; omega), List.getElem?_eq_none (by rw [elimCol_len]; omega)]
def Wid (w : Nat) (M : RM) : Prop := ∀ r, r ∈ M → r.length = w
theorem Wid.get {w : Nat} {M : RM} (h : Wid w M) {i : Nat} (hi : i < M.length) : (M.getD i []).length = w := h _ (List.mem_of_getElem? (getD_some hi))
theorem Wid.elim {w : Nat} {M : RM} (h : Wid w M) {c I : Nat} : Wid w (elimCol M c I) := fun r hr => by
  unfold elimCol at hr
  obtain ⟨i, hi, rfl⟩ := List.mem_map.1 hr
  have hi' := List.mem_range.1 hi
  split
  · rw [elimRow_len]; exact h.get hi'
  · exact h.get hi'
theorem Mb.get {k : Nat} {M : RM} (h : Mb k M) {i : Nat} (hi : i < M.length) : Rb k (M.getD i []) := h _ (List.mem_of_getElem? (getD_some hi))
theorem Mb.mono {k l : Nat} {M : RM} (h : Mb k M) (hkl : k ≤ l) : Mb l M := fun r hr => (h r hr).mono hkl
theorem Rb.elimRow {k w : Nat} {p r : List Rat} {c : Nat} (hr : Rb k r) (hp : Rb k p) (hpl : p.length = w) (hrl : r.length = w) (hc : c < w) (h0 : rget p c ≠ 0) : Rb (8 * k + 1) (GoAbs.elimRow p c r) := by
  unfold GoAbs.elimRow
  split
  · exact hr.mono (by omega)
  · exact Rb.elimTo hr hp (by omega) ((hr.get (by omega)).div (hp.get (by omega)) h0)
theorem Mb.elim {k w : Nat} {M : RM} (h : Mb k M) (hw : Wid w M) {c I : Nat} (hcM : c < M.length) (hc : c < w) (h0 : mget M c c ≠ 0) : Mb (8 * k + 1) (elimCol M c I) := fun r hr => by
  unfold elimCol at hr
  obtain ⟨i, hi, rfl⟩ := List.mem_map.1 hr
  have hi' := List.mem_range.1 hi
  split
  · exact Rb.elimRow (h.get hi') (h.get hcM) (hw.get hcM) (hw.get hi') hc h0
  · exact (h.get hi').mono (by omega)
theorem gc_qc {f : Nat → Option Nat} (r : List Rat) : gcL f (qc r) = qc r := by
  induction r with
  | nil => rfl
  | cons q r ih =>
    show gcL f (qcell q ++ qc r) = qcell q ++ qc r
    rw [gcL_map] at ih ⊢
    rw [List.map_append, ih]
    rfl
theorem clo_mat {o w m : Nat} {M : RM} (h : o + (1 + 2 * M.length) ≤ m) : Clo m (matH o w M) := by
  unfold Clo matH
  rw [List.map_cons]
  congr 1
  · simp only [Blk.gc, gcL_map]
    congr 1
    unfold ptrs
    rw [List.map_map]
    refine List.map_congr_left fun i hi => ?_
    have hi' := List.mem_range.1 hi
    simp only [Function.comp, AV.gc]
    rw [pos_range (by omega)]
  · unfold rowsH
    rw [List.map_flatMap]
    congr 1
    funext r
    simp only [List.map_cons, List.map_nil, Blk.gc, gc_qc]
end GoAbs
namespace GoAbs
open Go Go.Proofs
def z4 : List AV := [.bool false, .nils, .bool false, .nils]
theorem mat_postP {pre post PP : Heap} {o w : Nat} {M : RM} (ho : pre.length = o) {n t b : Nat} (hn : M.length = n) (hb : b = o + (1 + 2 * n) + PP.length) : (pre ++ (matH o w M ++ (PP ++ post)))[b + t]? = post[t]? := by
  rw [hb, show o + (1 + 2 * n) + PP.length + t = o + (1 + 2 * n) + (PP.length + t) by omega, mat_post ho hn, List.getElem?_append_right (by omega)]
  congr 1; omega
theorem mat_set_post {pre post : Heap} {o w : Nat} {M : RM} (ho : pre.length = o) {n t : Nat} (hn : M.length = n) {bl : Blk} : (pre ++ (matH o w M ++ post)).set (o + (1 + 2 * n) + t) bl = pre ++ (matH o w M ++ post.set t bl) := by
  rw [List.set_append_right _ _ (by omega), ho, List.set_append_right _ _ (by rw [matH_len]; omega), matH_len]
  congr 3; omega
theorem mat_set_postP {pre post PP : Heap} {o w : Nat} {M : RM} (ho : pre.length = o) {n t b : Nat} (hn : M.length = n) (hb : b = o + (1 + 2 * n) + PP.length) {bl : Blk} : (pre ++ (matH o w M ++ (PP ++ post))).set (b + t) bl = pre ++ (matH o w M ++ (PP ++ post.set t bl)) := by
  rw [hb, show o + (1 + 2 * n) + PP.length + t = o + (1 + 2 * n) + (PP.length + t) by omega, mat_set_post ho hn, List.set_append_right _ _ (by omega)]
  congr 4; omega
theorem mat_lenP {pre post PP : Heap} {o w : Nat} {M : RM} (ho : pre.length = o) {n b : Nat} (hn : M.length = n) (hb : b = o + (1 + 2 * n) + PP.length) : (pre ++ (matH o w M ++ (PP ++ post))).length = b + post.length := by
  rw [List.length_append, List.length_append, List.length_append, matH_len, hn, ho, hb]; omega
theorem tri_L3 {pre PP : Heap} {o w n c n0 k b : Nat} {M : RM} {d : Rat} (ho : pre.length = o) (hn : M.length = n) (hnl : n ≤ 1000000) (hwl : w ≤ 1000000) (hc : c < n) (hcw : c < w) (hW : Wid w M) (hB : Mb k M)
    (h0 : mget M c c ≠ 0) (hk1 : 1 ≤ k) (hk : 2 * (4 * k) + 1 ≤ 1000000000000) (hb : b = o + (1 + 2 * n) + PP.length) (hn0 : n0 ≤ b) (hpre : Clo (b + 2) pre) (hPP : Clo (b + 2) PP) {K : Ex → St → Prop}
    (hK : ∀ e : Nat → AV, e 0 = .osl none o 0 n → e 2 = .ptr b 0 → e 3 = .ptr (b + 1) 0 → e 11 = .int .i64 (n : Int) → e 12 = .int .i64 (c : Int) →
      K (.exit 4) ⟨e, pre ++ (matH o w (elimCol M c n) ++ (PP ++ [.cells z4, .cells (qcell d)]))⟩) :
    T Tryz.prog 133 n0 (.loop cMatrix_triangle_L3) ⟨envL [(0, .osl none o 0 n), (2, .ptr b 0), (3, .ptr (b + 1) 0), (4, .int .i64 (c : Int)), (6, .int .i64 ((c + 1 : Nat) : Int)), (11, .int .i64 (n : Int)), (12, .int .i64 (c : Int))], pre ++ (matH o w M ++ (PP ++ [.cells z4, .cells (qcell d)]))⟩ K := by
  have hm : Tryz.prog.follows .mixedOrders = true := by kernel_rfl
  refine T_rounds (fun i : Nat => ⟨envL [(0, .osl none o 0 n), (2, .ptr b 0), (3, .ptr (b + 1) 0), (4, .int .i64 (c : Int)), (6, .int .i64 (i : Int)), (11, .int .i64 (n : Int)), (12, .int .i64 (c : Int))], pre ++ (matH o w (elimCol M c i) ++ (PP ++ [.cells z4, .cells (qcell d)]))⟩)
    (fun i => c + 1 ≤ i ∧ i ≤ n) (fun i => n - i) (c + 1) ⟨Nat.le_refl _, hc⟩ (Le_eq (Le_keep [(0, .osl none o 0 n), (2, .ptr b 0), (3, .ptr (b + 1) 0), (4, .int .i64 (c : Int)), (6, .int .i64 ((c + 1 : Nat) : Int)), (11, .int .i64 (n : Int)), (12, .int .i64 (c : Int))] (by simp only [go_sem])) (by rw [elimCol_zero (Nat.le_refl _)])) (fun i hI N hN => ?_)
  obtain ⟨h1, h2⟩ := hI
  unfold cMatrix_triangle_L3
  have hnS : (elimCol M c i).length = n := by rw [elimCol_len, hn]
  by_cases hi : i < n
  · have gP := mat_ptr (pre := pre) (post := PP ++ [.cells z4, .cells (qcell d)]) (w := w) (M := elimCol M c i) ho
    rw [hnS] at gP
    have gi := ptrs_get (o := o) (w := w) hi
    have gc := ptrs_get (o := o) (w := w) hc
    have rI : (elimCol M c i)[i]? = some (M.getD i []) := by rw [elimCol_get (by omega), if_neg (by omega)]
    have rC : (elimCol M c i)[c]? = some (M.getD c []) := by rw [elimCol_get (by omega), if_neg (by omega)]
    have gR := mat_row (post := PP ++ [.cells z4, .cells (qcell d)]) (w := w) ho rI
    have gC := mat_row (post := PP ++ [.cells z4, .cells (qcell d)]) (w := w) ho rC
    have hlI := hW.get (show i < M.length by omega)
    have hlC := hW.get (show c < M.length by omega)
    have eI : (M.getD i [])[c]? = some (mget M i c) := rget_some (by omega)
    have eC : (M.getD c [])[c]? = some (mget M c c) := rget_some (by omega)
    have t1 := qc_take4 eI
    have t2 := qc_len4 eI
    have t3 := qc_take4 eC
    have t4 := qc_len4 eC
    have q0 : (0 : Int) ≤ (i : Int) := by omega
    have q1 : (i : Int) < (n : Int) := by omega
    have q2 : (0 : Int) ≤ (c : Int) := by omega
    have q3 : (c : Int) < (n : Int) := by omega
    have q4 : (c : Int) < (w : Int) := by omega
    have e1 : IntKind.i64.wrap ((i : Int) + 1) = ((i + 1 : Nat) : Int) := by rw [i64_id (by omega) (by omega)]; omega
    have hlen : (pre ++ (matH o w (elimCol M c i) ++ (PP ++ [Blk.cells z4, .cells (qcell d)]))).length = b + 2 := mat_lenP ho hnS hb
    have bI := hB.get (show i < M.length by omega)
    have bC := hB.get (show c < M.length by omega)
    simp only [go_sem, cMatrix_triangle_r16, cMatrix_triangle_r17, q0, q1, q2, q3, q4, gP, gi, gc, gR, List.getElem?_drop, t1, t2]
    refine call_P (sign_q (mget M i c)) (by simp only [go_sem, avQ_q, bvs_qcell]) ?_
    by_cases hz : mget M i c = 0
    · simp only [go_sem, hz, cMatrix_triangle_r23, e1]
      have hE : elimCol M c (i + 1) = elimCol M c i := by
        rw [← elimCol_succ (by omega) (by omega)]
        unfold elimRow
        rw [if_pos (show rget (M.getD i []) c = 0 from hz)]
        apply List.ext_getElem?
        intro x
        by_cases hx : i = x
        · subst hx; rw [List.getElem?_set_self (by omega), rI]
        · rw [List.getElem?_set_ne hx]
      refine hN (i + 1) _ ⟨by omega, by omega⟩ (by omega) ?_
      rw [hE]
      exact Le_keep _ (by simp only [go_sem])
    · have hz' : ¬ (if mget M i c < 0 then (-1 : Int) else 1) = 0 := by split <;> omega
      have eA : ∀ X : Blk, (pre ++ (matH o w (elimCol M c i) ++ (PP ++ [Blk.cells z4, .cells (qcell d)]))) ++ [X] = pre ++ (matH o w (elimCol M c i) ++ (PP ++ [.cells z4, .cells (qcell d), X])) := fun X => by simp
      have gP3 : ∀ X : Blk, (pre ++ (matH o w (elimCol M c i) ++ (PP ++ [Blk.cells z4, .cells (qcell d), X])))[o]? = some (.cells (ptrs o w n)) := fun X => by
        have := mat_ptr (pre := pre) (post := PP ++ [.cells z4, .cells (qcell d), X]) (w := w) (M := elimCol M c i) ho
        rwa [hnS] at this
      have gR3 : ∀ X : Blk, (pre ++ (matH o w (elimCol M c i) ++ (PP ++ [Blk.cells z4, .cells (qcell d), X])))[o + 2 + 2 * i]? = some (.cells (qc (M.getD i []))) := fun X => mat_row ho rI
      have gC3 : ∀ X : Blk, (pre ++ (matH o w (elimCol M c i) ++ (PP ++ [Blk.cells z4, .cells (qcell d), X])))[o + 2 + 2 * c]? = some (.cells (qc (M.getD c []))) := fun X => mat_row ho rC
      have g3 : ∀ X : Blk, (pre ++ (matH o w (elimCol M c i) ++ (PP ++ [Blk.cells z4, .cells (qcell d), X])))[b + 2]? = some X := fun X => mat_postP (t := 2) ho hnS hb
      have s3 : ∀ X Y : Blk, (pre ++ (matH o w (elimCol M c i) ++ (PP ++ [Blk.cells z4, .cells (qcell d), X]))).set (b + 2) Y = pre ++ (matH o w (elimCol M c i) ++ (PP ++ [.cells z4, .cells (qcell d), Y])) := fun X Y => mat_set_postP (t := 2) ho hnS hb
      have l0 : o < b + 2 := by omega
      have l1 : o + 2 + 2 * i < b + 2 := by omega
      have l2 : o + 2 + 2 * c < b + 2 := by omega
      simp only [go_sem, hz, hz', cMatrix_triangle_r18, hm, hlen, eA, q0, q1, q2, q3, q4, gP3, gR3, gC3, gi, gc, l0, l1, l2, List.getElem?_drop, t1, t2, t3, t4]
      refine call_P (div_q (k := k) (bI.get (j := c) (by omega)) (bC.get (j := c) (by omega)) h0 (by omega)) (by simp only [go_sem, avQ_q, bvs_qcell, mget]) ?_
      simp only [go_sem, avQ_q, qcell_len, g3, s3, cMatrix_triangle_r19]
      refine T_keep [(0, .osl none o 0 n), (2, .ptr b 0), (3, .ptr (b + 1) 0), (4, .int .i64 (c : Int)), (6, .int .i64 (i : Int)), (7, .ptr (b + 2) 0), (8, .int .i64 (c : Int)), (11, .int .i64 (n : Int)), (12, .int .i64 (c : Int))] (by simp only [go_sem])
        (tri_L2 (post := (PP ++ [.cells z4, .cells (qcell d), .cells (qcell (mget M i c / mget M c c))])) (t := PP.length + 2) (q := mget M i c / mget M c c) (k := k) ho hnS hnl hwl hi hc (by omega) (by omega) rC rI hlC hlI (by omega) (by rw [List.getElem?_append_right (by omega), show PP.length + 2 - PP.length = 2 by omega]; rfl) bC bI ((bI.get (j := c) (by omega)).div (bC.get (j := c) (by omega)) h0) hk1 hk (fun e k0 k2 k3 k4 k6 k11 k12 => ?_))
      simp only [go_sem, cMatrix_triangle_r23, k6, e1]
      have hE : (elimCol M c i).set i (elimTo (M.getD c []) c (mget M i c / mget M c c) (M.getD i []) w) = elimCol M c (i + 1) := by
        rw [← elimCol_succ (by omega) (by omega)]
        congr 1
        unfold elimRow
        rw [if_neg (show ¬ rget (M.getD i []) c = 0 from hz), hlI]
        rfl
      rw [hE]
      refine hN (i + 1) _ ⟨by omega, by omega⟩ (by omega) ?_
      have hnS' : (elimCol M c (i + 1)).length = n := by rw [elimCol_len, hn]
      have hK2 : (pre ++ (matH o w (elimCol M c (i + 1)) ++ (PP ++ [Blk.cells z4, .cells (qcell d)]))).length = b + 2 := mat_lenP ho hnS' hb
      have hclo : Clo (b + 2) (pre ++ (matH o w (elimCol M c (i + 1)) ++ (PP ++ [Blk.cells z4, .cells (qcell d)]))) := hpre.append ((clo_mat (by rw [hnS']; omega)).append (hPP.append rfl))
      have hsplit : pre ++ (matH o w (elimCol M c (i + 1)) ++ (PP ++ [Blk.cells z4, .cells (qcell d), .cells (qcell (mget M i c / mget M c c))])) = (pre ++ (matH o w (elimCol M c (i + 1)) ++ (PP ++ [Blk.cells z4, .cells (qcell d)]))) ++ [.cells (qcell (mget M i c / mget M c c))] := by simp
      rw [hsplit]
      refine Le_drop hK2 hclo (by omega) _ (by simp only [go_sem, k0, k2, k3, k4, k11, k12]) (fun p hp => ?_)
      have g0 : pos (List.range (b + 2)) o = some o := pos_range (by omega)
      have g1 : pos (List.range (b + 2)) b = some b := pos_range (by omega)
      have g2 : pos (List.range (b + 2)) (b + 1) = some (b + 1) := pos_range (by omega)
      simp only [List.mem_cons, List.not_mem_nil, or_false] at hp
      rcases hp with rfl | rfl | rfl | rfl | rfl | rfl | rfl <;> simp only [AV.gc, g0, g1, g2]
  · have hin : i = n := by omega
    subst hin
    have q1 : ¬ (i : Int) < (i : Int) := by omega
    simp only [go_sem, cMatrix_triangle_r16, q1]
    exact hK _ (by simp only [go_sem]) (by simp only [go_sem]) (by simp only [go_sem]) (by simp only [go_sem]) (by simp only [go_sem])
end GoAbs
namespace GoAbs
open Go Go.Proofs
def tri : Nat → Nat → RM → Rat → Rat × RM
  | 0, _, M, d => (d, M)
  | k + 1, c, M, d => if mget M c c = 0 then (0, M) else tri k (c + 1) (elimCol M c M.length) (d * mget M c c)
def NoSw : Nat → Nat → RM → Prop
  | 0, _, _ => True
  | k + 1, c, M => (mget M c c = 0 → ∀ i, c ≤ i → i < M.length → mget M i c = 0) ∧ (mget M c c ≠ 0 → NoSw k (c + 1) (elimCol M c M.length))
theorem tri_L1 {pre post : Heap} {o w n c n0 : Nat} {M : RM} {bA : Nat} (ho : pre.length = o) (hn : M.length = n) (hnl : n ≤ 1000000) (hc : c < n) (hcw : c < w) (hW : Wid w M)
    (hz : ∀ i, c ≤ i → i < n → mget M i c = 0) {K : Ex → St → Prop}
    (hK : ∀ e : Nat → AV, e 0 = .osl none o 0 n → e 2 = .ptr bA 0 → e 5 = .int .i64 (n : Int) → K (.exit 2) ⟨e, pre ++ (matH o w M ++ post)⟩) :
    T Tryz.prog 133 n0 (.loop cMatrix_triangle_L1) ⟨envL [(0, .osl none o 0 n), (2, .ptr bA 0), (4, .int .i64 (c : Int)), (5, .int .i64 (c : Int))], pre ++ (matH o w M ++ post)⟩ K := by
  refine T_rounds (fun i : Nat => ⟨envL [(0, .osl none o 0 n), (2, .ptr bA 0), (4, .int .i64 (c : Int)), (5, .int .i64 (i : Int))], pre ++ (matH o w M ++ post)⟩)
    (fun i => c ≤ i ∧ i ≤ n) (fun i => n - i) c ⟨Nat.le_refl _, by omega⟩ (Le_keep _ (by simp only [go_sem])) (fun i hI N hN => ?_)
  obtain ⟨h1, h2⟩ := hI
  unfold cMatrix_triangle_L1
  by_cases hi : i < n
  · have gP := mat_ptr (pre := pre) (post := post) (w := w) (M := M) ho
    rw [hn] at gP
    have gi := ptrs_get (o := o) (w := w) hi
    have gR := mat_row (post := post) (w := w) ho (getD_some (M := M) (i := i) (by omega))
    have hlI := hW.get (show i < M.length by omega)
    have eI : (M.getD i [])[c]? = some (mget M i c) := rget_some (by omega)
    have t1 := qc_take4 eI
    have t2 := qc_len4 eI
    have q0 : (0 : Int) ≤ (i : Int) := by omega
    have q1 : (i : Int) < (n : Int) := by omega
    have q2 : (0 : Int) ≤ (c : Int) := by omega
    have q4 : (c : Int) < (w : Int) := by omega
    have e1 : IntKind.i64.wrap ((i : Int) + 1) = ((i + 1 : Nat) : Int) := by rw [i64_id (by omega) (by omega)]; omega
    simp only [go_sem, cMatrix_triangle_r7, q0, q1, q2, q4, gP, gi, gR, List.getElem?_drop, t1, t2]
    refine call_P (sign_q (mget M i c)) (by simp only [go_sem, avQ_q, bvs_qcell]) ?_
    simp only [go_sem, hz i h1 hi, cMatrix_triangle_r8, e1]
    exact hN (i + 1) _ ⟨by omega, by omega⟩ (by omega) (Le_keep _ (by simp only [go_sem]))
  · have hin : i = n := by omega
    subst hin
    have q1 : ¬ (i : Int) < (i : Int) := by omega
    simp only [go_sem, cMatrix_triangle_r7, q1]
    exact hK _ (by simp only [go_sem]) (by simp only [go_sem]) (by simp only [go_sem])
theorem tri_L1f {pre post : Heap} {o w n c n0 : Nat} {M : RM} {bA : Nat} (ho : pre.length = o) (hn : M.length = n) (hc : c < n) (hcw : c < w) (hW : Wid w M)
    (hz : mget M c c ≠ 0) {K : Ex → St → Prop}
    (hK : ∀ e : Nat → AV, e 0 = .osl none o 0 n → e 2 = .ptr bA 0 → e 3 = .ptr (bA + 1) 0 → e 4 = .int .i64 (c : Int) → e 5 = .int .i64 (c : Int) → e 11 = .int .i64 (n : Int) → e 12 = .int .i64 (c : Int) → K (.exit 2) ⟨e, pre ++ (matH o w M ++ post)⟩) :
    T Tryz.prog 133 n0 (.loop cMatrix_triangle_L1) ⟨envL [(0, .osl none o 0 n), (2, .ptr bA 0), (3, .ptr (bA + 1) 0), (4, .int .i64 (c : Int)), (5, .int .i64 (c : Int)), (11, .int .i64 (n : Int)), (12, .int .i64 (c : Int))], pre ++ (matH o w M ++ post)⟩ K := by
  refine T_rounds (fun _ : Unit => ⟨envL [(0, .osl none o 0 n), (2, .ptr bA 0), (3, .ptr (bA + 1) 0), (4, .int .i64 (c : Int)), (5, .int .i64 (c : Int)), (11, .int .i64 (n : Int)), (12, .int .i64 (c : Int))], pre ++ (matH o w M ++ post)⟩)
    (fun _ => True) (fun _ => 0) () trivial (Le_keep _ (by simp only [go_sem])) (fun i hI N hN => ?_)
  unfold cMatrix_triangle_L1
  have gP := mat_ptr (pre := pre) (post := post) (w := w) (M := M) ho
  rw [hn] at gP
  have gi := ptrs_get (o := o) (w := w) hc
  have gR := mat_row (post := post) (w := w) ho (getD_some (M := M) (i := c) (by omega))
  have hlI := hW.get (show c < M.length by omega)
  have eI : (M.getD c [])[c]? = some (mget M c c) := rget_some (by omega)
  have t1 := qc_take4 eI
  have t2 := qc_len4 eI
  have q1 : (c : Int) < (n : Int) := by omega
  have q2 : (0 : Int) ≤ (c : Int) := by omega
  have q4 : (c : Int) < (w : Int) := by omega
  simp only [go_sem, cMatrix_triangle_r7, q1, q2, q4, gP, gi, gR, List.getElem?_drop, t1, t2]
  refine call_P (sign_q (mget M c c)) (by simp only [go_sem, avQ_q, bvs_qcell]) ?_
  have hz' : ¬ (if mget M c c < 0 then (-1 : Int) else 1) = 0 := by split <;> omega
  simp only [go_sem, hz, hz']
  exact hK _ (by simp only [go_sem]) (by simp only [go_sem]) (by simp only [go_sem]) (by simp only [go_sem]) (by simp only [go_sem]) (by simp only [go_sem]) (by simp only [go_sem])
theorem tri_L4 {pre PP : Heap} {o w n n0 k b : Nat} {M : RM} (ho : pre.length = o) (hn : M.length = n) (hnl : n ≤ 1000000) (hwl : w ≤ 1000000) (hnw : n ≤ w) (hW : Wid w M) (hB : Mb k M) (hk1 : 1 ≤ k) (hk : 9 ^ n * k ≤ 100000000000)
    (hns : NoSw n 0 M) (hb : b = o + (1 + 2 * n) + PP.length) (hn0 : n0 ≤ b) (hpre : Clo (b + 2) pre) (hPP : Clo (b + 2) PP) {K : Ex → St → Prop}
    (hK : ∀ e d M', tri n 0 M 1 = (d, M') → M'.length = n → e 2 = .ptr b 0 → e 3 = .ptr (b + 1) 0 → K (.exit 0) ⟨e, pre ++ (matH o w M' ++ (PP ++ [.cells z4, .cells (qcell d)]))⟩)
    (hK0 : ∀ e d M', tri n 0 M 1 = (0, M') → M'.length = n → e 2 = .ptr b 0 → K .ret ⟨e, pre ++ (matH o w M' ++ (PP ++ [.cells (qcell 0), .cells (qcell d)]))⟩) :
    T Tryz.prog 133 n0 (.loop cMatrix_triangle_L4) ⟨envL [(0, .osl none o 0 n), (2, .ptr b 0), (3, .ptr (b + 1) 0), (11, .int .i64 (n : Int)), (12, .int .i64 0)], pre ++ (matH o w M ++ (PP ++ [.cells z4, .cells (qcell 1)]))⟩ K := by
  have hm : Tryz.prog.follows .mixedOrders = true := by kernel_rfl
  refine T_rounds (fun z : Nat × RM × Rat => ⟨envL [(0, .osl none o 0 n), (2, .ptr b 0), (3, .ptr (b + 1) 0), (11, .int .i64 (n : Int)), (12, .int .i64 (z.1 : Int))], pre ++ (matH o w z.2.1 ++ (PP ++ [.cells z4, .cells (qcell z.2.2)]))⟩)
    (fun z => z.1 ≤ n ∧ z.2.1.length = n ∧ Wid w z.2.1 ∧ Mb (9 ^ z.1 * k) z.2.1 ∧ Qb (9 ^ z.1 * k) z.2.2 ∧ NoSw (n - z.1) z.1 z.2.1 ∧ tri (n - z.1) z.1 z.2.1 z.2.2 = tri n 0 M 1) (fun z => n - z.1) (0, M, 1)
    ⟨by simp, hn, hW, by simpa using hB, by simpa using Qb.one hk1, hns, rfl⟩ (Le_keep _ (by simp only [go_sem]; simp)) (fun z hI N hN => ?_)
  obtain ⟨c, S, d⟩ := z
  obtain ⟨h1, h2, h3, h4, h5, h6, h7⟩ := hI
  simp only at h1 h2 h3 h4 h5 h6 h7 ⊢
  unfold cMatrix_triangle_L4
  by_cases hc : c < n
  · obtain ⟨m, hm1⟩ : ∃ m, n - c = m + 1 := ⟨n - c - 1, by omega⟩
    have hm2 : n - (c + 1) = m := by omega
    rw [hm1] at h6 h7
    have q1 : (c : Int) < (n : Int) := by omega
    have q0 : (0 : Int) ≤ (c : Int) := by omega
    have q4 : (c : Int) < (w : Int) := by omega
    have e1 : IntKind.i64.wrap ((c : Int) + 1) = ((c + 1 : Nat) : Int) := by rw [i64_id (by omega) (by omega)]; omega
    have gP := mat_ptr (pre := pre) (post := PP ++ [.cells z4, .cells (qcell d)]) (w := w) (M := S) ho
    rw [h2] at gP
    have gc := ptrs_get (o := o) (w := w) hc
    have gC := mat_row (post := PP ++ [.cells z4, .cells (qcell d)]) (w := w) ho (getD_some (M := S) (i := c) (by omega))
    have hlC := h3.get (show c < S.length by omega)
    have eC : (S.getD c [])[c]? = some (mget S c c) := rget_some (by omega)
    have t1 := qc_take4 eC
    have t2 := qc_len4 eC
    have hlen : (pre ++ (matH o w S ++ (PP ++ [Blk.cells z4, .cells (qcell d)]))).length = b + 2 := mat_lenP ho h2 hb
    have gA : (pre ++ (matH o w S ++ (PP ++ [Blk.cells z4, .cells (qcell d)])))[b]? = some (.cells z4) := mat_postP (t := 0) ho h2 hb
    have gD : (pre ++ (matH o w S ++ (PP ++ [Blk.cells z4, .cells (qcell d)])))[b + 1]? = some (.cells (qcell d)) := mat_postP (t := 1) ho h2 hb
    have sA : ∀ Y : Blk, (pre ++ (matH o w S ++ (PP ++ [Blk.cells z4, .cells (qcell d)]))).set b Y = pre ++ (matH o w S ++ (PP ++ [Y, .cells (qcell d)])) := fun Y => mat_set_postP (t := 0) ho h2 hb
    have sD : ∀ Y : Blk, (pre ++ (matH o w S ++ (PP ++ [Blk.cells z4, .cells (qcell d)]))).set (b + 1) Y = pre ++ (matH o w S ++ (PP ++ [.cells z4, Y])) := fun Y => mat_set_postP (t := 1) ho h2 hb
    simp only [go_sem, cMatrix_triangle_r4, cMatrix_triangle_r5, cMatrix_triangle_r6, q1]
    by_cases hp : mget S c c = 0
    · refine T_keep [(0, .osl none o 0 n), (2, .ptr b 0), (4, .int .i64 (c : Int)), (5, .int .i64 (c : Int))] (by simp only [go_sem])
        (tri_L1 ho h2 hnl hc (by omega) h3 (fun i g1 g2 => h6.1 hp i g1 (by omega)) (fun e k0 k2 k5 => ?_))
      have hz4 : z4.length = 4 := rfl
      have hzd : z4.drop 4 = [] := rfl
      simp only [go_sem, cMatrix_triangle_r9, cMatrix_triangle_r10, k0, k2, k5]
      refine call_P zero_q (by simp only [go_sem]) ?_
      simp only [go_sem, avQ_q, qcell_len, gA, hz4, hzd, sA, k2]
      refine hK0 _ d S ?_ h2 (by simp only [go_sem, k2])
      rw [← h7]
      unfold tri
      rw [if_pos hp]
    · refine T_keep [(0, .osl none o 0 n), (2, .ptr b 0), (3, .ptr (b + 1) 0), (4, .int .i64 (c : Int)), (5, .int .i64 (c : Int)), (11, .int .i64 (n : Int)), (12, .int .i64 (c : Int))] (by simp only [go_sem])
        (tri_L1f ho h2 hc (by omega) h3 hp (fun e k0 k2 k3 k4 k5 k11 k12 => ?_))
      have q5 : ¬ (c : Int) = (n : Int) := by omega
      have q6 : ¬ ((c : Int) ≠ (c : Int)) := by omega
      have hql : (4 : Nat) ≤ (qcell d).length := by rw [qcell_len]; omega
      have hqt : (qcell d).take 4 = qcell d := List.take_of_length_le (by rw [qcell_len]; omega)
      have hqd : (qcell d).drop 4 = [] := rfl
      have l0 : o < b + 2 := by omega
      have l1 : o + 2 + 2 * c < b + 2 := by omega
      have l2 : b + 1 < b + 2 := by omega
      have hKb : 9 ^ c * k ≤ 9 ^ n * k := Nat.mul_le_mul_right _ (Nat.pow_le_pow_right (by omega) h1)
      have hKs : 9 ^ (c + 1) * k = 9 * (9 ^ c * k) := by rw [Nat.pow_succ, Nat.mul_comm (9 ^ c) 9, Nat.mul_assoc]
      have hKn : 9 ^ (c + 1) * k ≤ 9 ^ n * k := Nat.mul_le_mul_right _ (Nat.pow_le_pow_right (by omega) hc)
      have hKp : 1 ≤ 9 ^ c * k := Nat.mul_pos (Nat.pow_pos (by omega)) hk1
      simp only [go_sem, cMatrix_triangle_r9, cMatrix_triangle_r11, cMatrix_triangle_r14, k0, k2, k3, k4, k5, q0, q1, q4, q5, q6, hm, hlen, gP, gc, gC, gD, List.getElem?_drop, t1, t2, hql, hqt, l0, l1, l2]
      refine call_P (mul_q (k := 9 ^ c * k) h5 ((h4.get (i := c) (by omega)).get (j := c) (by omega)) (by omega)) (by simp only [go_sem, avQ_q, bvs_qcell, mget]) ?_
      simp only [go_sem, avQ_q, qcell_len, hqd, gD, sD, hlen, l2, k3, k4, cMatrix_triangle_r15, e1]
      refine T_keep [(0, .osl none o 0 n), (2, .ptr b 0), (3, .ptr (b + 1) 0), (4, .int .i64 (c : Int)), (6, .int .i64 ((c + 1 : Nat) : Int)), (11, .int .i64 (n : Int)), (12, .int .i64 (c : Int))] (by simp only [go_sem, k0, k2, k3, k4, k11, k12])
        (tri_L3 (k := 9 ^ c * k) ho h2 hnl hwl hc (by omega) h3 h4 hp hKp (by omega) hb hn0 hpre hPP (fun e z0 z2 z3 z11 z12 => ?_))
      simp only [go_sem, cMatrix_triangle_r24, z12, e1]
      refine hN (c + 1, elimCol S c n, d * mget S c c) _ ⟨hc, by rw [elimCol_len, h2], h3.elim, ?_, ?_, ?_, ?_⟩ (by show n - (c + 1) < n - c; omega) (Le_keep _ (by simp only [go_sem, z0, z2, z3, z11]))
      · simp only
        rw [hKs]
        exact (h4.elim h3 (by omega) (by omega) hp).mono (by omega)
      · simp only
        rw [hKs]
        exact (h5.mul ((h4.get (i := c) (by omega)).get (j := c) (by omega))).mono (by omega)
      · simp only
        rw [hm2]
        have := h6.2 hp
        rwa [h2] at this
      · simp only
        rw [hm2, ← h7]
        conv => rhs; unfold tri
        rw [if_neg hp, h2]
  · have hcn : c = n := by omega
    subst hcn
    have q1 : ¬ (c : Int) < (c : Int) := by omega
    simp only [go_sem, cMatrix_triangle_r4, q1]
    rw [Nat.sub_self] at h7
    exact hK _ d S h7.symm h2 (by simp only [go_sem]) (by simp only [go_sem])
theorem tri_spec {pre PP : Heap} {o w n k : Nat} {M : RM} (ho : pre.length = o) (hn : M.length = n) (hnl : n ≤ 1000000) (hwl : w ≤ 1000000) (hnw : n ≤ w) (hW : Wid w M) (hB : Mb k M) (hk1 : 1 ≤ k) (hk : 9 ^ n * k ≤ 100000000000)
    (hns : NoSw n 0 M) (hpre : ∀ m, o + (1 + 2 * n) ≤ m → Clo m pre) (hPP : ∀ m, o + (1 + 2 * n) ≤ m → Clo m PP) :
    SpecR Tryz.prog n_Matrix_triangle (pre ++ (matH o w M ++ PP)) [.osl none o 0 n] (.agg (qcell (tri n 0 M 1).1)) (pre ++ (matH o w (tri n 0 M 1).2 ++ PP)) := by
  obtain ⟨b, hb⟩ : ∃ b, b = o + (1 + 2 * n) + PP.length := ⟨_, rfl⟩
  have hL : (pre ++ (matH o w M ++ PP)).length = b := by rw [List.length_append, List.length_append, matH_len, hn, ho]; omega
  refine specR_LT ok_Matrix_triangle (by simp) (T_W ?_)
  unfold cMatrix_triangle
  have eA : (pre ++ (matH o w M ++ PP)) ++ [Blk.cells [AV.bool false, .nils, .bool false, .nils]] ++ [Blk.cells [AV.bool false, .nils, .bool false, .nils]] = pre ++ (matH o w M ++ (PP ++ [.cells z4, .cells z4])) := by simp [z4]
  have eL : ((pre ++ (matH o w M ++ PP)) ++ [Blk.cells [AV.bool false, .nils, .bool false, .nils]]).length = b + 1 := by rw [List.length_append, hL]; rfl
  have g1 : (pre ++ (matH o w M ++ (PP ++ [Blk.cells z4, .cells z4])))[b + 1]? = some (.cells z4) := mat_postP (t := 1) ho hn hb
  have s1 : ∀ Y : Blk, (pre ++ (matH o w M ++ (PP ++ [Blk.cells z4, .cells z4]))).set (b + 1) Y = pre ++ (matH o w M ++ (PP ++ [.cells z4, Y])) := fun Y => mat_set_postP (t := 1) ho hn hb
  have hz4 : z4.length = 4 := rfl
  have hzd : z4.drop 4 = [] := rfl
  simp only [go_sem, cMatrix_triangle_r1, cMatrix_triangle_r2, hL]
  refine call_P one_q (by simp only [go_sem]) ?_
  simp only [go_sem, avQ_q, qcell_len, eA, eL, hL, g1, s1, hz4, hzd, cMatrix_triangle_r3, Nat.le_refl]
  have dropK : ∀ (e : Nat → AV) (M' : RM) (a d : List AV), M'.length = n → ∃ st', Le 133 b ⟨e, pre ++ (matH o w M' ++ (PP ++ [.cells a, .cells d]))⟩ st' ∧ st'.H = pre ++ (matH o w M' ++ PP) := fun e M' a d hM' => by
    have hK2 : (pre ++ (matH o w M' ++ PP)).length = b := by rw [List.length_append, List.length_append, matH_len, hM', ho]; omega
    have hclo : Clo b (pre ++ (matH o w M' ++ PP)) := (hpre _ (by omega)).append ((clo_mat (by rw [hM']; omega)).append (hPP _ (by omega)))
    have hsplit : pre ++ (matH o w M' ++ (PP ++ [Blk.cells a, .cells d])) = (pre ++ (matH o w M' ++ PP)) ++ [.cells a, .cells d] := by simp
    rw [hsplit]
    exact ⟨_, Le_drop hK2 hclo (Nat.le_refl _) [] trivial (fun p hp => by simp at hp), rfl⟩
  have gq : ∀ q : Rat, (AV.agg (qcell q)).gc (fun _ => none) = .agg (qcell q) := fun q => rfl
  have hql : ∀ q : Rat, (4 : Nat) ≤ (qcell q).length := fun q => by rw [qcell_len]; omega
  have hqt : ∀ q : Rat, (qcell q).take 4 = qcell q := fun q => List.take_of_length_le (by rw [qcell_len]; omega)
  refine T_keep [(0, .osl none o 0 n), (2, .ptr b 0), (3, .ptr (b + 1) 0), (11, .int .i64 (n : Int)), (12, .int .i64 0)] (by simp only [go_sem])
    (tri_L4 ho hn hnl hwl hnw hW hB hk1 hk hns hb (Nat.le_refl _) (hpre _ (by omega)) (hPP _ (by omega)) (fun e d M' h1 h2 k2 k3 => ?_) (fun e d M' h1 h2 k2 => ?_))
  · have gA : (pre ++ (matH o w M' ++ (PP ++ [Blk.cells z4, .cells (qcell d)])))[b]? = some (.cells z4) := mat_postP (t := 0) ho h2 hb
    have gD : (pre ++ (matH o w M' ++ (PP ++ [Blk.cells z4, .cells (qcell d)])))[b + 1]? = some (.cells (qcell d)) := mat_postP (t := 1) ho h2 hb
    have sA : ∀ Y : Blk, (pre ++ (matH o w M' ++ (PP ++ [Blk.cells z4, .cells (qcell d)]))).set b Y = pre ++ (matH o w M' ++ (PP ++ [Y, .cells (qcell d)])) := fun Y => mat_set_postP (t := 0) ho h2 hb
    have gA' : ∀ Y : Blk, (pre ++ (matH o w M' ++ (PP ++ [Y, .cells (qcell d)])))[b]? = some Y := fun Y => mat_postP (t := 0) ho h2 hb
    simp only [go_sem, cMatrix_triangle_r25, k2, k3, gA, gD, sA, gA', hql, hqt, hz4, hzd, qcell_len, Nat.le_refl, hL]
    rw [h1]
    exact ⟨rfl, gq _, dropK _ _ _ _ h2⟩
  · have gA : (pre ++ (matH o w M' ++ (PP ++ [Blk.cells (qcell 0), .cells (qcell d)])))[b]? = some (.cells (qcell 0)) := mat_postP (t := 0) ho h2 hb
    simp only [go_sem, k2, gA, hql, hqt, hL]
    rw [h1]
    exact ⟨rfl, gq _, dropK _ _ _ _ h2⟩
theorem det_spec {pre : Heap} {o w n k : Nat} {M : RM} (ho : pre.length = o) (hn : M.length = n) (hnl : n ≤ 1000000) (hwl : w ≤ 1000000) (hnw : n ≤ w) (hW : Wid w M) (hB : Mb k M) (hk1 : 1 ≤ k) (hk : 9 ^ n * k ≤ 100000000000)
    (hns : NoSw n 0 M) (hpre : ∀ m, o + (1 + 2 * n) ≤ m → Clo m pre) :
    SpecR Tryz.prog n_Matrix_Det (pre ++ matH o w M) [.osl none o 0 n] (.agg (qcell (tri n 0 M 1).1)) (pre ++ (matH o w (tri n 0 M 1).2 ++ [.cells (qcell (tri n 0 M 1).1)])) := by
  refine specR_W ok_Matrix_Det (by simp) ?_
  unfold cMatrix_Det
  have hL : (pre ++ matH o w M).length = o + (1 + 2 * n) := by rw [List.length_append, matH_len, hn, ho]
  have eA : (pre ++ matH o w M) ++ [Blk.cells [AV.bool false, .nils, .bool false, .nils]] = pre ++ (matH o w M ++ [.cells z4]) := by simp [z4]
  simp only [go_sem, cMatrix_Det_r1, cMatrix_Det_r2, hL, eA]
  refine call_R (tri_spec (PP := [.cells z4]) ho hn hnl hwl hnw hW hB hk1 hk hns hpre (fun _ _ => rfl)) ?_
  have hn' : (tri n 0 M 1).2.length = n := by
    have main : ∀ k c M d, M.length = n → (tri k c M d).2.length = n := by
      intro k
      induction k with
      | zero => intro c M d h; exact h
      | succ k ih =>
        intro c M d h
        unfold tri
        split
        · exact h
        · exact ih _ _ _ (by rw [elimCol_len, h])
    exact main _ _ _ _ hn
  have gA : ∀ Y : Blk, (pre ++ (matH o w (tri n 0 M 1).2 ++ [Y]))[o + (1 + 2 * n)]? = some Y := fun Y => mat_post (t := 0) ho hn'
  have sA : ∀ X Y : Blk, (pre ++ (matH o w (tri n 0 M 1).2 ++ [X])).set (o + (1 + 2 * n)) Y = pre ++ (matH o w (tri n 0 M 1).2 ++ [Y]) := fun X Y => mat_set_post (t := 0) ho hn'
  have hql : ∀ q : Rat, (4 : Nat) ≤ (qcell q).length := fun q => by rw [qcell_len]; omega
  have hqt : ∀ q : Rat, (qcell q).take 4 = qcell q := fun q => List.take_of_length_le (by rw [qcell_len]; omega)
  have hz4 : z4.length = 4 := rfl
  have hzd : z4.drop 4 = [] := rfl
  simp only [go_sem, qcell_len, gA, sA, hql, hqt, hz4, hzd, Nat.le_refl]
end GoAbs
namespace GoAbs
open Go Go.Proofs
def addAt (M : RM) (i j : Nat) (x : Rat) : RM := M.set i ((M.getD i []).set j (mget M i j + x))
def half (M : RM) (a b : Nat) (x : Rat) : RM := if a = 0 then M else if b = 0 then addAt M (a - 1) (a - 1) x else addAt (addAt M (a - 1) (a - 1) x) (a - 1) (b - 1) (-x)
abbrev Sp := Nat × Nat × Rat
def edgeM (M : RM) (e : Sp) : RM := half (half M e.1 e.2.1 e.2.2) e.2.1 e.1 e.2.2
def lapl (m : Nat) (E : List Sp) : RM := E.foldl edgeM (List.replicate m (List.replicate m 0))
theorem addAt_len {M : RM} {i j : Nat} {x : Rat} : (addAt M i j x).length = M.length := by simp [addAt]
theorem half_len {M : RM} {a b : Nat} {x : Rat} : (half M a b x).length = M.length := by
  unfold half; split
  · rfl
  · split <;> simp [addAt_len]
theorem edgeM_len {M : RM} {e : Sp} : (edgeM M e).length = M.length := by simp [edgeM, half_len]
theorem Wid.addAt {w : Nat} {M : RM} (h : Wid w M) {i j : Nat} {x : Rat} : Wid w (GoAbs.addAt M i j x) := fun r hr => by
  by_cases hi : i < M.length
  · rcases List.mem_or_eq_of_mem_set hr with h1 | rfl
    · exact h r h1
    · rw [List.length_set]; exact h.get hi
  · unfold GoAbs.addAt at hr
    rw [List.set_eq_of_length_le (by omega)] at hr
    exact h r hr
theorem Wid.half {w : Nat} {M : RM} (h : Wid w M) {a b : Nat} {x : Rat} : Wid w (GoAbs.half M a b x) := by
  unfold GoAbs.half; split
  · exact h
  · split
    · exact h.addAt
    · exact h.addAt.addAt
theorem Wid.edge {w : Nat} {M : RM} (h : Wid w M) {e : Sp} : Wid w (edgeM M e) := h.half.half
theorem Qb.add2 {k l : Nat} {a b : Rat} (ha : Qb k a) (hb : Qb l b) : Qb (k + l + 1) (a + b) := by
  rw [← avQ_add]
  have h0 : (a.den : Int) * b.den ≠ 0 := by have := den_pos' a; have := den_pos' b; exact Int.mul_ne_zero (by omega) (by omega)
  obtain ⟨h1, h2⟩ := divInt_le (n := a.num * b.den + b.num * a.den) h0
  have m : ∀ {x y : Nat}, x < 2 ^ k → y < 2 ^ l → x * y < 2 ^ (k + l) := fun hx hy => by rw [Nat.pow_add]; exact Nat.mul_lt_mul'' hx hy
  refine ⟨Nat.lt_of_le_of_lt h1 ?_, ?_⟩
  · have h3 := Int.natAbs_add_le (a.num * b.den) (b.num * a.den)
    rw [Int.natAbs_mul, Int.natAbs_mul, Nat.mul_comm b.num.natAbs] at h3
    have h4 := m ha.n hb.dz
    have h5 := m ha.dz hb.n
    rw [Nat.pow_succ]
    omega
  · rw [Int.natAbs_mul] at h2
    have := m ha.dz hb.dz
    rw [Nat.pow_succ]
    omega
theorem Mb.addAt {k l : Nat} {M : RM} (h : Mb k M) {i j : Nat} {x : Rat} (hx : Qb l x) (hk : 1 ≤ k) : Mb (k + l + 1) (GoAbs.addAt M i j x) := fun r hr => by
  by_cases hi : i < M.length
  · rcases List.mem_or_eq_of_mem_set hr with h1 | rfl
    · exact (h r h1).mono (by omega)
    · intro y hy
      by_cases hj : j < (M.getD i []).length
      · rcases List.mem_or_eq_of_mem_set hy with h2 | rfl
        · exact ((h.get hi) y h2).mono (by omega)
        · exact ((h.get hi).get hj).add2 hx
      · rw [List.set_eq_of_length_le (by omega)] at hy
        exact ((h.get hi) y hy).mono (by omega)
  · unfold GoAbs.addAt at hr
    rw [List.set_eq_of_length_le (by omega)] at hr
    exact (h r hr).mono (by omega)
theorem Mb.half {k l : Nat} {M : RM} (h : Mb k M) {a b : Nat} {x : Rat} (hx : Qb l x) (hk : 1 ≤ k) : Mb (k + 2 * (l + 1)) (GoAbs.half M a b x) := by
  unfold GoAbs.half; split
  · exact h.mono (by omega)
  · split
    · exact (h.addAt hx hk).mono (by omega)
    · exact ((h.addAt hx hk).addAt hx.neg (by omega)).mono (by omega)
theorem Mb.edge {k l : Nat} {M : RM} (h : Mb k M) {e : Sp} (hx : Qb l e.2.2) (hk : 1 ≤ k) : Mb (k + 4 * (l + 1)) (edgeM M e) :=
  ((h.half hx hk).half hx (by omega)).mono (by omega)
theorem madd_at {pre post : Heap} {o w i j k : Nat} {M : RM} {x : Rat} (ho : pre.length = o) (hW : Wid w M) (hi : i < M.length) (hj : j < w) (hml : M.length ≤ 1000000) (hwl : w ≤ 1000000)
    (hB : Mb k M) (bx : Qb k x) (hk : 2 * k + 1 ≤ 1000000000000) :
    SpecR Tryz.prog n_Matrix_Add (pre ++ (matH o w M ++ post)) [.osl none o 0 M.length, .int .i64 (i : Int), .int .i64 (j : Int), .agg (qcell x)] (.tup []) (pre ++ (matH o w (addAt M i j x) ++ (post ++ [.cells (qcell x)]))) := by
  have hl := hW.get hi
  exact madd_spec ho (getD_some hi) (rget_some (by rw [hl]; exact hj)) hl hml hwl ((hB.get hi).get (by rw [hl]; exact hj)) bx hk
theorem net_L1 {pre : Heap} {ps : List AV} {nn ii : Int} {m a b k n0 : Nat} {x : Rat} {M : RM} (hpre : pre.length = 1) (hclo : ∀ m, Clo m pre) (hm : M.length = m) (hml : m ≤ 1000) (hW : Wid m M) (ha : a ≤ m) (hb : b ≤ m) (hB : Mb k M) (bx : Qb k x) (hk1 : 1 ≤ k) (hk : k ≤ 10000000000)
    (hn0 : n0 ≤ 1 + (1 + 2 * m)) {K : Ex → St → Prop}
    (hK : ∀ e : Nat → AV, e 1 = .ptr 0 0 → e 3 = .osl none 1 0 m → e 17 = .sl ps → e 18 = .int .i64 nn → e 19 = .int .i64 ii → K (.exit 2) ⟨e, pre ++ (matH 1 m (half (half M a b x) b a x) ++ [.cells [.int .i64 (a : Int), .int .i64 (b : Int)], .cells (qcell x), .cells [.int .i64 (a : Int), .int .i64 (b : Int), .int .i64 (b : Int), .int .i64 (a : Int)]])⟩) :
    T Tryz.prog 73 n0 (.loop cnet_matrix_L1) ⟨envL [(1, .ptr 0 0), (3, .osl none 1 0 m), (6, .ptr (1 + (1 + 2 * m) + 1) 0), (17, .sl ps), (18, .int .i64 nn), (19, .int .i64 ii), (39, .osl (some 2) (1 + (1 + 2 * m) + 2) 0 2), (40, .int .i64 2), (41, .int .i64 0)],
      pre ++ (matH 1 m M ++ [.cells [.int .i64 (a : Int), .int .i64 (b : Int)], .cells (qcell x), .cells [.int .i64 (a : Int), .int .i64 (b : Int), .int .i64 (b : Int), .int .i64 (a : Int)]])⟩ K := by
  have hmx : Tryz.prog.follows .mixedOrders = true := by kernel_rfl
  refine T_rounds (fun z : Nat × RM => ⟨envL [(1, .ptr 0 0), (3, .osl none 1 0 m), (6, .ptr (1 + (1 + 2 * m) + 1) 0), (17, .sl ps), (18, .int .i64 nn), (19, .int .i64 ii), (39, .osl (some 2) (1 + (1 + 2 * m) + 2) 0 2), (40, .int .i64 2), (41, .int .i64 (z.1 : Int))],
      pre ++ (matH 1 m z.2 ++ [.cells [.int .i64 (a : Int), .int .i64 (b : Int)], .cells (qcell x), .cells [.int .i64 (a : Int), .int .i64 (b : Int), .int .i64 (b : Int), .int .i64 (a : Int)]])⟩)
    (fun z => z.1 ≤ 2 ∧ z.2.length = m ∧ Wid m z.2 ∧ Mb (k + z.1 * (2 * (k + 1))) z.2 ∧ z.2 = (if z.1 = 0 then M else if z.1 = 1 then half M a b x else half (half M a b x) b a x)) (fun z => 2 - z.1) (0, M)
    ⟨by simp, hm, hW, by simpa using hB, rfl⟩ (Le_keep _ (by simp only [go_sem]; simp)) (fun z hI N hN => ?_)
  obtain ⟨t, S⟩ := z
  obtain ⟨h1, h2, h3, h4, h5⟩ := hI
  simp only at h1 h2 h3 h4 h5 ⊢
  unfold cnet_matrix_L1
  by_cases ht : t < 2
  · obtain ⟨u, v, hu, hv, hd, hl4, hnx⟩ : ∃ u v : Nat, u ≤ m ∧ v ≤ m ∧ ([AV.int .i64 (a : Int), .int .i64 (b : Int), .int .i64 (b : Int), .int .i64 (a : Int)].drop (t * 2)).take 2 = [.int .i64 (u : Int), .int .i64 (v : Int)] ∧
        2 ≤ ([AV.int .i64 (a : Int), .int .i64 (b : Int), .int .i64 (b : Int), .int .i64 (a : Int)].drop (t * 2)).length ∧ half S u v x = (if t + 1 = 0 then M else if t + 1 = 1 then half M a b x else half (half M a b x) b a x) := by
      have : t = 0 ∨ t = 1 := by omega
      rcases this with rfl | rfl
      · exact ⟨a, b, ha, hb, rfl, by simp, by simp [h5]⟩
      · exact ⟨b, a, hb, ha, rfl, by simp, by simp [h5]⟩
    generalize hPB : [AV.int .i64 (a : Int), .int .i64 (b : Int), .int .i64 (b : Int), .int .i64 (a : Int)] = PB at *
    have q0 : (0 : Int) ≤ (t : Int) := by omega
    have q1 : (t : Int) < 2 := by omega
    have q2 : (t : Int) < ((2 : Nat) : Int) := by omega
    have e1 : IntKind.i64.wrap ((t : Int) + 1) = ((t + 1 : Nat) : Int) := by rw [i64_id (by omega) (by omega)]; omega
    have gP : ∀ (S' : RM) (post' : Heap) (t' : Nat), S'.length = m → (pre ++ (matH 1 m S' ++ post'))[1 + (1 + 2 * m) + t']? = post'[t']? := fun S' post' t' h => mat_post hpre h
    have sP : ∀ (S' : RM) (post' : Heap) (t' : Nat) (bl : Blk), S'.length = m → (pre ++ (matH 1 m S' ++ post')).set (1 + (1 + 2 * m) + t') bl = pre ++ (matH 1 m S' ++ post'.set t' bl) := fun S' post' t' bl h => mat_set_post hpre h
    have gL : ∀ (S' : RM) (post' : Heap), S'.length = m → (pre ++ (matH 1 m S' ++ post')).length = 1 + (1 + 2 * m) + post'.length := fun S' post' h => by rw [List.length_append, List.length_append, matH_len, h, hpre]; omega
    have eA : ∀ (S' : RM) (post' : Heap) (Y : Blk), (pre ++ (matH 1 m S' ++ post')) ++ [Y] = pre ++ (matH 1 m S' ++ (post' ++ [Y])) := fun S' post' Y => by simp
    simp only [go_sem, eA, List.cons_append, List.nil_append, sP _ _ _ _ h2, cnet_matrix_r8, cnet_matrix_r9, cnet_matrix_r10, q0, q1, q2, gP _ _ _ h2, hd, hl4, gL _ _ h2]
    have hw2 : (if t + 1 = 0 then M else if t + 1 = 1 then half M a b x else half (half M a b x) b a x).length = m := by rw [← hnx, half_len, h2]
    have fin : ∀ (e : Nat → AV) (post' : Heap), e 1 = .ptr 0 0 → e 3 = .osl none 1 0 m → e 6 = .ptr (1 + (1 + 2 * m) + 1) 0 → e 17 = .sl ps → e 18 = .int .i64 nn → e 19 = .int .i64 ii → e 39 = .osl (some 2) (1 + (1 + 2 * m) + 2) 0 2 → e 40 = .int .i64 2 → e 41 = .int .i64 ((t + 1 : Nat) : Int) →
        N ⟨e, pre ++ (matH 1 m (half S u v x) ++ ([.cells [.int .i64 (a : Int), .int .i64 (b : Int)], .cells (qcell x), .cells PB] ++ post'))⟩ := fun e post' f1 f3 f6 f17 f18 f19 f39 f40 f41 => by
      have hh := half_len (M := S) (a := u) (b := v) (x := x)
      refine hN (t + 1, half S u v x) _ ⟨by show t + 1 ≤ 2; omega, by rw [half_len, h2], h3.half, ?_, hnx⟩ (by show 2 - (t + 1) < 2 - t; omega) ?_
      · have := h4.half (a := u) (b := v) bx (by omega)
        exact this.mono (by show k + t * (2 * (k + 1)) + 2 * (k + 1) ≤ k + (t + 1) * (2 * (k + 1)); rw [Nat.add_mul]; omega)
      · have hsplit : pre ++ (matH 1 m (half S u v x) ++ ([Blk.cells [.int .i64 (a : Int), .int .i64 (b : Int)], .cells (qcell x), .cells PB] ++ post')) = (pre ++ (matH 1 m (half S u v x) ++ [Blk.cells [.int .i64 (a : Int), .int .i64 (b : Int)], .cells (qcell x), .cells PB])) ++ post' := by simp
        rw [hsplit]
        refine Le_drop (m := 1 + (1 + 2 * m) + 3) (gL _ _ (by rw [half_len, h2])) ((hclo _).append ((clo_mat (by rw [half_len, h2]; omega)).append ?_)) (by omega) _ ?_ ?_
        · rw [← hPB]; rfl
        · simp only [go_sem, f1, f3, f6, f17, f18, f19, f39, f40, f41]
        · simp [AV.gc, pos_range]
    by_cases hu0 : u = 0
    · subst hu0
      have z0 : ((0 : Nat) : Int) = 0 := rfl
      simp only [go_sem, z0, cnet_matrix_r14, e1]
      have hh : half S 0 v x = S := by simp [half]
      rw [hh] at fin
      exact fin _ [.cells [.int .i64 ((0 : Nat) : Int), .int .i64 (v : Int)]] (by simp only [go_sem]) (by simp only [go_sem]) (by simp only [go_sem]) (by simp only [go_sem]) (by simp only [go_sem]) (by simp only [go_sem]) (by simp only [go_sem]) (by simp only [go_sem]) (by simp only [go_sem])
    · have z0 : ¬ (u : Int) = 0 := by omega
      have eu : IntKind.i64.wrap ((u : Int) - 1) = ((u - 1 : Nat) : Int) := by rw [i64_id (by omega) (by omega)]; omega
      have hql : ∀ q : Rat, (4 : Nat) ≤ (qcell q).length := fun q => by rw [qcell_len]; omega
      have hqt : ∀ q : Rat, (qcell q).take 4 = qcell q := fun q => List.take_of_length_le (by rw [qcell_len]; omega)
      have hkk : 2 * (k + 2 * (2 * (k + 1))) + 1 ≤ 1000000000000 := by omega
      have hb4 : Mb (k + 2 * (2 * (k + 1))) S := h4.mono (Nat.add_le_add_left (Nat.mul_le_mul_right _ h1) _)
      have ma := fun (post' : Heap) => madd_at (post := post') (i := u - 1) (j := u - 1) hpre h3 (by omega) (by omega) (by omega) (by omega) hb4 (bx.mono (by omega)) hkk
      rw [h2] at ma
      have la : (addAt S (u - 1) (u - 1) x).length = m := by rw [addAt_len, h2]
      simp only [go_sem, z0, cnet_matrix_r11, eu, gP _ _ _ h2, hql, hqt]
      refine call_R (ma _) ?_
      simp only [go_sem, cnet_matrix_r12, gP _ _ _ la, List.cons_append, List.nil_append]
      by_cases hv0 : v = 0
      · subst hv0
        have y0 : ((0 : Nat) : Int) = 0 := rfl
        simp only [go_sem, y0, cnet_matrix_r14, e1]
        have hh : half S u 0 x = addAt S (u - 1) (u - 1) x := by simp [half, hu0]
        rw [hh] at fin
        exact fin _ [.cells [.int .i64 (u : Int), .int .i64 ((0 : Nat) : Int)], .cells (qcell x)] (by simp only [go_sem]) (by simp only [go_sem]) (by simp only [go_sem]) (by simp only [go_sem]) (by simp only [go_sem]) (by simp only [go_sem]) (by simp only [go_sem]) (by simp only [go_sem]) (by simp only [go_sem])
      · have y0 : ¬ (v : Int) = 0 := by omega
        have ev : IntKind.i64.wrap ((v : Int) - 1) = ((v - 1 : Nat) : Int) := by rw [i64_id (by omega) (by omega)]; omega
        have hb5 : Mb (k + 2 * (2 * (k + 1)) + k + 1) (addAt S (u - 1) (u - 1) x) := hb4.addAt bx (by omega)
        have mb := fun (post' : Heap) => madd_at (post := post') (i := u - 1) (j := v - 1) (x := -x) hpre h3.addAt (by rw [addAt_len]; omega) (by omega) (by rw [addAt_len]; omega) (by omega) hb5 (bx.neg.mono (by omega)) (by omega)
        rw [la] at mb
        have l0 : 1 + (1 + 2 * m) + 1 < 1 + (1 + 2 * m) + 5 := by omega
        have l1 : 1 + (1 + 2 * m) + 3 < 1 + (1 + 2 * m) + 5 := by omega
        simp only [go_sem, y0, hmx, cnet_matrix_r13, eu, ev, gP _ _ _ la, gL _ _ la, hql, hqt, l0, l1]
        refine call_P (neg_q x) (by simp only [go_sem, avQ_q, bvs_qcell]) ?_
        simp only [go_sem, avQ_q]
        refine call_R (mb _) ?_
        simp only [go_sem, cnet_matrix_r14, e1, List.cons_append, List.nil_append]
        have hh : half S u v x = addAt (addAt S (u - 1) (u - 1) x) (u - 1) (v - 1) (-x) := by simp [half, hu0, hv0]
        rw [hh] at fin
        exact fin _ [.cells [.int .i64 (u : Int), .int .i64 (v : Int)], .cells (qcell x), .cells (qcell (-x))] (by simp only [go_sem]) (by simp only [go_sem]) (by simp only [go_sem]) (by simp only [go_sem]) (by simp only [go_sem]) (by simp only [go_sem]) (by simp only [go_sem]) (by simp only [go_sem]) (by simp only [go_sem])
  · have ht2 : t = 2 := by omega
    subst ht2
    have h5' : S = half (half M a b x) b a x := by simpa using h5
    have q1 : ¬ ((2 : Nat) : Int) < 2 := by omega
    simp only [go_sem, cnet_matrix_r8, q1]
    rw [h5']
    exact hK _ (by simp only [go_sem]) (by simp only [go_sem]) (by simp only [go_sem]) (by simp only [go_sem]) (by simp only [go_sem])
end GoAbs
namespace GoAbs
open Go Go.Proofs
def pairAV (e : Sp) : AV := .agg [.int .i64 (e.1 : Int), .int .i64 (e.2.1 : Int)]
def pairsL (E : List Sp) : List AV := E.map pairAV
def condsL (E : List Sp) : List AV := E.map fun e => avQ e.2.2
def netC (n : Nat) (E : List Sp) : List AV := [.int .i64 (n : Int), .sl (pairsL E), .sl (condsL E)]
theorem gc_ptrs {o w n s : Nat} : gcL (fun i => some (i + s)) (ptrs o w n) = ptrs (o + s) w n := by
  rw [gcL_map]
  unfold ptrs
  rw [List.map_map]
  refine List.map_congr_left fun i _ => ?_
  show AV.gc _ (AV.osl _ _ _ _) = _
  simp only [AV.gc]
  congr 1; omega
theorem gc_rowsH {f : Nat → Option Nat} {M : RM} : (rowsH M).map (Blk.gc f) = rowsH M := by
  induction M with
  | nil => rfl
  | cons r M ih =>
    show ([Blk.dead, .cells (qc r)] ++ rowsH M).map _ = [Blk.dead, .cells (qc r)] ++ rowsH M
    rw [List.map_append, ih]
    simp only [List.map_cons, List.map_nil, Blk.gc, gc_qc]
theorem gc_matH {o w s : Nat} {M : RM} : (matH o w M).map (Blk.gc (fun i => some (i + s))) = matH (o + s) w M := by
  unfold matH
  rw [List.map_cons, gc_rowsH]
  simp only [Blk.gc, gc_ptrs]
theorem net_spec {n k : Nat} {E : List Sp} (hn : 2 ≤ n) (hnl : n ≤ 100) (hE : ∀ e, e ∈ E → e.1 < n ∧ e.2.1 < n ∧ Qb k e.2.2) (hk : 1 ≤ k) (hEl : E.length ≤ 1000) (hK : k + E.length * (4 * (k + 1)) ≤ 10000000000) :
    SpecR Tryz.prog n_net_matrix [] [.agg (netC n E)] (.osl none 1 0 (n - 1)) ([.cells (netC n E)] ++ matH 1 (n - 1) (lapl (n - 1) E)) := by
  obtain ⟨m, hm⟩ : ∃ m, n = m + 1 := ⟨n - 1, by omega⟩
  have hm1 : n - 1 = m := by omega
  rw [hm1]
  obtain ⟨nc, hnc⟩ : ∃ nc, nc = netC n E := ⟨_, rfl⟩
  refine specR_W ok_net_matrix (by simp) ?_
  unfold cnet_matrix
  have en : IntKind.i64.wrap ((n : Int) - 1) = (m : Int) := by rw [i64_id (by omega) (by omega)]; omega
  simp only [go_sem, cnet_matrix_r1, cnet_matrix_r2, netC, en]
  have hz := specR_fresh (H := [.cells nc]) (zero_own (m := m) (n := m) (by omega) (by omega) (by omega)) (by simp only [go_sem])
  rw [gc_matH, hnc] at hz
  refine call_R hz ?_
  have e1 : (AV.osl none 0 0 m).gc (fun i => some (i + [Blk.cells (netC n E)].length)) = .osl none 1 0 m := rfl
  have e2 : ∀ X : Heap, [Blk.cells (netC n E)] ++ X = Blk.cells (netC n E) :: X := fun X => rfl
  rw [e1]
  simp only [go_sem, cnet_matrix_r3, netC]
  have hnc' : [Blk.cells [AV.int .i64 (n : Int), .sl (pairsL E), .sl (condsL E)]] = [Blk.cells nc] := by rw [hnc]; rfl
  have hpl : (pairsL E).length = E.length := by simp [pairsL]
  obtain ⟨pre, hpre⟩ : ∃ pre : Heap, pre = [.cells nc] := ⟨_, rfl⟩
  have hp1 : pre.length = 1 := by rw [hpre]; rfl
  have hclo : ∀ m, Clo m pre := fun m => by rw [hpre, hnc]; rfl
  have hp0 : ∀ X : Heap, (pre ++ X)[0]? = some (.cells [AV.int .i64 (n : Int), .sl (pairsL E), .sl (condsL E)]) := fun X => by rw [hpre, hnc]; rfl
  have hpc : ∀ X : Heap, Blk.cells [AV.int .i64 (n : Int), .sl (pairsL E), .sl (condsL E)] :: X = pre ++ X := fun X => by rw [hpre, hnc]; rfl
  rw [hpl, hpc, hpc]
  refine T_rounds (fun i : Nat => ⟨envL [(1, .ptr 0 0), (3, .osl none 1 0 m), (17, .sl (pairsL E)), (18, .int .i64 (E.length : Int)), (19, .int .i64 (i : Int))], pre ++ matH 1 m (lapl m (E.take i))⟩)
    (fun i => i ≤ E.length) (fun i => E.length - i) 0 (by omega) (Le_keep _ (by simp only [go_sem]; simp)) (fun i hi N hN => ?_)
  unfold cnet_matrix_L2
  have gen : ∀ (l : List Sp) (M : RM) (k0 : Nat), (∀ e, e ∈ l → Qb k e.2.2) → 1 ≤ k0 → M.length = m → Wid m M → Mb k0 M → (l.foldl edgeM M).length = m ∧ Wid m (l.foldl edgeM M) ∧ Mb (k0 + l.length * (4 * (k + 1))) (l.foldl edgeM M) := by
    intro l
    induction l with
    | nil => intro M k0 _ _ h1 h2 h3; exact ⟨h1, h2, by simpa using h3⟩
    | cons e l ih =>
      intro M k0 hl h0 h1 h2 h3
      have := ih (edgeM M e) (k0 + 4 * (k + 1)) (fun x hx => hl x (List.mem_cons_of_mem _ hx)) (by omega) (by rw [edgeM_len, h1]) h2.edge (h3.edge (hl e (by simp)) h0)
      refine ⟨this.1, this.2.1, this.2.2.mono ?_⟩
      rw [List.length_cons, Nat.add_mul]; omega
  obtain ⟨w1, w2, w3⟩ := gen (E.take i) (List.replicate m (List.replicate m 0)) k (fun e he => (hE e (List.mem_of_mem_take he)).2.2) hk (by simp) (fun r hr => by rw [(List.mem_replicate.1 hr).2]; simp) (fun r hr x hx => by
    rw [(List.mem_replicate.1 hr).2] at hx
    rw [(List.mem_replicate.1 hx).2]
    exact Qb.zero hk)
  by_cases hin : i < E.length
  · obtain ⟨⟨a, b, x⟩, he⟩ : ∃ e : Sp, E[i]? = some e := ⟨_, List.getElem?_eq_getElem hin⟩
    obtain ⟨ha, hb, hx⟩ := hE _ (List.mem_of_getElem? he)
    simp only at ha hb hx
    generalize hS : lapl m (E.take i) = S at *
    have w1' : S.length = m := by rw [← hS]; exact w1
    have w2' : Wid m S := by rw [← hS]; exact w2
    have w3' : Mb (k + E.length * (4 * (k + 1))) S := by
      rw [← hS]; exact w3.mono (Nat.add_le_add_left (Nat.mul_le_mul_right _ (by rw [List.length_take]; omega)) _)
    have hps : (pairsL E)[i]? = some (.agg [.int .i64 (a : Int), .int .i64 (b : Int)]) := by
      unfold pairsL; rw [List.getElem?_map, he]; rfl
    have hcs : (condsL E)[i]? = some (.agg (qcell x)) := by
      unfold condsL; rw [List.getElem?_map, he]; rfl
    have q0 : (0 : Int) ≤ (i : Int) := by omega
    have q1 : (i : Int) < (E.length : Int) := by omega
    have e1 : IntKind.i64.wrap ((i : Int) + 1) = ((i + 1 : Nat) : Int) := by rw [i64_id (by omega) (by omega)]; omega
    have eA : ∀ (Y : Blk), (pre ++ matH 1 m S) ++ [Y] = pre ++ (matH 1 m S ++ [Y]) := fun Y => by simp
    have eB : ∀ (X : Heap) (Y : Blk), (pre ++ (matH 1 m S ++ X)) ++ [Y] = pre ++ (matH 1 m S ++ (X ++ [Y])) := fun X Y => by simp
    have gP : ∀ (X : Heap) (t : Nat), (pre ++ (matH 1 m S ++ X))[1 + (1 + 2 * m) + t]? = X[t]? := fun X t => mat_post hp1 w1'
    have sP : ∀ (X : Heap) (t : Nat) (bl : Blk), (pre ++ (matH 1 m S ++ X)).set (1 + (1 + 2 * m) + t) bl = pre ++ (matH 1 m S ++ X.set t bl) := fun X t bl => mat_set_post hp1 w1'
    have gP0 : ∀ (X : Heap), (pre ++ (matH 1 m S ++ X))[1 + (1 + 2 * m)]? = X[0]? := fun X => mat_post (t := 0) hp1 w1'
    have sP0 : ∀ (X : Heap) (bl : Blk), (pre ++ (matH 1 m S ++ X)).set (1 + (1 + 2 * m)) bl = pre ++ (matH 1 m S ++ X.set 0 bl) := fun X bl => mat_set_post (t := 0) hp1 w1'
    have gL : ∀ (X : Heap), (pre ++ (matH 1 m S ++ X)).length = 1 + (1 + 2 * m) + X.length := fun X => by rw [List.length_append, List.length_append, matH_len, w1', hp1]; omega
    have gL0 : (pre ++ matH 1 m S).length = 1 + (1 + 2 * m) := by rw [List.length_append, matH_len, w1', hp1]
    have hql : ∀ q : Rat, (4 : Nat) ≤ (qcell q).length := fun q => by rw [qcell_len]; omega
    have hqt : ∀ q : Rat, (qcell q).take 4 = qcell q := fun q => List.take_of_length_le (by rw [qcell_len]; omega)
    have hqd : ∀ q : Rat, (qcell q).drop 4 = [] := fun q => rfl
    have hz4 : z4.length = 4 := rfl
    simp only [go_sem, cnet_matrix_r4, cnet_matrix_r5, cnet_matrix_r6, cnet_matrix_r7, q0, q1, hps, hcs, hp0, eA, eB, gP, sP, gP0, sP0, gL, gL0, qcell_len, hql, hqt, hqd, List.cons_append, List.nil_append]
    refine T_keep [(1, .ptr 0 0), (3, .osl none 1 0 m), (6, .ptr (1 + (1 + 2 * m) + 1) 0), (17, .sl (pairsL E)), (18, .int .i64 (E.length : Int)), (19, .int .i64 (i : Int)), (39, .osl (some 2) (1 + (1 + 2 * m) + 2) 0 2), (40, .int .i64 2), (41, .int .i64 0)] (by simp only [go_sem]; simp)
      (T_mono (net_L1 (a := a) (b := b) (x := x) hp1 hclo w1' (by omega) w2' (by omega) (by omega) w3' (hx.mono (by omega)) (by omega) hK (by omega) (K := fun e st => ∃ f, e = .exit 2 ∧ st = ⟨f, pre ++ (matH 1 m (half (half S a b x) b a x) ++ [.cells [.int .i64 (a : Int), .int .i64 (b : Int)], .cells (qcell x), .cells [.int .i64 (a : Int), .int .i64 (b : Int), .int .i64 (b : Int), .int .i64 (a : Int)]])⟩ ∧ f 1 = .ptr 0 0 ∧ f 3 = .osl none 1 0 m ∧ f 17 = .sl (pairsL E) ∧ f 18 = .int .i64 (E.length : Int) ∧ f 19 = .int .i64 (i : Int))
        (fun f f1 f3 f17 f18 f19 => ⟨f, rfl, rfl, f1, f3, f17, f18, f19⟩)) (fun e st hst => ?_))
    obtain ⟨f, rfl, rfl, f1, f3, f17, f18, f19⟩ := hst
    have hS2 : half (half S a b x) b a x = lapl m (E.take (i + 1)) := by
      rw [← hS, List.take_add_one, he]
      unfold lapl
      rw [List.foldl_append]; rfl
    simp only [go_sem, cnet_matrix_r15, f19, e1]
    rw [hS2]
    refine hN (i + 1) _ (by omega) (by omega) ?_
    have hsplit : ∀ X Y : Heap, pre ++ (X ++ Y) = (pre ++ X) ++ Y := fun X Y => by simp
    rw [hsplit]
    have wl : (lapl m (E.take (i + 1))).length = m := by rw [← hS2, half_len, half_len, w1']
    refine Le_drop (m := 1 + (1 + 2 * m)) (by rw [List.length_append, matH_len, wl, hp1]) ((hclo _).append (clo_mat (by rw [wl]; omega))) (by omega) _ ?_ ?_
    · simp only [go_sem, f1, f3, f17, f18]
    · have k0 : pos (List.range (1 + (1 + 2 * m))) 0 = some 0 := pos_range (by omega)
      have k1 : pos (List.range (1 + (1 + 2 * m))) 1 = some 1 := pos_range (by omega)
      simp [AV.gc, k0, k1]
  · have hie : i = E.length := by omega
    subst hie
    have q1 : ¬ ((E.length : Nat) : Int) < (E.length : Int) := by omega
    simp only [go_sem, cnet_matrix_r4, cnet_matrix_r16, q1, List.take_length]
end GoAbs
namespace GoAbs
open Go Go.Proofs
set_option exponentiation.threshold 20000
theorem ten_bits (k : Nat) : 10 ^ k ≤ 2 ^ (4 * k) := by rw [Nat.pow_mul]; exact Nat.pow_le_pow_left (by decide) k
theorem numL_bits {l : List UInt8} {b : Nat} (hb : 4 * 4000 ≤ b) (h : digOk l) : numL l < 2 ^ b :=
  Nat.lt_of_lt_of_le (numL_lt h.1) (Nat.le_trans (Nat.pow_le_pow_right (by omega) h.2.2.2) (Nat.le_trans (ten_bits 4000) (Nat.pow_le_pow_right (by omega) hb)))
theorem parse_bits {l : List UInt8} {q : Rat} (h : parseL l = some q) : Qb 16000 q := by
  unfold parseL at h
  split at h
  · rename_i hc
    obtain ⟨⟨h1, h2, _⟩, _⟩ := hc
    cases h
    have hd : ((partsL l).2.1 : Int) ≠ 0 ∧ (partsL l).2.1 < 2 ^ 16000 := by
      unfold partsL
      simp only
      split
      · rename_i hs
        have := h2 hs
        exact ⟨by omega, numL_bits (by decide) this.1⟩
      · exact ⟨by decide, Nat.one_lt_two_pow (n := 16000) (by decide)⟩
    have hn : (partsL l).1.natAbs < 2 ^ 16000 := by
      unfold partsL
      simp only
      split
      · rw [Int.natAbs_neg]; exact numL_bits (by decide) h1
      · exact numL_bits (by decide) h1
    obtain ⟨g1, g2⟩ := divInt_le (n := (partsL l).1) hd.1
    exact ⟨Nat.lt_of_le_of_lt g1 hn, Nat.lt_of_le_of_lt g2 (by rw [Int.natAbs_natCast]; exact hd.2)⟩
  · cases h
theorem digs_lt {k : Nat} : ∀ {n : Nat}, (digs n).length ≤ k → n < 10 ^ k := by
  induction k with
  | zero =>
    intro n h
    by_cases h0 : n = 0
    · subst h0; simp
    · rw [digs_pos h0] at h; simp at h
  | succ k ih =>
    intro n h
    by_cases h0 : n = 0
    · subst h0; exact Nat.pow_pos (by omega)
    · rw [digs_pos h0, List.length_cons] at h
      have := ih (n := n / 10) (by omega)
      rw [Nat.pow_succ]; omega
theorem decL_lt {n k : Nat} (h : (decL n).length ≤ k) : n < 10 ^ k := by
  unfold decL at h
  split at h
  · rename_i h0; subst h0; exact Nat.pow_pos (by omega)
  · rw [List.length_reverse] at h; exact digs_lt h
theorem decL_le {n k : Nat} (hk : 1 ≤ k) (h : n < 10 ^ k) : (decL n).length ≤ k := by
  unfold decL
  split
  · simpa using hk
  · rw [List.length_reverse]; exact digs_len h
def Fitd (d : Nat) (q : Rat) : Prop := (decL q.num.natAbs).length ≤ d ∧ (decL q.den).length ≤ d
instance (d : Nat) (q : Rat) : Decidable (Fitd d q) := by unfold Fitd; infer_instance
theorem Fitd.bits {q : Rat} (h : Fitd 20 q) : Qb 67 q := by
  have e : 10 ^ 20 ≤ 2 ^ 67 := by decide
  exact ⟨Nat.lt_of_lt_of_le (decL_lt h.1) e, Nat.lt_of_lt_of_le (decL_lt h.2) e⟩
abbrev Spr := Int × Int × List UInt8
def sprAV (s : Spr) : AV := .agg [.int .i64 s.1, .int .i64 s.2.1, .str (bs s.2.2)]
def EndsOk (n a b : Int) : Prop := 0 ≤ a ∧ a < n ∧ 0 ≤ b ∧ b < n ∧ a ≠ b
instance (n a b : Int) : Decidable (EndsOk n a b) := by unfold EndsOk; infer_instance
def StiffOk (q : Rat) : Prop := 0 < q ∧ Fitd 20 q
instance (q : Rat) : Decidable (StiffOk q) := by unfold StiffOk; infer_instance
theorem rd_r9 {nt n0 : Nat} {e : Nat → AV} {H : Heap} {Q : Ex → St → Prop} {a b n : Int} {s : ByteArray} {f : Bool} (e0 : e 0 = .int .i64 n) (e8 : e 8 = .bool f) (e10 : e 10 = .ptr 4 0)
    (h4 : H[4]? = some (.cells [.int .i64 a, .int .i64 b, .str s]))
    (hQ : ∀ e', e' 0 = e 0 → e' 4 = e 4 → e' 6 = e 6 → e' 7 = e 7 → e' 10 = e 10 → e' 11 = e 11 → e' 12 = e 12 → e' 26 = e 26 → e' 27 = e 27 → e' 28 = e 28 → e' 8 = .bool (f && decide (EndsOk n a b)) → Q .normal ⟨e', H⟩) :
    T Tryz.prog nt n0 (.rg false cspring_read_r9) ⟨e, H⟩ Q := by
  refine T_W ?_
  cases f with
  | false =>
    simp only [go_sem, cspring_read_r9, e8]
    exact hQ _ (by simp only [go_sem]) (by simp only [go_sem]) (by simp only [go_sem]) (by simp only [go_sem]) (by simp only [go_sem]) (by simp only [go_sem]) (by simp only [go_sem]) (by simp only [go_sem]) (by simp only [go_sem]) (by simp only [go_sem]) (by simp only [go_sem]; simp)
  | true =>
    have main : (0 ≤ a ∧ a < n ∧ 0 ≤ b ∧ b < n ∧ ¬ a = b) ∨ (0 ≤ a ∧ a < n ∧ 0 ≤ b ∧ b < n ∧ a = b) ∨ (0 ≤ a ∧ a < n ∧ 0 ≤ b ∧ ¬ b < n) ∨ (0 ≤ a ∧ a < n ∧ ¬ 0 ≤ b) ∨ (0 ≤ a ∧ ¬ a < n) ∨ ¬ 0 ≤ a := by omega
    rcases main with ⟨h1, h2, h3, h5, h6⟩ | ⟨h1, h2, h3, h5, h6⟩ | ⟨h1, h2, h3, h5⟩ | ⟨h1, h2, h3⟩ | ⟨h1, h2⟩ | h1
    · simp only [go_sem, cspring_read_r9, e0, e8, e10, h4, h1, h2, h3, h5, h6]
      exact hQ _ (by simp only [go_sem]) (by simp only [go_sem]) (by simp only [go_sem]) (by simp only [go_sem]) (by simp only [go_sem]) (by simp only [go_sem]) (by simp only [go_sem]) (by simp only [go_sem]) (by simp only [go_sem]) (by simp only [go_sem]) (by simp only [go_sem]; simp [EndsOk, h1, h2, h3, h5, h6])
    · simp only [go_sem, cspring_read_r9, e0, e8, e10, h4, h1, h2, h3, h5, h6]
      exact hQ _ (by simp only [go_sem]) (by simp only [go_sem]) (by simp only [go_sem]) (by simp only [go_sem]) (by simp only [go_sem]) (by simp only [go_sem]) (by simp only [go_sem]) (by simp only [go_sem]) (by simp only [go_sem]) (by simp only [go_sem]) (by simp only [go_sem]; simp [EndsOk, h1, h2, h3, h5, h6])
    · simp only [go_sem, cspring_read_r9, e0, e8, e10, h4, h1, h2, h3, h5]
      exact hQ _ (by simp only [go_sem]) (by simp only [go_sem]) (by simp only [go_sem]) (by simp only [go_sem]) (by simp only [go_sem]) (by simp only [go_sem]) (by simp only [go_sem]) (by simp only [go_sem]) (by simp only [go_sem]) (by simp only [go_sem]) (by simp only [go_sem]; simp [EndsOk, h1, h2, h3, h5])
    · simp only [go_sem, cspring_read_r9, e0, e8, e10, h4, h1, h2, h3]
      exact hQ _ (by simp only [go_sem]) (by simp only [go_sem]) (by simp only [go_sem]) (by simp only [go_sem]) (by simp only [go_sem]) (by simp only [go_sem]) (by simp only [go_sem]) (by simp only [go_sem]) (by simp only [go_sem]) (by simp only [go_sem]) (by simp only [go_sem]; simp [EndsOk, h1, h2, h3])
    · simp only [go_sem, cspring_read_r9, e0, e8, e10, h4, h1, h2]
      exact hQ _ (by simp only [go_sem]) (by simp only [go_sem]) (by simp only [go_sem]) (by simp only [go_sem]) (by simp only [go_sem]) (by simp only [go_sem]) (by simp only [go_sem]) (by simp only [go_sem]) (by simp only [go_sem]) (by simp only [go_sem]) (by simp only [go_sem]; simp [EndsOk, h1, h2])
    · simp only [go_sem, cspring_read_r9, e0, e8, e10, h4, h1]
      exact hQ _ (by simp only [go_sem]) (by simp only [go_sem]) (by simp only [go_sem]) (by simp only [go_sem]) (by simp only [go_sem]) (by simp only [go_sem]) (by simp only [go_sem]) (by simp only [go_sem]) (by simp only [go_sem]) (by simp only [go_sem]) (by simp only [go_sem]; simp [EndsOk, h1])
theorem rd_r11 {nt n0 : Nat} {e : Nat → AV} {H : Heap} {Q : Ex → St → Prop} {q : Rat} {f : Bool} (hb : Qb 16000 q) (e8 : e 8 = .bool f) (e11 : e 11 = .ptr 5 0) (h5 : H[5]? = some (.cells (qcell q)))
    (hQ : ∀ e', e' 0 = e 0 → e' 4 = e 4 → e' 6 = e 6 → e' 7 = e 7 → e' 10 = e 10 → e' 11 = e 11 → e' 12 = e 12 → e' 26 = e 26 → e' 27 = e 27 → e' 28 = e 28 → e' 8 = .bool (f && decide (StiffOk q)) → Q .normal ⟨e', H⟩) :
    T Tryz.prog nt n0 (.rg false cspring_read_r11) ⟨e, H⟩ Q := by
  refine T_W ?_
  have hql : (4 : Nat) ≤ (qcell q).length := by rw [qcell_len]; omega
  have hqt : (qcell q).take 4 = qcell q := List.take_of_length_le (by rw [qcell_len]; omega)
  cases f with
  | false =>
    simp only [go_sem, cspring_read_r11, e8]
    exact hQ _ (by simp only [go_sem]) (by simp only [go_sem]) (by simp only [go_sem]) (by simp only [go_sem]) (by simp only [go_sem]) (by simp only [go_sem]) (by simp only [go_sem]) (by simp only [go_sem]) (by simp only [go_sem]) (by simp only [go_sem]) (by simp only [go_sem]; simp)
  | true =>
    simp only [go_sem, cspring_read_r11, e8, e11, h5, hql, hqt]
    refine call_P (sign_q q) (by simp only [go_sem, avQ_q, bvs_qcell]) ?_
    have hF : decide (((decL q.num.natAbs).length : Int) ≤ 20 ∧ ((decL q.den).length : Int) ≤ 20) = decide (Fitd 20 q) := by
      unfold Fitd
      apply decide_eq_decide.2
      omega
    by_cases hq : 0 < q
    · have h1 : ¬ q = 0 := fun h => by rw [h] at hq; exact absurd hq (by decide)
      have h2 : ¬ q < 0 := fun h => by grind
      have hg : (0 : Int) < 1 := by decide
      simp only [go_sem, h1, h2, hg, h5, e11, hql, hqt]
      refine call_P (fits_q (tx_bits hb.n (by omega)) (tx_bits hb.d (by omega))) (by simp only [go_sem, avQ_q, bvs_qcell]) ?_
      simp only [go_sem, hF]
      exact hQ _ (by simp only [go_sem]) (by simp only [go_sem]) (by simp only [go_sem]) (by simp only [go_sem]) (by simp only [go_sem]) (by simp only [go_sem]) (by simp only [go_sem]) (by simp only [go_sem]) (by simp only [go_sem]) (by simp only [go_sem]) (by simp only [go_sem]; simp [StiffOk, hq])
    · have hg : ¬ (0 : Int) < (if q = 0 then 0 else if q < 0 then -1 else 1) := by
        split
        · decide
        · split
          · decide
          · exfalso; grind
      simp only [go_sem, hg]
      exact hQ _ (by simp only [go_sem]) (by simp only [go_sem]) (by simp only [go_sem]) (by simp only [go_sem]) (by simp only [go_sem]) (by simp only [go_sem]) (by simp only [go_sem]) (by simp only [go_sem]) (by simp only [go_sem]) (by simp only [go_sem]) (by simp only [go_sem]; simp [StiffOk, hq])
end GoAbs
