/- Lemmas for the claim (contracts of the functions that it reaches, and what they compute), without conditions. -/
import Derived.Test.YtnpgooaiiboanaaGreatK32
set_option linter.unusedVariables false
set_option linter.unusedSimpArgs false
set_option maxRecDepth 10000
set_option maxHeartbeats 2000000
namespace GoAbs
open Go Go.Proofs
theorem digOk_decL {a : List UInt8} (h : digOk a) : decL (numL a) = a := by
  obtain ⟨h1, h2, h3, _⟩ := h
  by_cases hh : a.head? = some 48
  · have hl : ¬ 1 < a.length := fun hl => h3 ⟨hh, hl⟩
    cases a with
    | nil => exact absurd rfl h2
    | cons c r =>
      have hr : r = [] := List.length_eq_zero_iff.1 (by rw [List.length_cons] at hl; omega)
      subst hr
      simp at hh
      subst hh
      rfl
  · exact decL_numL h1 h2 hh
theorem ic_inj : ∀ {a b : List Nat}, ic a = ic b → a = b
  | [], [], _ => rfl
  | [], y :: b, h => by simp [ic] at h
  | x :: a, [], h => by simp [ic] at h
  | x :: a, y :: b, h => by
    rw [ic_cons, ic_cons] at h
    injection h with h1 h2
    injection h1 with _ h3
    have h4 : x = y := by omega
    rw [h4, ic_inj h2]
theorem dg_inj {m n : Nat} (h : ic (dg m) = ic (dg n)) : m = n := by
  have := congrArg vd (ic_inj h)
  rwa [vd_dg, vd_dg] at this
theorem avR_inj {n d n' d' : Int} (h : AV.tup [avR n d, .bool true] = .tup [avR n' d', .bool true]) : n.natAbs = n'.natAbs ∧ d.natAbs = d'.natAbs := by
  rw [avR_agg, avR_agg] at h
  injection h with h
  injection h with h _
  injection h with h
  injection h with _ h
  injection h with h1 h
  injection h with _ h
  injection h with h2 _
  injection h1 with h1
  injection h2 with h2
  exact ⟨dg_inj h1, dg_inj h2⟩
theorem parse_text {l : List UInt8} {q : Rat} (h : parseL l = some q) : digOk (befL (signL l).1) ∧ decL q.num.natAbs = befL (signL l).1 ∧ (47 ∈ (signL l).1 → digOk (aftL (signL l).1) ∧ decL q.den = aftL (signL l).1) ∧ (47 ∉ (signL l).1 → q.den = 1) := by
  have hr := refP_eq l
  rw [h] at hr
  simp only at hr
  unfold refP midR at hr
  have hb : badR ≠ .tup [avR q.num q.den, .bool true] := by unfold badR; intro e; simp at e
  split at hr
  · exact absurd hr hb
  · split at hr
    · rename_i hs
      split at hr
      · rename_i hc
        have hA := hc.1
        obtain ⟨e1, e2⟩ := avR_inj hr
        have e1' : numL (befL (signL l).1) = q.num.natAbs := by rw [← e1]; split <;> simp
        rw [Int.natAbs_natCast, Int.natAbs_natCast] at e2
        refine ⟨hA, by rw [← e1']; exact digOk_decL hA, fun h47 => ?_, fun h47 => ?_⟩
        · have := hs h47
          rw [if_pos h47] at e2
          exact ⟨this.1, by rw [← e2]; exact digOk_decL this.1⟩
        · rw [if_neg h47] at e2
          exact e2.symm
      · exact absurd hr hb
    · exact absurd hr hb
theorem bef_split {o : List UInt8} (h : 47 ∈ o) : o = befL o ++ 47 :: aftL o := by
  have h1 := List.takeWhile_append_dropWhile (p := (· != 47)) (l := o)
  have h2 : ∀ l : List UInt8, 47 ∈ l → l.dropWhile (· != 47) = 47 :: (l.dropWhile (· != 47)).tail := by
    intro l
    induction l with
    | nil => intro h; simp at h
    | cons x l ih =>
      intro h
      rw [List.dropWhile_cons]
      by_cases hx : x = 47
      · subst hx; rfl
      · have hx' : (x != 47) = true := by simpa using hx
        rw [if_pos hx']
        exact ih (by rcases List.mem_cons.1 h with h | h; exact absurd h.symm hx; exact h)
  rw [h2 o h] at h1
  exact h1.symm
theorem short_fitd {l : List UInt8} {q : Rat} (h : parseL l = some q) : shortL 20 0 l = decide (Fitd 20 q) := by
  obtain ⟨h1, h2, h3, h4⟩ := parse_text h
  have hs : shortL 20 0 l = shortL 20 0 (signL l).1 := by
    unfold signL
    split
    · rename_i hh
      cases l with
      | nil => simp at hh
      | cons c r =>
        simp at hh
        subst hh
        rw [shortL_cons]
        rfl
    · rfl
  have hF : decide (Fitd 20 q) = (decide ((befL (signL l).1).length ≤ 20) && decide ((decL q.den).length ≤ 20)) := by
    rw [Bool.eq_iff_iff]; simp [Fitd, h2]
  rw [hs, hF]
  by_cases h47 : 47 ∈ (signL l).1
  · obtain ⟨g1, g2⟩ := h3 h47
    rw [g2]
    have e := bef_split h47
    rw [congrArg (shortL 20 0) e, shortL_digs h1.1 (by omega), shortL_cons]
    have hst : ∀ k, stepS k 47 = 0 := fun k => rfl
    rw [hst, if_neg (by omega)]
    have := shortL_digs (n := 20) (r := []) (k := 0) g1.1 (by omega)
    rw [List.append_nil] at this
    rw [this]
    simp [shortL]
  · rw [h4 h47]
    have e := bef_all h47
    have := shortL_digs (n := 20) (r := []) (k := 0) h1.1 (by omega)
    rw [List.append_nil, e] at this
    rw [this, e]
    have : (decL 1).length = 1 := by rw [decL_one.2 rfl]; rfl
    simp [shortL, this]
end GoAbs
namespace GoAbs
open Go Go.Proofs
theorem rparts_L1 {ls : List AV} {n : Nat} (hn : n ≤ 1000) {K : Ex → St → Prop}
    (hK : ∀ e : Nat → AV, e 0 = .int .i64 (n : Int) → e 1 = .sl ls → e 5 = .osl none 0 0 n → K (.exit 0) ⟨e, [.cells (ic (List.range n))]⟩) :
    T Tryz.prog 59 0 (.loop cref_Parts_L1) ⟨envL [(5, .osl none 0 0 0), (0, .int .i64 (n : Int)), (1, .sl ls), (6, .int .i64 0)], [.cells []]⟩ K := by
  refine T_rounds (fun i : Nat => ⟨envL [(5, .osl none 0 0 i), (0, .int .i64 (n : Int)), (1, .sl ls), (6, .int .i64 (i : Int))], [.cells (ic (List.range i))]⟩)
    (fun i => i ≤ n) (fun i => n - i) 0 (by omega) (Le_keep _ (by simp only [go_sem]; simp)) (fun i hi N hN => ?_)
  unfold cref_Parts_L1
  have hrl : (List.range i).length = i := List.length_range
  by_cases hin : i < n
  · have q1 : (i : Int) < (n : Int) := by omega
    have e1 : IntKind.i64.wrap ((i : Int) + 1) = ((i + 1 : Nat) : Int) := by rw [i64_id (by omega) (by omega)]; omega
    have hsz : (i + 1) * 8 ≤ 1099511627776 := by omega
    have hfit : i ≤ (ic (List.range i)).length := by rw [ic_len, hrl]; omega
    have htake : (ic (List.range i)).take i = ic (List.range i) := List.take_of_length_le (by rw [ic_len, hrl]; omega)
    simp only [go_sem, cref_Parts_r4, cref_Parts_r5, cref_Parts_r6, q1, e1, hsz, hfit, htake]
    refine hN (i + 1) _ (by omega) (by omega) ?_
    have h1 : List.range (i + 1) = List.range i ++ [i] := List.range_succ
    have hl : (List.range i ++ [i]).length = i + 1 := by simp
    rw [h1]
    have := fun (e : Nat → AV) => row_gc (nt := 59) (e := e) (s := List.range i) (d := i) (bl := .cells [.int .i64 (i : Int)]) [(0, .int .i64 (n : Int)), (1, .sl ls), (6, .int .i64 ((i + 1 : Nat) : Int))]
    simp only [hrl, hl] at this
    exact this _ ⟨by simp only [go_sem], by simp only [go_sem], by simp only [go_sem], by simp only [go_sem], trivial⟩ rfl
  · have hie : i = n := by omega
    subst hie
    have q1 : ¬ ((i : Nat) : Int) < (i : Int) := by omega
    simp only [go_sem, cref_Parts_r4, q1]
    exact hK _ (by simp only [go_sem]) (by simp only [go_sem]) (by simp only [go_sem])
end GoAbs
namespace GoAbs
open Go Go.Proofs
def relab (a b : Nat) (s : List Nat) : List Nat := s.map fun x => if x = a then b else x
theorem rparts_L2 {ls : List AV} {s : List Nat} {n a b k : Nat} (hn : n ≤ 1000) (hs : s.length = n) {K : Ex → St → Prop}
    (hK : ∀ e : Nat → AV, e 0 = .int .i64 (n : Int) → e 1 = .sl ls → e 5 = .osl none 0 0 n → e 7 = .int .i64 (k : Int) → K (.exit 4) ⟨e, [.cells (ic (relab a b s))]⟩) :
    T Tryz.prog 59 0 (.loop cref_Parts_L2) ⟨envL [(0, .int .i64 (n : Int)), (1, .sl ls), (5, .osl none 0 0 n), (7, .int .i64 (k : Int)), (8, .int .i64 (a : Int)), (9, .int .i64 (b : Int)), (10, .int .i64 0)], [.cells (ic s)]⟩ K := by
  have hrl : (relab a b s).length = n := by unfold relab; rw [List.length_map, hs]
  refine T_rounds (fun i : Nat => ⟨envL [(0, .int .i64 (n : Int)), (1, .sl ls), (5, .osl none 0 0 n), (7, .int .i64 (k : Int)), (8, .int .i64 (a : Int)), (9, .int .i64 (b : Int)), (10, .int .i64 (i : Int))], [.cells (ic ((relab a b s).take i ++ s.drop i))]⟩)
    (fun i => i ≤ n) (fun i => n - i) 0 (by omega) (Le_keep _ (by simp only [go_sem]; simp)) (fun i hi N hN => ?_)
  unfold cref_Parts_L2
  by_cases hin : i < n
  · obtain ⟨x, hx⟩ : ∃ x, s[i]? = some x := ⟨_, List.getElem?_eq_getElem (show i < s.length by omega)⟩
    have q0 : (0 : Int) ≤ (i : Int) := by omega
    have q1 : (i : Int) < (n : Int) := by omega
    have e1 : IntKind.i64.wrap ((i : Int) + 1) = ((i + 1 : Nat) : Int) := by rw [i64_id (by omega) (by omega)]; omega
    have htl : ((relab a b s).take i).length = i := by rw [List.length_take]; omega
    have hlen : ((relab a b s).take i ++ s.drop i).length = n := by rw [List.length_append, htl, List.length_drop]; omega
    have hg : ((relab a b s).take i ++ s.drop i)[i]? = some x := by
      rw [List.getElem?_append_right (by omega), htl, Nat.sub_self, List.getElem?_drop]; exact hx
    have hrx : (relab a b s)[i]? = some (if x = a then b else x) := by unfold relab; rw [List.getElem?_map, hx]; rfl
    have hset : ((relab a b s).take i ++ s.drop i).set i (if x = a then b else x) = (relab a b s).take (i + 1) ++ s.drop (i + 1) := by
      rw [List.set_append_right _ _ (by omega), htl, Nat.sub_self, List.drop_eq_getElem_cons (by omega), List.set_cons_zero, List.take_add_one, hrx]
      simp
    have hsame : x ≠ a → (relab a b s).take i ++ s.drop i = (relab a b s).take (i + 1) ++ s.drop (i + 1) := fun hne => by
      rw [← hset, if_neg hne]
      refine (List.ext_getElem? fun j => ?_)
      by_cases hj : j = i
      · subst hj; rw [hg, List.getElem?_set_self (by omega)]
      · rw [List.getElem?_set_ne (fun h => hj h.symm)]
    generalize hS : (relab a b s).take i ++ s.drop i = S at *
    have hfit : i + 1 ≤ (ic S).length := by rw [ic_len]; omega
    have hsf : ∀ v : Nat, (ic S).take i ++ AV.int .i64 (v : Int) :: (ic S).drop (i + 1) = ic (S.set i v) := fun v => by
      have := set_form (l := ic S) (i := i) (x := AV.int .i64 (v : Int)) (by rw [ic_len]; omega)
      rw [ic_set] at this
      rw [← this]; simp
    have hsf' : ∀ v : Nat, (ic S).take i ++ [AV.int .i64 (v : Int)] ++ (ic S).drop (i + 1) = ic (S.set i v) := fun v => by rw [← hsf]; simp
    by_cases hxa : x = a
    · have q2 : (x : Int) = (a : Int) := by omega
      rw [if_pos hxa] at hset
      simp only [go_sem, cref_Parts_r11, cref_Parts_r12, cref_Parts_r13, cref_Parts_r14, q0, q1, e1, List.getElem?_drop, ic_get hg, q2, hfit, hsf, hsf', hset]
      exact hN (i + 1) _ (by omega) (by omega) (Le_keep _ (by simp only [go_sem]))
    · have q2 : ¬ (x : Int) = (a : Int) := by omega
      simp only [go_sem, cref_Parts_r11, cref_Parts_r12, cref_Parts_r14, q0, q1, e1, List.getElem?_drop, ic_get hg, q2]
      rw [hsame hxa]
      exact hN (i + 1) _ (by omega) (by omega) (Le_keep _ (by simp only [go_sem]))
  · have hie : i = n := by omega
    subst hie
    have q1 : ¬ ((i : Nat) : Int) < (i : Int) := by omega
    simp only [go_sem, cref_Parts_r11, q1]
    rw [List.take_of_length_le (by omega), List.drop_eq_nil_of_le (by omega), List.append_nil]
    exact hK _ (by simp only [go_sem]) (by simp only [go_sem]) (by simp only [go_sem]) (by simp only [go_sem])
end GoAbs
namespace GoAbs
def chs : Nat → Nat → List (List Nat)
  | _, 0 => [[]]
  | n, k + 1 => (List.range' k (n - k)).flatMap fun j => (chs j k).map (· ++ [j])
theorem chs_zero {n : Nat} : chs n 0 = [[]] := by unfold chs; rfl
theorem chs_succ {n k : Nat} : chs n (k + 1) = (List.range' k (n - k)).flatMap fun j => (chs j k).map (· ++ [j]) := by rw [chs]
theorem chs_mem : ∀ {k n : Nat} {c : List Nat}, c ∈ chs n k → c.length = k ∧ ∀ i, i ∈ c → i < n
  | 0, n, c, h => by
    rw [chs_zero] at h
    simp at h
    subst h
    exact ⟨rfl, fun i hi => by simp at hi⟩
  | k + 1, n, c, h => by
    rw [chs_succ] at h
    obtain ⟨j, hj, hc⟩ := List.mem_flatMap.1 h
    obtain ⟨d, hd, rfl⟩ := List.mem_map.1 hc
    obtain ⟨h1, h2⟩ := chs_mem hd
    rw [List.mem_range'_1] at hj
    refine ⟨by simp [h1], fun i hi => ?_⟩
    rcases List.mem_append.1 hi with hi | hi
    · have := h2 i hi; omega
    · simp at hi; omega
def FG (f : (Nat → Nat) → Rat) : (Nat → Nat) → Nat → List MSp → Rat
  | p, 0, _ => f p
  | _, _ + 1, [] => 0
  | p, k + 1, s :: l => FG f p (k + 1) l + s.2.2 * FG f (mrg p (p s.1) (p s.2.1)) k l
def allOne (n : Nat) (p : Nat → Nat) : Rat := if ∀ i, i < n → p i = p 0 then 1 else 0
theorem Fsum_FG {n : Nat} : ∀ {k : Nat} {l : List MSp} {p : Nat → Nat}, Fsum n p k l = FG (allOne n) p k l
  | 0, l, p => by unfold Fsum FG allOne; rfl
  | k + 1, [], p => by unfold Fsum FG; rfl
  | k + 1, s :: l, p => by unfold Fsum FG; rw [Fsum_FG (k := k + 1) (l := l), Fsum_FG (k := k) (l := l)]
def tieP (s : MSp) (p : Nat → Nat) : Nat → Nat := mrg p (p s.1) (p s.2.1)
theorem FG_zero {f : (Nat → Nat) → Rat} {p : Nat → Nat} {l : List MSp} : FG f p 0 l = f p := by unfold FG; rfl
theorem FG_nil {f : (Nat → Nat) → Rat} {p : Nat → Nat} {k : Nat} : FG f p (k + 1) [] = 0 := by unfold FG; rfl
theorem FG_cons {f : (Nat → Nat) → Rat} {p : Nat → Nat} {k : Nat} {s : MSp} {l : List MSp} : FG f p (k + 1) (s :: l) = FG f p (k + 1) l + s.2.2 * FG f (tieP s p) k l := by rw [FG]; rfl
theorem FG_snoc {f : (Nat → Nat) → Rat} {s : MSp} : ∀ {l : List MSp} {k : Nat} {p : Nat → Nat}, FG f p (k + 1) (l ++ [s]) = FG f p (k + 1) l + s.2.2 * FG (fun q => f (tieP s q)) p k l
  | [], 0, p => by rw [List.nil_append, FG_cons, FG_nil, FG_zero, FG_zero]
  | [], k + 1, p => by rw [List.nil_append, FG_cons, FG_nil, FG_nil, FG_nil]
  | t :: l, 0, p => by
    rw [List.cons_append, FG_cons, FG_cons, FG_snoc (l := l) (k := 0), FG_zero, FG_zero, FG_zero, FG_zero]
    grind
  | t :: l, k + 1, p => by
    rw [List.cons_append, FG_cons, FG_cons, FG_cons, FG_snoc (l := l) (k := k + 1), FG_snoc (l := l) (k := k)]
    grind
theorem FG_few {f : (Nat → Nat) → Rat} : ∀ {l : List MSp} {k : Nat} {p : Nat → Nat}, l.length < k → FG f p k l = 0
  | l, 0, p, h => by omega
  | [], k + 1, p, h => FG_nil
  | t :: l, k + 1, p, h => by
    rw [List.length_cons] at h
    rw [FG_cons, FG_few (l := l) (by omega), FG_few (l := l) (by omega)]
    grind
def wtC (E : List MSp) (c : List Nat) : Rat := c.foldl (fun w i => w * (E.getD i (0, 0, 0)).2.2) 1
def labC (E : List MSp) (c : List Nat) (p : Nat → Nat) : Nat → Nat := c.foldl (fun p i => tieP (E.getD i (0, 0, 0)) p) p
theorem wtC_snoc {E : List MSp} {c : List Nat} {j : Nat} : wtC E (c ++ [j]) = wtC E c * (E.getD j (0, 0, 0)).2.2 := by
  unfold wtC; rw [List.foldl_append]; rfl
theorem labC_snoc {E : List MSp} {c : List Nat} {j : Nat} {p : Nat → Nat} : labC E (c ++ [j]) p = tieP (E.getD j (0, 0, 0)) (labC E c p) := by
  unfold labC; rw [List.foldl_append]; rfl
def sumC (E : List MSp) (f : (Nat → Nat) → Rat) (p : Nat → Nat) (C : List (List Nat)) : Rat := C.foldl (fun s c => s + wtC E c * f (labC E c p)) 0
theorem sumC_from {E : List MSp} {f : (Nat → Nat) → Rat} {p : Nat → Nat} : ∀ {C : List (List Nat)} {x : Rat}, C.foldl (fun s c => s + wtC E c * f (labC E c p)) x = x + sumC E f p C
  | [], x => by show x = x + 0; grind
  | c :: C, x => by
    unfold sumC
    rw [List.foldl_cons, List.foldl_cons, sumC_from, sumC_from]
    grind
theorem sumC_app {E : List MSp} {f : (Nat → Nat) → Rat} {p : Nat → Nat} {C D : List (List Nat)} : sumC E f p (C ++ D) = sumC E f p C + sumC E f p D := by
  show (C ++ D).foldl _ 0 = _
  rw [List.foldl_append, sumC_from]; rfl
theorem sumC_nil {E : List MSp} {f : (Nat → Nat) → Rat} {p : Nat → Nat} : sumC E f p [] = 0 := rfl
theorem sumC_cons {E : List MSp} {f : (Nat → Nat) → Rat} {p : Nat → Nat} {c : List Nat} {C : List (List Nat)} : sumC E f p (c :: C) = wtC E c * f (labC E c p) + sumC E f p C := by
  show C.foldl _ (0 + _) = _
  rw [sumC_from]; grind
theorem sumC_last {E : List MSp} {f : (Nat → Nat) → Rat} {p : Nat → Nat} {j : Nat} : ∀ {C : List (List Nat)}, sumC E f p (C.map (· ++ [j])) = (E.getD j (0, 0, 0)).2.2 * sumC E (fun q => f (tieP (E.getD j (0, 0, 0)) q)) p C
  | [] => by rw [List.map_nil, sumC_nil, sumC_nil]; grind
  | c :: C => by
    rw [List.map_cons, sumC_cons, sumC_cons, sumC_last, wtC_snoc, labC_snoc]
    grind
theorem sumC_range {E : List MSp} {f : (Nat → Nat) → Rat} {p : Nat → Nat} {g : Nat → List (List Nat)} : ∀ {m k : Nat}, sumC E f p ((List.range' k (m + 1)).flatMap g) = sumC E f p ((List.range' k m).flatMap g) + sumC E f p (g (k + m)) := fun {m k} => by
  rw [List.range'_concat, List.flatMap_append, sumC_app]
  simp
theorem sumC_FG {E : List MSp} : ∀ {k N : Nat} {f : (Nat → Nat) → Rat} {p : Nat → Nat}, N ≤ E.length → sumC E f p (chs N k) = FG f p k (E.take N)
  | 0, N, f, p, h => by
    rw [chs_zero, FG_zero, sumC_cons, sumC_nil]
    show 1 * f p + 0 = f p
    grind
  | k + 1, N, f, p, h => by
    rw [chs_succ]
    by_cases hk : N ≤ k
    · rw [Nat.sub_eq_zero_of_le hk, FG_few (by rw [List.length_take]; omega)]
      rfl
    · have main : ∀ m, k + m ≤ E.length → sumC E f p ((List.range' k m).flatMap fun j => (chs j k).map (· ++ [j])) = FG f p (k + 1) (E.take (k + m)) := by
        intro m
        induction m with
        | zero => intro hm; rw [FG_few (by rw [List.length_take]; omega)]; rfl
        | succ m ih =>
          intro hm
          have hj : k + m < E.length := by omega
          have e1 : E.take (k + (m + 1)) = E.take (k + m) ++ [E.getD (k + m) (0, 0, 0)] := by
            rw [← Nat.add_assoc, List.take_add_one, List.getD_eq_getElem?_getD, List.getElem?_eq_getElem hj]; rfl
          rw [sumC_range, ih (by omega), sumC_last, sumC_FG (by omega), e1, FG_snoc]
      have := main (N - k) (by omega)
      rwa [show k + (N - k) = N by omega] at this
theorem chs_Fsum {n k : Nat} {E : List MSp} : sumC E (allOne n) id (chs E.length k) = Fsum n id k E := by
  rw [sumC_FG (Nat.le_refl _), List.take_length, Fsum_FG]
end GoAbs
namespace GoAbs
open Go Go.Proofs
def labL (n : Nat) (E : List Sp) : List Nat := E.foldl (fun s e => relab (s.getD e.1 0) (s.getD e.2.1 0) s) (List.range n)
theorem labL_fold {n : Nat} : ∀ (E : List Sp) (p : Nat → Nat), (∀ e, e ∈ E → e.1 < n ∧ e.2.1 < n) → E.foldl (fun s e => relab (s.getD e.1 0) (s.getD e.2.1 0) s) ((List.range n).map p) = (List.range n).map (E.foldl (fun p e => tieP e p) p)
  | [], p, _ => rfl
  | e :: E, p, h => by
    obtain ⟨h1, h2⟩ := h e (by simp)
    have hg : ∀ a, a < n → ((List.range n).map p).getD a 0 = p a := fun a ha => by
      rw [List.getD_eq_getElem?_getD, List.getElem?_map, List.getElem?_range ha]; rfl
    rw [List.foldl_cons, List.foldl_cons, hg _ h1, hg _ h2]
    have : relab (p e.1) (p e.2.1) ((List.range n).map p) = (List.range n).map (tieP e p) := by
      unfold relab
      rw [List.map_map]
      rfl
    rw [this]
    exact labL_fold E _ (fun e he => h e (by simp [he]))
theorem labL_map {n : Nat} {E : List Sp} (h : ∀ e, e ∈ E → e.1 < n ∧ e.2.1 < n) : labL n E = (List.range n).map (E.foldl (fun p e => tieP e p) id) := by
  have := labL_fold E id h
  rwa [List.map_id] at this
theorem labL_len {n : Nat} {E : List Sp} : (labL n E).length = n := by
  unfold labL
  have : ∀ (E : List Sp) (s : List Nat), s.length = n → (E.foldl (fun s e => relab (s.getD e.1 0) (s.getD e.2.1 0) s) s).length = n := by
    intro E
    induction E with
    | nil => intro s h; exact h
    | cons e E ih => intro s h; exact ih _ (by unfold relab; rw [List.length_map, h])
  exact this _ _ (by simp)
def EndsAt (n : Nat) (ls : List AV) (E : List Sp) : Prop := ls.length = E.length ∧ ∀ (k : Nat) (e : Sp), E[k]? = some e → e.1 < n ∧ e.2.1 < n ∧ ∃ x, ls[k]? = some (.agg [.int .i64 (e.1 : Int), .int .i64 (e.2.1 : Int), x])
theorem rparts_L3 {ls : List AV} {n : Nat} {E : List Sp} (hn : n ≤ 1000) (hE : EndsAt n ls E) (hEl : E.length ≤ 1000000000) {K : Ex → St → Prop}
    (hK : ∀ e : Nat → AV, e 5 = .osl none 0 0 n → K (.exit 2) ⟨e, [.cells (ic (labL n E))]⟩) :
    T Tryz.prog 59 0 (.loop cref_Parts_L3) ⟨envL [(0, .int .i64 (n : Int)), (1, .sl ls), (5, .osl none 0 0 n), (7, .int .i64 0)], [.cells (ic (List.range n))]⟩ K := by
  have hm : Tryz.prog.follows .mixedOrders = true := by kernel_rfl
  refine T_rounds (fun k : Nat => ⟨envL [(0, .int .i64 (n : Int)), (1, .sl ls), (5, .osl none 0 0 n), (7, .int .i64 (k : Int))], [.cells (ic (labL n (E.take k)))]⟩)
    (fun k => k ≤ E.length) (fun k => E.length - k) 0 (by omega) (Le_keep _ (by simp only [go_sem]; simp)) (fun k hk N hN => ?_)
  unfold cref_Parts_L3
  by_cases hkn : k < E.length
  · obtain ⟨⟨a, b, c⟩, he⟩ : ∃ e, E[k]? = some e := ⟨_, List.getElem?_eq_getElem hkn⟩
    obtain ⟨ha, hb, x, hx⟩ := hE.2 k _ he
    simp only at ha hb hx
    have q0 : (0 : Int) ≤ (k : Int) := by omega
    have q1 : (k : Int) < (ls.length : Int) := by rw [hE.1]; omega
    have e1 : IntKind.i64.wrap ((k : Int) + 1) = ((k + 1 : Nat) : Int) := by rw [i64_id (by omega) (by omega)]; omega
    have a0 : (0 : Int) ≤ (a : Int) := by omega
    have a1 : (a : Int) < (n : Int) := by omega
    have b0 : (0 : Int) ≤ (b : Int) := by omega
    have b1 : (b : Int) < (n : Int) := by omega
    have hstep : labL n (E.take (k + 1)) = relab ((labL n (E.take k)).getD a 0) ((labL n (E.take k)).getD b 0) (labL n (E.take k)) := by
      rw [List.take_add_one, he]
      unfold labL
      rw [List.foldl_append]
      rfl
    have hlen : (labL n (E.take k)).length = n := labL_len
    generalize labL n (E.take k) = s at *
    have ga : s[a]? = some (s.getD a 0) := by rw [List.getD_eq_getElem?_getD, List.getElem?_eq_getElem (by omega)]; rfl
    have gb : s[b]? = some (s.getD b 0) := by rw [List.getD_eq_getElem?_getD, List.getElem?_eq_getElem (by omega)]; rfl
    generalize s.getD a 0 = u at *
    generalize s.getD b 0 = v at *
    simp only [go_sem, cref_Parts_r8, cref_Parts_r9, cref_Parts_r10, q0, q1, hx, a0, a1, b0, b1, List.getElem?_drop, ic_get ga, ic_get gb, hm]
    refine T_keep [(0, .int .i64 (n : Int)), (1, .sl ls), (5, .osl none 0 0 n), (7, .int .i64 (k : Int)), (8, .int .i64 (u : Int)), (9, .int .i64 (v : Int)), (10, .int .i64 0)] (by simp only [go_sem]) ?_
    refine rparts_L2 hn hlen (fun e h0 h1 h5 h7 => ?_)
    simp only [go_sem, cref_Parts_r15, h7, e1]
    exact hN (k + 1) _ (by omega) (by omega) (Le_eq (Le_keep [(0, .int .i64 (n : Int)), (1, .sl ls), (5, .osl none 0 0 n), (7, .int .i64 ((k + 1 : Nat) : Int))] (by simp only [go_sem, h0, h1, h5])) (by rw [hstep]))
  · have hie : k = E.length := by omega
    subst hie
    have q1 : ¬ ((E.length : Nat) : Int) < (ls.length : Int) := by rw [hE.1]; omega
    simp only [go_sem, cref_Parts_r8, q1, List.take_length]
    exact hK _ (by simp only [go_sem])
theorem rparts {ls : List AV} {n : Nat} {E : List Sp} (hn : n ≤ 1000) (hE : EndsAt n ls E) (hEl : E.length ≤ 1000000000) : SpecV Tryz.prog n_ref_Parts [.int .i64 (n : Int), .sl ls] (.sl (ic (labL n E))) := by
  refine specV_W ok_ref_Parts (by simp) ?_
  unfold cref_Parts
  simp only [go_sem, cref_Parts_r1, cref_Parts_r2, cref_Parts_r3]
  refine T_le (Le_row0 5 none (by simp only [go_sem]) [(0, .int .i64 (n : Int)), (1, .sl ls), (6, .int .i64 0)] (by simp only [go_sem])) ?_
  refine rparts_L1 hn (fun e h0 h1 h5 => ?_)
  simp only [go_sem, cref_Parts_r7]
  refine T_keep [(0, .int .i64 (n : Int)), (1, .sl ls), (5, .osl none 0 0 n), (7, .int .i64 0)] (by simp only [go_sem, h0, h1, h5]) ?_
  refine rparts_L3 hn hE hEl (fun e h5 => ?_)
  simp only [go_sem, cref_Parts_r16, h5]
  exact bv_ic rfl (List.mem_range.2 (by simp)) labL_len (by rw [List.drop_zero, List.take_of_length_le (by rw [ic_len, labL_len]; exact Nat.le_refl _)])
def connE (n : Nat) (E : List Sp) : Prop := ∀ i, i < n → (E.foldl (fun p e => tieP e p) id) i = (E.foldl (fun p e => tieP e p) id) 0
instance (n : Nat) (E : List Sp) : Decidable (connE n E) := by unfold connE; infer_instance
theorem rconn {ls : List AV} {n : Nat} {E : List Sp} (hn0 : 0 < n) (hn : n ≤ 1000) (hE : EndsAt n ls E) (hEl : E.length ≤ 1000000000) : SpecV Tryz.prog n_ref_Connected [.int .i64 (n : Int), .sl ls] (.bool (decide (connE n E))) := by
  have hm : Tryz.prog.follows .mixedOrders = true := by kernel_rfl
  have hp := rparts hn hE hEl
  rw [labL_map (fun e he => by obtain ⟨k, hk, hk'⟩ := List.getElem_of_mem he; have := hE.2 k e (by rw [← hk']; exact List.getElem?_eq_getElem hk); exact ⟨this.1, this.2.1⟩)] at hp
  obtain ⟨t, ht⟩ : ∃ t, t = decide (connE n E) := ⟨_, rfl⟩
  have hti : t = true ↔ connE n E := by rw [ht]; simp
  rw [← ht]
  clear ht
  unfold connE at hti
  generalize E.foldl (fun p e => tieP e p) id = p at *
  have hlen : ((List.range n).map p).length = n := by simp
  have hg : ∀ i, i < n → ((List.range n).map p)[i]? = some (p i) := fun i hi => by rw [List.getElem?_map, List.getElem?_range hi]; rfl
  generalize (List.range n).map p = s at *
  refine specV_W ok_ref_Connected (by simp) ?_
  unfold cref_Connected
  simp only [go_sem, cref_Connected_r1, cref_Connected_r2]
  refine call_P hp (by simp only [go_sem]) ?_
  simp only [go_sem, cref_Connected_r3]
  refine T_rounds (fun i : Nat => ⟨envL [(0, .int .i64 (n : Int)), (5, .sl (ic s)), (6, .int .i64 (i : Int))], []⟩) (fun i => i ≤ n ∧ ∀ j, j < i → p j = p 0) (fun i => n - i) 0 ⟨by omega, fun j hj => by omega⟩ (Le_keep _ (by simp only [go_sem]; simp)) (fun i hI N hN => ?_)
  obtain ⟨h1, h2⟩ := hI
  unfold cref_Connected_L1
  by_cases hi : i < n
  · have q0 : (0 : Int) ≤ (i : Int) := by omega
    have q1 : (i : Int) < (n : Int) := by omega
    have q2 : (0 : Int) < (n : Int) := by omega
    have e1 : IntKind.i64.wrap ((i : Int) + 1) = ((i + 1 : Nat) : Int) := by rw [i64_id (by omega) (by omega)]; omega
    have g0 := ic_get (hg 0 hn0)
    have gi := ic_get (hg i hi)
    have hil : (i : Int) < ((ic s).length : Int) := by rw [ic_len, hlen]; omega
    have hzl : (0 : Int) < ((ic s).length : Int) := by rw [ic_len, hlen]; omega
    by_cases hpp : p i = p 0
    · have q3 : (p i : Int) = (p 0 : Int) := by omega
      simp only [go_sem, cref_Connected_r4, cref_Connected_r5, cref_Connected_r7, q0, q1, hm, hil, hzl, g0, gi, q3, e1]
      exact hN (i + 1) _ ⟨by omega, fun j hj => by
        by_cases hji : j = i
        · rw [hji, hpp]
        · exact h2 j (by omega)⟩ (by omega) (Le_keep _ (by simp only [go_sem]))
    · have q3 : ¬ (p i : Int) = (p 0 : Int) := by omega
      have hd : t = false := by
        cases t with
        | false => rfl
        | true => exact absurd (hti.1 rfl i hi) hpp
      rw [hd]
      simp only [go_sem, cref_Connected_r4, cref_Connected_r5, cref_Connected_r6, q0, q1, hm, hil, hzl, g0, gi, q3]
  · have hie : i = n := by omega
    subst hie
    have q1 : ¬ ((i : Nat) : Int) < (i : Int) := by omega
    have hd : t = true := hti.2 h2
    rw [hd]
    simp only [go_sem, cref_Connected_r4, cref_Connected_r8, q1]
end GoAbs
namespace GoAbs
open Go Go.Proofs
def ics (C : List (List Nat)) : List AV := C.map fun c => .sl (ic c)
theorem ics_len (C : List (List Nat)) : (ics C).length = C.length := by simp [ics]
theorem ics_app {C D : List (List Nat)} : ics (C ++ D) = ics C ++ ics D := by simp [ics]
theorem gc_ics {f : Nat → Option Nat} {C : List (List Nat)} : gcL f (ics C) = ics C := by
  rw [gcL_map]; unfold ics; rw [List.map_map]; rfl
theorem ics_get {C : List (List Nat)} {i : Nat} {c : List Nat} (h : C[i]? = some c) : (ics C)[i]? = some (.sl (ic c)) := by simp [ics, h]
theorem bv_ics {H : Heap} {ids : List Nat} {b : Nat} {C : List (List Nat)} (hb : H[b]? = some (.cells (ics C))) (hi : b ∈ ids) : BV H ids (.osl none b 0 C.length) (.sl (ics C)) := by
  refine .osl none b 0 C.length (ics C) (ics C) hb hi (ics_len C) (fun x hx => ?_) (by rw [ics_len]; simp [es]) (fun i x j y z hx hy hz => ?_)
  · obtain ⟨c, _, rfl⟩ := List.mem_map.1 hx; rfl
  · obtain ⟨c, _, rfl⟩ := List.mem_map.1 (List.mem_of_getElem? hx)
    have hj : j = 0 := by
      have := (List.getElem?_eq_some_iff.1 hy).1
      simp [AV.cells] at this; omega
    subst hj
    simp [AV.cells] at hy
    subst hy
    simp [es] at hz
    rw [hx] at hz
    cases hz
    exact .sl _
theorem chs_len : ∀ {k n : Nat}, (chs n k).length ≤ 2 ^ n
  | 0, n => by rw [chs_zero]; exact Nat.one_le_two_pow
  | k + 1, n => by
    rw [chs_succ]
    have main : ∀ m, ((List.range' k m).flatMap fun j => (chs j k).map (· ++ [j])).length + 2 ^ k ≤ 2 ^ (k + m) := by
      intro m
      induction m with
      | zero => simp
      | succ m ih =>
        rw [List.range'_concat, List.flatMap_append, List.length_append]
        have := chs_len (k := k) (n := k + m)
        have e : 2 ^ (k + (m + 1)) = 2 ^ (k + m) + 2 ^ (k + m) := by rw [← Nat.add_assoc, Nat.pow_succ]; omega
        simp only [List.flatMap_cons, List.flatMap_nil, List.append_nil, List.length_map, Nat.one_mul]
        omega
    by_cases h : k ≤ n
    · have := main (n - k)
      rw [show k + (n - k) = n by omega] at this
      exact Nat.le_trans (Nat.le_add_right _ _) this
    · rw [Nat.sub_eq_zero_of_le (by omega)]
      exact Nat.zero_le _
theorem rch_L1 {n k last : Nat} {C A : List (List Nat)} (hA : A.length + C.length ≤ 10000000) (hC : ∀ c, c ∈ C → c.length ≤ 1000) {K : Ex → St → Prop}
    (hK : ∀ e : Nat → AV, e 0 = .int .i64 (n : Int) → e 1 = .int .i64 (k : Int) → e 5 = .osl none 0 0 (A.length + C.length) → e 6 = .int .i64 (last : Int) → K (.exit 2) ⟨e, [.cells (ics (A ++ C.map (· ++ [last])))]⟩) :
    T Tryz.prog 44 0 (.loop cref_choices_L1) ⟨envL [(0, .int .i64 (n : Int)), (1, .int .i64 (k : Int)), (5, .osl none 0 0 A.length), (6, .int .i64 (last : Int)), (7, .sl (ics C)), (8, .int .i64 0)], [.cells (ics A)]⟩ K := by
  refine T_rounds (fun i : Nat => ⟨envL [(0, .int .i64 (n : Int)), (1, .int .i64 (k : Int)), (5, .osl none 0 0 (A.length + i)), (6, .int .i64 (last : Int)), (7, .sl (ics C)), (8, .int .i64 (i : Int))], [.cells (ics (A ++ (C.take i).map (· ++ [last])))]⟩)
    (fun i => i ≤ C.length) (fun i => C.length - i) 0 (by omega) (Le_eq (Le_keep [(0, .int .i64 (n : Int)), (1, .int .i64 (k : Int)), (5, .osl none 0 0 A.length), (6, .int .i64 (last : Int)), (7, .sl (ics C)), (8, .int .i64 0)] (by simp only [go_sem])) (by simp)) (fun i hi N hN => ?_)
  unfold cref_choices_L1
  by_cases hin : i < C.length
  · obtain ⟨c, hc⟩ : ∃ c, C[i]? = some c := ⟨_, List.getElem?_eq_getElem hin⟩
    have hcl := hC c (List.mem_of_getElem? hc)
    have q0 : (0 : Int) ≤ (i : Int) := by omega
    have q1 : (i : Int) < (C.length : Int) := by omega
    have e1 : IntKind.i64.wrap ((i : Int) + 1) = ((i + 1 : Nat) : Int) := by rw [i64_id (by omega) (by omega)]; omega
    have hB : (ics (A ++ (C.take i).map (· ++ [last]))).length = A.length + i := by rw [ics_len, List.length_append, List.length_map, List.length_take]; omega
    have hnew : ics (A ++ (C.take (i + 1)).map (· ++ [last])) = ics (A ++ (C.take i).map (· ++ [last])) ++ [.sl (ic (c ++ [last]))] := by
      rw [List.take_add_one, hc, Option.toList_some, List.map_append, ← List.append_assoc, ics_app (D := [c].map (· ++ [last]))]
      rfl
    have hgc := fun f => gc_ics (f := f) (C := A ++ (C.take i).map (· ++ [last]))
    generalize hD : ics (A ++ (C.take i).map (· ++ [last])) = D at *
    have s1 : (c.length) * 8 ≤ 1099511627776 := by omega
    have s2 : (c.length + 1) * 8 ≤ 1099511627776 := by omega
    have s3 : (A.length + i + 1) * 24 ≤ 1099511627776 := by omega
    have tD : D.take (A.length + i) = D := List.take_of_length_le (by omega)
    have lD : A.length + i ≤ D.length := by omega
    have tc : (ic c).take c.length = ic c := List.take_of_length_le (by rw [ic_len]; exact Nat.le_refl _)
    have fc : (ic c).flatMap AV.cells = ic c := by
      have : ∀ l : List Nat, (ic l).flatMap AV.cells = ic l := by
        intro l
        induction l with
        | nil => rfl
        | cons x l ih => rw [ic_cons, List.flatMap_cons, ih]; rfl
      exact this c
    simp only [go_sem, cref_choices_r9, cref_choices_r10, cref_choices_r11, q0, q1, e1, ics_len, ic_len, ics_get hc, s1, s2, s3, tD, lD, tc, fc, Nat.le_refl]
    refine ⟨ic_one, hN (i + 1) _ (by omega) (by omega) ?_⟩
    have hcl' : ic c ++ [AV.int .i64 (last : Int)] = ic (c ++ [last]) := by rw [ic_append]; rfl
    rw [hcl']
    refine Le_trans (Le_sink (b := 5) (ids := [3]) (l := D ++ [.osl none 3 0 (c.length + 1)]) (l' := D ++ [.sl (ic (c ++ [last]))]) rfl (by decide) (by simp) (fun j x y hx hy => ?_)
      [(0, .int .i64 (n : Int)), (1, .int .i64 (k : Int)), (5, .osl none 5 0 (A.length + (i + 1))), (6, .int .i64 (last : Int)), (7, .sl (ics C)), (8, .int .i64 ((i + 1 : Nat) : Int))] ?_) ?_
    · by_cases hj : j < D.length
      · rw [List.getElem?_append_left hj] at hx hy
        rw [hx] at hy; cases hy
        exact .inr rfl
      · have hj' : j = D.length := by
          have := (List.getElem?_eq_some_iff.1 hx).1
          simp at this; omega
        subst hj'
        simp at hx hy
        subst hx hy
        exact .inl (bv_ic (r := c ++ [last]) rfl (by simp) (by simp) (by rw [List.drop_zero, List.take_of_length_le (by simp [ic_len])]))
    · exact ⟨.inr (by simp only [go_sem]), .inr (by simp only [go_sem]), .inr (by simp only [go_sem, Nat.add_assoc]), .inr (by simp only [go_sem]), .inr (by simp only [go_sem]), .inr (by simp only [go_sem]), trivial⟩
    · refine Le_eq (Le_gc [5] (by decide) (fun i hi => by omega) [(0, .int .i64 (n : Int)), (1, .int .i64 (k : Int)), (5, .osl none 5 0 (A.length + (i + 1))), (6, .int .i64 (last : Int)), (7, .sl (ics C)), (8, .int .i64 ((i + 1 : Nat) : Int))] (by simp only [go_sem])) ?_
      rw [hnew]
      show St.mk _ [Blk.cells (gcL _ (D ++ [.sl (ic (c ++ [last]))]))] = _
      have : ∀ f, gcL f (D ++ [AV.sl (ic (c ++ [last]))]) = D ++ [.sl (ic (c ++ [last]))] := fun f => by
        rw [gcL_map, List.map_append, ← gcL_map, hgc]; rfl
      rw [this]
      rfl
  · have hie : i = C.length := by omega
    subst hie
    have q1 : ¬ ((C.length : Nat) : Int) < (C.length : Int) := by omega
    simp only [go_sem, cref_choices_r9, ics_len, q1, List.take_length]
    exact hK _ (by simp only [go_sem]) (by simp only [go_sem]) (by simp only [go_sem]) (by simp only [go_sem])
theorem chs_step {k last : Nat} (h : k ≤ last) : chs (last + 1) (k + 1) = chs last (k + 1) ++ (chs last k).map (· ++ [last]) := by
  rw [chs_succ, chs_succ, show last + 1 - k = (last - k) + 1 by omega, List.range'_concat, List.flatMap_append]
  simp only [List.flatMap_cons, List.flatMap_nil, List.append_nil, Nat.one_mul]
  rw [show k + (last - k) = last by omega]
theorem chs_none {k n : Nat} (h : n ≤ k) : chs n (k + 1) = [] := by
  rw [chs_succ, Nat.sub_eq_zero_of_le h]; rfl
theorem chs_le {k n : Nat} (h : n ≤ 20) : (chs n k).length ≤ 1048576 := Nat.le_trans chs_len (Nat.le_trans (Nat.pow_le_pow_right (by omega) h) (by decide))
theorem rch_L2 {n k : Nat} (hn : n ≤ 20) (hk : k ≤ 1000) (hrec : ∀ m : Nat, m ≤ 20 → SpecV Tryz.prog n_ref_choices [.int .i64 (m : Int), .int .i64 (k : Int)] (.sl (ics (chs m k)))) {K : Ex → St → Prop}
    (hK : ∀ e : Nat → AV, e 5 = .osl none 0 0 (chs n (k + 1)).length → K (.exit 0) ⟨e, [.cells (ics (chs n (k + 1)))]⟩) :
    T Tryz.prog 44 0 (.loop cref_choices_L2) ⟨envL [(5, .osl none 0 0 0), (0, .int .i64 (n : Int)), (1, .int .i64 ((k + 1 : Nat) : Int)), (6, .int .i64 (k : Int))], [.cells []]⟩ K := by
  refine T_rounds (fun i : Nat => ⟨envL [(0, .int .i64 (n : Int)), (1, .int .i64 ((k + 1 : Nat) : Int)), (5, .osl none 0 0 (chs i (k + 1)).length), (6, .int .i64 (i : Int))], [.cells (ics (chs i (k + 1)))]⟩)
    (fun i => k ≤ i ∧ (i ≤ n ∨ i = k)) (fun i => n - i) k ⟨Nat.le_refl _, .inr rfl⟩ (Le_eq (Le_keep [(0, .int .i64 (n : Int)), (1, .int .i64 ((k + 1 : Nat) : Int)), (5, .osl none 0 0 0), (6, .int .i64 (k : Int))] (by simp only [go_sem])) (by rw [chs_none (Nat.le_refl k)]; rfl)) (fun i hi N hN => ?_)
  obtain ⟨h1, h2⟩ := hi
  unfold cref_choices_L2
  by_cases hin : i < n
  · have q1 : (i : Int) < (n : Int) := by omega
    have e1 : IntKind.i64.wrap ((i : Int) + 1) = ((i + 1 : Nat) : Int) := by rw [i64_id (by omega) (by omega)]; omega
    have e2 : IntKind.i64.wrap (((k + 1 : Nat) : Int) - 1) = (k : Int) := by rw [i64_id (by omega) (by omega)]; omega
    simp only [go_sem, cref_choices_r6, cref_choices_r7, q1, e2]
    refine call_P (hrec i (by omega)) (by simp only [go_sem]) ?_
    simp only [go_sem, cref_choices_r8]
    refine T_keep [(0, .int .i64 (n : Int)), (1, .int .i64 ((k + 1 : Nat) : Int)), (5, .osl none 0 0 (chs i (k + 1)).length), (6, .int .i64 (i : Int)), (7, .sl (ics (chs i k))), (8, .int .i64 0)] (by simp only [go_sem]) ?_
    have b1 := chs_le (k := k + 1) (n := i) (by omega)
    have b2 := chs_le (k := k) (n := i) (by omega)
    refine rch_L1 (by omega) (fun c hc => by rw [(chs_mem hc).1]; omega) (fun e k0 k1 k5 k6 => ?_)
    simp only [go_sem, cref_choices_r12, k6, e1]
    refine hN (i + 1) _ ⟨by omega, .inl (by omega)⟩ (by omega) (Le_eq (Le_keep [(0, .int .i64 (n : Int)), (1, .int .i64 ((k + 1 : Nat) : Int)), (5, .osl none 0 0 ((chs i (k + 1)).length + (chs i k).length)), (6, .int .i64 ((i + 1 : Nat) : Int))] (by simp only [go_sem, k0, k1, k5])) ?_)
    rw [chs_step h1]
    simp
  · have q1 : ¬ (i : Int) < (n : Int) := by omega
    have he : chs i (k + 1) = chs n (k + 1) := by
      rcases h2 with h2 | h2
      · rw [show i = n by omega]
      · subst h2; rw [chs_none (Nat.le_refl _), chs_none (by omega)]
    simp only [go_sem, cref_choices_r6, q1, he]
    exact hK _ (by simp only [go_sem])
theorem rchoices : ∀ {k n : Nat}, n ≤ 20 → k ≤ 1000 → SpecV Tryz.prog n_ref_choices [.int .i64 (n : Int), .int .i64 (k : Int)] (.sl (ics (chs n k)))
  | 0, n, hn, hk => by
    refine specV_W ok_ref_choices (by simp) ?_
    unfold cref_choices
    have q0 : ((0 : Nat) : Int) = 0 := rfl
    simp only [go_sem, cref_choices_r1, cref_choices_r2, cref_choices_r3, q0]
    rw [chs_zero]
    refine .osl none 0 0 1 [.nils] [.sl []] rfl (by simp [allOf]) rfl (fun x hx => by simp at hx; subst hx; rfl) (by simp [es]) (fun i x j y z hx hy hz => ?_)
    have hi : i = 0 := by have := (List.getElem?_eq_some_iff.1 hx).1; simp at this; omega
    subst hi
    simp at hx; subst hx
    have hj : j = 0 := by have := (List.getElem?_eq_some_iff.1 hy).1; simp [AV.cells] at this; omega
    subst hj
    simp [AV.cells] at hy; subst hy
    simp [es] at hz; subst hz
    exact .nilsl
  | k + 1, n, hn, hk => by
    refine specV_W ok_ref_choices (by simp) ?_
    unfold cref_choices
    have q0 : ¬ ((k + 1 : Nat) : Int) = 0 := by omega
    have e2 : IntKind.i64.wrap (((k + 1 : Nat) : Int) - 1) = (k : Int) := by rw [i64_id (by omega) (by omega)]; omega
    simp only [go_sem, cref_choices_r1, cref_choices_r2, cref_choices_r4, cref_choices_r5, q0, e2]
    refine T_le (Le_row0 5 none (by simp only [go_sem]) [(0, .int .i64 (n : Int)), (1, .int .i64 ((k + 1 : Nat) : Int)), (6, .int .i64 (k : Int))] (by simp only [go_sem])) ?_
    refine rch_L2 hn (by omega) (fun m hm => rchoices hm (by omega)) (fun e h5 => ?_)
    simp only [go_sem, cref_choices_r13, h5]
    exact bv_ics rfl (List.mem_range.2 (by simp))
end GoAbs
namespace GoAbs
open Go Go.Proofs
theorem num_pos' {q : Rat} : 0 < q.num ↔ 0 < q := by rw [Rat.lt_iff]; simp
theorem chk_r11 {nt n0 : Nat} {e : Nat → AV} {Q : Ex → St → Prop} {ls : List AV} {n a b : Int} {l : List UInt8} {q : Rat} {bad : Bool} {i : Nat} (e0 : e 0 = .int .i64 n) (e1 : e 1 = .sl ls) (e9 : e 9 = .bool bad) (e10 : e 10 = .int .i64 (i : Int))
    (hls : ls[i]? = some (.agg [.int .i64 a, .int .i64 b, .str (bs l)])) (hb : bad = false → 2 ≤ n ∧ n ≤ 10) (hll : l.length ≤ 1000000000) (hp : parseL l = some q)
    (hQ : ∀ e', e' 0 = e 0 → e' 1 = e 1 → e' 10 = e 10 → e' 9 = .bool (bad || !sprOk n (a, b, l)) → Q .normal ⟨e', []⟩) :
    T Tryz.prog nt n0 (.rg true cref_Check_r11) ⟨e, []⟩ Q := by
  have hm : Tryz.prog.follows .mixedOrders = true := by kernel_rfl
  refine T_W ?_
  have hil : i < ls.length := (List.getElem?_eq_some_iff.1 hls).1
  have q0 : (0 : Int) ≤ (i : Int) := by omega
  have q1 : (i : Int) < (ls.length : Int) := by omega
  cases bad with
  | true =>
    simp only [go_sem, cref_Check_r11, e9, hm]
    exact hQ _ (by simp only [go_sem]) (by simp only [go_sem]) (by simp only [go_sem]) (by simp only [go_sem]; simp)
  | false =>
    obtain ⟨hn1, hn2⟩ := hb rfl
    have w1 : IntKind.i64.wrap (n - 1) = n - 1 := i64_id (by omega) (by omega)
    have hS : sprOk n (a, b, l) = (decide (EndsOk n a b) && decide (StiffOk q)) := by simp only [sprOk, hp]
    have ho := rof hll hp
    have hsh := rshort (l := l) (n := 20) hll (by omega)
    rw [short_fitd hp] at hsh
    have hsg := rsign_z (z := q.num)
    rw [avZ_agg] at hsg
    rw [avR_agg] at ho
    simp only [go_sem, cref_Check_r11, e0, e1, e9, e10, q0, q1, hls, hm, w1]
    refine call_P rin (by simp only [go_sem]) ?_
    by_cases hA : 0 ≤ a ∧ a ≤ n - 1
    · simp only [decide_eq_true hA, go_sem, Bool.not_true, e0, e1, e9, e10, q0, q1, hls, hm, w1]
      refine call_P rin (by simp only [go_sem]) ?_
      by_cases hB : 0 ≤ b ∧ b ≤ n - 1
      · simp only [decide_eq_true hB, go_sem, Bool.not_true, e0, e1, e9, e10, q0, q1, hls, hm, w1]
        by_cases hab : a = b
        · simp only [hab, go_sem]
          exact hQ _ (by simp only [go_sem]) (by simp only [go_sem]) (by simp only [go_sem]) (by simp only [go_sem]; rw [hS]; simp [EndsOk, hab])
        · simp only [hab, go_sem, e0, e1, e9, e10, q0, q1, hls, hm, w1]
          refine call_P ho (by simp only [go_sem]) ?_
          simp only [go_sem]
          refine call_P hsg (by simp only [go_sem]) ?_
          have hE : EndsOk n a b := ⟨hA.1, by omega, hB.1, by omega, hab⟩
          by_cases hq : 0 < q
          · have hn0 : 0 < q.num := num_pos'.2 hq
            have h1 : ¬ q.num = 0 := by omega
            have h2 : ¬ q.num < 0 := by omega
            have h3 : ¬ (1 : Int) ≤ 0 := by omega
            simp only [go_sem, h1, h2, h3, e0, e1, e9, e10, q0, q1, hls, hm, w1]
            refine call_P hsh (by simp only [go_sem]) ?_
            simp only [go_sem]
            exact hQ _ (by simp only [go_sem]) (by simp only [go_sem]) (by simp only [go_sem]) (by simp only [go_sem]; rw [hS]; simp [hE, StiffOk, hq])
          · have h3 : (if q.num = 0 then (0 : Int) else if q.num < 0 then -1 else 1) ≤ 0 := by
              have : ¬ 0 < q.num := fun h => hq (num_pos'.1 h)
              split
              · omega
              · split <;> omega
            simp only [go_sem, h3]
            exact hQ _ (by simp only [go_sem]) (by simp only [go_sem]) (by simp only [go_sem]) (by simp only [go_sem]; rw [hS]; simp [StiffOk, hq])
      · simp only [decide_eq_false hB, go_sem, Bool.not_false]
        exact hQ _ (by simp only [go_sem]) (by simp only [go_sem]) (by simp only [go_sem]) (by
          have hE : ¬ EndsOk n a b := fun h => hB ⟨h.2.2.1, by have := h.2.2.2.1; omega⟩
          simp only [go_sem]; rw [hS]; simp [hE])
    · simp only [decide_eq_false hA, go_sem, Bool.not_false]
      exact hQ _ (by simp only [go_sem]) (by simp only [go_sem]) (by simp only [go_sem]) (by
        have hE : ¬ EndsOk n a b := fun h => hA ⟨h.1, by have := h.2.1; omega⟩
        simp only [go_sem]; rw [hS]; simp [hE])
def fewN (n : Int) (L : List Spr) : Bool := decide (2 ≤ n ∧ n ≤ 10 ∧ L.length ≤ 40)
theorem rchk_L1 {ls : List AV} {n : Int} {L : List Spr} {bad : Bool} (hls : ls = L.map sprAV) (hL : L.length ≤ 1000000000) (hl : ∀ s, s ∈ L → s.2.2.length ≤ 1000000000) (hv : ∀ s, s ∈ L → (parseL s.2.2).isSome = true) (hb : bad = false → 2 ≤ n ∧ n ≤ 10) {K : Ex → St → Prop}
    (hK : ∀ e : Nat → AV, e 9 = .bool (bad || !L.all (sprOk n)) → K (.exit 0) ⟨e, []⟩) :
    T Tryz.prog 92 0 (.loop cref_Check_L1) ⟨envL [(0, .int .i64 n), (1, .sl ls), (9, .bool bad), (10, .int .i64 0)], []⟩ K := by
  have hlsl : ls.length = L.length := by rw [hls, List.length_map]
  refine T_roundsT (fun i : Nat => ⟨envL [(0, .int .i64 n), (1, .sl ls), (9, .bool (bad || !(L.take i).all (sprOk n))), (10, .int .i64 (i : Int))], []⟩) (fun i => i ≤ L.length) (fun i => L.length - i) 0 (by omega) (Le_keep _ (by simp only [go_sem]; simp)) (fun i h1 N hN => ?_)
  unfold cref_Check_L1
  by_cases hi : i < L.length
  · obtain ⟨⟨a, b, l⟩, he⟩ : ∃ s : Spr, L[i]? = some s := ⟨_, List.getElem?_eq_getElem hi⟩
    have hll := hl _ (List.mem_of_getElem? he)
    obtain ⟨q, hq⟩ := Option.isSome_iff_exists.1 (hv _ (List.mem_of_getElem? he))
    simp only at hll hq
    have hlsi : ls[i]? = some (.agg [.int .i64 a, .int .i64 b, .str (bs l)]) := by
      rw [hls, List.getElem?_map, he]; rfl
    have q1 : (i : Int) < (L.length : Int) := by omega
    have e1 : IntKind.i64.wrap ((i : Int) + 1) = ((i + 1 : Nat) : Int) := by rw [i64_id (by omega) (by omega)]; omega
    have tk : (bad || !(L.take (i + 1)).all (sprOk n)) = ((bad || !(L.take i).all (sprOk n)) || !sprOk n (a, b, l)) := by
      rw [List.take_add_one, he]; simp [List.all_append, Bool.or_assoc]
    refine T_cut 0 rfl ?_
    simp only [go_sem, cref_Check_r10, hlsl, q1]
    refine T_seq (T_block (chk_r11 (n := n) (a := a) (b := b) (l := l) (q := q) (i := i) (ls := ls) (bad := bad || !(L.take i).all (sprOk n)) (by simp only [go_sem]) (by simp only [go_sem]) (by simp only [go_sem]) (by simp only [go_sem]) hlsi (fun h => hb (by cases bad <;> simp_all)) hll hq (fun e' h0 h1 h10 h9 => ?_)))
    simp only [go_sem] at h0 h1 h10
    refine T_W ?_
    simp only [go_sem, cref_Check_r12, h10, e1]
    exact hN (i + 1) _ (by omega) (by omega) (Le_keep _ (by simp only [go_sem, h0, h1, h9, tk]))
  · have hie : i = L.length := by omega
    subst hie
    have q1 : ¬ ((L.length : Nat) : Int) < (L.length : Int) := by omega
    refine T_W ?_
    simp only [go_sem, cref_Check_r10, hlsl, q1, List.take_length]
    exact hK _ (by simp only [go_sem])
def checkE (n : Int) (L : List Spr) (M : List (List UInt8)) : Int := if formsE L = 0 then (if numsE M = 0 then (if (fewN n L && L.all (sprOk n)) = true then 0 else 1) else 2) else 2
theorem formsE_cases {L : List Spr} : (formsE L = 0 ∧ ∀ s, s ∈ L → (parseL s.2.2).isSome = true) ∨ formsE L = 2 := by
  unfold formsE
  split
  · rename_i h; exact .inl ⟨rfl, fun s hs => List.all_eq_true.1 h s hs⟩
  · exact .inr rfl
theorem numsE_cases {M : List (List UInt8)} : numsE M = 0 ∨ numsE M = 2 := by
  unfold numsE; split
  · exact .inl rfl
  · exact .inr rfl
theorem rcheck {n : Int} {L : List Spr} {M : List (List UInt8)} (hL : L.length ≤ 1000000000) (hl : ∀ s, s ∈ L → s.2.2.length ≤ 1000000000) (hM : M.length ≤ 1000000000) (hml : ∀ s, s ∈ M → s.length ≤ 1000000000) :
    SpecV Tryz.prog n_ref_Check [.int .i64 n, .sl (L.map sprAV), .sl (M.map strAV)] (.int .i64 (checkE n L M)) := by
  have hm : Tryz.prog.follows .mixedOrders = true := by kernel_rfl
  have hf := rforms hL hl
  have hn := rnums hM hml
  obtain ⟨ls, hls⟩ : ∃ ls, ls = L.map sprAV := ⟨_, rfl⟩
  obtain ⟨ms, hms⟩ : ∃ ms, ms = M.map strAV := ⟨_, rfl⟩
  have hlsl : ls.length = L.length := by rw [hls, List.length_map]
  rw [← hls] at hf
  rw [← hms] at hn
  rw [← hls, ← hms]
  refine specV_W ok_ref_Check (by simp) ?_
  unfold cref_Check
  simp only [go_sem, cref_Check_r1, cref_Check_r2]
  refine call_P hf (by simp only [go_sem]) ?_
  unfold checkE
  rcases formsE_cases (L := L) with ⟨f0, hv⟩ | f2
  · rw [if_pos f0, f0]
    simp only [go_sem, cref_Check_r3, cref_Check_r5]
    refine call_P hn (by simp only [go_sem]) ?_
    rcases numsE_cases (M := M) with n0 | n2
    · rw [if_pos n0, n0]
      simp only [go_sem, cref_Check_r6, cref_Check_r8]
      refine call_P rin (by simp only [go_sem]) ?_
      have goal : ∀ (e : Nat → AV) (bad : Bool) {K : Ex → St → Prop}, e 0 = .int .i64 n → e 1 = .sl ls → e 9 = .bool bad → e 10 = .int .i64 0 → bad = (!fewN n L) → (∀ e' : Nat → AV, e' 9 = .bool (!(fewN n L && L.all (sprOk n))) → K (.exit 0) ⟨e', []⟩) → T Tryz.prog 92 0 (.loop cref_Check_L1) ⟨e, []⟩ K := fun e bad K h0 h1 h9 h10 hbad hK => by
        refine T_keep [(0, .int .i64 n), (1, .sl ls), (9, .bool bad), (10, .int .i64 0)] (by simp only [go_sem, h0, h1, h9, h10]) ?_
        refine rchk_L1 hls hL hl hv (fun h => ?_) (fun e' h' => hK e' ?_)
        · rw [hbad] at h
          have : fewN n L = true := by simpa using h
          have := of_decide_eq_true this
          exact ⟨this.1, this.2.1⟩
        · rw [h', hbad]; cases fewN n L <;> simp
      by_cases hN : 2 ≤ n ∧ n ≤ 10
      · by_cases hk : L.length ≤ 40
        · have q1 : ¬ (40 : Int) < (L.length : Int) := by omega
          have hfw : fewN n L = true := by simp [fewN, hN, hk]
          simp only [decide_eq_true hN, go_sem, Bool.not_true, hlsl, q1, cref_Check_r9]
          refine goal _ false (by simp only [go_sem]) (by simp only [go_sem]) (by simp only [go_sem]) (by simp only [go_sem]) (by rw [hfw]; rfl) (fun e' h9 => ?_)
          rw [hfw]
          cases hA : L.all (sprOk n) with
          | true => rw [hfw, hA] at h9; simp only [go_sem, cref_Check_r13, cref_Check_r15, h9, Bool.and_true, Bool.not_true]
          | false => rw [hfw, hA] at h9; simp only [go_sem, cref_Check_r13, cref_Check_r14, h9, Bool.and_false, Bool.not_false]
        · have q1 : (40 : Int) < (L.length : Int) := by omega
          have hfw : fewN n L = false := by simp [fewN]; omega
          simp only [decide_eq_true hN, go_sem, Bool.not_true, hlsl, q1, cref_Check_r9]
          refine goal _ true (by simp only [go_sem]) (by simp only [go_sem]) (by simp only [go_sem]) (by simp only [go_sem]) (by rw [hfw]; rfl) (fun e' h9 => ?_)
          rw [hfw] at h9 ⊢
          simp only [go_sem, cref_Check_r13, cref_Check_r14, h9, Bool.false_and, Bool.not_false]
      · have hfw : fewN n L = false := by simp [fewN]; omega
        simp only [decide_eq_false hN, go_sem, Bool.not_false, cref_Check_r9]
        refine goal _ true (by simp only [go_sem]) (by simp only [go_sem]) (by simp only [go_sem]) (by simp only [go_sem]) (by rw [hfw]; rfl) (fun e' h9 => ?_)
        rw [hfw] at h9 ⊢
        simp only [go_sem, cref_Check_r13, cref_Check_r14, h9, Bool.false_and, Bool.not_false]
    · rw [if_neg (by rw [n2]; decide), n2]
      simp only [go_sem, cref_Check_r6, cref_Check_r7]
  · rw [if_neg (by rw [f2]; decide), f2]
    simp only [go_sem, cref_Check_r3, cref_Check_r4]
end GoAbs
namespace GoAbs
open Go Go.Proofs
theorem gc_rc {f : Nat → Option Nat} {n d : Int} : gcL f (rc n d) = rc n d := rfl
theorem rc_len {n d : Int} : (rc n d).length = 4 := rfl
theorem rc_take {n d : Int} : (rc n d).take 4 = rc n d := rfl
theorem rc_drop {n d : Int} : (rc n d).drop 4 = [] := rfl
theorem bvs_rc {H : Heap} {ids : List Nat} {n d : Int} : BVs H ids (rc n d) (rc n d) = True := by
  unfold rc; simp only [go_sem]
structure SpR (n : Nat) (s : Spr) : Prop where
  a0 : 0 ≤ s.1
  a1 : s.1 < n
  b0 : 0 ≤ s.2.1
  b1 : s.2.1 < n
  len : s.2.2.length ≤ 1000000000
  num : ∃ q, parseL s.2.2 = some q ∧ Ib 20 q.num ∧ Ib 20 (q.den : Int)
def sC (s : Spr) : List AV := [.int .i64 s.1, .int .i64 s.2.1, .str (bs s.2.2)]
def kN (L : List Spr) (j : Nat) : Int := (toE (L.getD j (0, 0, []))).2.2.num
def kD (L : List Spr) (j : Nat) : Int := (toE (L.getD j (0, 0, []))).2.2.den
def wN (L : List Spr) (c : List Nat) : Int := c.foldl (fun w i => w * kN L i) 1
def wD (L : List Spr) (c : List Nat) : Int := c.foldl (fun w i => w * kD L i) 1
def pC (L : List Spr) (c : List Nat) : List AV := c.flatMap fun i => sC (L.getD i (0, 0, []))
theorem wN_snoc {L : List Spr} {c : List Nat} {j : Nat} : wN L (c ++ [j]) = wN L c * kN L j := by unfold wN; rw [List.foldl_append]; rfl
theorem wD_snoc {L : List Spr} {c : List Nat} {j : Nat} : wD L (c ++ [j]) = wD L c * kD L j := by unfold wD; rw [List.foldl_append]; rfl
theorem pC_snoc {L : List Spr} {c : List Nat} {j : Nat} : pC L (c ++ [j]) = pC L c ++ sC (L.getD j (0, 0, [])) := by unfold pC; rw [List.flatMap_append]; simp
theorem pC_len {L : List Spr} {c : List Nat} : (pC L c).length = c.length * 3 := by
  unfold pC
  induction c with
  | nil => rfl
  | cons x c ih => rw [List.flatMap_cons, List.length_append, ih, List.length_cons]; show 3 + _ = _; omega
theorem gc_pC {f : Nat → Option Nat} {L : List Spr} {c : List Nat} : gcL f (pC L c) = pC L c := by
  rw [gcL_map]; unfold pC
  rw [List.map_flatMap]
  rfl
theorem rtr_L1 {n : Nat} {ls z : List AV} {L : List Spr} {sn sd : Int} {i : Nat} {all : List (List Nat)} {c : List Nat} (hls : ls = L.map sprAV) (hok : ∀ s, s ∈ L → SpR n s) (hc : all[i]? = some c) (hcl : c.length ≤ 100) (hci : ∀ j, j ∈ c → j < L.length) (hzg : ∀ f, gcL f z = z)
    (hw : ∀ j, j ≤ c.length → Ib (20 * j + 1) (wN L (c.take j)) ∧ Ib (20 * j + 1) (wD L (c.take j))) {K : Ex → St → Prop}
    (hK : ∀ e : Nat → AV, e 0 = .int .i64 (n : Int) → e 1 = .sl ls → e 4 = .ptr 0 0 → e 5 = .ptr 1 0 → e 6 = .sl (ics all) → e 7 = .int .i64 (i : Int) → e 8 = .osl (some 3) 3 0 c.length → e 9 = .ptr 2 0 →
      K (.exit 2) ⟨e, [.cells z, .cells (rc sn sd), .cells (rc (wN L c) (wD L c)), .cells (pC L c)]⟩) :
    T Tryz.prog 69 0 (.loop cref_Trees_L1) ⟨envL [(8, .osl (some 3) 3 0 0), (0, .int .i64 (n : Int)), (1, .sl ls), (4, .ptr 0 0), (5, .ptr 1 0), (6, .sl (ics all)), (7, .int .i64 (i : Int)), (9, .ptr 2 0), (10, .int .i64 0)],
      [.cells z, .cells (rc sn sd), .cells (rc 1 1), .cells []]⟩ K := by
  have hm : Tryz.prog.follows .mixedOrders = true := by kernel_rfl
  refine T_rounds (fun j : Nat => ⟨envL [(8, .osl (some 3) 3 0 j), (0, .int .i64 (n : Int)), (1, .sl ls), (4, .ptr 0 0), (5, .ptr 1 0), (6, .sl (ics all)), (7, .int .i64 (i : Int)), (9, .ptr 2 0), (10, .int .i64 (j : Int))],
      [.cells z, .cells (rc sn sd), .cells (rc (wN L (c.take j)) (wD L (c.take j))), .cells (pC L (c.take j))]⟩)
    (fun j => j ≤ c.length) (fun j => c.length - j) 0 (by omega) (Le_keep _ (by simp only [go_sem]; simp)) (fun j hj N hN => ?_)
  unfold cref_Trees_L1
  have i0 : (0 : Int) ≤ (i : Int) := by omega
  have i1 : (i : Int) < (all.length : Int) := by have := (List.getElem?_eq_some_iff.1 hc).1; omega
  by_cases hjn : j < c.length
  · obtain ⟨x, hx⟩ : ∃ x, c[j]? = some x := ⟨_, List.getElem?_eq_getElem hjn⟩
    have hxl := hci x (List.mem_of_getElem? hx)
    obtain ⟨s, hs⟩ : ∃ s : Spr, L[x]? = some s := ⟨_, List.getElem?_eq_getElem hxl⟩
    have hsd : L.getD x (0, 0, []) = s := by rw [List.getD_eq_getElem?_getD, hs]; rfl
    obtain ⟨a0, a1, b0, b1, hlen, q, hq, hqn, hqd⟩ := hok s (List.mem_of_getElem? hs)
    have hlsx : ls[x]? = some (.agg (sC s)) := by rw [hls, List.getElem?_map, hs]; rfl
    have hlsl : ls.length = L.length := by rw [hls, List.length_map]
    have q0 : (0 : Int) ≤ (j : Int) := by omega
    have q1 : (j : Int) < (c.length : Int) := by omega
    have x0 : (0 : Int) ≤ (x : Int) := by omega
    have x1 : (x : Int) < (L.length : Int) := by omega
    have e1 : IntKind.i64.wrap ((j : Int) + 1) = ((j + 1 : Nat) : Int) := by rw [i64_id (by omega) (by omega)]; omega
    have htk : c.take (j + 1) = c.take j ++ [x] := by rw [List.take_add_one, hx]; rfl
    have hkn : kN L x = q.num := by unfold kN; rw [hsd]; simp [toE, hq]
    have hkd : kD L x = q.den := by unfold kD; rw [hsd]; simp [toE, hq]
    have hpl : (pC L (c.take j)).length = j * 3 := by rw [pC_len, List.length_take]; congr 1; omega
    have s1 : (j + 1) * 32 ≤ 1099511627776 := by omega
    have s2 : j * 3 ≤ (pC L (c.take j)).length := by omega
    have tP : (pC L (c.take j)).take (j * 3) = pC L (c.take j) := List.take_of_length_le (by omega)
    have hmul := rmulq (n1 := wN L (c.take j)) (d1 := wD L (c.take j)) (n2 := q.num) (d2 := q.den) (k := 20 * j + 1 + 20) ((hw j hj).1.mono (by omega)) ((hw j hj).2.mono (by omega)) (hqn.mono (by omega)) (hqd.mono (by omega)) (by omega)
    have hof := rof hlen hq
    have sC3 : (sC s).length = 3 := rfl
    have sCt : (sC s).take 3 = sC s := rfl
    have sC2 : (sC s).drop 2 = [.str (bs s.2.2)] := rfl
    simp only [go_sem, cref_Trees_r7, cref_Trees_r8, cref_Trees_r9, q0, q1, i0, i1, x0, x1, e1, ics_len, ic_len, ics_get hc, ic_get hx, hlsl, hlsx, s1, s2, tP, hm, rc_len, rc_take, sC3, sCt, sC2]
    refine call_P hof (by simp only [go_sem, avR, bvs_rc]) ?_
    simp only [go_sem]
    refine call_P hmul (by simp only [go_sem, avR, bvs_rc]) ?_
    simp only [go_sem, avR, rc_len, rc_drop, rc_take, cref_Trees_r10, e1]
    refine hN (j + 1) _ (by omega) (by omega) (Le_eq (Le_gc [0, 1, 2, 5] (by decide) (fun i hi => by omega) [(8, .osl (some 3) 5 0 (j + 1)), (0, .int .i64 (n : Int)), (1, .sl ls), (4, .ptr 0 0), (5, .ptr 1 0), (6, .sl (ics all)), (7, .int .i64 (i : Int)), (9, .ptr 2 0), (10, .int .i64 ((j + 1 : Nat) : Int))] (by simp only [go_sem])) ?_)
    rw [htk, wN_snoc, wD_snoc, pC_snoc, hkn, hkd, hsd]
    show St.mk _ [Blk.cells (gcL _ z), Blk.cells (gcL _ (rc sn sd)), Blk.cells (gcL _ (rc _ _)), Blk.cells (gcL _ (pC L (c.take j) ++ sC s))] = _
    have hg : ∀ f, gcL f (pC L (c.take j) ++ sC s) = pC L (c.take j) ++ sC s := fun f => by
      rw [gcL_map, List.map_append, ← gcL_map, gc_pC]; rfl
    rw [hzg, gc_rc, gc_rc, hg]
    rfl
  · have hje : j = c.length := by omega
    subst hje
    have q1 : ¬ ((c.length : Nat) : Int) < (c.length : Int) := by omega
    simp only [go_sem, cref_Trees_r7, i0, i1, ics_len, ic_len, ics_get hc, q1, List.take_length]
    exact hK _ (by simp only [go_sem]) (by simp only [go_sem]) (by simp only [go_sem]) (by simp only [go_sem]) (by simp only [go_sem]) (by simp only [go_sem]) (by simp only [go_sem]) (by simp only [go_sem])
theorem ib_one : Ib 1 1 := by show (1 : Int).natAbs < 2 ^ 1; decide
theorem SpR.kn {n : Nat} {L : List Spr} (hok : ∀ s, s ∈ L → SpR n s) {j : Nat} (hj : j < L.length) : Ib 20 (kN L j) ∧ Ib 20 (kD L j) ∧ 0 < kD L j := by
  have hs : L[j]? = some L[j] := List.getElem?_eq_getElem hj
  have hsd : L.getD j (0, 0, []) = L[j] := by rw [List.getD_eq_getElem?_getD, hs]; rfl
  obtain ⟨_, _, _, _, _, q, hq, hqn, hqd⟩ := hok _ (List.mem_of_getElem? hs)
  have h1 : kN L j = q.num := by unfold kN; rw [hsd]; simp [toE, hq]
  have h2 : kD L j = q.den := by unfold kD; rw [hsd]; simp [toE, hq]
  rw [h1, h2]
  exact ⟨hqn, hqd, by have := q.den_pos; omega⟩
theorem w_bits {n : Nat} {L : List Spr} {c : List Nat} (hok : ∀ s, s ∈ L → SpR n s) (hci : ∀ j, j ∈ c → j < L.length) : ∀ j, j ≤ c.length → Ib (20 * j + 1) (wN L (c.take j)) ∧ Ib (20 * j + 1) (wD L (c.take j)) ∧ 0 < wD L (c.take j)
  | 0, _ => ⟨ib_one, ib_one, by show (0 : Int) < 1; omega⟩
  | j + 1, h => by
    obtain ⟨h1, h2, h3⟩ := w_bits hok hci j (by omega)
    have hx : c[j]? = some c[j] := List.getElem?_eq_getElem (by omega)
    obtain ⟨k1, k2, k3⟩ := SpR.kn hok (hci _ (List.mem_of_getElem? hx))
    rw [List.take_add_one, hx]
    show Ib _ (wN L (c.take j ++ [c[j]])) ∧ Ib _ (wD L (c.take j ++ [c[j]])) ∧ 0 < wD L (c.take j ++ [c[j]])
    rw [wN_snoc, wD_snoc]
    exact ⟨(h1.mul k1).mono (by omega), (h2.mul k2).mono (by omega), Int.mul_pos h3 k3⟩
theorem w_val {L : List Spr} (hp : ∀ j, kD L j ≠ 0) : ∀ {c : List Nat} {w : Rat} {wn wd : Int}, wd ≠ 0 → w = Rat.divInt wn wd →
    c.foldl (fun w i => w * ((L.map toE).getD i (0, 0, 0)).2.2) w = Rat.divInt (c.foldl (fun w i => w * kN L i) wn) (c.foldl (fun w i => w * kD L i) wd)
  | [], w, wn, wd, _, h => h
  | j :: c, w, wn, wd, hd, h => by
    rw [List.foldl_cons, List.foldl_cons, List.foldl_cons]
    refine w_val hp (Int.mul_ne_zero hd (hp j)) ?_
    have hz : ((L.map toE).getD j (0, 0, 0)).2.2 = Rat.divInt (kN L j) (kD L j) := by
      have : ((L.map toE).getD j (0, 0, 0)) = toE (L.getD j (0, 0, [])) ∨ (((L.map toE).getD j (0, 0, 0)).2.2 = 0 ∧ (toE (L.getD j (0, 0, []))).2.2 = 0) := by
        rw [List.getD_eq_getElem?_getD, List.getD_eq_getElem?_getD, List.getElem?_map]
        cases L[j]? with
        | some s => exact .inl rfl
        | none => exact .inr ⟨rfl, by decide⟩
      unfold kN kD
      rcases this with h | ⟨h, h'⟩
      · rw [h]; exact (Rat.num_divInt_den _).symm
      · rw [h, h']; exact (Rat.num_divInt_den _).symm
    rw [hz, h, Rat.divInt_mul_divInt]
theorem wtC_val {L : List Spr} {c : List Nat} : wtC (L.map toE) c = Rat.divInt (wN L c) (wD L c) :=
  w_val (fun j => by unfold kD; have := (toE (L.getD j (0, 0, []))).2.2.den_pos; omega) (by decide) (by decide)
theorem lab_conn {n : Nat} {E : List Sp} {c : List Nat} : allOne n (labC E c id) = if connE n (c.map fun i => E.getD i (0, 0, 0)) then 1 else 0 := by
  have h : connE n (c.map fun i => E.getD i (0, 0, 0)) ↔ ∀ i, i < n → labC E c id i = labC E c id 0 := by
    unfold connE labC
    rw [List.foldl_map]
  unfold allOne
  by_cases hc : connE n (c.map fun i => E.getD i (0, 0, 0))
  · rw [if_pos hc, if_pos (h.1 hc)]
  · rw [if_neg hc, if_neg (fun k => hc (h.2 k))]
def sumT (n : Nat) (E : List Sp) (C : List (List Nat)) : Rat := sumC E (allOne n) id C
theorem sumT_snoc {n : Nat} {E : List Sp} {C : List (List Nat)} {c : List Nat} : sumT n E (C ++ [c]) = sumT n E C + (if connE n (c.map fun i => E.getD i (0, 0, 0)) then wtC E c else 0) := by
  unfold sumT
  rw [sumC_app, sumC_cons, sumC_nil, lab_conn]
  split <;> grind
theorem q_add {q w : Rat} {wn wd : Int} (hd : wd ≠ 0) (hw : w = Rat.divInt wn wd) : Rat.divInt (q.num * wd + wn * q.den) (q.den * wd) = q + w := by
  have hq : (q.den : Int) ≠ 0 := by have := q.den_pos; omega
  have := Rat.divInt_add_divInt q.num wn hq hd
  rw [Rat.num_divInt_den, ← hw] at this
  exact this.symm
theorem sum_bits {n : Nat} {L : List Spr} {all : List (List Nat)} (hok : ∀ s, s ∈ L → SpR n s) (hall : ∀ c, c ∈ all → c.length ≤ 10 ∧ ∀ j, j ∈ c → j < L.length) : ∀ i, i ≤ all.length → Ib (1 + 202 * i) (sumT n (L.map toE) (all.take i)).num ∧ Ib (1 + 202 * i) ((sumT n (L.map toE) (all.take i)).den : Int)
  | 0, _ => by
    rw [List.take_zero]
    have : sumT n (L.map toE) [] = 0 := rfl
    rw [this]
    exact ⟨by show (0 : Int).natAbs < 2 ^ 1; decide, ib_one⟩
  | i + 1, h => by
    obtain ⟨h1, h2⟩ := sum_bits hok hall i (by omega)
    have hx : all[i]? = some all[i] := List.getElem?_eq_getElem (by omega)
    obtain ⟨k1, k2⟩ := hall _ (List.mem_of_getElem? hx)
    generalize all[i] = c at *
    obtain ⟨g1, g2, g3⟩ := w_bits hok k2 c.length (Nat.le_refl _)
    rw [List.take_length] at g1 g2 g3
    rw [List.take_add_one, hx]
    show Ib _ (sumT n _ (all.take i ++ [c])).num ∧ Ib _ ((sumT n _ (all.take i ++ [c])).den : Int)
    rw [sumT_snoc]
    generalize sumT n (L.map toE) (all.take i) = q at *
    split
    · rw [← q_add (by omega) wtC_val]
      have hqd : (q.den : Int) * wD L c ≠ 0 := Int.mul_ne_zero (by have := q.den_pos; omega) (by omega)
      obtain ⟨d1, d2⟩ := divInt_le (n := q.num * wD L c + wN L c * q.den) hqd
      have b1 : Ib (1 + 202 * (i + 1)) (q.num * wD L c + wN L c * q.den) := by
        refine Ib.mono (k := 1 + 202 * i + 201 + 1) (Ib.add ((h1.mul g2).mono (by omega)) ((g1.mul h2).mono (by omega))) (by omega)
      have b2 : Ib (1 + 202 * (i + 1)) (q.den * wD L c) := (h2.mul g2).mono (by omega)
      exact ⟨Nat.lt_of_le_of_lt d1 b1, Nat.lt_of_le_of_lt (by rw [Int.natAbs_natCast]; exact d2) b2⟩
    · have : q + 0 = q := by grind
      rw [this]
      exact ⟨h1.mono (by omega), h2.mono (by omega)⟩
end GoAbs
namespace GoAbs
open Go Go.Proofs
def rowsC (L : List Spr) (c : List Nat) : List (List AV) := c.map fun i => sC (L.getD i (0, 0, []))
theorem pC_rows {L : List Spr} {c : List Nat} : pC L c = (rowsC L c).flatten := by unfold pC rowsC; rw [List.flatMap_def]
theorem ends_part {n : Nat} {L : List Spr} {c : List Nat} (hok : ∀ s, s ∈ L → SpR n s) (hci : ∀ j, j ∈ c → j < L.length) : EndsAt n ((rowsC L c).map .agg) (c.map fun i => (L.map toE).getD i (0, 0, 0)) := by
  refine ⟨by simp [rowsC], fun k e he => ?_⟩
  rw [List.getElem?_map] at he
  cases hc : c[k]? with
  | none => rw [hc] at he; cases he
  | some j =>
    rw [hc] at he
    simp only [Option.map_some, Option.some.injEq] at he
    have hj := hci j (List.mem_of_getElem? hc)
    have hs : L[j]? = some L[j] := List.getElem?_eq_getElem hj
    have hsd : L.getD j (0, 0, []) = L[j] := by rw [List.getD_eq_getElem?_getD, hs]; rfl
    have hed : (L.map toE).getD j (0, 0, 0) = toE L[j] := by rw [List.getD_eq_getElem?_getD, List.getElem?_map, hs]; rfl
    obtain ⟨a0, a1, b0, b1, _⟩ := hok _ (List.mem_of_getElem? hs)
    rw [hed] at he
    subst he
    refine ⟨by show (L[j].1).toNat < n; omega, by show (L[j].2.1).toNat < n; omega, .str (bs L[j].2.2), ?_⟩
    unfold rowsC
    rw [List.map_map, List.getElem?_map, hc]
    simp only [Option.map_some, Function.comp, hsd, sC, toE, Option.some.injEq, AV.agg.injEq, List.cons.injEq, and_true]
    exact ⟨by rw [Int.toNat_of_nonneg a0], by rw [Int.toNat_of_nonneg b0]⟩
theorem rtr_L2 {n : Nat} {ls z : List AV} {L : List Spr} {all : List (List Nat)} (hls : ls = L.map sprAV) (hn0 : 0 < n) (hn : n ≤ 100) (hok : ∀ s, s ∈ L → SpR n s) (hall : ∀ c, c ∈ all → c.length ≤ 10 ∧ ∀ j, j ∈ c → j < L.length) (hal : all.length ≤ 2000)
    (hzg : ∀ f, gcL f z = z) {K : Ex → St → Prop}
    (hK : ∀ e : Nat → AV, e 4 = .ptr 0 0 → e 5 = .ptr 1 0 → K (.exit 0) ⟨e, [.cells z, .cells (rc (sumT n (L.map toE) all).num (sumT n (L.map toE) all).den)]⟩) :
    T Tryz.prog 69 0 (.loop cref_Trees_L2) ⟨envL [(0, .int .i64 (n : Int)), (1, .sl ls), (4, .ptr 0 0), (5, .ptr 1 0), (6, .sl (ics all)), (7, .int .i64 0)], [.cells z, .cells (rc 0 1)]⟩ K := by
  have hm : Tryz.prog.follows .mixedOrders = true := by kernel_rfl
  refine T_rounds (fun i : Nat => ⟨envL [(0, .int .i64 (n : Int)), (1, .sl ls), (4, .ptr 0 0), (5, .ptr 1 0), (6, .sl (ics all)), (7, .int .i64 (i : Int))], [.cells z, .cells (rc (sumT n (L.map toE) (all.take i)).num (sumT n (L.map toE) (all.take i)).den)]⟩)
    (fun i => i ≤ all.length) (fun i => all.length - i) 0 (by omega) (Le_keep _ (by simp only [go_sem]; simp)) (fun i hi N hN => ?_)
  unfold cref_Trees_L2
  by_cases hin : i < all.length
  · obtain ⟨c, hc⟩ : ∃ c, all[i]? = some c := ⟨_, List.getElem?_eq_getElem hin⟩
    obtain ⟨hcl, hci⟩ := hall c (List.mem_of_getElem? hc)
    obtain ⟨s1, s2⟩ := sum_bits hok hall i hi
    have q1 : (i : Int) < (all.length : Int) := by omega
    have e1 : IntKind.i64.wrap ((i : Int) + 1) = ((i + 1 : Nat) : Int) := by rw [i64_id (by omega) (by omega)]; omega
    have htk : all.take (i + 1) = all.take i ++ [c] := by rw [List.take_add_one, hc]; rfl
    obtain ⟨g1, g2, g3⟩ := w_bits hok hci c.length (Nat.le_refl _)
    rw [List.take_length] at g1 g2 g3
    have hq := fun (h : connE n (c.map fun i => (L.map toE).getD i (0, 0, 0))) => show sumT n (L.map toE) (all.take (i + 1)) = Rat.divInt _ _ by rw [htk, sumT_snoc, if_pos h, ← q_add (q := sumT n (L.map toE) (all.take i)) (show wD L c ≠ 0 by omega) wtC_val]
    have hq' := fun (h : ¬ connE n (c.map fun i => (L.map toE).getD i (0, 0, 0))) => show sumT n (L.map toE) (all.take (i + 1)) = sumT n (L.map toE) (all.take i) by rw [htk, sumT_snoc, if_neg h]; grind
    generalize hqe : sumT n (L.map toE) (all.take (i + 1)) = q' at *
    generalize hqq : sumT n (L.map toE) (all.take i) = q at *
    have hw1 := rwhole (v := 1) (by decide)
    simp only [go_sem, cref_Trees_r4, cref_Trees_r5, cref_Trees_r6, q1, ics_len]
    refine call_P hw1 (by simp only [go_sem]) ?_
    simp only [go_sem, avR, rc_len, rc_drop]
    refine T_le (Le_row0 8 (some 3) (by simp only [go_sem]) [(0, .int .i64 (n : Int)), (1, .sl ls), (4, .ptr 0 0), (5, .ptr 1 0), (6, .sl (ics all)), (7, .int .i64 (i : Int)), (9, .ptr 2 0), (10, .int .i64 0)] (by simp only [go_sem])) ?_
    refine rtr_L1 hls hok hc (by omega) hci hzg (fun j hj => ⟨(w_bits hok hci j hj).1, (w_bits hok hci j hj).2.1⟩) (fun e k0 k1 k4 k5 k6 k7 k8 k9 => ?_)
    simp only [go_sem, cref_Trees_r11, k0, k8]
    have hcon := rconn hn0 (by omega) (ends_part hok hci) (by rw [List.length_map]; omega)
    have hbv : BVs [.cells z, .cells (rc q.num q.den), .cells (rc (wN L c) (wD L c)), .cells (pC L c)] [3] [.int .i64 (n : Int), .osl (some 3) 3 0 c.length] [.int .i64 (n : Int), .sl ((rowsC L c).map .agg)] := by
      refine .cons (.int _ _) (.cons ?_ .nil)
      have := bv_rows (H := [.cells z, .cells (rc q.num q.den), .cells (rc (wN L c) (wD L c)), .cells (pC L c)]) (ids := [3]) (w := 3) (b := 3) (R := rowsC L c) rfl (by simp) pC_rows (fun d hd => by obtain ⟨j, _, rfl⟩ := List.mem_map.1 hd; rfl) (fun d hd => by
        obtain ⟨j, _, rfl⟩ := List.mem_map.1 hd; exact .cons (.int _ _) (.cons (.int _ _) (.cons (.str _) .nil)))
      rwa [show (rowsC L c).length = c.length by simp [rowsC]] at this
    refine call_V hcon hbv (.inr (.bool _)) (fun _ _ => trivial) ?_
    by_cases hcc : connE n (c.map fun i => (L.map toE).getD i (0, 0, 0))
    · have hadd := raddq (n1 := q.num) (d1 := q.den) (n2 := wN L c) (d2 := wD L c) (k := 1 + 202 * i + 201) (s1.mono (by omega)) (s2.mono (by omega)) (g1.mono (by omega)) (g2.mono (by omega)) (by omega)
      have hlo := rlow (n := q.num * wD L c + wN L c * q.den) (d := q.den * wD L c) (k := 1 + 202 * i + 202) (Ib.add (k := 1 + 202 * i + 201) ((s1.mul g2).mono (by omega)) ((g1.mul s2).mono (by omega))) ((s2.mul g2).mono (by omega)) (Int.mul_pos (by have := q.den_pos; omega) g3) (by omega)
      rw [← hq hcc] at hlo
      simp only [decide_eq_true hcc, go_sem, cref_Trees_r12, k5, k9, rc_len, rc_take]
      refine call_P hadd (by simp only [go_sem, avR, bvs_rc]) ?_
      simp only [go_sem]
      refine call_P hlo (by simp only [go_sem, avR, bvs_rc]) ?_
      simp only [go_sem, avR, rc_len, rc_drop, rc_take, cref_Trees_r13, e1, k5, k7]
      refine hN (i + 1) _ (by omega) (by omega) (Le_eq (Le_gc [0, 1] (by decide) (fun i hi => by omega) [(0, .int .i64 (n : Int)), (1, .sl ls), (4, .ptr 0 0), (5, .ptr 1 0), (6, .sl (ics all)), (7, .int .i64 ((i + 1 : Nat) : Int))] (by simp only [go_sem, k0, k1, k4, k5, k6])) ?_)
      show St.mk _ [Blk.cells (gcL _ z), Blk.cells (gcL _ (rc _ _))] = _
      rw [hzg, gc_rc, hqe]
      rfl
    · simp only [decide_eq_false hcc, go_sem, cref_Trees_r13, e1, k7]
      refine hN (i + 1) _ (by omega) (by omega) (Le_eq (Le_gc [0, 1] (by decide) (fun i hi => by omega) [(0, .int .i64 (n : Int)), (1, .sl ls), (4, .ptr 0 0), (5, .ptr 1 0), (6, .sl (ics all)), (7, .int .i64 ((i + 1 : Nat) : Int))] (by simp only [go_sem, k0, k1, k4, k5, k6])) ?_)
      show St.mk _ [Blk.cells (gcL _ z), Blk.cells (gcL _ (rc _ _))] = _
      rw [hzg, gc_rc, hqe, hq' hcc]
      rfl
  · have hie : i = all.length := by omega
    subst hie
    have q1 : ¬ ((all.length : Nat) : Int) < (all.length : Int) := by omega
    simp only [go_sem, cref_Trees_r4, ics_len, q1, List.take_length]
    exact hK _ (by simp only [go_sem]) (by simp only [go_sem])
theorem rtrees {n : Nat} {L : List Spr} (hn0 : 1 ≤ n) (hn : n ≤ 10) (hL : L.length ≤ 10) (hok : ∀ s, s ∈ L → SpR n s) :
    SpecV Tryz.prog n_ref_Trees [.int .i64 (n : Int), .sl (L.map sprAV)] (avR (Fsum n id (n - 1) (L.map toE)).num (Fsum n id (n - 1) (L.map toE)).den) := by
  have hF : sumT n (L.map toE) (chs L.length (n - 1)) = Fsum n id (n - 1) (L.map toE) := by
    have := chs_Fsum (n := n) (k := n - 1) (E := L.map toE)
    rw [List.length_map] at this
    exact this
  have hcb := chs_len (k := n - 1) (n := L.length)
  have hcb2 : (chs L.length (n - 1)).length ≤ 1024 := Nat.le_trans hcb (Nat.le_trans (Nat.pow_le_pow_right (by omega) hL) (by decide))
  obtain ⟨ls, hls⟩ : ∃ ls, ls = L.map sprAV := ⟨_, rfl⟩
  have hlsl : ls.length = L.length := by rw [hls, List.length_map]
  rw [← hls, ← hF]
  have hall : ∀ c, c ∈ chs L.length (n - 1) → c.length ≤ 10 ∧ ∀ j, j ∈ c → j < L.length := fun c hc => by
    obtain ⟨h1, h2⟩ := chs_mem hc
    exact ⟨by omega, h2⟩
  have hch := rchoices (n := L.length) (k := n - 1) (by omega) (by omega)
  have hw0 := rwhole (v := 0) (by decide)
  have e2 : IntKind.i64.wrap ((n : Int) - 1) = ((n - 1 : Nat) : Int) := by rw [i64_id (by omega) (by omega)]; omega
  generalize chs L.length (n - 1) = all at *
  refine specV_W ok_ref_Trees (by simp) ?_
  unfold cref_Trees
  simp only [go_sem, cref_Trees_r1, cref_Trees_r2]
  refine call_P hw0 (by simp only [go_sem]) ?_
  simp only [go_sem, avR, rc_len, rc_drop, hlsl, e2]
  refine call_P hch (by simp only [go_sem]) ?_
  simp only [go_sem, cref_Trees_r3, rc_len, rc_drop]
  refine T_keep [(0, .int .i64 (n : Int)), (1, .sl ls), (4, .ptr 0 0), (5, .ptr 1 0), (6, .sl (ics all)), (7, .int .i64 0)] (by simp only [go_sem]) ?_
  refine rtr_L2 hls (by omega) (by omega) hok hall (by omega) (fun f => rfl) (fun e k4 k5 => ?_)
  simp only [go_sem, cref_Trees_r14, k4, k5, rc_len, rc_take, rc_drop]
  simp only [go_sem, avR, bvs_rc, rc_len, rc_take, rc_drop]
end GoAbs
namespace GoAbs
open Go Go.Proofs
def shortS (l : List UInt8) : List UInt8 := if 20 < l.length then l.take 23 else l.take 6
theorem shortS_len {l : List UInt8} : (shortS l).length ≤ 23 := by
  unfold shortS; split
  · rw [List.length_take]; omega
  · rw [List.length_take]; omega
theorem lshort {l : List UInt8} : SpecV Tryz.prog n_law_short [.str (bs l)] (.str (bs (shortS l))) := by
  refine specV_W ok_law_short (by simp) ?_
  unfold claw_short
  have n23 : (if (23 : Int) < (l.length : Int) then 23 else (l.length : Int)) = ((min l.length 23 : Nat) : Int) := by split <;> omega
  have n6 : (if (6 : Int) < (l.length : Int) then 6 else (l.length : Int)) = ((min l.length 6 : Nat) : Int) := by split <;> omega
  have p23 : (0 : Int) ≤ ((min l.length 23 : Nat) : Int) := by omega
  have p6 : (0 : Int) ≤ ((min l.length 6 : Nat) : Int) := by omega
  have l23 : min l.length 23 ≤ l.length := by omega
  have l6 : min l.length 6 ≤ l.length := by omega
  by_cases h : 20 < l.length
  · have q1 : (20 : Int) < (l.length : Int) := by omega
    have hs : shortS l = l.take (min l.length 23) := by unfold shortS; rw [if_pos h]; exact List.take_eq_take_iff.2 (by omega)
    rw [hs]
    simp only [go_sem, claw_short_r1, claw_short_r2, claw_short_r3, bs_size, q1, n23, p23, bs_extract, l23, List.drop_zero, Int.toNat_natCast, Nat.zero_le]
  · have q1 : ¬ (20 : Int) < (l.length : Int) := by omega
    have hs : shortS l = l.take (min l.length 6) := by unfold shortS; rw [if_neg h]; exact List.take_eq_take_iff.2 (by omega)
    rw [hs]
    simp only [go_sem, claw_short_r1, claw_short_r2, claw_short_r4, bs_size, q1, n6, p6, bs_extract, l6, List.drop_zero, Int.toNat_natCast, Nat.zero_le]
theorem bv_sprs {H : Heap} {ids : List Nat} {b : Nat} {L : List Spr} (hb : H[b]? = some (.cells (L.flatMap sC))) (hi : b ∈ ids) : BV H ids (.osl (some 3) b 0 L.length) (.sl (L.map sprAV)) := by
  have := bv_rows (H := H) (ids := ids) (w := 3) (b := b) (R := L.map sC) hb hi (by rw [List.flatMap_def]) (fun d hd => by obtain ⟨j, _, rfl⟩ := List.mem_map.1 hd; rfl) (fun d hd => by
    obtain ⟨j, _, rfl⟩ := List.mem_map.1 hd; exact .cons (.int _ _) (.cons (.int _ _) (.cons (.str _) .nil)))
  rw [List.length_map, List.map_map] at this
  exact this
def mostL (L : List Spr) : Nat := if 40 < L.length then 41 else 9
def cutS (s : Spr) : Spr := (s.1, s.2.1, shortS s.2.2)
def fewL (L : List Spr) : List Spr := (L.take (mostL L)).map cutS
def fewK (n : Int) : Int := if 6 < n ∧ n ≤ 10 then 6 else n
theorem lfew_L1 {n k : Int} {ls : List AV} {L : List Spr} (hls : ls = L.map sprAV) {K : Ex → St → Prop}
    (hK : ∀ e : Nat → AV, e 2 = .ptr 1 0 → e 4 = .ptr 2 0 → K (.exit 0) ⟨e, [.cells [.int .i64 n, .sl ls], .cells [.int .i64 0, .nils], .cells [.int .i64 k, .osl (some 3) 3 0 (fewL L).length], .cells ((fewL L).flatMap sC)]⟩) :
    T Tryz.prog 54 0 (.loop claw_few_L1) ⟨envL [(1, .ptr 0 0), (2, .ptr 1 0), (3, .int .i64 (mostL L : Int)), (4, .ptr 2 0), (5, .int .i64 0)], [.cells [.int .i64 n, .sl ls], .cells [.int .i64 0, .nils], .cells [.int .i64 k, .osl (some 3) 3 0 0], .cells []]⟩ K := by
  have hm : Tryz.prog.follows .mixedOrders = true := by kernel_rfl
  have hlsl : ls.length = L.length := by rw [hls, List.length_map]
  have hmost : mostL L ≤ 41 := by unfold mostL; split <;> omega
  refine T_rounds (fun i : Nat => ⟨envL [(1, .ptr 0 0), (2, .ptr 1 0), (3, .int .i64 (mostL L : Int)), (4, .ptr 2 0), (5, .int .i64 (i : Int))], [.cells [.int .i64 n, .sl ls], .cells [.int .i64 0, .nils], .cells [.int .i64 k, .osl (some 3) 3 0 i], .cells (((L.take i).map cutS).flatMap sC)]⟩)
    (fun i => i ≤ L.length ∧ i ≤ mostL L) (fun i => L.length - i) 0 ⟨by omega, by omega⟩ (Le_keep _ (by simp only [go_sem]; simp)) (fun i hI N hN => ?_)
  obtain ⟨h1, h2⟩ := hI
  unfold claw_few_L1
  by_cases hi : i < L.length
  · have q1 : (i : Int) < (L.length : Int) := by omega
    by_cases hmi : i < mostL L
    · obtain ⟨⟨a, b, l⟩, he⟩ : ∃ s : Spr, L[i]? = some s := ⟨_, List.getElem?_eq_getElem hi⟩
      have hlsi : ls[i]? = some (.agg [.int .i64 a, .int .i64 b, .str (bs l)]) := by
        rw [hls, List.getElem?_map, he]; rfl
      have q0 : (0 : Int) ≤ (i : Int) := by omega
      have q2 : (i : Int) < (mostL L : Int) := by omega
      have e1 : IntKind.i64.wrap ((i : Int) + 1) = ((i + 1 : Nat) : Int) := by rw [i64_id (by omega) (by omega)]; omega
      have htk : ((L.take (i + 1)).map cutS).flatMap sC = ((L.take i).map cutS).flatMap sC ++ [.int .i64 a, .int .i64 b, .str (bs (shortS l))] := by
        rw [List.take_add_one, he, Option.toList_some, List.map_append, List.flatMap_append]; rfl
      have hPl : (((L.take i).map cutS).flatMap sC).length = i * 3 := by
        have main : ∀ M : List Spr, (M.flatMap sC).length = M.length * 3 := by
          intro M
          induction M with
          | nil => rfl
          | cons x M ih => rw [List.flatMap_cons, List.length_append, ih, List.length_cons]; show 3 + _ = _; omega
        rw [main, List.length_map, List.length_take]; omega
      have hPg : ∀ f, gcL f (((L.take i).map cutS).flatMap sC) = ((L.take i).map cutS).flatMap sC := fun f => by
        rw [gcL_map, List.map_flatMap]; rfl
      generalize ((L.take i).map cutS).flatMap sC = P at *
      have s1 : (i + 1) * 32 ≤ 1099511627776 := by omega
      have s2 : i * 3 ≤ P.length := by omega
      have tP : P.take (i * 3) = P := List.take_of_length_le (by omega)
      simp only [go_sem, claw_few_r9, claw_few_r10, claw_few_r11, hlsl, q0, q1, q2, hlsi, hm]
      refine call_P lshort (by simp only [go_sem]) ?_
      simp only [go_sem, s1, s2, tP, claw_few_r12, e1]
      refine hN (i + 1) _ ⟨by omega, by omega⟩ (by omega) (Le_eq (Le_gc [0, 1, 2, 6] (by decide) (fun i hi => by omega) [(1, .ptr 0 0), (2, .ptr 1 0), (3, .int .i64 (mostL L : Int)), (4, .ptr 2 0), (5, .int .i64 ((i + 1 : Nat) : Int))] (by simp only [go_sem])) ?_)
      show St.mk _ [_, _, _, Blk.cells (gcL _ (P ++ [AV.int .i64 a, .int .i64 b, .str (bs (shortS l))]))] = _
      have hg : ∀ f, gcL f (P ++ [AV.int .i64 a, .int .i64 b, .str (bs (shortS l))]) = P ++ [AV.int .i64 a, .int .i64 b, .str (bs (shortS l))] := fun f => by
        rw [gcL_map, List.map_append, ← gcL_map, hPg]; rfl
      rw [hg, htk]
      rfl
    · have q2 : ¬ (i : Int) < (mostL L : Int) := by omega
      have hf : (L.take i).map cutS = fewL L := by unfold fewL; rw [show i = mostL L by omega]
      have hfl : (fewL L).length = i := by rw [← hf, List.length_map, List.length_take]; omega
      rw [hfl] at hK
      rw [hf]
      simp only [go_sem, claw_few_r9, hlsl, q1, q2]
      exact hK _ (by simp only [go_sem]) (by simp only [go_sem])
  · have q1 : ¬ (i : Int) < (L.length : Int) := by omega
    have hf : (L.take i).map cutS = fewL L := by unfold fewL; rw [List.take_of_length_le (by omega), List.take_of_length_le (by omega)]
    have hfl : (fewL L).length = i := by rw [← hf, List.length_map, List.length_take]; omega
    rw [hfl] at hK
    rw [hf]
    simp only [go_sem, claw_few_r9, hlsl, q1]
    exact hK _ (by simp only [go_sem]) (by simp only [go_sem])
theorem lfew {n : Int} {L : List Spr} :
    SpecV Tryz.prog n_law_few [.agg [.int .i64 n, .sl (L.map sprAV)]] (.agg [.int .i64 (fewK n), .sl ((fewL L).map sprAV)]) := by
  have hm : Tryz.prog.follows .mixedOrders = true := by kernel_rfl
  obtain ⟨ls, hls⟩ : ∃ ls, ls = L.map sprAV := ⟨_, rfl⟩
  have hlsl : ls.length = L.length := by rw [hls, List.length_map]
  rw [← hls]
  have main : ∀ (e : Nat → AV), e 1 = .ptr 0 0 → e 2 = .ptr 1 0 → e 3 = .int .i64 (mostL L : Int) → e 4 = .ptr 2 0 →
      T Tryz.prog 54 0 (.seq (.seq (.rg false claw_few_r8) (.block 0 (.loop claw_few_L1))) (.seq (.rg false claw_few_r13) .ret)) ⟨e, [.cells [.int .i64 n, .sl ls], .cells [.int .i64 0, .nils], .cells [.int .i64 (fewK n), .nils]]⟩
        (retQ [.cell 2 (some 2)] (.agg [.int .i64 (fewK n), .sl ((fewL L).map sprAV)])) := fun e h1 h2 h3 h4 => by
    refine T_le (Le_trans (Le_cells (b := 2) (l' := [.int .i64 (fewK n), .osl (some 3) 3 0 0]) rfl rfl (fun j x y hx hy => ?_)) Le_pad) ?_
    · match j, hx, hy with
      | 0, hx, hy => simp at hx hy; subst hx; subst hy; exact .inl rfl
      | 1, hx, hy => simp at hx hy; subst hx; subst hy; exact .inr ⟨rfl, _, _, _, rfl⟩
      | j + 2, hx, hy => simp at hx
    refine T_W ?_
    simp only [go_sem, claw_few_r8]
    refine T_keep [(1, .ptr 0 0), (2, .ptr 1 0), (3, .int .i64 (mostL L : Int)), (4, .ptr 2 0), (5, .int .i64 0)] (by simp only [go_sem, h1, h2, h3, h4]) ?_
    refine lfew_L1 hls (fun e k2 k4 => ?_)
    simp only [go_sem, claw_few_r13, k2, k4]
    exact bv_sprs rfl (by simp [allOf])
  refine specV_T ok_law_few (by simp) (T_cut 4 rfl ?_)
  unfold claw_few
  by_cases h40 : 40 < L.length
  · have q1 : (40 : Int) < (L.length : Int) := by omega
    have hmo : (mostL L : Int) = 41 := by unfold mostL; rw [if_pos h40]; rfl
    rw [hmo] at main
    by_cases h6 : 6 < n
    · by_cases h10 : n ≤ 10
      · have hk : fewK n = 6 := by unfold fewK; rw [if_pos ⟨h6, h10⟩]
        rw [hk] at main ⊢
        simp only [go_sem, claw_few_r1, claw_few_r2, claw_few_r3, claw_few_r4, claw_few_r5, claw_few_r6, claw_few_r7, hlsl, q1, h6, h10]
        exact main _ (by simp only [go_sem]) (by simp only [go_sem]) (by simp only [go_sem]) (by simp only [go_sem])
      · have hk : fewK n = n := by unfold fewK; rw [if_neg (fun h => h10 h.2)]
        rw [hk] at main ⊢
        simp only [go_sem, claw_few_r1, claw_few_r2, claw_few_r3, claw_few_r4, claw_few_r5, claw_few_r6, hlsl, q1, h6, h10]
        exact main _ (by simp only [go_sem]) (by simp only [go_sem]) (by simp only [go_sem]) (by simp only [go_sem])
    · have hk : fewK n = n := by unfold fewK; rw [if_neg (fun h => h6 h.1)]
      rw [hk] at main ⊢
      simp only [go_sem, claw_few_r1, claw_few_r2, claw_few_r3, claw_few_r4, claw_few_r5, claw_few_r6, hlsl, q1, h6]
      exact main _ (by simp only [go_sem]) (by simp only [go_sem]) (by simp only [go_sem]) (by simp only [go_sem])
  · have q1 : ¬ (40 : Int) < (L.length : Int) := by omega
    have hmo : (mostL L : Int) = 9 := by unfold mostL; rw [if_neg h40]; rfl
    rw [hmo] at main
    by_cases h6 : 6 < n
    · by_cases h10 : n ≤ 10
      · have hk : fewK n = 6 := by unfold fewK; rw [if_pos ⟨h6, h10⟩]
        rw [hk] at main ⊢
        simp only [go_sem, claw_few_r1, claw_few_r2, claw_few_r3, claw_few_r5, claw_few_r6, claw_few_r7, hlsl, q1, h6, h10]
        exact main _ (by simp only [go_sem]) (by simp only [go_sem]) (by simp only [go_sem]) (by simp only [go_sem])
      · have hk : fewK n = n := by unfold fewK; rw [if_neg (fun h => h10 h.2)]
        rw [hk] at main ⊢
        simp only [go_sem, claw_few_r1, claw_few_r2, claw_few_r3, claw_few_r5, claw_few_r6, hlsl, q1, h6, h10]
        exact main _ (by simp only [go_sem]) (by simp only [go_sem]) (by simp only [go_sem]) (by simp only [go_sem])
    · have hk : fewK n = n := by unfold fewK; rw [if_neg (fun h => h6 h.1)]
      rw [hk] at main ⊢
      simp only [go_sem, claw_few_r1, claw_few_r2, claw_few_r3, claw_few_r5, claw_few_r6, hlsl, q1, h6]
      exact main _ (by simp only [go_sem]) (by simp only [go_sem]) (by simp only [go_sem]) (by simp only [go_sem])
def lightB (L : List Spr) : Bool := (L.all fun s => decide (s.2.2.length ≤ 6)) && decide (L.length ≤ 9)
theorem llight {n : Int} {L : List Spr} (hL : L.length ≤ 1000000000) (hl : ∀ s, s ∈ L → s.2.2.length ≤ 1000000000) :
    SpecV Tryz.prog n_law_light [.agg [.int .i64 n, .sl (L.map sprAV)]] (.bool (lightB L)) := by
  obtain ⟨ls, hls⟩ : ∃ ls, ls = L.map sprAV := ⟨_, rfl⟩
  have hlsl : ls.length = L.length := by rw [hls, List.length_map]
  rw [← hls]
  refine specV_W ok_law_light (by simp) ?_
  unfold claw_light
  simp only [go_sem, claw_light_r1, claw_light_r2]
  refine T_rounds (fun i : Nat => ⟨envL [(1, .ptr 0 0), (3, .int .i64 (i : Int))], [.cells [.int .i64 n, .sl ls]]⟩) (fun i => i ≤ L.length ∧ ((L.take i).all fun s => decide (s.2.2.length ≤ 6)) = true) (fun i => L.length - i) 0 ⟨by omega, by simp⟩ (Le_keep _ (by simp only [go_sem]; simp)) (fun i hI N hN => ?_)
  obtain ⟨h1, h2⟩ := hI
  unfold claw_light_L1
  by_cases hi : i < L.length
  · obtain ⟨⟨a, b, l⟩, he⟩ : ∃ s : Spr, L[i]? = some s := ⟨_, List.getElem?_eq_getElem hi⟩
    have hll := hl _ (List.mem_of_getElem? he)
    simp only at hll
    have hlsi : ls[i]? = some (.agg [.int .i64 a, .int .i64 b, .str (bs l)]) := by
      rw [hls, List.getElem?_map, he]; rfl
    have q0 : (0 : Int) ≤ (i : Int) := by omega
    have q1 : (i : Int) < (L.length : Int) := by omega
    have e1 : IntKind.i64.wrap ((i : Int) + 1) = ((i + 1 : Nat) : Int) := by rw [i64_id (by omega) (by omega)]; omega
    by_cases h6 : l.length ≤ 6
    · have q2 : ¬ (6 : Int) < (l.length : Int) := by omega
      simp only [go_sem, claw_light_r3, claw_light_r4, claw_light_r6, hlsl, q0, q1, hlsi, bs_size, q2, e1]
      exact hN (i + 1) _ ⟨by omega, by rw [List.take_add_one, he]; simp only [Option.toList_some, List.all_append, h2]; simp [h6]⟩ (by omega) (Le_keep _ (by simp only [go_sem]))
    · have q2 : (6 : Int) < (l.length : Int) := by omega
      have hf : lightB L = false := by
        unfold lightB
        rw [Bool.and_eq_false_iff]
        refine .inl (Bool.eq_false_iff.2 fun h => ?_)
        have := List.all_eq_true.1 h _ (List.mem_of_getElem? he)
        simp only [decide_eq_true_eq] at this
        exact h6 this
      rw [hf]
      simp only [go_sem, claw_light_r3, claw_light_r4, claw_light_r5, hlsl, q0, q1, hlsi, bs_size, q2]
  · have hie : i = L.length := by omega
    subst hie
    have q1 : ¬ ((L.length : Nat) : Int) < (L.length : Int) := by omega
    rw [List.take_length] at h2
    unfold lightB
    rw [h2]
    by_cases h9 : L.length ≤ 9
    · have q2 : (L.length : Int) ≤ 9 := by omega
      have hd : decide (L.length ≤ 9) = true := decide_eq_true h9
      simp only [go_sem, claw_light_r3, claw_light_r7, hlsl, q1, q2, hd, Bool.true_and]
    · have q2 : ¬ (L.length : Int) ≤ 9 := by omega
      have hd : decide (L.length ≤ 9) = false := decide_eq_false h9
      simp only [go_sem, claw_light_r3, claw_light_r7, hlsl, q1, q2, hd, Bool.true_and]
end GoAbs
namespace GoAbs
open Go Go.Proofs
def L3 : List Spr := [(0, 1, [49]), (1, 2, [49]), (0, 2, [49])]
def E3 : List Sp := [(0, 1, 1), (1, 2, 1), (0, 2, 1)]
theorem parse_one : parseL [49] = some 1 := by decide +kernel
theorem E3_eq : L3.map toE = E3 := by
  simp [L3, E3, toE, parse_one]
theorem lapl3 : lapl 2 E3 = [[2, -1], [-1, 2]] := by decide +kernel
theorem unit3 : (unitF 3 0 1).drop 1 = [-1, 0] := by decide +kernel
theorem aug3 : aug (lapl 2 E3) ((unitF 3 0 1).drop 1) = [[2, -1, -1], [-1, 2, 0]] := by rw [lapl3, unit3]; rfl
theorem tri3 : (tri 2 0 [[2, -1, -1], [-1, 2, 0]] 1).2 = [[2, -1, -1], [0, 3/2, -1/2]] := by decide +kernel
theorem bsub3 : bsub [[2, -1, -1], [0, 3/2, -1/2]] 2 2 = [-2/3, -1/3] := by decide +kernel
theorem fsum3 : Fsum 3 id 2 E3 = 3 := by decide +kernel
theorem conn3 : connB 3 E3 = true := by decide +kernel
theorem nums3 : numS 3 = [51] := by decide +kernel
theorem nums32 : numS (3/2) = [51, 47, 50] := by decide +kernel
theorem read3 : readR 3 L3 = .tup [.agg (netC 3 E3), .int .i64 0] := by
  have h1 : (L3.all fun s => (parseL s.2.2).isSome) = true := by simp [L3, parse_one]
  have h2 : (decide (2 ≤ (3 : Int) ∧ (3 : Int) ≤ 10 ∧ L3.length ≤ 40) && L3.all (sprOk 3)) = true := by decide +kernel
  unfold readR
  rw [h1, h2, E3_eq]
  rfl
theorem len3 : ∀ s, s ∈ L3 → s.2.2.length ≤ 1000000000 := fun s hs => by
  simp [L3] at hs
  rcases hs with rfl | rfl | rfl <;> simp
theorem ok3 : NetOk 3 E3 := by
  refine ⟨by omega, fun e he => ?_⟩
  simp only [E3, List.mem_cons, List.not_mem_nil, or_false] at he
  have hf : Fitd 20 (1 : Rat) := by decide +kernel
  rcases he with rfl | rfl | rfl
  · exact ⟨by decide, by decide, by decide, by decide, hf⟩
  · exact ⟨by decide, by decide, by decide, by decide, hf⟩
  · exact ⟨by decide, by decide, by decide, by decide, hf⟩
theorem lives_trees : SpecV Tryz.prog n_spring_Trees [.int .i64 3, .sl (L3.map sprAV)] (.tup [.str (bs [51]), .int .i64 0]) := by
  have h := treesQ_spec (n := 3) (L := L3) (by decide) (by omega) len3 (by rw [E3_eq]; exact read3) (by rw [E3_eq]; exact ok3)
  rw [E3_eq] at h
  have hF : Fsum (3 : Int).toNat id ((3 : Int).toNat - 1) E3 = 3 := fsum3
  rw [hF, if_pos (by decide +kernel), nums3] at h
  exact h
theorem qb_small {q : Rat} (h : q.num.natAbs < 1048576 ∧ q.den < 1048576) : Qb 20 q := ⟨h.1, h.2⟩
theorem move3 : SpecV Tryz.prog n_net_move [.agg (netC 3 E3), .sl (condsR (unitF 3 0 1))] (.sl (condsR [0, -2/3, -1/3])) := by
  have h := move_spec (m := 2) (k := 20) (a := 20) (E := E3) (f := unitF 3 0 1) (by omega) (by omega) (kE := 67) (fun e he => ⟨(ok3.e e he).1, (ok3.e e he).2.1, (ok3.e e he).2.2.2.2.bits⟩) (by omega) (by decide) (by decide) unitF_len
    (by
      rw [aug3]
      intro r hr x hx
      simp only [List.mem_cons, List.not_mem_nil, or_false] at hr
      rcases hr with rfl | rfl <;> simp only [List.mem_cons, List.not_mem_nil, or_false] at hx <;> rcases hx with rfl | rfl | rfl <;> exact qb_small (by decide))
    (by omega) (by decide)
    (by
      rw [aug3]
      refine ⟨fun h => absurd h (by decide +kernel), fun _ => ⟨fun h => absurd h (by decide +kernel), fun _ => trivial⟩⟩)
    (by
      rw [aug3, tri3]
      intro r hr x hx
      simp only [List.mem_cons, List.not_mem_nil, or_false] at hr
      rcases hr with rfl | rfl <;> simp only [List.mem_cons, List.not_mem_nil, or_false] at hx <;> rcases hx with rfl | rfl | rfl <;> exact qb_small (by decide +kernel))
    (by
      rw [aug3, tri3]
      intro r hr
      simp only [List.mem_cons, List.not_mem_nil, or_false] at hr
      rcases hr with rfl | rfl <;> rfl)
    (by
      rw [aug3, tri3]
      intro i hi
      have : i = 0 ∨ i = 1 := by omega
      rcases this with rfl | rfl <;> decide +kernel)
    (fun k hk => by
      have : k = 0 ∨ k = 1 := by omega
      rcases this with rfl | rfl <;> decide)
  rw [aug3, tri3, bsub3] at h
  exact h
theorem lives_between : SpecV Tryz.prog n_spring_Between [.int .i64 3, .sl (L3.map sprAV), .int .i64 0, .int .i64 1] (.tup [.str (bs [51, 47, 50]), .int .i64 0]) := by
  have hl := load_ok (n := 3) (a := 0) (b := 1) (L := L3) (E := E3) (x := [0, -2/3, -1/3]) (by decide) len3 read3 (by omega) (by omega) (by omega) (by omega) (by omega) (fun e he => ⟨(ok3.e e he).1, (ok3.e e he).2.1⟩) (by decide) conn3 move3
  have h := between_ok (k := 20) hl (by decide) (by decide) (fun x hx => by
    simp only [List.mem_cons, List.not_mem_nil, or_false] at hx
    rcases hx with rfl | rfl | rfl <;> exact qb_small (by decide +kernel)) (by omega) (by omega) (by decide +kernel)
  have hv : (1 : Rat) / (rget [0, -2/3, -1/3] 0 - rget [0, -2/3, -1/3] 1) = 3/2 := by decide +kernel
  unfold numR at h
  rw [hv, if_pos (by decide +kernel), nums32] at h
  exact h
theorem llives : SpecV Tryz.prog n_law_lives [] (.bool true) := by
  refine specV_T ok_law_lives (by simp) (T_cut 1 rfl ?_)
  unfold claw_lives
  have h49 : (⟨#[49]⟩ : ByteArray) = bs [49] := rfl
  have h51 : (⟨#[51]⟩ : ByteArray) = bs [51] := rfl
  have h32 : (⟨#[51, 47, 50]⟩ : ByteArray) = bs [51, 47, 50] := rfl
  simp only [go_sem, claw_lives_r1, claw_lives_r2, h49]
  have hbv := bv_sprs (H := [.cells (L3.flatMap sC)]) (ids := [0]) (b := 0) (L := L3) rfl (by simp)
  refine T_le (Le_freeze [0] [(1, .sl (L3.map sprAV))] ⟨.inl (by simp only [go_sem]; exact hbv), trivial⟩) (T_W ?_)
  show W _ _ _ _ ⟨_, [.dead]⟩ _
  simp only [go_sem, claw_lives_r3]
  refine call_P lives_trees (by simp only [go_sem]) ?_
  simp only [go_sem, claw_lives_r4]
  refine call_P lives_between (by simp only [go_sem]) ?_
  simp only [go_sem, claw_lives_r5, h51, h32]
end GoAbs
namespace GoAbs
open Go Go.Proofs
theorem frac_id (a b d D n q : Rat) (hd : d ≠ 0) (hD : D ≠ 0) (hq : q = n / d) : a / D + q * (b / D) = (a * d + n * b) / (d * D) := by grind
theorem Fsum_size {n M : Nat} (hM : 1 ≤ M) : ∀ {l : List MSp} {k : Nat} {p : Nat → Nat}, (∀ s, s ∈ l → s.2.2.num.natAbs ≤ M ∧ s.2.2.den ≤ M) →
    ∃ N : Int, N.natAbs ≤ (2 * M) ^ l.length ∧ Fsum n p k l = Rat.divInt N ((l.map fun s => s.2.2.den).prod : Nat)
  | l, 0, p, h => by
    have hp : 0 < (l.map fun s : MSp => s.2.2.den).prod := by
      clear h
      induction l with
      | nil => decide
      | cons s l ih => rw [List.map_cons, List.prod_cons]; exact Nat.mul_pos s.2.2.den_pos ih
    have hle : (l.map fun s : MSp => s.2.2.den).prod ≤ (2 * M) ^ l.length := by
      clear hp
      induction l with
      | nil => simp
      | cons s l ih =>
        rw [List.map_cons, List.prod_cons, List.length_cons, Nat.pow_succ, Nat.mul_comm]
        have h1 := ih (fun t ht => h t (by simp [ht]))
        have h2 := (h s (by simp)).2
        exact Nat.mul_le_mul h1 (by omega)
    generalize (l.map fun s : MSp => s.2.2.den).prod = D at *
    unfold Fsum
    split
    · exact ⟨(D : Int), by rw [Int.natAbs_natCast]; exact hle, by rw [Rat.divInt_self' (by omega)]⟩
    · exact ⟨0, by simp, by rw [Rat.zero_divInt]⟩
  | [], k + 1, p, h => ⟨0, by simp, by unfold Fsum; rw [Rat.zero_divInt]⟩
  | s :: l, k + 1, p, h => by
    obtain ⟨N1, a1, e1⟩ := Fsum_size (n := n) hM (l := l) (k := k + 1) (p := p) (fun t ht => h t (by simp [ht]))
    obtain ⟨N2, a2, e2⟩ := Fsum_size (n := n) hM (l := l) (k := k) (p := mrg p (p s.1) (p s.2.1)) (fun t ht => h t (by simp [ht]))
    have hp : 0 < (l.map fun s : MSp => s.2.2.den).prod := by
      clear h e1 e2 a1 a2
      induction l with
      | nil => decide
      | cons s l ih => rw [List.map_cons, List.prod_cons]; exact Nat.mul_pos s.2.2.den_pos ih
    obtain ⟨g1, g2⟩ := h s (by simp)
    refine ⟨N1 * s.2.2.den + s.2.2.num * N2, ?_, ?_⟩
    · have h1 := Int.natAbs_add_le (N1 * s.2.2.den) (s.2.2.num * N2)
      rw [Int.natAbs_mul, Int.natAbs_mul, Int.natAbs_natCast] at h1
      have k1 : N1.natAbs * s.2.2.den ≤ (2 * M) ^ l.length * M := Nat.mul_le_mul a1 g2
      have k2 : s.2.2.num.natAbs * N2.natAbs ≤ M * (2 * M) ^ l.length := Nat.mul_le_mul g1 a2
      rw [List.length_cons, Nat.pow_succ]
      have k3 : (2 * M) ^ l.length * (2 * M) = (2 * M) ^ l.length * M + M * (2 * M) ^ l.length := by rw [Nat.mul_left_comm, Nat.two_mul, Nat.mul_comm M]
      omega
    · rw [List.map_cons, List.prod_cons]
      generalize (l.map fun s : MSp => s.2.2.den).prod = D at *
      unfold Fsum
      rw [e1, e2]
      have hd : (s.2.2.den : Int) ≠ 0 := by have := s.2.2.den_pos; omega
      have hD : (D : Int) ≠ 0 := by omega
      rw [Rat.divInt_eq_div, Rat.divInt_eq_div, Rat.divInt_eq_div]
      have c1 : ((N1 * (s.2.2.den : Int) + s.2.2.num * N2 : Int) : Rat) = (N1 : Rat) * ((s.2.2.den : Int) : Rat) + (s.2.2.num : Rat) * (N2 : Rat) := by rw [Rat.intCast_add, Rat.intCast_mul, Rat.intCast_mul]
      have c2 : (((s.2.2.den * D : Nat) : Int) : Rat) = ((s.2.2.den : Int) : Rat) * ((D : Int) : Rat) := by rw [Int.natCast_mul, Rat.intCast_mul]
      rw [c1, c2]
      have hd' : ((s.2.2.den : Int) : Rat) ≠ 0 := fun h => hd (Rat.intCast_eq_zero_iff.1 h)
      have hD' : ((D : Int) : Rat) ≠ 0 := fun h => hD (Rat.intCast_eq_zero_iff.1 h)
      have hq' : s.2.2 = (s.2.2.num : Rat) / ((s.2.2.den : Int) : Rat) := by rw [← Rat.divInt_eq_div, Rat.num_divInt_den]
      exact frac_id _ _ _ _ _ _ hd' hD' hq'
theorem six_bits {l : List UInt8} {q : Rat} (h : parseL l = some q) (hl : l.length ≤ 6) : q.num.natAbs ≤ 1000000 ∧ q.den ≤ 1000000 := by
  obtain ⟨_, h2, h3, h4⟩ := parse_text h
  have hs : (signL l).1.length ≤ 6 := by
    unfold signL
    split
    · show l.tail.length ≤ 6
      rw [List.length_tail]; omega
    · exact hl
  have hb : (befL (signL l).1).length ≤ 6 := by
    unfold befL
    exact Nat.le_trans (List.takeWhile_sublist _).length_le hs
  refine ⟨Nat.le_of_lt (decL_lt (k := 6) (by rw [h2]; exact hb)), ?_⟩
  by_cases h47 : 47 ∈ (signL l).1
  · refine Nat.le_of_lt (decL_lt (k := 6) ?_)
    rw [(h3 h47).2]
    have := bef_split h47
    have h5 := congrArg List.length this
    rw [List.length_append, List.length_cons] at h5
    omega
  · rw [h4 h47]; decide
theorem trees_size {n k : Nat} {L : List Spr} (hL : L.length ≤ 9) (h : ∀ s, s ∈ L → s.2.2.length ≤ 6 ∧ ∃ q, parseL s.2.2 = some q) :
    (Fsum n id k (L.map toE)).num.natAbs < 10 ^ 57 ∧ (Fsum n id k (L.map toE)).den < 10 ^ 57 := by
  have hs : ∀ s, s ∈ L.map toE → s.2.2.num.natAbs ≤ 1000000 ∧ s.2.2.den ≤ 1000000 := fun s hs => by
    obtain ⟨t, ht, rfl⟩ := List.mem_map.1 hs
    obtain ⟨h6, q, hq⟩ := h t ht
    have : (toE t).2.2 = q := by simp [toE, hq]
    rw [this]
    exact six_bits hq h6
  obtain ⟨N, hN, hF⟩ := Fsum_size (n := n) (M := 1000000) (by omega) (k := k) (p := id) hs
  have hD : ((L.map toE).map fun s => s.2.2.den).prod ≤ 1000000 ^ (L.map toE).length ∧ 0 < ((L.map toE).map fun s => s.2.2.den).prod := by
    clear hF hN h hL
    generalize L.map toE = E at *
    induction E with
    | nil => exact ⟨by decide, by decide⟩
    | cons s E ih =>
      obtain ⟨g1, g2⟩ := ih (fun t ht => hs t (by simp [ht]))
      rw [List.map_cons, List.prod_cons, List.length_cons, Nat.pow_succ, Nat.mul_comm]
      exact ⟨Nat.mul_le_mul g1 (hs s (by simp)).2, Nat.mul_pos g2 s.2.2.den_pos⟩
  rw [List.length_map] at hN hD
  have b1 : (2 * 1000000) ^ L.length ≤ (2 * 1000000) ^ 9 := Nat.pow_le_pow_right (by omega) hL
  have b2 : 1000000 ^ L.length ≤ 1000000 ^ 9 := Nat.pow_le_pow_right (by omega) hL
  have c1 : (2 * 1000000) ^ 9 < 10 ^ 57 := by decide
  have c2 : 1000000 ^ 9 < 10 ^ 57 := by decide
  generalize ((L.map toE).map fun s => s.2.2.den).prod = D at *
  obtain ⟨g1, g2⟩ := divInt_le (n := N) (d := (D : Int)) (by omega)
  rw [← hF] at g1 g2
  rw [Int.natAbs_natCast] at g2
  exact ⟨by omega, by omega⟩
theorem trees_ok {q : Rat} (h : q.num.natAbs < 10 ^ 57 ∧ q.den < 10 ^ 57) : NumOk q ∧ Ib 200 q.num ∧ Ib 200 (q.den : Int) := by
  have c : 10 ^ 57 < 2 ^ 200 := by decide
  refine ⟨⟨Nat.le_trans (decL_le (by omega) h.1) (by omega), .inr (Nat.le_trans (decL_le (by omega) h.2) (by omega))⟩, Nat.lt_trans h.1 c, ?_⟩
  show (q.den : Int).natAbs < _
  rw [Int.natAbs_natCast]
  exact Nat.lt_trans h.2 c
end GoAbs
namespace GoAbs
open Go Go.Proofs
theorem fewL_len {L : List Spr} : (fewL L).length = min (mostL L) L.length := by unfold fewL; rw [List.length_map, List.length_take]
theorem fewL_short {L : List Spr} : ∀ s, s ∈ fewL L → s.2.2.length ≤ 23 := fun s hs => by
  obtain ⟨t, _, rfl⟩ := List.mem_map.1 hs
  exact shortS_len
theorem read_cases (n : Int) (L : List Spr) : (∃ e : Int, e ≠ 0 ∧ checkE n L [] = e ∧ readR n L = .tup [.agg [.int .i64 0, .nils, .nils], .int .i64 e]) ∨
    (checkE n L [] = 0 ∧ readR n L = .tup [.agg (netC n.toNat (L.map toE)), .int .i64 0] ∧ 2 ≤ n ∧ n ≤ 10 ∧ L.length ≤ 40 ∧ ∀ s, s ∈ L → sprOk n s = true ∧ ∃ q, parseL s.2.2 = some q) := by
  have hn0 : numsE [] = 0 := by decide
  unfold checkE readR formsE fewN
  cases h1 : (L.all fun s => (parseL s.2.2).isSome) with
  | false => exact .inl ⟨2, by decide, by simp, by simp⟩
  | true =>
    cases h2 : (decide (2 ≤ n ∧ n ≤ 10 ∧ L.length ≤ 40) && L.all (sprOk n)) with
    | false => exact .inl ⟨1, by decide, by simp [hn0], by simp⟩
    | true =>
      obtain ⟨h3, h4⟩ := Bool.and_eq_true_iff.1 h2
      obtain ⟨g1, g2, g3⟩ := of_decide_eq_true h3
      refine .inr ⟨by simp [hn0], by simp, g1, g2, g3, fun s hs => ⟨List.all_eq_true.1 h4 s hs, ?_⟩⟩
      have := List.all_eq_true.1 h1 s hs
      exact Option.isSome_iff_exists.1 this
theorem sprOk_spec {n : Int} {s : Spr} {q : Rat} (h : sprOk n s = true) (hq : parseL s.2.2 = some q) : EndsOk n s.1 s.2.1 ∧ StiffOk q := by
  unfold sprOk at h
  rw [hq] at h
  obtain ⟨h1, h2⟩ := Bool.and_eq_true_iff.1 h
  exact ⟨of_decide_eq_true h1, of_decide_eq_true h2⟩
theorem law_trees {n : Int} {L : List Spr} : SpecV Tryz.prog n_law_SpringTrees [.agg [.int .i64 n, .sl (L.map sprAV)]] (.bool true) := by
  have hf := lfew (n := n) (L := L)
  have hk6 : 10 < fewK n ∨ fewK n ≤ 6 := by unfold fewK; split <;> omega
  have hm40 : 40 < (fewL L).length ∨ (fewL L).length ≤ 9 := by
    rw [fewL_len]; unfold mostL; split <;> omega
  have h41 : (fewL L).length ≤ 41 := by rw [fewL_len]; unfold mostL; split <;> omega
  have hsh := fewL_short (L := L)
  generalize fewK n = n' at *
  generalize fewL L = L' at *
  have hl' : ∀ s, s ∈ L' → s.2.2.length ≤ 1000000000 := fun s hs => by have := hsh s hs; omega
  have hchk := rcheck (n := n') (L := L') (M := []) (by omega) hl' (by decide) (fun s hs => by simp at hs)
  refine specV_W ok_law_SpringTrees (by simp) ?_
  unfold claw_SpringTrees
  simp only [go_sem, claw_SpringTrees_r1, claw_SpringTrees_r2]
  refine call_P hf (by simp only [go_sem]) ?_
  simp only [go_sem, claw_SpringTrees_r3]
  rcases read_cases n' L' with ⟨e, he, hce, hre⟩ | ⟨hce, hre, g1, g2, g3, hall⟩
  · refine call_P (treesE_spec (by omega) hl' hre he) (by simp only [go_sem]) ?_
    rw [hce] at hchk
    simp only [go_sem, claw_SpringTrees_r4]
    refine call_V (ids := []) hchk (by simp only [go_sem, List.map_nil]) (.inl rfl) (fun b hb => by simp at hb) ?_
    have hbs : (⟨#[]⟩ : ByteArray) = bs [] := rfl
    simp only [go_sem, claw_SpringTrees_r5, claw_SpringTrees_r6, he, hbs]
    refine call_P llives (by simp only [go_sem]) ?_
    simp only [go_sem]
  · have hn6 : n' ≤ 6 := by omega
    have hL9 : L'.length ≤ 9 := by omega
    have hnn : (n'.toNat : Int) = n' := by omega
    have hok : NetOk n'.toNat (L'.map toE) := by
      refine ⟨by omega, fun e he => ?_⟩
      obtain ⟨s, hs, rfl⟩ := List.mem_map.1 he
      obtain ⟨h1, q, hq⟩ := hall s hs
      obtain ⟨⟨k1, k2, k3, k4, k5⟩, k6, k7⟩ := sprOk_spec h1 hq
      have h3 : (toE s).2.2 = q := by simp [toE, hq]
      rw [h3]
      exact ⟨by show s.1.toNat < _; omega, by show s.2.1.toNat < _; omega, by show s.1.toNat ≠ s.2.1.toNat; omega, k6, k7⟩
    have htr := treesQ_spec (n := n') (L := L') (by omega) hn6 hl' hre hok
    rw [hce] at hchk
    have hlt := llight (n := n') (L := L') (by omega) hl'
    cases hlb : lightB L' with
    | false =>
      rw [hlb] at hlt
      obtain ⟨t, x, ht⟩ : ∃ (t : ByteArray) (x : Int), SpecV Tryz.prog n_spring_Trees [.int .i64 n', .sl (L'.map sprAV)] (.tup [.str t, .int .i64 x]) := by
        split at htr
        · exact ⟨_, _, htr⟩
        · exact ⟨_, _, htr⟩
      refine call_P ht (by simp only [go_sem]) ?_
      simp only [go_sem, claw_SpringTrees_r4]
      refine call_V (ids := []) hchk (by simp only [go_sem, List.map_nil]) (.inl rfl) (fun b hb => by simp at hb) ?_
      simp only [go_sem, claw_SpringTrees_r5, claw_SpringTrees_r7]
      refine call_P hlt (by simp only [go_sem]) ?_
      simp only [go_sem, Bool.not_false, claw_SpringTrees_r8]
      refine call_P llives (by simp only [go_sem]) ?_
      simp only [go_sem]
    | true =>
      rw [hlb] at hlt
      obtain ⟨b1, b2⟩ := Bool.and_eq_true_iff.1 hlb
      have h6 : ∀ s, s ∈ L' → s.2.2.length ≤ 6 ∧ ∃ q, parseL s.2.2 = some q := fun s hs => ⟨of_decide_eq_true (List.all_eq_true.1 b1 s hs), (hall s hs).2⟩
      obtain ⟨nok, f1, f2⟩ := trees_ok (trees_size (n := n'.toNat) (k := n'.toNat - 1) hL9 h6)
      have c20 : (1000000 : Nat) < 2 ^ 20 := by decide
      have hspr : ∀ s, s ∈ L' → SpR n'.toNat s := fun s hs => by
        obtain ⟨h1, q, hq⟩ := hall s hs
        obtain ⟨⟨k1, k2, k3, k4, k5⟩, _⟩ := sprOk_spec h1 hq
        obtain ⟨m1, m2⟩ := six_bits hq (h6 s hs).1
        exact ⟨k1, by omega, k3, by omega, hl' s hs, q, hq, Nat.lt_of_le_of_lt m1 c20, by show (q.den : Int).natAbs < _; rw [Int.natAbs_natCast]; exact Nat.lt_of_le_of_lt m2 c20⟩
      have hrt := rtrees (n := n'.toNat) (L := L') (by omega) (by omega) (by omega) hspr
      rw [hnn] at hrt
      rw [if_pos nok] at htr
      generalize Fsum n'.toNat id (n'.toNat - 1) (L'.map toE) = q at *
      have his := ris (n := q.num) (d := q.den) (k := 200) (q := q) (s := bs (numS q)) f1 f2 (by have := q.den_pos; omega) (by omega) (Rat.num_divInt_den q)
      have hdt : decide (NumOk q ∧ bs (numS q) = bs (numS q)) = true := by simp [nok]
      rw [hdt] at his
      refine call_P htr (by simp only [go_sem]) ?_
      simp only [go_sem, claw_SpringTrees_r4]
      refine call_V (ids := []) hchk (by simp only [go_sem, List.map_nil]) (.inl rfl) (fun b hb => by simp at hb) ?_
      simp only [go_sem, claw_SpringTrees_r5, claw_SpringTrees_r7]
      refine call_P hlt (by simp only [go_sem]) ?_
      simp only [go_sem, Bool.not_true, claw_SpringTrees_r9]
      refine call_P hrt (by simp only [go_sem]) ?_
      simp only [go_sem]
      refine call_P his (by simp only [go_sem, avR, bvs_rc]) ?_
      simp only [go_sem]
      refine call_P llives (by simp only [go_sem]) ?_
      simp only [go_sem]
end GoAbs
