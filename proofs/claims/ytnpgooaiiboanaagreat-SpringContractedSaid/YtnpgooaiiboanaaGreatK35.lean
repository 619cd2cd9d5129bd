/- Lemmas for the claim (contracts of the functions that it reaches, and what they compute), without conditions. -/
import Derived.Test.YtnpgooaiiboanaaGreatK34
set_option linter.unusedVariables false
set_option linter.unusedSimpArgs false
set_option maxRecDepth 10000
set_option maxHeartbeats 2000000
namespace GoAbs
open Go Go.Proofs
theorem cross {q : Rat} {n d : Int} (hd : d ≠ 0) (h : q = Rat.divInt n d) : q.num * d = n * q.den := by
  have h1 := Rat.num_divInt_den q
  have hq : (q.den : Int) ≠ 0 := by have := q.den_pos; omega
  rw [h] at h1
  conv at h1 => lhs; rw [← h]
  exact (Rat.divInt_eq_divInt_iff hq hd).1 h1
theorem law_contracted {b : Int} {X : List Spr} {p : List Int} (h0 : 0 ≤ b) (h1 : b ≤ 255) : SpecV Tryz.prog n_law_SpringContracted [.int .u8 b, .sl (X.map sprAV), .sl (ivs p)] (.bool true) := by
  have hm : Tryz.prog.follows .mixedOrders = true := by kernel_rfl
  have hmk := lmade (X := X) (p := p) h0 h1
  obtain ⟨_, n2, n6⟩ := madeN_spec b
  obtain ⟨hnet, hne⟩ := made_net (X := X) (p := p) n2 n6
  generalize madeN b = n at *
  generalize madeL n X p = M at *
  obtain ⟨L, s, rfl⟩ : ∃ L s, M = L ++ [s] := by
    have : M ≠ [] := fun e => by rw [e] at hne; simp at hne
    exact ⟨M.dropLast, M.getLast this, (List.dropLast_concat_getLast this).symm⟩
  obtain ⟨⟨k1, k2, k3, k4, k5⟩, q, hq, hq0, hq1, hq2, hlen⟩ := hnet.ok s (by simp)
  have hLn : NetL n L := hnet.sub (by simp) (fun t ht => by simp [ht])
  obtain ⟨x, hx⟩ : ∃ x : Nat, s.1 = x := ⟨s.1.toNat, by omega⟩
  obtain ⟨y, hy⟩ : ∃ y : Nat, s.2.1 = y := ⟨s.2.1.toNat, by omega⟩
  have hxt : s.1.toNat = x := by omega
  have hyt : s.2.1.toNat = y := by omega
  have hlh : min x y < max x y := by omega
  have hhn : max x y < n := by omega
  have hone := one_net hnet hlh hhn
  have hmath := trees_last n2 hnet hq
  rw [hxt, hyt] at hmath
  have hl1 : L.length ≤ 1000 := by have := hLn.len; omega
  have t1 := ltrees hnet (by omega) n6 (fun e => by omega)
  have t2 := ltrees hLn (by omega) n6 (fun e => by omega)
  have t3 := ltrees hone (by omega) (by omega) (fun e => by
    have hn2 : n = 2 := by omega
    have lo : min x y = 0 := by omega
    have hi : max x y = 1 := by omega
    rw [lo, hi]
    have : ∀ t, t ∈ L ++ [s] → one1 0 1 t = [] := fun t ht => by
      obtain ⟨⟨a1, a2, a3, a4, a5⟩, _⟩ := hnet.ok t ht
      unfold one1
      have : t.1.toNat < 2 ∧ t.2.1.toNat < 2 := by omega
      rw [if_pos]
      unfold oneN; (repeat' split) <;> omega
    exact List.flatMap_eq_nil_iff.2 this)
  have w2 := lwithout (n := (n : Int)) (i := L.length) (L := L ++ [s]) (by simp) (by simp; omega)
  have htake : (L ++ [s]).take L.length ++ (L ++ [s]).drop (L.length + 1) = L := by simp
  rw [htake] at w2
  have w3 := lmerged (n := n) (a := x) (b := y) (L := L ++ [s]) (by simp; omega) (by omega) (by omega) (fun t ht => (hnet.ok t ht).1)
  have hof := rof (l := s.2.2) (by omega) hq
  obtain ⟨_, z1, z2⟩ := size_ok (q := treesF n (L ++ [s])) hnet.size
  obtain ⟨_, z3, z4⟩ := size_ok (q := treesF n L) hLn.size
  obtain ⟨_, z5, z6⟩ := size_ok (q := treesF (n - 1) (oneS (min x y) (max x y) (L ++ [s]))) hone.size
  generalize treesF n (L ++ [s]) = qa at *
  generalize treesF n L = qs at *
  generalize treesF (n - 1) (oneS (min x y) (max x y) (L ++ [s])) = qo at *
  have c20 : (1000000 : Nat) < 2 ^ 20 := by decide
  have i1 : Ib 20 q.num := Nat.lt_of_le_of_lt hq1 c20
  have i2 : Ib 20 (q.den : Int) := by show (q.den : Int).natAbs < _; rw [Int.natAbs_natCast]; exact Nat.lt_of_le_of_lt hq2 c20
  have hmul := rmulq (n1 := q.num) (d1 := q.den) (n2 := qo.num) (d2 := qo.den) (k := 900) (i1.mono (by omega)) (i2.mono (by omega)) z5 z6 (by omega)
  have j1 : Ib 920 (q.num * qo.num) := (i1.mul z5).mono (by omega)
  have j2 : Ib 920 ((q.den : Int) * qo.den) := (i2.mul z6).mono (by omega)
  have hadd := raddq (n1 := qs.num) (d1 := qs.den) (n2 := q.num * qo.num) (d2 := (q.den : Int) * qo.den) (k := 920) (z3.mono (by omega)) (z4.mono (by omega)) j1 j2 (by omega)
  have j3 : Ib 2000 (qs.num * ((q.den : Int) * qo.den) + q.num * qo.num * qs.den) := (Ib.add (k := 1820) ((z3.mul j2).mono (by omega)) ((j1.mul z4).mono (by omega))).mono (by omega)
  have j4 : Ib 2000 ((qs.den : Int) * ((q.den : Int) * qo.den)) := (z4.mul j2).mono (by omega)
  have hcmp := rcmpq (n1 := qa.num) (d1 := qa.den) (n2 := qs.num * ((q.den : Int) * qo.den) + q.num * qo.num * qs.den) (d2 := (qs.den : Int) * ((q.den : Int) * qo.den)) (k := 2000) (z1.mono (by omega)) (z2.mono (by omega)) j3 j4 (by omega)
  have hqd : (q.den : Int) ≠ 0 := by have := q.den_pos; omega
  have hod : (qo.den : Int) ≠ 0 := by have := qo.den_pos; omega
  have hsd : (qs.den : Int) ≠ 0 := by have := qs.den_pos; omega
  have hprod : (q.den : Int) * qo.den ≠ 0 := Int.mul_ne_zero hqd hod
  have hval : qa = Rat.divInt (qs.num * ((q.den : Int) * qo.den) + q.num * qo.num * qs.den) ((qs.den : Int) * ((q.den : Int) * qo.den)) := by
    rw [q_add (q := qs) (w := q * qo) hprod (by rw [← Rat.divInt_mul_divInt, Rat.num_divInt_den, Rat.num_divInt_den]), hmath]
  have hx0 := cross (Int.mul_ne_zero hsd hprod) hval
  rw [if_pos hx0] at hcmp
  have hlsl : ((L ++ [s]).map sprAV).length = L.length + 1 := by simp
  have hlast : ((L ++ [s]).map sprAV)[L.length]? = some (.agg (sC s)) := by rw [List.getElem?_map]; simp [sprAV_agg]
  have hsC : sC s = [.int .i64 (x : Int), .int .i64 (y : Int), .str (bs s.2.2)] := by unfold sC; rw [hx, hy]
  have e1 : IntKind.i64.wrap (((L.length + 1 : Nat) : Int) - 1) = (L.length : Int) := by rw [i64_id (by omega) (by omega)]; omega
  have p0 : (0 : Int) ≤ (L.length : Int) := by omega
  rw [hsC] at hlast
  generalize (L ++ [s]).map sprAV = ls at *
  refine specV_W ok_law_SpringContracted (by simp) ?_
  unfold claw_SpringContracted
  simp only [go_sem, claw_SpringContracted_r1, claw_SpringContracted_r2]
  refine call_P hmk (by simp only [go_sem]) ?_
  simp only [go_sem, claw_SpringContracted_r3, claw_SpringContracted_r4, claw_SpringContracted_r5, hlsl, e1, p0, hlast]
  refine call_P t1 (by simp only [go_sem]) ?_
  simp only [go_sem, qR, avR, rc_len, rc_drop, claw_SpringContracted_r6]
  refine call_P w2 (by simp only [go_sem]) ?_
  simp only [go_sem]
  refine call_P t2 (by simp only [go_sem]) ?_
  simp only [go_sem, qR, avR, rc_len, rc_drop, claw_SpringContracted_r7]
  refine call_P w3 (by simp only [go_sem]) ?_
  simp only [go_sem]
  refine call_P t3 (by simp only [go_sem]) ?_
  simp only [go_sem, qR, avR, rc_len, rc_drop]
  simp only [go_sem, rc_len, rc_drop, rc_take, claw_SpringContracted_r8, hm]
  refine call_P hof (by simp only [go_sem]) ?_
  simp only [go_sem, rc_len, rc_take]
  refine call_P hmul (by simp only [go_sem, avR, bvs_rc]) ?_
  simp only [go_sem]
  refine call_P hadd (by simp only [go_sem, avR, bvs_rc]) ?_
  simp only [go_sem]
  refine call_P hcmp (by simp only [go_sem, avR, bvs_rc]) ?_
  simp only [go_sem]
  refine call_P llives (by simp only [go_sem]) ?_
  simp only [go_sem]
end GoAbs
