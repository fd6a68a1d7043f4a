/-
  The walks of Add and Mul, the program's and the reference's.
-/
import Derived.Test.YtdbfphceadllbaaBase
import Derived.Deep.LoopGhost
import Derived.BigQuiet
import Derived.Deep.QuietTactic
namespace Go.Proofs.Ytdbfphceadllbaa
open Go.RowKit

theorem ret_bool {a b : Bool} (h : a = b) : Ending.returned (.bool a) = .returned (.bool b) := by rw [h]
theorem ret_u64 {a b : Int} (h : a = b) : Ending.returned (.int .u64 a) = .returned (.int .u64 b) := by rw [h]

set_option maxHeartbeats 400000 in
theorem add_is_yes (ba bb a b : Nat) (w : World) (h1 : w.cell? ⟨bb, 0, none⟩ = some (.int .u64 (b : Int))) (h2 : w.cell? ⟨ba, 0, none⟩ = some (.int .u64 (a : Int))) (ha : a ≤ 18446744073709551615) (hb : b ≤ 18446744073709551615) (hc : a + b ≤ 18446744073709551615) :
    Calls Try.prog 26 #[.pointer (some ⟨bb, 0, none⟩), .pointer (some ⟨ba, 0, none⟩)] w fun e w' => e = .returned (.bool true) ∧ w = w' := by
  have hd : decide ((b : Int) ≤ 18446744073709551615 - (a : Int)) = true := by simp; omega
  clear hc
  go_enter Try.func26, Try.ntmps26
  go_wp2
  go_ret
  exact ⟨rfl, rfl⟩

set_option maxHeartbeats 400000 in
theorem add_is_no (ba bb a b : Nat) (w : World) (h1 : w.cell? ⟨bb, 0, none⟩ = some (.int .u64 (b : Int))) (h2 : w.cell? ⟨ba, 0, none⟩ = some (.int .u64 (a : Int))) (ha : a ≤ 18446744073709551615) (hb : b ≤ 18446744073709551615) (hc : ¬ a + b ≤ 18446744073709551615) :
    Calls Try.prog 26 #[.pointer (some ⟨bb, 0, none⟩), .pointer (some ⟨ba, 0, none⟩)] w fun e w' => e = .returned (.bool false) ∧ w = w' := by
  have hd : decide ((b : Int) ≤ 18446744073709551615 - (a : Int)) = false := by simp; omega
  clear hc
  go_enter Try.func26, Try.ntmps26
  go_wp2
  go_ret
  exact ⟨rfl, rfl⟩

set_option maxHeartbeats 400000 in
theorem add_do (ba bb a b : Nat) (w : World) (h1 : w.cell? ⟨bb, 0, none⟩ = some (.int .u64 (b : Int))) (h2 : w.cell? ⟨ba, 0, none⟩ = some (.int .u64 (a : Int))) (ha : a ≤ 18446744073709551615) (hb : b ≤ 18446744073709551615) (hc : a + b ≤ 18446744073709551615) :
    Calls Try.prog 27 #[.pointer (some ⟨ba, 0, none⟩), .pointer (some ⟨bb, 0, none⟩)] w fun e w' => e = .returned (.int .u64 ((a : Int) + (b : Int))) ∧ w = w' := by
  go_enter Try.func27, Try.ntmps27
  go_wp2
  go_ret
  exact ⟨rfl, rfl⟩

theorem quo_yes (a b : Nat) (hp : 1 ≤ a) (hc : a * b ≤ 18446744073709551615) : decide ((b : Int) ≤ 18446744073709551615 / (a : Int)) = true := by
  have h : b ≤ 18446744073709551615 / a := (Nat.le_div_iff_mul_le hp).2 (by rw [Nat.mul_comm]; exact hc)
  have e : (((18446744073709551615 / a : Nat)) : Int) = 18446744073709551615 / (a : Int) := Int.natCast_ediv _ _
  rw [← e]
  simp only [decide_eq_true_eq]
  omega
theorem quo_no (a b : Nat) (hp : 1 ≤ a) (hc : ¬ a * b ≤ 18446744073709551615) : decide ((b : Int) ≤ 18446744073709551615 / (a : Int)) = false := by
  have h : ¬ b ≤ 18446744073709551615 / a := fun hh => hc (by have := (Nat.le_div_iff_mul_le hp).1 hh; rw [Nat.mul_comm]; exact this)
  have e : (((18446744073709551615 / a : Nat)) : Int) = 18446744073709551615 / (a : Int) := Int.natCast_ediv _ _
  rw [← e]
  simp only [decide_eq_false_iff_not]
  omega

set_option maxHeartbeats 400000 in
theorem mul_is_yes (ba bb a b : Nat) (w : World) (h1 : w.cell? ⟨bb, 0, none⟩ = some (.int .u64 (b : Int))) (h2 : w.cell? ⟨ba, 0, none⟩ = some (.int .u64 (a : Int))) (ha : a ≤ 18446744073709551615) (hb : b ≤ 18446744073709551615) (hp : 1 ≤ a) (hc : a * b ≤ 18446744073709551615) :
    Calls Try.prog 28 #[.pointer (some ⟨bb, 0, none⟩), .pointer (some ⟨ba, 0, none⟩)] w fun e w' => e = .returned (.bool true) ∧ ∃ n, w.drewN n = w' := by
  have hd : decide ((b : Int) ≤ 18446744073709551615 / (a : Int)) = true := quo_yes a b hp hc
  have hp1 : (1 : Int) ≤ (a : Int) := by omega
  clear hc
  go_enter Try.func28, Try.ntmps28
  go_wp2
  go_quiet (fail)
  go_wp2
  go_ret
  exact ⟨rfl, _, rfl⟩

set_option maxHeartbeats 400000 in
theorem mul_is_no (ba bb a b : Nat) (w : World) (h1 : w.cell? ⟨bb, 0, none⟩ = some (.int .u64 (b : Int))) (h2 : w.cell? ⟨ba, 0, none⟩ = some (.int .u64 (a : Int))) (ha : a ≤ 18446744073709551615) (hb : b ≤ 18446744073709551615) (hp : 1 ≤ a) (hc : ¬ a * b ≤ 18446744073709551615) :
    Calls Try.prog 28 #[.pointer (some ⟨bb, 0, none⟩), .pointer (some ⟨ba, 0, none⟩)] w fun e w' => e = .returned (.bool false) ∧ ∃ n, w.drewN n = w' := by
  have hd : decide ((b : Int) ≤ 18446744073709551615 / (a : Int)) = false := quo_no a b hp hc
  have hp1 : (1 : Int) ≤ (a : Int) := by omega
  clear hc
  go_enter Try.func28, Try.ntmps28
  go_wp2
  go_quiet (fail)
  go_wp2
  go_ret
  exact ⟨rfl, _, rfl⟩

set_option maxHeartbeats 400000 in
theorem mul_do (ba bb a b : Nat) (w : World) (h1 : w.cell? ⟨bb, 0, none⟩ = some (.int .u64 (b : Int))) (h2 : w.cell? ⟨ba, 0, none⟩ = some (.int .u64 (a : Int))) (ha : a ≤ 18446744073709551615) (hb : b ≤ 18446744073709551615) (hc : a * b ≤ 18446744073709551615) :
    Calls Try.prog 29 #[.pointer (some ⟨ba, 0, none⟩), .pointer (some ⟨bb, 0, none⟩)] w fun e w' => e = .returned (.int .u64 ((a : Int) * (b : Int))) ∧ w = w' := by
  have hc2 : (a : Int) * (b : Int) ≤ 18446744073709551615 := by have h := Int.natCast_mul a b; rw [← h]; omega
  have hc3 : 0 ≤ (a : Int) * (b : Int) := Int.mul_nonneg (by omega) (by omega)
  clear hc
  go_enter Try.func29, Try.ntmps29
  go_wp2
  go_ret
  exact ⟨rfl, rfl⟩

/-! ### what they answer, as plain functions of integers -/
def Top : Int := 18446744073709551615
def sumV (a b : Int) : Int := if a + b ≤ Top then a + b else 0
def sumE (a b : Int) : Int := if a + b ≤ Top then 0 else 9
def mulV (a b : Int) : Int := if a * b ≤ Top then a * b else 0
def mulE (a b : Int) : Int := if a * b ≤ Top then 0 else 9
/-- a number that fits 64 bits -/
def Fit (a : Int) : Prop := 0 ≤ a ∧ a ≤ 18446744073709551615
theorem fit_nat {a : Int} (h : Fit a) : ∃ n : Nat, a = (n : Int) ∧ n ≤ 18446744073709551615 := by
  obtain ⟨h1, h2⟩ := h
  exact ⟨a.toNat, by omega, by omega⟩
theorem two_of (x y : Int) (x' y' : Int) (h1 : x = x') (h2 : y = y') : Ending.returned (.tuple #[.int .u64 x, .int .i64 y]) = .returned (.tuple #[.int .u64 x', .int .i64 y']) := by rw [h1, h2]


set_option maxHeartbeats 400000 in
theorem add_any (a b : Int) (w : World) (ha : Fit a) (hb : Fit b) :
    Calls Try.prog 10 #[.int .u64 a, .int .u64 b] w fun e w' => e = .returned (.tuple #[.int .u64 (sumV a b), .int .i64 (sumE a b)]) ∧ w.grownBy w' none := by
  obtain ⟨a, rfl, ha'⟩ := fit_nat ha
  obtain ⟨b, rfl, hb'⟩ := fit_nat hb
  clear ha hb
  have e1 : ((a + b : Nat) : Int) = (a : Int) + (b : Int) := Int.natCast_add a b
  have hca : ∀ (x y : Int), ((w.alloc (.cells #[.int .u64 x] 22)).alloc (.cells #[.int .u64 y] 22)).cell? ⟨w.heap.size, 0, none⟩ = some (.int .u64 x) := fun x y => ((Blk.new w 22 #[.int .u64 x]).alloc _).cell 0
  have hcb : ∀ (x y : Int), ((w.alloc (.cells #[.int .u64 x] 22)).alloc (.cells #[.int .u64 y] 22)).cell? ⟨w.heap.size + 1, 0, none⟩ = some (.int .u64 y) := fun x y => by
    have h := (Blk.new (w.alloc (.cells #[.int .u64 x] 22)) 22 #[.int .u64 y]).cell 0
    have e : (w.alloc (.cells #[.int .u64 x] 22)).heap.size = w.heap.size + 1 := by simp
    rw [e] at h
    exact h
  have hfin : w.grownBy ((w.alloc (.cells #[.int .u64 (a : Int)] 22)).alloc (.cells #[.int .u64 (b : Int)] 22)) none := by_alloc (by_alloc (by_refl _ _) _) _
  have Hc := Lib.hid (And.intro (hca a b) (And.intro (hcb a b) hfin))
  clear hca hcb hfin
  by_cases hc : a + b ≤ 18446744073709551615
  · have hv : sumV a b = (a : Int) + (b : Int) := by unfold sumV Top; rw [if_pos (by omega)]
    have he : sumE a b = 0 := by unfold sumE Top; rw [if_pos (by omega)]
    have Hv := Lib.hid (And.intro hv he)
    clear hv he e1
    by_cases h0 : a = 0
    · subst h0
      go_enter Try.func10, Try.ntmps10
      go_wp2_with fail
      go_in
      go_wp2_with fail
      refine (add_do w.heap.size (w.heap.size + 1) 0 b _ Hc.out.2.1 Hc.out.1 (by omega) hb' hc).mono ?_
      rintro e w' ⟨rfl, rfl⟩
      go_wp2_with fail
      go_ret2
      exact ⟨two_of _ _ _ _ (by rw [Hv.out.1]; simp) Hv.out.2.symm, Hc.out.2.2⟩
    · have h1 : 1 ≤ a := by omega
      clear h0
      go_enter Try.func10, Try.ntmps10
      go_wp2_with fail
      go_in
      go_wp2_with fail
      refine (add_is_yes w.heap.size (w.heap.size + 1) a b _ Hc.out.2.1 Hc.out.1 ha' hb' hc).mono ?_
      rintro e w' ⟨rfl, rfl⟩
      go_wp2_with fail
      refine (add_do w.heap.size (w.heap.size + 1) a b _ Hc.out.2.1 Hc.out.1 ha' hb' hc).mono ?_
      rintro e w' ⟨rfl, rfl⟩
      go_wp2_with fail
      go_ret2
      exact ⟨two_of _ _ _ _ Hv.out.1.symm Hv.out.2.symm, Hc.out.2.2⟩
  · have hv : sumV a b = 0 := by unfold sumV Top; rw [if_neg (by omega)]
    have he : sumE a b = 9 := by unfold sumE Top; rw [if_neg (by omega)]
    have Hv := Lib.hid (And.intro hv he)
    clear hv he e1
    have h1 : 1 ≤ a := by
      rcases Nat.eq_zero_or_pos a with h | h
      · subst h
        exact absurd (show 0 + b ≤ 18446744073709551615 by simp; try omega) hc
      · exact h
    go_enter Try.func10, Try.ntmps10
    go_wp2_with fail
    go_in
    go_wp2_with fail
    refine (add_is_no w.heap.size (w.heap.size + 1) a b _ Hc.out.2.1 Hc.out.1 ha' hb' hc).mono ?_
    rintro e w' ⟨rfl, rfl⟩
    go_wp2_with fail
    go_ret2
    exact ⟨two_of _ _ _ _ Hv.out.1.symm Hv.out.2.symm, Hc.out.2.2⟩

set_option maxHeartbeats 400000 in
theorem mul_any (a b : Int) (w : World) (ha : Fit a) (hb : Fit b) :
    Calls Try.prog 12 #[.int .u64 a, .int .u64 b] w fun e w' => e = .returned (.tuple #[.int .u64 (mulV a b), .int .i64 (mulE a b)]) ∧ w.grownBy w' none := by
  obtain ⟨a, rfl, ha'⟩ := fit_nat ha
  obtain ⟨b, rfl, hb'⟩ := fit_nat hb
  clear ha hb
  have e1 : ((a * b : Nat) : Int) = (a : Int) * (b : Int) := Int.natCast_mul a b
  have hca : ∀ (x y : Int), ((w.alloc (.cells #[.int .u64 x] 22)).alloc (.cells #[.int .u64 y] 22)).cell? ⟨w.heap.size, 0, none⟩ = some (.int .u64 x) := fun x y => ((Blk.new w 22 #[.int .u64 x]).alloc _).cell 0
  have hcb : ∀ (x y : Int), ((w.alloc (.cells #[.int .u64 x] 22)).alloc (.cells #[.int .u64 y] 22)).cell? ⟨w.heap.size + 1, 0, none⟩ = some (.int .u64 y) := fun x y => by
    have h := (Blk.new (w.alloc (.cells #[.int .u64 x] 22)) 22 #[.int .u64 y]).cell 0
    have e : (w.alloc (.cells #[.int .u64 x] 22)).heap.size = w.heap.size + 1 := by simp
    rw [e] at h
    exact h
  have hfin : w.grownBy ((w.alloc (.cells #[.int .u64 (a : Int)] 22)).alloc (.cells #[.int .u64 (b : Int)] 22)) none := by_alloc (by_alloc (by_refl _ _) _) _
  have Hc := Lib.hid (And.intro (hca a b) (And.intro (hcb a b) hfin))
  clear hca hcb hfin
  by_cases hc : a * b ≤ 18446744073709551615
  · have hv : mulV a b = (a : Int) * (b : Int) := by unfold mulV Top; rw [if_pos (by omega)]
    have he : mulE a b = 0 := by unfold mulE Top; rw [if_pos (by omega)]
    have Hv := Lib.hid (And.intro hv he)
    clear hv he e1
    by_cases h0 : a = 0
    · subst h0
      go_enter Try.func12, Try.ntmps12
      go_wp2_with fail
      go_in
      go_wp2_with fail
      refine (mul_do w.heap.size (w.heap.size + 1) 0 b _ Hc.out.2.1 Hc.out.1 (by omega) hb' hc).mono ?_
      rintro e w' ⟨rfl, rfl⟩
      go_wp2_with fail
      go_ret2
      exact ⟨two_of _ _ _ _ (by rw [Hv.out.1]; simp) Hv.out.2.symm, Hc.out.2.2⟩
    · have h1 : 1 ≤ a := by omega
      clear h0
      go_enter Try.func12, Try.ntmps12
      go_wp2_with fail
      go_in
      go_wp2_with fail
      refine (mul_is_yes w.heap.size (w.heap.size + 1) a b _ Hc.out.2.1 Hc.out.1 ha' hb' h1 hc).mono ?_
      rintro e w1 ⟨rfl, n1, hw1⟩
      have hd1 : w1.cell? ⟨w.heap.size + 1, 0, none⟩ = some (.int .u64 (b : Int)) := by rw [← hw1]; exact Hc.out.2.1
      have hd2 : w1.cell? ⟨w.heap.size, 0, none⟩ = some (.int .u64 (a : Int)) := by rw [← hw1]; exact Hc.out.1
      have hy1 : w.grownBy w1 none := by rw [← hw1]; exact by_drewN Hc.out.2.2 n1
      have Hc := Lib.hid (And.intro hd2 (And.intro hd1 hy1))
      clear hw1 hd1 hd2 hy1
      go_wp2_with fail
      refine (mul_do w.heap.size (w.heap.size + 1) a b _ Hc.out.2.1 Hc.out.1 ha' hb' hc).mono ?_
      rintro e w' ⟨rfl, rfl⟩
      go_wp2_with fail
      go_ret2
      exact ⟨two_of _ _ _ _ Hv.out.1.symm Hv.out.2.symm, Hc.out.2.2⟩
  · have hv : mulV a b = 0 := by unfold mulV Top; rw [if_neg (by omega)]
    have he : mulE a b = 9 := by unfold mulE Top; rw [if_neg (by omega)]
    have Hv := Lib.hid (And.intro hv he)
    clear hv he e1
    have h1 : 1 ≤ a := by
      rcases Nat.eq_zero_or_pos a with h | h
      · subst h
        exact absurd (show 0 * b ≤ 18446744073709551615 by simp; try omega) hc
      · exact h
    go_enter Try.func12, Try.ntmps12
    go_wp2_with fail
    go_in
    go_wp2_with fail
    refine (mul_is_no w.heap.size (w.heap.size + 1) a b _ Hc.out.2.1 Hc.out.1 ha' hb' h1 hc).mono ?_
    rintro e w1 ⟨rfl, n1, hw1⟩
    have hd1 : w1.cell? ⟨w.heap.size + 1, 0, none⟩ = some (.int .u64 (b : Int)) := by rw [← hw1]; exact Hc.out.2.1
    have hd2 : w1.cell? ⟨w.heap.size, 0, none⟩ = some (.int .u64 (a : Int)) := by rw [← hw1]; exact Hc.out.1
    have hy1 : w.grownBy w1 none := by rw [← hw1]; exact by_drewN Hc.out.2.2 n1
    have Hc := Lib.hid (And.intro hd2 (And.intro hd1 hy1))
    clear hw1 hd1 hd2 hy1
    go_wp2_with fail
    go_ret2
    exact ⟨two_of _ _ _ _ Hv.out.1.symm Hv.out.2.symm, Hc.out.2.2⟩

set_option maxHeartbeats 400000 in
theorem radd_any (a b : Int) (w : World) (ha : Fit a) (hb : Fit b) :
    Calls Try.prog 11 #[.int .u64 a, .int .u64 b] w fun e w' => e = .returned (.tuple #[.int .u64 (sumV a b), .int .i64 (sumE a b)]) ∧ w = w' := by
  obtain ⟨a, rfl, ha'⟩ := fit_nat ha
  obtain ⟨b, rfl, hb'⟩ := fit_nat hb
  clear ha hb
  have e1 : ((a + b : Nat) : Int) = (a : Int) + (b : Int) := Int.natCast_add a b
  by_cases hc : a + b ≤ 18446744073709551615
  · have hv : sumV a b = (a : Int) + (b : Int) := by unfold sumV Top; rw [if_pos (by omega)]
    have he : sumE a b = 0 := by unfold sumE Top; rw [if_pos (by omega)]
    have Hv := Lib.hid (And.intro hv he)
    have hfit : 0 ≤ (a : Int) + (b : Int) := by omega
    have hfit2 : (a : Int) + (b : Int) ≤ 18446744073709551615 := by omega
    clear hv he e1
    have hd : decide (18446744073709551615 - (b : Int) < (a : Int)) = false := by simp; omega
    go_enter Try.func11, Try.ntmps11
    go_wp2
    go_ret2
    exact ⟨two_of _ _ _ _ Hv.out.1.symm Hv.out.2.symm, rfl⟩
  · have hv : sumV a b = 0 := by unfold sumV Top; rw [if_neg (by omega)]
    have he : sumE a b = 9 := by unfold sumE Top; rw [if_neg (by omega)]
    have Hv := Lib.hid (And.intro hv he)
    clear hv he e1
    have hd : decide (18446744073709551615 - (b : Int) < (a : Int)) = true := by simp; omega
    go_enter Try.func11, Try.ntmps11
    go_wp2
    go_ret2
    exact ⟨two_of _ _ _ _ Hv.out.1.symm Hv.out.2.symm, rfl⟩

set_option maxHeartbeats 400000 in
theorem rmul_any (a b : Int) (w : World) (ha : Fit a) (hb : Fit b) :
    Calls Try.prog 13 #[.int .u64 a, .int .u64 b] w fun e w' => e = .returned (.tuple #[.int .u64 (mulV a b), .int .i64 (mulE a b)]) ∧ w = w' := by
  obtain ⟨a, rfl, ha'⟩ := fit_nat ha
  obtain ⟨b, rfl, hb'⟩ := fit_nat hb
  clear ha hb
  have e1 : ((a * b : Nat) : Int) = (a : Int) * (b : Int) := Int.natCast_mul a b
  by_cases hc : a * b ≤ 18446744073709551615
  · have hv : mulV a b = (a : Int) * (b : Int) := by unfold mulV Top; rw [if_pos (by omega)]
    have he : mulE a b = 0 := by unfold mulE Top; rw [if_pos (by omega)]
    have Hv := Lib.hid (And.intro hv he)
    have hfit : 0 ≤ (a : Int) * (b : Int) := by omega
    have hfit2 : (a : Int) * (b : Int) ≤ 18446744073709551615 := by omega
    clear hv he e1
    by_cases h0 : a = 0
    · subst h0
      clear hc hfit hfit2
      go_enter Try.func13, Try.ntmps13
      go_wp2
      go_ret2
      exact ⟨two_of _ _ _ _ (by rw [Hv.out.1]; simp) Hv.out.2.symm, rfl⟩
    · have h1 : 1 ≤ a := by omega
      have h1i : (1 : Int) ≤ (a : Int) := by omega
      have hd := quo_yes a b h1 hc
      have hd2 : decide (18446744073709551615 / (a : Int) < (b : Int)) = false := by simp at hd ⊢; omega
      clear h0 hd hc
      go_enter Try.func13, Try.ntmps13
      go_wp2
      go_ret2
      exact ⟨two_of _ _ _ _ Hv.out.1.symm Hv.out.2.symm, rfl⟩
  · have hv : mulV a b = 0 := by unfold mulV Top; rw [if_neg (by omega)]
    have he : mulE a b = 9 := by unfold mulE Top; rw [if_neg (by omega)]
    have Hv := Lib.hid (And.intro hv he)
    clear hv he e1
    have h1 : 1 ≤ a := by
      rcases Nat.eq_zero_or_pos a with h | h
      · subst h
        exact absurd (show 0 * b ≤ 18446744073709551615 by simp) hc
      · exact h
    have h1i : (1 : Int) ≤ (a : Int) := by omega
    have hd := quo_no a b h1 hc
    have hd2 : decide (18446744073709551615 / (a : Int) < (b : Int)) = true := by simp at hd ⊢; omega
    clear hd hc
    go_enter Try.func13, Try.ntmps13
    go_wp2
    go_ret2
    exact ⟨two_of _ _ _ _ Hv.out.1.symm Hv.out.2.symm, rfl⟩
end Go.Proofs.Ytdbfphceadllbaa
