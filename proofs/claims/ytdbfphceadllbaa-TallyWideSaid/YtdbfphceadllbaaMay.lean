/-
  The walks of both 'May's and of 'works'.
-/
import Derived.Test.YtdbfphceadllbaaMeter
namespace Go.Proofs.Ytdbfphceadllbaa
open Go.RowKit

set_option maxHeartbeats 1000000 in
theorem may_any (a b c d f : Int) (w : World) :
    Calls Try.prog 21 #[.agg #[.int .i64 a, .int .i64 b, .int .i64 c, .int .u64 d, .int .u64 f]] w fun e w' => e = .returned (.bool (mayV a b c)) ∧ w.grownBy w' none := by
  have hb := Blk.new w 40 #[.int .i64 a, .int .i64 b, .int .i64 c, .int .u64 d, .int .u64 f]
  have Y := Lib.hid (by_alloc (by_refl w none) (.cells #[.int .i64 a, .int .i64 b, .int .i64 c, .int .u64 d, .int .u64 f] 40))
  clear hb
  unfold mayV
  cases h1 : within a 64 with
  | false =>
    have H1 := Lib.hid h1
    clear h1
    go_enter Try.func21, Try.ntmps21
    go_wp2_with fail
    refine (within_any a 64 _).mono ?_
    rintro e w' ⟨rfl, rfl⟩
    rw [H1.out]
    go_wp2
    go_ret
    exact ⟨rfl, Y.out⟩
  | true =>
    have H1 := Lib.hid h1
    clear h1
    cases h2 : within b 1048576 with
    | false =>
      have H2 := Lib.hid h2
      clear h2
      go_enter Try.func21, Try.ntmps21
      go_wp2_with fail
      refine (within_any a 64 _).mono ?_
      rintro e w' ⟨rfl, rfl⟩
      rw [H1.out]
      go_wp2_with fail
      refine (within_any b 1048576 _).mono ?_
      rintro e w' ⟨rfl, rfl⟩
      rw [H2.out]
      go_wp2
      go_ret
      exact ⟨rfl, Y.out⟩
    | true =>
      have H2 := Lib.hid h2
      clear h2
      go_enter Try.func21, Try.ntmps21
      go_wp2_with fail
      refine (within_any a 64 _).mono ?_
      rintro e w' ⟨rfl, rfl⟩
      rw [H1.out]
      go_wp2_with fail
      refine (within_any b 1048576 _).mono ?_
      rintro e w' ⟨rfl, rfl⟩
      rw [H2.out]
      go_wp2_with fail
      refine (within_any c 64 _).mono ?_
      rintro e w' ⟨rfl, rfl⟩
      go_wp2
      go_ret
      exact ⟨by simp, Y.out⟩

set_option maxHeartbeats 1000000 in
theorem rmay_any (a b c d f : Int) (w : World) :
    Calls Try.prog 22 #[.agg #[.int .i64 a, .int .i64 b, .int .i64 c, .int .u64 d, .int .u64 f]] w fun e w' => e = .returned (.bool (mayV a b c)) ∧ w.grownBy w' none := by
  by_cases h0 : 0 ≤ a
  rotate_left
  · have hd0 : decide (0 ≤ a) = false := by simp; omega
    go_enter Try.func22, Try.ntmps22
    go_wp2
    go_ret
    exact ⟨ret_bool (by unfold mayV within; simp; omega), by_alloc (by_refl _ _) _⟩
  have hd0 : decide (0 ≤ a) = true := by simp; omega
  by_cases h1 : a ≤ 64
  rotate_left
  · have hd1 : decide (a ≤ 64) = false := by simp; omega
    go_enter Try.func22, Try.ntmps22
    go_wp2
    go_ret
    exact ⟨ret_bool (by unfold mayV within; simp; omega), by_alloc (by_refl _ _) _⟩
  have hd1 : decide (a ≤ 64) = true := by simp; omega
  by_cases h2 : 0 ≤ b
  rotate_left
  · have hd2 : decide (0 ≤ b) = false := by simp; omega
    go_enter Try.func22, Try.ntmps22
    go_wp2
    go_ret
    exact ⟨ret_bool (by unfold mayV within; simp; omega), by_alloc (by_refl _ _) _⟩
  have hd2 : decide (0 ≤ b) = true := by simp; omega
  by_cases h3 : b ≤ 1048576
  rotate_left
  · have hd3 : decide (b ≤ 1048576) = false := by simp; omega
    go_enter Try.func22, Try.ntmps22
    go_wp2
    go_ret
    exact ⟨ret_bool (by unfold mayV within; simp; omega), by_alloc (by_refl _ _) _⟩
  have hd3 : decide (b ≤ 1048576) = true := by simp; omega
  by_cases h4 : 0 ≤ c
  rotate_left
  · have hd4 : decide (0 ≤ c) = false := by simp; omega
    go_enter Try.func22, Try.ntmps22
    go_wp2
    go_ret
    exact ⟨ret_bool (by unfold mayV within; simp; omega), by_alloc (by_refl _ _) _⟩
  have hd4 : decide (0 ≤ c) = true := by simp; omega
  by_cases h5 : c ≤ 64
  rotate_left
  · have hd5 : decide (c ≤ 64) = false := by simp; omega
    go_enter Try.func22, Try.ntmps22
    go_wp2
    go_ret
    exact ⟨ret_bool (by unfold mayV within; simp; omega), by_alloc (by_refl _ _) _⟩
  have hd5 : decide (c ≤ 64) = true := by simp; omega
  go_enter Try.func22, Try.ntmps22
  go_wp2
  go_ret
  exact ⟨ret_bool (by unfold mayV within; simp; omega), by_alloc (by_refl _ _) _⟩

/-! ### works -/
theorem add_c (a b v e : Int) (w : World) (ha : Fit a) (hb : Fit b) (hv : sumV a b = v) (he : sumE a b = e) :
    Calls Try.prog 10 #[.int .u64 a, .int .u64 b] w fun x w' => x = .returned (.tuple #[.int .u64 v, .int .i64 e]) ∧ w.grownBy w' none := by
  rw [← hv, ← he]; exact add_any a b w ha hb
theorem mul_c (a b v e : Int) (w : World) (ha : Fit a) (hb : Fit b) (hv : mulV a b = v) (he : mulE a b = e) :
    Calls Try.prog 12 #[.int .u64 a, .int .u64 b] w fun x w' => x = .returned (.tuple #[.int .u64 v, .int .i64 e]) ∧ w.grownBy w' none := by
  rw [← hv, ← he]; exact mul_any a b w ha hb
theorem bound_c (n v : Int) (w : World) (h0 : -9223372036854775808 ≤ n) (h1 : n ≤ 9223372036854775807) (hv : boundV n = v) :
    Calls Try.prog 14 #[.int .i64 n] w fun e w' => e = .returned (.int .u64 v) ∧ w.grownBy w' none := by
  rw [← hv]; exact bound_any n w h0 h1
def ChargedC (w : World) (g : Nat) (most sum x : Int) (e : Ending) (w' : World) : Prop := e = .returned (.int .i64 x) ∧ Blk w' g 50 #[.int .u64 most, .int .u64 sum] ∧ w.grownBy w' (some g)
theorem charge_c (g : Nat) (most sum n x s' : Int) (w : World) (hb : Blk w g 50 #[.int .u64 most, .int .u64 sum]) (h0 : 0 ≤ sum) (h1 : sum ≤ most) (h2 : most ≤ 18446744073709551615) (hn : Fit n)
    (hx : chE most sum n = x) (hs : chS most sum n = s') :
    Calls Try.prog 18 #[.pointer (some ⟨g, 0, none⟩), .int .u64 n] w (ChargedC w g most s' x) := by
  rw [← hx, ← hs]; exact charge_any g most sum n w hb h0 h1 h2 hn

set_option maxRecDepth 100000 in
set_option maxHeartbeats 2000000 in
theorem works_walk (w : World) : Calls Try.prog 16 #[] w fun e w' => e = .returned (.bool true) ∧ w.grownBy w' none := by
  go_enter Try.func16, Try.ntmps16
  go_wp2_with fail
  refine (add_c 18446744073709551615 1 0 9 w ⟨by decide, by decide⟩ ⟨by decide, by decide⟩ (by decide) (by decide)).mono ?_
  rintro e w1 ⟨rfl, y1⟩
  have Y1 := Lib.hid y1
  clear y1
  go_wp2_with fail
  refine (add_c 9223372036854775808 9223372036854775807 18446744073709551615 0 w1 ⟨by decide, by decide⟩ ⟨by decide, by decide⟩ (by decide) (by decide)).mono ?_
  rintro e w2 ⟨rfl, y2⟩
  have Y2 := Lib.hid (by_trans Y1.out y2 (fun x hx => by cases hx))
  clear y2 Y1
  go_wp2_with fail
  refine (mul_c 4294967296 4294967296 0 9 w2 ⟨by decide, by decide⟩ ⟨by decide, by decide⟩ (by decide) (by decide)).mono ?_
  rintro e w3 ⟨rfl, y3⟩
  have Y3 := Lib.hid (by_trans Y2.out y3 (fun x hx => by cases hx))
  clear y3 Y2
  go_wp2_with fail
  refine (mul_c 4294967296 4294967295 18446744069414584320 0 w3 ⟨by decide, by decide⟩ ⟨by decide, by decide⟩ (by decide) (by decide)).mono ?_
  rintro e w4 ⟨rfl, y4⟩
  have Y4 := Lib.hid (by_trans Y3.out y4 (fun x hx => by cases hx))
  clear y4 Y3
  go_wp2_with fail
  refine (mul_c 0 5 0 0 w4 ⟨by decide, by decide⟩ ⟨by decide, by decide⟩ (by decide) (by decide)).mono ?_
  rintro e w5 ⟨rfl, y5⟩
  have Y5 := Lib.hid (by_trans Y4.out y5 (fun x hx => by cases hx))
  clear y5 Y4
  go_wp2_with fail
  refine (new_any 10 w5).mono ?_
  rintro e w6 ⟨g, rfl, b6, y6, l6⟩
  have hg : w.heap.size ≤ g := by have := Y5.out.size; omega
  have Y6 := Lib.hid (by_trans Y5.out y6 (fun x hx => by cases hx))
  have B6 := Lib.hid b6
  clear y6 l6 b6 Y5
  go_wp2_with fail
  refine (charge_c g 10 0 7 0 7 w6 B6.out (by decide) (by decide) (by decide) ⟨by decide, by decide⟩ (by decide) (by decide)).mono ?_
  rintro e w7 ⟨rfl, b7, y7⟩
  have Y7 := Lib.hid (by_trans Y6.out y7 (fun x hx => .inr (by cases hx; exact hg)))
  have B7 := Lib.hid b7
  clear y7 b7 B6 Y6
  go_wp2_with fail
  refine (charge_c g 10 7 4 7 7 w7 B7.out (by decide) (by decide) (by decide) ⟨by decide, by decide⟩ (by decide) (by decide)).mono ?_
  rintro e w8 ⟨rfl, b8, y8⟩
  have Y8 := Lib.hid (by_trans Y7.out y8 (fun x hx => .inr (by cases hx; exact hg)))
  have B8 := Lib.hid b8
  clear y8 b8 B7 Y7
  go_wp2_with fail
  refine (charge_c g 10 7 3 0 10 w8 B8.out (by decide) (by decide) (by decide) ⟨by decide, by decide⟩ (by decide) (by decide)).mono ?_
  rintro e w9 ⟨rfl, b9, y9⟩
  have Y9 := Lib.hid (by_trans Y8.out y9 (fun x hx => .inr (by cases hx; exact hg)))
  have B9 := Lib.hid b9
  clear y9 b9 B8 Y8
  go_wp2_with fail
  refine (total_any g 10 10 w9 B9.out).mono ?_
  rintro e w' ⟨rfl, rfl⟩
  go_wp2_with fail
  refine (bound_c (0) 16777216 w9 (by decide) (by decide) (by decide)).mono ?_
  rintro e w10 ⟨rfl, y10⟩
  have Y10 := Lib.hid (by_trans Y9.out y10 (fun x hx => by cases hx))
  clear y10 Y9
  go_wp2_with fail
  refine (bound_c (36) 64000000 w10 (by decide) (by decide) (by decide)).mono ?_
  rintro e w11 ⟨rfl, y11⟩
  have Y11 := Lib.hid (by_trans Y10.out y11 (fun x hx => by cases hx))
  clear y11 Y10
  go_wp2_with fail
  refine (bound_c (-5) 16777216 w11 (by decide) (by decide) (by decide)).mono ?_
  rintro e w12 ⟨rfl, y12⟩
  have Y12 := Lib.hid (by_trans Y11.out y12 (fun x hx => by cases hx))
  clear y12 Y11
  go_wp2_with fail
  refine (bound_c (1099511627776) 18446744073709551615 w12 (by decide) (by decide) (by decide)).mono ?_
  rintro e w13 ⟨rfl, y13⟩
  have Y13 := Lib.hid (by_trans Y12.out y13 (fun x hx => by cases hx))
  clear y13 Y12
  go_wp2
  go_ret
  exact ⟨rfl, Y13.out⟩
end Go.Proofs.Ytdbfphceadllbaa
