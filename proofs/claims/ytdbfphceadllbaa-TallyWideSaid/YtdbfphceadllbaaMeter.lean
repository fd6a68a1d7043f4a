/-
  The walks of both meters, and of May.
-/
import Derived.Test.YtdbfphceadllbaaBound
namespace Go.Proofs.Ytdbfphceadllbaa
open Go.RowKit

def chE (most sum n : Int) : Int := if sum + n ≤ most then 0 else 7
def chS (most sum n : Int) : Int := if sum + n ≤ most then sum + n else sum
theorem ret_i64 {a b : Int} (h : a = b) : Ending.returned (.int .i64 a) = .returned (.int .i64 b) := by rw [h]

def NewM (w : World) (most : Int) (e : Ending) (w' : World) : Prop :=
  ∃ g, e = .returned (.pointer (some ⟨g, 0, none⟩)) ∧ Blk w' g 50 #[.int .u64 most, .int .u64 0] ∧ w.grownBy w' none ∧ w.heap.size ≤ g
set_option maxHeartbeats 400000 in
theorem new_any (most : Int) (w : World) :
    Calls Try.prog 17 #[.int .u64 most] w (NewM w most) := by
  have hfin : NewM w most (.returned (.pointer (some ⟨w.heap.size, 0, none⟩))) (w.alloc (.cells #[.int .u64 most, .int .u64 0] 50)) := ⟨_, rfl, Blk.new _ _ _, by_alloc (by_refl _ _) _, Nat.le_refl _⟩
  have Hf := Lib.hid hfin
  clear hfin
  go_enter Try.func17, Try.ntmps17
  go_wp2
  go_ret
  exact Hf.out
set_option maxHeartbeats 400000 in
theorem total_any (g : Nat) (most sum : Int) (w : World) (hb : Blk w g 50 #[.int .u64 most, .int .u64 sum]) :
    Calls Try.prog 20 #[.pointer (some ⟨g, 0, none⟩)] w fun e w' => e = .returned (.int .u64 sum) ∧ w = w' := by
  have h1 : w.cell? ⟨g, 1, none⟩ = some (.int .u64 sum) := hb.cell 1
  go_enter Try.func20, Try.ntmps20
  go_wp2
  go_ret
  exact ⟨rfl, rfl⟩
set_option maxHeartbeats 400000 in
theorem total_nil (w : World) :
    Calls Try.prog 20 #[.pointer none] w fun e w' => e = .returned (.int .u64 0) ∧ w = w' := by
  go_enter Try.func20, Try.ntmps20
  go_wp2
  go_ret
  exact ⟨rfl, rfl⟩
set_option maxHeartbeats 400000 in
theorem charge_nil (n : Int) (w : World) :
    Calls Try.prog 18 #[.pointer none, .int .u64 n] w fun e w' => e = .returned (.int .i64 1) ∧ w = w' := by
  go_enter Try.func18, Try.ntmps18
  go_wp2
  go_ret
  exact ⟨rfl, rfl⟩

/-- What a charge comes to. -/
def Charged (w : World) (g t : Nat) (most sum n : Int) (e : Ending) (w' : World) : Prop :=
  e = .returned (.int .i64 (chE most sum n)) ∧ Blk w' g t #[.int .u64 most, .int .u64 (chS most sum n)] ∧ w.grownBy w' (some g)

set_option maxHeartbeats 400000 in
theorem charge_any (g : Nat) (most sum n : Int) (w : World) (hb : Blk w g 50 #[.int .u64 most, .int .u64 sum]) (h0 : 0 ≤ sum) (h1 : sum ≤ most) (h2 : most ≤ 18446744073709551615) (hn : Fit n) :
    Calls Try.prog 18 #[.pointer (some ⟨g, 0, none⟩), .int .u64 n] w (Charged w g 50 most sum n) := by
  have c1 : w.cell? ⟨g, 1, none⟩ = some (.int .u64 sum) := hb.cell 1
  have Hb := Lib.hid (And.intro hb hn)
  obtain ⟨hn0, hn1⟩ := hn
  clear hb
  by_cases hc : sum + n ≤ most
  · have hv : sumV sum n = sum + n := by unfold sumV Top; rw [if_pos (by omega)]
    have he : sumE sum n = 0 := by unfold sumE Top; rw [if_pos (by omega)]
    have hE : chE most sum n = 0 := by unfold chE; rw [if_pos hc]
    have hS : chS most sum n = sum + n := by unfold chS; rw [if_pos hc]
    have HH := Lib.hid (And.intro hv (And.intro he (And.intro hE hS)))
    clear hv he hE hS
    go_enter Try.func18, Try.ntmps18
    go_wp2_with fail
    refine (add_any sum n w ⟨h0, by omega⟩ Hb.out.2).mono ?_
    rintro e w1 ⟨rfl, y1⟩
    rw [HH.out.1, HH.out.2.1]
    have hb1 := Hb.out.1.grown y1 (by simp)
    have d0 : w1.cell? ⟨g, 0, none⟩ = some (.int .u64 most) := hb1.cell 0
    have d1 : w1.cell? ⟨g, 1, none⟩ = some (.int .u64 sum) := hb1.cell 1
    have f1 : w1.frozen? ⟨g, 1, none⟩ = false := hb1.frozen 1
    have hfin : Charged w g 50 most sum n (.returned (.int .i64 0)) (w1.setCell ⟨g, 1, none⟩ (.int .u64 (sum + n))) :=
      ⟨by rw [HH.out.2.2.1], by rw [HH.out.2.2.2]; exact hb1.set_ 1 _, by_set (by_of_none y1 _) (.inl rfl) _⟩
    have Hfin := Lib.hid hfin
    clear hfin hb1 y1
    go_wp2
    go_ret
    exact Hfin.out
  · have hE : chE most sum n = 7 := by unfold chE; rw [if_neg hc]
    have hS : chS most sum n = sum := by unfold chS; rw [if_neg hc]
    by_cases hc2 : sum + n ≤ 18446744073709551615
    · have hv : sumV sum n = sum + n := by unfold sumV Top; rw [if_pos hc2]
      have he : sumE sum n = 0 := by unfold sumE Top; rw [if_pos hc2]
      have HH := Lib.hid (And.intro hv (And.intro he (And.intro hE hS)))
      clear hv he hE hS
      go_enter Try.func18, Try.ntmps18
      go_wp2_with fail
      refine (add_any sum n w ⟨h0, by omega⟩ Hb.out.2).mono ?_
      rintro e w1 ⟨rfl, y1⟩
      rw [HH.out.1, HH.out.2.1]
      have hb1 := Hb.out.1.grown y1 (by simp)
      have d0 : w1.cell? ⟨g, 0, none⟩ = some (.int .u64 most) := hb1.cell 0
      have d1 : w1.cell? ⟨g, 1, none⟩ = some (.int .u64 sum) := hb1.cell 1
      have hfin : Charged w g 50 most sum n (.returned (.int .i64 7)) w1 := ⟨by rw [HH.out.2.2.1], by rw [HH.out.2.2.2]; exact hb1, by_of_none y1 _⟩
      have Hfin := Lib.hid hfin
      clear hfin hb1 y1
      go_wp2
      go_ret
      exact Hfin.out
    · have he : sumE sum n = 9 := by unfold sumE Top; rw [if_neg hc2]
      have HH := Lib.hid (And.intro he (And.intro hE hS))
      clear he hE hS
      go_enter Try.func18, Try.ntmps18
      go_wp2_with fail
      refine (add_any sum n w ⟨h0, by omega⟩ Hb.out.2).mono ?_
      rintro e w1 ⟨rfl, y1⟩
      rw [HH.out.1]
      have hb1 := Hb.out.1.grown y1 (by simp)
      have hfin : Charged w g 50 most sum n (.returned (.int .i64 7)) w1 := ⟨by rw [HH.out.2.1], by rw [HH.out.2.2]; exact hb1, by_of_none y1 _⟩
      have Hfin := Lib.hid hfin
      clear hfin hb1 y1
      go_wp2
      go_ret
      exact Hfin.out

set_option maxHeartbeats 400000 in
theorem rcharge_any (g : Nat) (most sum n : Int) (w : World) (hb : Blk w g 34 #[.int .u64 most, .int .u64 sum]) (h0 : 0 ≤ sum) (h1 : sum ≤ most) (h2 : most ≤ 18446744073709551615) (hn : Fit n) :
    Calls Try.prog 19 #[.pointer (some ⟨g, 0, none⟩), .int .u64 n] w (Charged w g 34 most sum n) := by
  have c1 : w.cell? ⟨g, 1, none⟩ = some (.int .u64 sum) := hb.cell 1
  have Hb := Lib.hid (And.intro hb hn)
  obtain ⟨hn0, hn1⟩ := hn
  clear hb
  by_cases hc : sum + n ≤ most
  · have hv : sumV sum n = sum + n := by unfold sumV Top; rw [if_pos (by omega)]
    have he : sumE sum n = 0 := by unfold sumE Top; rw [if_pos (by omega)]
    have hE : chE most sum n = 0 := by unfold chE; rw [if_pos hc]
    have hS : chS most sum n = sum + n := by unfold chS; rw [if_pos hc]
    have HH := Lib.hid (And.intro hv (And.intro he (And.intro hE hS)))
    clear hv he hE hS
    go_enter Try.func19, Try.ntmps19
    go_wp2_with fail
    refine (radd_any sum n w ⟨h0, by omega⟩ Hb.out.2).mono ?_
    rintro e w1 ⟨rfl, hw1⟩
    have y1 : w.grownBy w1 none := by rw [← hw1]; exact by_refl _ _
    clear hw1
    rw [HH.out.1, HH.out.2.1]
    have hb1 := Hb.out.1.grown y1 (by simp)
    have d0 : w1.cell? ⟨g, 0, none⟩ = some (.int .u64 most) := hb1.cell 0
    have d1 : w1.cell? ⟨g, 1, none⟩ = some (.int .u64 sum) := hb1.cell 1
    have f1 : w1.frozen? ⟨g, 1, none⟩ = false := hb1.frozen 1
    have hfin : Charged w g 34 most sum n (.returned (.int .i64 0)) (w1.setCell ⟨g, 1, none⟩ (.int .u64 (sum + n))) :=
      ⟨by rw [HH.out.2.2.1], by rw [HH.out.2.2.2]; exact hb1.set_ 1 _, by_set (by_of_none y1 _) (.inl rfl) _⟩
    have Hfin := Lib.hid hfin
    clear hfin hb1 y1
    go_wp2
    go_ret
    exact Hfin.out
  · have hE : chE most sum n = 7 := by unfold chE; rw [if_neg hc]
    have hS : chS most sum n = sum := by unfold chS; rw [if_neg hc]
    by_cases hc2 : sum + n ≤ 18446744073709551615
    · have hv : sumV sum n = sum + n := by unfold sumV Top; rw [if_pos hc2]
      have he : sumE sum n = 0 := by unfold sumE Top; rw [if_pos hc2]
      have HH := Lib.hid (And.intro hv (And.intro he (And.intro hE hS)))
      clear hv he hE hS
      go_enter Try.func19, Try.ntmps19
      go_wp2_with fail
      refine (radd_any sum n w ⟨h0, by omega⟩ Hb.out.2).mono ?_
      rintro e w1 ⟨rfl, hw1⟩
      have y1 : w.grownBy w1 none := by rw [← hw1]; exact by_refl _ _
      clear hw1
      rw [HH.out.1, HH.out.2.1]
      have hb1 := Hb.out.1.grown y1 (by simp)
      have d0 : w1.cell? ⟨g, 0, none⟩ = some (.int .u64 most) := hb1.cell 0
      have d1 : w1.cell? ⟨g, 1, none⟩ = some (.int .u64 sum) := hb1.cell 1
      have hfin : Charged w g 34 most sum n (.returned (.int .i64 7)) w1 := ⟨by rw [HH.out.2.2.1], by rw [HH.out.2.2.2]; exact hb1, by_of_none y1 _⟩
      have Hfin := Lib.hid hfin
      clear hfin hb1 y1
      go_wp2
      go_ret
      exact Hfin.out
    · have he : sumE sum n = 9 := by unfold sumE Top; rw [if_neg hc2]
      have HH := Lib.hid (And.intro he (And.intro hE hS))
      clear he hE hS
      go_enter Try.func19, Try.ntmps19
      go_wp2_with fail
      refine (radd_any sum n w ⟨h0, by omega⟩ Hb.out.2).mono ?_
      rintro e w1 ⟨rfl, hw1⟩
      have y1 : w.grownBy w1 none := by rw [← hw1]; exact by_refl _ _
      clear hw1
      rw [HH.out.1]
      have hb1 := Hb.out.1.grown y1 (by simp)
      have hfin : Charged w g 34 most sum n (.returned (.int .i64 7)) w1 := ⟨by rw [HH.out.2.1], by rw [HH.out.2.2]; exact hb1, by_of_none y1 _⟩
      have Hfin := Lib.hid hfin
      clear hfin hb1 y1
      go_wp2
      go_ret
      exact Hfin.out

/-! ### May -/
def within (n most : Int) : Bool := decide (0 ≤ n) && decide (n ≤ most)
def mayV (a b c : Int) : Bool := within a 64 && within b 1048576 && within c 64

set_option maxHeartbeats 400000 in
theorem within_any (n most : Int) (w : World) :
    Calls Try.prog 31 #[.int .i64 n, .int .i64 most] w fun e w' => e = .returned (.bool (within n most)) ∧ w = w' := by
  unfold within
  by_cases h : 0 ≤ n
  · have hd : decide (0 ≤ n) = true := by simp [h]
    go_enter Try.func31, Try.ntmps31
    go_wp2
    go_ret
    exact ⟨by simp [h], rfl⟩
  · have hd : decide (0 ≤ n) = false := by simp; omega
    go_enter Try.func31, Try.ntmps31
    go_wp2
    go_ret
    exact ⟨by simp [h], rfl⟩
end Go.Proofs.Ytdbfphceadllbaa
