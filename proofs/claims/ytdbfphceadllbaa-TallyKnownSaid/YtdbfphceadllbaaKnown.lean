/-
  TallyKnown: the closed statement.
-/
import Derived.Test.YtdbfphceadllbaaMay
import Derived.Test.YtdbfphceadllbaaRow
import Derived.Deep.LoopGhost
namespace Go.Proofs.Ytdbfphceadllbaa.tallyKnown
open Go.ChangeShapes Go.WideShapes Go.ChangeAt Go.RowKit

def badCells : Array Value := #[.int .i64 (65), .int .i64 (0), .int .i64 (0), .int .u64 0, .int .u64 0, .int .i64 (-1), .int .i64 (0), .int .i64 (0), .int .u64 0, .int .u64 0, .int .i64 (0), .int .i64 (1048577), .int .i64 (0), .int .u64 0, .int .u64 0, .int .i64 (0), .int .i64 (-1), .int .i64 (0), .int .u64 0, .int .u64 0, .int .i64 (0), .int .i64 (0), .int .i64 (65), .int .u64 0, .int .u64 0, .int .i64 (0), .int .i64 (0), .int .i64 (-1), .int .u64 0, .int .u64 0]
def qCells : Array Value := #[.int .i64 64, .int .i64 1048576, .int .i64 64, .int .u64 0, .int .u64 0]
theorem may_c (a b c d f : Int) (r : Bool) (w : World) (h : mayV a b c = r) :
    Calls Try.prog 21 #[.agg #[.int .i64 a, .int .i64 b, .int .i64 c, .int .u64 d, .int .u64 f]] w fun e w' => e = .returned (.bool r) ∧ w.grownBy w' none := by
  rw [← h]; exact may_any a b c d f w

structure Rel (w0 : World) (gq gb k : Nat) (i : Value) (wr : World) (j : Nat) : Prop where
  slot : i = .int .i64 j
  le : j ≤ 6
  num : k = 6 - j
  q : Blk wr gq 40 qCells
  bad : Blk wr gb 40 badCells
  by_ : w0.grownBy wr none

theorem rel_next {w0 wr w1 : World} {gq gb k j : Nat} {i : Value} (h : Rel w0 gq gb k i wr j) (hj : j < 6) (y : wr.grownBy w1 none) : Rel w0 gq gb (6 - (j + 1)) (.int .i64 ((j : Int) + 1)) w1 (j + 1) :=
  ⟨by go_num, by omega, rfl, h.q.grown y (by simp), h.bad.grown y (by simp), by_trans h.by_ y (fun x hx => by cases hx)⟩

set_option maxRecDepth 100000 in
set_option maxHeartbeats 4000000 in
theorem walk (w : World) :
    Calls Try.prog 8 #[] w fun e w' => e = .returned (.bool true) ∧ w.grownBy w' none := by
  have hfin := fun (A B : Obj) => by_alloc (by_alloc (by_refl w none) A) B
  have hq : Blk ((w.alloc (.cells qCells 40)).alloc (.cells badCells 40)) w.heap.size 40 qCells := (Blk.new w 40 qCells).alloc _
  have hb : Blk ((w.alloc (.cells qCells 40)).alloc (.cells badCells 40)) (w.heap.size + 1) 40 badCells := by
    have h := Blk.new (w.alloc (.cells qCells 40)) 40 badCells
    have e : (w.alloc (.cells qCells 40)).heap.size = w.heap.size + 1 := by simp
    rw [e] at h
    exact h
  have HH := Lib.hid (And.intro hq (And.intro hb (hfin (.cells qCells 40) (.cells badCells 40))))
  clear hq hb hfin
  go_enter Try.func8, Try.ntmps8
  go_wp2_with fail
  go_loopg [4] 6 (fun k i wr => ∃ j, Rel w w.heap.size (w.heap.size + 1) k i wr j)
  case atStart => exact ⟨0, rfl, by omega, by omega, HH.out.1, HH.out.2.1, HH.out.2.2⟩
  case round =>
    clear HH
    generalize w.heap.size = gq at *
    generalize gq + 1 = gb at *
    obtain ⟨j, hr⟩ := hrel
    obtain rfl := hr.slot
    have hle := hr.le
    have Hr := Lib.hid hr
    clear hr
    by_cases hlt : j < 6
    · rcases (show j = 0 ∨ j = 1 ∨ j = 2 ∨ j = 3 ∨ j = 4 ∨ j = 5 by omega) with rfl | rfl | rfl | rfl | rfl | rfl
      · clear hlt hle
        have c0 : wr.cell? ⟨gb, 0, none⟩ = some (.int .i64 (65)) := Hr.out.bad.cell 0
        have c1 : wr.cell? ⟨gb, 1, none⟩ = some (.int .i64 (0)) := Hr.out.bad.cell 1
        have c2 : wr.cell? ⟨gb, 2, none⟩ = some (.int .i64 (0)) := Hr.out.bad.cell 2
        have c3 : wr.cell? ⟨gb, 3, none⟩ = some (.int .u64 0) := Hr.out.bad.cell 3
        have c4 : wr.cell? ⟨gb, 4, none⟩ = some (.int .u64 0) := Hr.out.bad.cell 4
        go_wp2_with fail
        refine (may_c (65) (0) (0) 0 0 false wr (by decide)).mono ?_
        rintro e w1 ⟨rfl, y1⟩
        have Y1 := Lib.hid (rel_next Hr.out (by omega) y1)
        clear y1 c0 c1 c2 c3 c4
        go_wp2
        go_roundg (6 - (0 + 1))
        case measure => have := Hr.out.num; omega
        case rel => exact ⟨0 + 1, Y1.out⟩
      · clear hlt hle
        have c0 : wr.cell? ⟨gb, 5, none⟩ = some (.int .i64 (-1)) := Hr.out.bad.cell 5
        have c1 : wr.cell? ⟨gb, 6, none⟩ = some (.int .i64 (0)) := Hr.out.bad.cell 6
        have c2 : wr.cell? ⟨gb, 7, none⟩ = some (.int .i64 (0)) := Hr.out.bad.cell 7
        have c3 : wr.cell? ⟨gb, 8, none⟩ = some (.int .u64 0) := Hr.out.bad.cell 8
        have c4 : wr.cell? ⟨gb, 9, none⟩ = some (.int .u64 0) := Hr.out.bad.cell 9
        go_wp2_with fail
        refine (may_c (-1) (0) (0) 0 0 false wr (by decide)).mono ?_
        rintro e w1 ⟨rfl, y1⟩
        have Y1 := Lib.hid (rel_next Hr.out (by omega) y1)
        clear y1 c0 c1 c2 c3 c4
        go_wp2
        go_roundg (6 - (1 + 1))
        case measure => have := Hr.out.num; omega
        case rel => exact ⟨1 + 1, Y1.out⟩
      · clear hlt hle
        have c0 : wr.cell? ⟨gb, 10, none⟩ = some (.int .i64 (0)) := Hr.out.bad.cell 10
        have c1 : wr.cell? ⟨gb, 11, none⟩ = some (.int .i64 (1048577)) := Hr.out.bad.cell 11
        have c2 : wr.cell? ⟨gb, 12, none⟩ = some (.int .i64 (0)) := Hr.out.bad.cell 12
        have c3 : wr.cell? ⟨gb, 13, none⟩ = some (.int .u64 0) := Hr.out.bad.cell 13
        have c4 : wr.cell? ⟨gb, 14, none⟩ = some (.int .u64 0) := Hr.out.bad.cell 14
        go_wp2_with fail
        refine (may_c (0) (1048577) (0) 0 0 false wr (by decide)).mono ?_
        rintro e w1 ⟨rfl, y1⟩
        have Y1 := Lib.hid (rel_next Hr.out (by omega) y1)
        clear y1 c0 c1 c2 c3 c4
        go_wp2
        go_roundg (6 - (2 + 1))
        case measure => have := Hr.out.num; omega
        case rel => exact ⟨2 + 1, Y1.out⟩
      · clear hlt hle
        have c0 : wr.cell? ⟨gb, 15, none⟩ = some (.int .i64 (0)) := Hr.out.bad.cell 15
        have c1 : wr.cell? ⟨gb, 16, none⟩ = some (.int .i64 (-1)) := Hr.out.bad.cell 16
        have c2 : wr.cell? ⟨gb, 17, none⟩ = some (.int .i64 (0)) := Hr.out.bad.cell 17
        have c3 : wr.cell? ⟨gb, 18, none⟩ = some (.int .u64 0) := Hr.out.bad.cell 18
        have c4 : wr.cell? ⟨gb, 19, none⟩ = some (.int .u64 0) := Hr.out.bad.cell 19
        go_wp2_with fail
        refine (may_c (0) (-1) (0) 0 0 false wr (by decide)).mono ?_
        rintro e w1 ⟨rfl, y1⟩
        have Y1 := Lib.hid (rel_next Hr.out (by omega) y1)
        clear y1 c0 c1 c2 c3 c4
        go_wp2
        go_roundg (6 - (3 + 1))
        case measure => have := Hr.out.num; omega
        case rel => exact ⟨3 + 1, Y1.out⟩
      · clear hlt hle
        have c0 : wr.cell? ⟨gb, 20, none⟩ = some (.int .i64 (0)) := Hr.out.bad.cell 20
        have c1 : wr.cell? ⟨gb, 21, none⟩ = some (.int .i64 (0)) := Hr.out.bad.cell 21
        have c2 : wr.cell? ⟨gb, 22, none⟩ = some (.int .i64 (65)) := Hr.out.bad.cell 22
        have c3 : wr.cell? ⟨gb, 23, none⟩ = some (.int .u64 0) := Hr.out.bad.cell 23
        have c4 : wr.cell? ⟨gb, 24, none⟩ = some (.int .u64 0) := Hr.out.bad.cell 24
        go_wp2_with fail
        refine (may_c (0) (0) (65) 0 0 false wr (by decide)).mono ?_
        rintro e w1 ⟨rfl, y1⟩
        have Y1 := Lib.hid (rel_next Hr.out (by omega) y1)
        clear y1 c0 c1 c2 c3 c4
        go_wp2
        go_roundg (6 - (4 + 1))
        case measure => have := Hr.out.num; omega
        case rel => exact ⟨4 + 1, Y1.out⟩
      · clear hlt hle
        have c0 : wr.cell? ⟨gb, 25, none⟩ = some (.int .i64 (0)) := Hr.out.bad.cell 25
        have c1 : wr.cell? ⟨gb, 26, none⟩ = some (.int .i64 (0)) := Hr.out.bad.cell 26
        have c2 : wr.cell? ⟨gb, 27, none⟩ = some (.int .i64 (-1)) := Hr.out.bad.cell 27
        have c3 : wr.cell? ⟨gb, 28, none⟩ = some (.int .u64 0) := Hr.out.bad.cell 28
        have c4 : wr.cell? ⟨gb, 29, none⟩ = some (.int .u64 0) := Hr.out.bad.cell 29
        go_wp2_with fail
        refine (may_c (0) (0) (-1) 0 0 false wr (by decide)).mono ?_
        rintro e w1 ⟨rfl, y1⟩
        have Y1 := Lib.hid (rel_next Hr.out (by omega) y1)
        clear y1 c0 c1 c2 c3 c4
        go_wp2
        go_roundg (6 - (5 + 1))
        case measure => have := Hr.out.num; omega
        case rel => exact ⟨5 + 1, Y1.out⟩
    · obtain rfl : j = 6 := by omega
      have hq := Hr.out.q
      have q0 : wr.cell? ⟨gq, 0, none⟩ = some (.int .i64 64) := hq.cell 0
      have Q := Lib.hid (And.intro hq Hr.out.by_)
      clear hq Hr hlt hle q0
      go_wp2_with fail
      refine (new_any 18446744073709551615 wr).mono ?_
      rintro e w1 ⟨g, rfl, b1, y1, l1⟩
      have hg : w.heap.size ≤ g := by have := Q.out.2.size; omega
      have hqg : gq ≠ g := by have := Q.out.1.lt; omega
      have Q1 := Lib.hid (And.intro (Q.out.1.grown y1 (by simp)) (by_trans Q.out.2 y1 (fun x hx => by cases hx)))
      have B1 := Lib.hid b1
      clear b1 y1 l1 Q
      go_wp2_with fail
      refine (charge_c g 18446744073709551615 0 18446744073709551615 0 18446744073709551615 w1 B1.out (by decide) (by decide) (by decide) ⟨by decide, by decide⟩ (by decide) (by decide)).mono ?_
      rintro e w2 ⟨rfl, b2, y2⟩
      have Q2 := Lib.hid (And.intro (Q1.out.1.grown y2 (by simpa using hqg)) (by_trans Q1.out.2 y2 (fun x hx => .inr (by cases hx; exact hg))))
      have B2 := Lib.hid b2
      clear y2 b2 B1 Q1
      go_wp2_with fail
      refine (charge_c g 18446744073709551615 18446744073709551615 1 7 18446744073709551615 w2 B2.out (by decide) (by decide) (by decide) ⟨by decide, by decide⟩ (by decide) (by decide)).mono ?_
      rintro e w3 ⟨rfl, b3, y3⟩
      have Q3 := Lib.hid (And.intro (Q2.out.1.grown y3 (by simpa using hqg)) (by_trans Q2.out.2 y3 (fun x hx => .inr (by cases hx; exact hg))))
      have B3 := Lib.hid b3
      clear y3 b3 B2 Q2
      go_wp2_with fail
      refine (charge_c g 18446744073709551615 18446744073709551615 0 0 18446744073709551615 w3 B3.out (by decide) (by decide) (by decide) ⟨by decide, by decide⟩ (by decide) (by decide)).mono ?_
      rintro e w4 ⟨rfl, b4, y4⟩
      have Q4 := Lib.hid (And.intro (Q3.out.1.grown y4 (by simpa using hqg)) (by_trans Q3.out.2 y4 (fun x hx => .inr (by cases hx; exact hg))))
      have B4 := Lib.hid b4
      clear y4 b4 B3 Q3
      go_wp2_with fail
      refine (works_walk w4).mono ?_
      rintro e w5 ⟨rfl, y5⟩
      have hq5 := Q4.out.1.grown y5 (by simp)
      have q0 : w5.cell? ⟨gq, 0, none⟩ = some (.int .i64 64) := hq5.cell 0
      have q1 : w5.cell? ⟨gq, 1, none⟩ = some (.int .i64 1048576) := hq5.cell 1
      have q2 : w5.cell? ⟨gq, 2, none⟩ = some (.int .i64 64) := hq5.cell 2
      have q3 : w5.cell? ⟨gq, 3, none⟩ = some (.int .u64 0) := hq5.cell 3
      have q4 : w5.cell? ⟨gq, 4, none⟩ = some (.int .u64 0) := hq5.cell 4
      have Y5 := Lib.hid (by_trans Q4.out.2 y5 (fun x hx => by cases hx))
      clear y5 Q4 hq5
      go_wp2_with fail
      refine (may_c 64 1048576 64 0 0 true w5 (by decide)).mono ?_
      rintro e w6 ⟨rfl, y6⟩
      have Y6 := Lib.hid (by_trans Y5.out y6 (fun x hx => by cases hx))
      clear y6 Y5 q0 q1 q2 q3 q4
      go_wp2_with fail
      refine (may_c 0 0 0 0 0 true w6 (by decide)).mono ?_
      rintro e w7 ⟨rfl, y7⟩
      have Y7 := Lib.hid (by_trans Y6.out y7 (fun x hx => by cases hx))
      clear y7 Y6
      go_wp2_with fail
      refine (charge_nil 1 w7).mono ?_
      rintro e w' ⟨rfl, rfl⟩
      go_wp2_with fail
      refine (total_nil w7).mono ?_
      rintro e w' ⟨rfl, rfl⟩
      go_wp2_with fail
      refine (new_any 0 w7).mono ?_
      rintro e w8 ⟨g2, rfl, b8, y8, l8⟩
      have hg2 : w.heap.size ≤ g2 := by have := Y7.out.size; omega
      have Y8 := Lib.hid (by_trans Y7.out y8 (fun x hx => by cases hx))
      have B8 := Lib.hid b8
      clear b8 y8 l8 Y7
      go_wp2_with fail
      refine (charge_c g2 0 0 1 7 0 w8 B8.out (by decide) (by decide) (by decide) ⟨by decide, by decide⟩ (by decide) (by decide)).mono ?_
      rintro e w9 ⟨rfl, b9, y9⟩
      have Y9 := Lib.hid (by_trans Y8.out y9 (fun x hx => .inr (by cases hx; exact hg2)))
      clear b9 y9 Y8 B8
      go_wp2_with fail
      refine (bound_c 4611686018427387904 18446744073709551615 w9 (by decide) (by decide) (by decide)).mono ?_
      rintro e w10 ⟨rfl, y10⟩
      have Y10 := Lib.hid (by_trans Y9.out y10 (fun x hx => by cases hx))
      clear y10 Y9
      go_wp2_with fail
      refine (bound_c (-9223372036854775808) 16777216 w10 (by decide) (by decide) (by decide)).mono ?_
      rintro e w11 ⟨rfl, y11⟩
      have Y11 := Lib.hid (by_trans Y10.out y11 (fun x hx => by cases hx))
      clear y11 Y10
      go_wp2
      go_ret
      exact ⟨rfl, Y11.out⟩

set_option maxRecDepth 100000 in
theorem lifted (os : Os) (started : os.Started) (H : Type) (enc : TypeId × Value → H) :
    ReturnsInHanded {} Try.checked os 8 .any (Rows.tallyKnownSpec.pre6 enc Try.prog Try.f8 Rows.tallyKnownRow.domain false) (Rows.tallyKnownSpec.post enc Try.prog Try.f8 false true false false) := by
  refine returnsInHanded_of_change (C := Try.checked) own started (by kernel_rfl) Try.func8
    (ChangeSpec.witness6 (enc := enc) (C := Try.checked) false ⟨#[], #[], []⟩ 8 (by kernel_rfl) (by kernel_rfl) (by kernel_rfl) (by kernel_rfl)) ?_
  intro W base args ds gs before hval0 hW hcnd _
  have hval : ∀ (j : Nat) t v, Try.f8.params[j]? = some t → args[j]? = some v → Value.okWide Try.prog W .any base t v := hval0
  have hW' := hW
  obtain ⟨p, q, hA0, hV, rfl, hfz, hnd⟩ := hW
  have hA : DataW.TrodAll enc Try.prog W 0 (fun _ => true) true Try.f8.params.toList args.toList ds p := hA0
  rw [Try.params8] at hA hval
  obtain ⟨hargs, rfl, rfl⟩ := trodAll_nil hA
  obtain rfl : args = #[] := by cases args; simp_all
  obtain ⟨rfl, rfl⟩ := trodVars_none hV
  refine (walk W).mono fun e W' ⟨he, hg⟩ => ?_
  subst he
  exact ⟨_, rfl, law_post laidOut rfl hW' (by kernel_rfl) rfl Try.underlying4 rfl (below_of_by hg)⟩

theorem proved : Rows.TallyKnownSaid :=
  OpenClaim.holds_of_wide 8 Try.f8 rfl rfl rfl rfl rfl rfl rfl ⟨rfl, rfl, rfl, rfl, rfl⟩ rfl rfl rfl rfl rfl (by kernel_rfl) Try.func8 (by kernel_rfl)
    (of_decide_eq_true (by kernel_rfl)) (by unfold Func.isWrapper; first | (rw [if_pos (by decide +kernel)]; kernel_rfl) | (rw [if_neg (by decide +kernel)]; exact ⟨rfl, rfl⟩))
    (fun os started H enc _ => lifted os started H enc)
#print axioms proved
end Go.Proofs.Ytdbfphceadllbaa.tallyKnown
