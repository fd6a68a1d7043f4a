/-
  TallyMay: which quotas may be (all inputs, no condition).
-/
import Derived.Test.YtdbfphceadllbaaMay
import Derived.Test.YtdbfphceadllbaaRow
import Derived.Test.YtdbfphceadllbaaStructs
import Derived.Deep.RegionHeld3
namespace Go.Proofs.Ytdbfphceadllbaa.tallyMay
open Go.ChangeShapes Go.WideShapes Go.ChangeAt Go.RowKit

/-- the five cells, and that nothing old has turned -/
def Five (g : Nat) (a b c d f : Int) (w0 w : World) : Prop := Blk w g 40 #[.int .i64 a, .int .i64 b, .int .i64 c, .int .u64 d, .int .u64 f] ∧ w0.grownBy w none
theorem five_drew {g : Nat} {a b c d f : Int} {w0 w : World} (h : Five g a b c d f w0 w) : Five g a b c d f w0 w.drew := ⟨h.1.drew, by_drew h.2⟩
theorem may_k (g : Nat) (a b c d f : Int) (w w0 : World) (h : Five g a b c d f w0 w) :
    Calls Try.prog 21 #[.agg #[.int .i64 a, .int .i64 b, .int .i64 c, .int .u64 d, .int .u64 f]] w fun e w' => e = .returned (.bool (mayV a b c)) ∧ Five g a b c d f w0 w' :=
  (may_any a b c d f w).mono fun _ _ ⟨he, hy⟩ => ⟨he, h.1.grown hy (by simp), by_trans h.2 hy (fun x hx => by cases hx)⟩
theorem rmay_k (g : Nat) (a b c d f : Int) (w w0 : World) (h : Five g a b c d f w0 w) :
    Calls Try.prog 22 #[.agg #[.int .i64 a, .int .i64 b, .int .i64 c, .int .u64 d, .int .u64 f]] w fun e w' => e = .returned (.bool (mayV a b c)) ∧ Five g a b c d f w0 w' :=
  (rmay_any a b c d f w).mono fun _ _ ⟨he, hy⟩ => ⟨he, h.1.grown hy (by simp), by_trans h.2 hy (fun x hx => by cases hx)⟩
theorem works_k (w w0 : World) (h : w0.grownBy w none) :
    Calls Try.prog 16 #[] w fun e w' => e = .returned (.bool true) ∧ w0.grownBy w' none :=
  (works_walk w).mono fun _ _ ⟨he, hy⟩ => ⟨he, by_trans h hy (fun x hx => by cases hx)⟩
theorem five_cells {g : Nat} {a b c d f : Int} {w0 w : World} (h : Five g a b c d f w0 w) :
    w.cell? ⟨g, 0, none⟩ = some (.int .i64 a) ∧ w.cell? ⟨g, 1, none⟩ = some (.int .i64 b) ∧ w.cell? ⟨g, 2, none⟩ = some (.int .i64 c) ∧ w.cell? ⟨g, 3, none⟩ = some (.int .u64 d) ∧ w.cell? ⟨g, 4, none⟩ = some (.int .u64 f) :=
  ⟨h.1.cell 0, h.1.cell 1, h.1.cell 2, h.1.cell 3, h.1.cell 4⟩

set_option maxRecDepth 100000 in
set_option maxHeartbeats 1000000 in
theorem walk (w : World) (a b c d f : Int) :
    Calls Try.prog 7 #[.agg #[.int .i64 a, .int .i64 b, .int .i64 c, .int .u64 d, .int .u64 f]] w fun e w' => e = .returned (.bool true) ∧ w.grownBy w' none := by
  go_enter Try.func7, Try.ntmps7
  go_wp2_with fail
  have hf : Five w.heap.size a b c d f w (w.alloc (.cells #[.int .i64 a, .int .i64 b, .int .i64 c, .int .u64 d, .int .u64 f] 40)) := ⟨Blk.new _ _ _, by_alloc (by_refl w none) _⟩
  generalize w.heap.size = g at *
  generalize w.alloc (.cells #[.int .i64 a, .int .i64 b, .int .i64 c, .int .u64 d, .int .u64 f] 40) = w1 at *
  obtain ⟨c0, c1, c2, c3, c4⟩ := five_cells hf
  go_region_with (first
    | (go_at_call 21; refine (may_k g a b c d f _ w (by first | assumption | (apply five_drew; assumption))).mono ?_; rintro e w2 ⟨rfl, f2⟩; obtain ⟨d0, d1, d2, d3, d4⟩ := five_cells f2)
    | (go_at_call 22; refine (rmay_k g a b c d f _ w (by first | assumption | (apply five_drew; assumption))).mono ?_; rintro e w3 ⟨rfl, f3⟩; obtain ⟨e0, e1, e2, e3, e4⟩ := five_cells f3)
    | (go_at_call 16; refine (works_k _ w (by first | exact (‹Five g a b c d f w _›).2 | assumption)).mono ?_; rintro e w4 ⟨rfl, y4⟩))
  all_goals
    go_wp2
    go_ret
    exact ⟨rfl, by assumption⟩

set_option maxRecDepth 100000 in
theorem lifted (os : Os) (started : os.Started) (H : Type) (enc : TypeId × Value → H) :
    ReturnsInHanded {} Try.checked os 7 .any (Rows.tallyMaySpec.pre6 enc Try.prog Try.f7 Rows.tallyMayRow.domain false) (Rows.tallyMaySpec.post enc Try.prog Try.f7 false true false false) := by
  refine returnsInHanded_of_change (C := Try.checked) own started (by kernel_rfl) Try.func7
    (ChangeSpec.witness6 (enc := enc) (C := Try.checked) false ⟨#[], #[.agg #[.int .i64 0, .int .i64 0, .int .i64 0, .int .u64 0, .int .u64 0]], []⟩ 8 (by kernel_rfl) (by kernel_rfl) (by kernel_rfl) (by kernel_rfl)) ?_
  intro W base args ds gs before hval0 hW hcnd _
  have hval : ∀ (j : Nat) t v, Try.f7.params[j]? = some t → args[j]? = some v → Value.okWide Try.prog W .any base t v := hval0
  have hW' := hW
  obtain ⟨p, q, hA0, hV, rfl, hfz, hnd⟩ := hW
  have hA : DataW.TrodAll enc Try.prog W 0 (fun _ => true) true Try.f7.params.toList args.toList ds p := hA0
  rw [Try.params7] at hA hval
  obtain ⟨v0, vs0, d0, ds0, p0, q0, hargs, rfl, rfl, h0, r0⟩ := trodAll_cons hA
  obtain ⟨rfl, rfl, rfl⟩ := trodAll_nil r0
  obtain rfl : args = #[v0] := by cases args; simp_all
  obtain ⟨rfl, rfl⟩ := trodVars_none hV
  obtain ⟨c0_0, c0_1, c0_2, c0_3, c0_4, y0_0, y0_1, y0_2, y0_3, y0_4, n0, rfl, rfl, rfl, k0_0, k0_1, k0_2, k0_3, k0_4⟩ := open_agg5 Try.underlying40 (by kernel_rfl) (by kernel_rfl) (hval 0 40 v0 rfl rfl) h0
  obtain ⟨b0_0, e0_0, _, _⟩ := DataW.trod_int Try.underlying3 k0_0
  obtain rfl : c0_0 = .int .i64 b0_0 := by simpa using e0_0
  obtain ⟨b0_1, e0_1, _, _⟩ := DataW.trod_int Try.underlying3 k0_1
  obtain rfl : c0_1 = .int .i64 b0_1 := by simpa using e0_1
  obtain ⟨b0_2, e0_2, _, _⟩ := DataW.trod_int Try.underlying3 k0_2
  obtain rfl : c0_2 = .int .i64 b0_2 := by simpa using e0_2
  obtain ⟨b0_3, e0_3, _, _⟩ := DataW.trod_int Try.underlying22 k0_3
  obtain rfl : c0_3 = .int .u64 b0_3 := by simpa using e0_3
  obtain ⟨b0_4, e0_4, _, _⟩ := DataW.trod_int Try.underlying22 k0_4
  obtain rfl : c0_4 = .int .u64 b0_4 := by simpa using e0_4
  refine (walk W b0_0 b0_1 b0_2 b0_3 b0_4).mono fun e W' ⟨he, hg⟩ => ?_
  subst he
  exact ⟨_, rfl, law_post laidOut rfl hW' (by kernel_rfl) rfl Try.underlying4 rfl (below_of_by hg)⟩

theorem proved : Rows.TallyMaySaid :=
  OpenClaim.holds_of_wide 7 Try.f7 rfl rfl rfl rfl rfl rfl rfl ⟨rfl, rfl, rfl, rfl, rfl⟩ rfl rfl rfl rfl rfl (by kernel_rfl) Try.func7 (by kernel_rfl)
    (of_decide_eq_true (by kernel_rfl)) (by unfold Func.isWrapper; first | (rw [if_pos (by decide +kernel)]; kernel_rfl) | (rw [if_neg (by decide +kernel)]; exact ⟨rfl, rfl⟩))
    (fun os started H enc _ => lifted os started H enc)
#print axioms proved
end Go.Proofs.Ytdbfphceadllbaa.tallyMay
