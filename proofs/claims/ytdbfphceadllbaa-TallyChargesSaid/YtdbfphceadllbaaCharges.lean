/-
  TallyCharges: whatever is charged, a meter tells what the document says (all inputs, no condition).
-/
import Derived.Test.YtdbfphceadllbaaMay
import Derived.Test.YtdbfphceadllbaaRow
import Derived.Deep.LoopGhost
import Derived.Deep.RegionHeld3
namespace Go.Proofs.Ytdbfphceadllbaa.tallyCharges
open Go.ChangeShapes Go.WideShapes Go.ChangeAt Go.RowKit

/-- both meters, the number that is charged, and that nothing old has turned -/
def St (g gr b o : Nat) (most sum sumr z : Int) (w0 w : World) : Prop :=
  Blk w g 50 #[.int .u64 most, .int .u64 sum] ∧ Blk w gr 34 #[.int .u64 most, .int .u64 sumr] ∧ w.cell? ⟨b, o, none⟩ = some (.int .u64 z) ∧ w0.grownBy w none ∧ g ≠ gr ∧ b ≠ g ∧ b ≠ gr ∧ w0.heap.size ≤ g ∧ w0.heap.size ≤ gr
section
variable {g gr b o : Nat} {most sum sumr z : Int} {w0 w : World}
theorem St.drew (h : St g gr b o most sum sumr z w0 w) : St g gr b o most sum sumr z w0 w.drew := ⟨h.1.drew, h.2.1.drew, h.2.2.1, by_drew h.2.2.2.1, h.2.2.2.2⟩
theorem St.cells (h : St g gr b o most sum sumr z w0 w) : w.cell? ⟨b, o, none⟩ = some (.int .u64 z) ∧ w.cell? ⟨gr, 1, none⟩ = some (.int .u64 sumr) := ⟨h.2.2.1, h.2.1.cell 1⟩
theorem charge_k (hs : 0 ≤ sum) (hm : sum ≤ most) (ht : most ≤ 18446744073709551615) (hz : Fit z) (h : St g gr b o most sum sumr z w0 w) :
    Calls Try.prog 18 #[.pointer (some ⟨g, 0, none⟩), .int .u64 z] w fun e w' => e = .returned (.int .i64 (chE most sum z)) ∧ St g gr b o most (chS most sum z) sumr z w0 w' := by
  obtain ⟨h1, h2, h3, h4, h5, h6, h7, h8, h9⟩ := h
  exact (charge_any g most sum z w h1 hs hm ht hz).mono fun e w' ⟨he, hb, hy⟩ => ⟨he, hb, h2.grown hy (by simpa using h5.symm), hy.cell h3 (by simpa using h6), by_trans h4 hy (fun x hx => .inr (by cases hx; exact h8)), h5, h6, h7, h8, h9⟩
theorem rcharge_k (hs : 0 ≤ sumr) (hm : sumr ≤ most) (ht : most ≤ 18446744073709551615) (hz : Fit z) (h : St g gr b o most sum sumr z w0 w) :
    Calls Try.prog 19 #[.pointer (some ⟨gr, 0, none⟩), .int .u64 z] w fun e w' => e = .returned (.int .i64 (chE most sumr z)) ∧ St g gr b o most sum (chS most sumr z) z w0 w' := by
  obtain ⟨h1, h2, h3, h4, h5, h6, h7, h8, h9⟩ := h
  exact (rcharge_any gr most sumr z w h2 hs hm ht hz).mono fun e w' ⟨he, hb, hy⟩ => ⟨he, h1.grown hy (by simpa using h5), hb, hy.cell h3 (by simpa using h7), by_trans h4 hy (fun x hx => .inr (by cases hx; exact h9)), h5, h6, h7, h8, h9⟩
theorem total_k (h : St g gr b o most sum sumr z w0 w) :
    Calls Try.prog 20 #[.pointer (some ⟨g, 0, none⟩)] w fun e w' => e = .returned (.int .u64 sum) ∧ St g gr b o most sum sumr z w0 w' :=
  (total_any g most sum w h.1).mono fun e w' ⟨he, hw⟩ => ⟨he, by rw [← hw]; exact h⟩
end
/-- the same without the number -/
def Tt (g gr : Nat) (most sum : Int) (w0 w : World) : Prop := Blk w g 50 #[.int .u64 most, .int .u64 sum] ∧ Blk w gr 34 #[.int .u64 most, .int .u64 sum] ∧ w0.grownBy w none
section
variable {g gr : Nat} {most sum : Int} {w0 w : World}
theorem Tt.drew (h : Tt g gr most sum w0 w) : Tt g gr most sum w0 w.drew := ⟨h.1.drew, h.2.1.drew, by_drew h.2.2⟩
theorem Tt.cells (h : Tt g gr most sum w0 w) : w.cell? ⟨gr, 1, none⟩ = some (.int .u64 sum) := h.2.1.cell 1
theorem total_t (h : Tt g gr most sum w0 w) :
    Calls Try.prog 20 #[.pointer (some ⟨g, 0, none⟩)] w fun e w' => e = .returned (.int .u64 sum) ∧ Tt g gr most sum w0 w' :=
  (total_any g most sum w h.1).mono fun e w' ⟨he, hw⟩ => ⟨he, by rw [← hw]; exact h⟩
theorem works_t (h : Tt g gr most sum w0 w) :
    Calls Try.prog 16 #[] w fun e w' => e = .returned (.bool true) ∧ Tt g gr most sum w0 w' :=
  (works_walk w).mono fun e w' ⟨he, hy⟩ => ⟨he, h.1.grown hy (by simp), h.2.1.grown hy (by simp), by_trans h.2.2 hy (fun x hx => by cases hx)⟩
end
theorem chS_in {most sum z : Int} (h0 : 0 ≤ sum) (h1 : sum ≤ most) (hz : 0 ≤ z) : 0 ≤ chS most sum z ∧ chS most sum z ≤ most := by
  unfold chS
  split <;> omega

structure Rel (w0 : World) (l : List Int) (g gr : Nat) (most : Int) (k : Nat) (i : Value) (wr : World) (j : Nat) (sum : Int) : Prop where
  slot : i = .int .i64 j
  le : j ≤ l.length
  num : k = l.length - j
  s0 : 0 ≤ sum
  s1 : sum ≤ most
  blk : Blk wr g 50 #[.int .u64 most, .int .u64 sum]
  rblk : Blk wr gr 34 #[.int .u64 most, .int .u64 sum]
  by_ : w0.grownBy wr none

set_option maxRecDepth 100000 in
set_option maxHeartbeats 2000000 in
theorem walk (w : World) (most : Int) (wm : (Lit.int .u64 most).wf = true) (v : Value) (l : List Int) (hv : Nums w .u64 v l) (hl : l.length ≤ maxLen) (hw : ∀ z ∈ l, (Lit.int .u64 z).wf = true) :
    Calls Try.prog 4 #[.int .u64 most, v] w fun e w' => e = .returned (.bool true) ∧ w.grownBy w' none := by
  obtain ⟨m0, m1⟩ := bounds_u64 wm
  unfold maxLen at hl
  have HV := Lib.hid (And.intro hv hw)
  obtain ⟨A, cap, rfl, hcap, _⟩ := hv
  clear hw wm
  go_enter Try.func4, Try.ntmps4
  go_wp2_with fail
  refine (new_any most w).mono ?_
  rintro e w1 ⟨g, rfl, b1, y1, l1⟩
  have hr1 := Blk.new w1 34 #[.int .u64 most, .int .u64 0]
  have B1 := Lib.hid (And.intro (b1.alloc (.cells #[.int .u64 most, .int .u64 0] 34)) (And.intro hr1 (And.intro (by_alloc y1 (.cells #[.int .u64 most, .int .u64 0] 34)) (And.intro b1.lt y1.size))))
  clear b1 y1 hr1
  go_wp2_with fail
  have hne : g ≠ w1.heap.size := by have := B1.out.2.2.2.1; omega
  have hgr : w.heap.size ≤ w1.heap.size := B1.out.2.2.2.2
  go_loopg [7] l.length (fun k i wr => ∃ j sum, Rel w l g w1.heap.size most k i wr j sum)
  case atStart => exact ⟨0, 0, rfl, by omega, by omega, by omega, m0, B1.out.1, B1.out.2.1, B1.out.2.2.1⟩
  case round =>
    clear B1
    generalize w1.heap.size = gr at *
    obtain ⟨j, sum, hr⟩ := hrel
    obtain rfl := hr.slot
    have hle := hr.le
    have Hr := Lib.hid hr
    clear hr
    by_cases h1 : j < l.length
    · by_cases h2 : j < 200
      · obtain ⟨A', cap', hA, _, hcell⟩ := (HV.out.1.grown Hr.out.by_ (.inl rfl))
        injection hA with hA1 hA2 hA3
        subst hA1; subst hA3
        obtain ⟨b, off, rfl, hb, hc⟩ := hcell (by omega)
        have c1 := hc j h1
        have hlt' : (j : Int) < (l.length : Int) := by omega
        have hz : Fit l[j] := bounds_u64 (HV.out.2 l[j] (List.getElem_mem h1))
        have hbw : b < w.heap.size := by
          obtain ⟨A'', _, hA'', _, hc''⟩ := HV.out.1
          injection hA'' with e1 _ _
          obtain ⟨b', _, e2, hb', _⟩ := hc'' (by omega)
          rw [← e1] at e2
          injection e2 with e2
          injection e2 with e2
          omega
        generalize l[j] = z at *
        have S0 : St g gr b (off + j) most sum sum z w wr := ⟨Hr.out.blk, Hr.out.rblk, c1, Hr.out.by_, hne, by omega, by omega, l1, hgr⟩
        have Hs := Lib.hid (chS_in Hr.out.s0 Hr.out.s1 hz.1)
        have HH := Lib.hid (And.intro Hr.out.s0 (And.intro Hr.out.s1 (And.intro m1 hz)))
        clear hcell hc hA2 hb hz hbw
        have hz0 : (0 : Int) ≤ (j : Int) := by omega
        have hd : (chE most sum z == chE most sum z) = true := by simp
        have hd2 : (chE most sum z != chE most sum z) = false := by simp
        go_wp2_with fail
        go_region_with (first
          | (go_at_call 18; refine (charge_k HH.out.1 HH.out.2.1 HH.out.2.2.1 HH.out.2.2.2 (by first | assumption | (apply St.drew; assumption))).mono ?_; rintro e w2 ⟨rfl, S2⟩; obtain ⟨k2, k2'⟩ := S2.cells)
          | (go_at_call 19; refine (rcharge_k HH.out.1 HH.out.2.1 HH.out.2.2.1 HH.out.2.2.2 (by first | assumption | (apply St.drew; assumption))).mono ?_; rintro e w3 ⟨rfl, S3⟩; obtain ⟨k3, k3'⟩ := S3.cells)
          | (go_at_call 20; refine (total_k (by first | assumption | (apply St.drew; assumption))).mono ?_; rintro e w4 ⟨rfl, S4⟩; obtain ⟨k4, k4'⟩ := S4.cells))
        all_goals
          have Hf := Lib.hid S4
          clear S4
          go_wp2
          go_roundg (l.length - (j + 1))
          case measure => have := Hr.out.num; omega
          case rel => exact ⟨j + 1, chS most sum z, by go_num, by omega, rfl, Hs.out.1, Hs.out.2, Hf.out.1, Hf.out.2.1, Hf.out.2.2.2.1⟩
      · have T0 : Tt g gr most sum w wr := ⟨Hr.out.blk, Hr.out.rblk, Hr.out.by_⟩
        have c0 := T0.cells
        go_wp2_with fail
        go_region_with (first
          | (go_at_call 20; refine (total_t (by first | assumption | (apply Tt.drew; assumption))).mono ?_; rintro e w4 ⟨rfl, T4⟩; have k4 := T4.cells)
          | (go_at_call 16; refine (works_t (by first | assumption | (apply Tt.drew; assumption))).mono ?_; rintro e w5 ⟨rfl, T5⟩; have k5 := T5.cells))
        all_goals
          have Hf := Lib.hid T5.2.2
          clear T5
          go_wp2
          go_ret
          exact ⟨rfl, Hf.out⟩
    · have T0 : Tt g gr most sum w wr := ⟨Hr.out.blk, Hr.out.rblk, Hr.out.by_⟩
      have c0 := T0.cells
      go_wp2_with fail
      go_region_with (first
        | (go_at_call 20; refine (total_t (by first | assumption | (apply Tt.drew; assumption))).mono ?_; rintro e w4 ⟨rfl, T4⟩; have k4 := T4.cells)
        | (go_at_call 16; refine (works_t (by first | assumption | (apply Tt.drew; assumption))).mono ?_; rintro e w5 ⟨rfl, T5⟩; have k5 := T5.cells))
      all_goals
        have Hf := Lib.hid T5.2.2
        clear T5
        go_wp2
        go_ret
        exact ⟨rfl, Hf.out⟩

set_option maxRecDepth 100000 in
theorem lifted (os : Os) (started : os.Started) (H : Type) (enc : TypeId × Value → H) :
    ReturnsInHanded {} Try.checked os 4 .any (Rows.tallyChargesSpec.pre6 enc Try.prog Try.f4 Rows.tallyChargesRow.domain false) (Rows.tallyChargesSpec.post enc Try.prog Try.f4 false true false false) := by
  refine returnsInHanded_of_change (C := Try.checked) own started (by kernel_rfl) Try.func4
    (ChangeSpec.witness6 (enc := enc) (C := Try.checked) false ⟨#[], #[.int .u64 0, .slice none 0 0], []⟩ 8 (by kernel_rfl) (by kernel_rfl) (by kernel_rfl) (by kernel_rfl)) ?_
  intro W base args ds gs before hval0 hW hcnd _
  have hval : ∀ (j : Nat) t v, Try.f4.params[j]? = some t → args[j]? = some v → Value.okWide Try.prog W .any base t v := hval0
  have hW' := hW
  obtain ⟨p, q, hA0, hV, rfl, hfz, hnd⟩ := hW
  have hA : DataW.TrodAll enc Try.prog W 0 (fun _ => true) true Try.f4.params.toList args.toList ds p := hA0
  rw [Try.params4] at hA hval
  obtain ⟨v0, vs0, d0, ds0, p0, q0, hargs, rfl, rfl, h0, r0⟩ := trodAll_cons hA
  obtain ⟨v1, vs1, d1, ds1, p1, q1, rfl, rfl, rfl, h1, r1⟩ := trodAll_cons r0
  obtain ⟨rfl, rfl, rfl⟩ := trodAll_nil r1
  obtain rfl : args = #[v0, v1] := by cases args; simp_all
  obtain ⟨rfl, rfl⟩ := trodVars_none hV
  obtain ⟨a0, rfl, rfl, rfl, w0⟩ := open_int Try.underlying22 (hval 0 22 v0 rfl rfl) h0
  obtain ⟨l1, hl1, hm1, hn1⟩ := arg_nums Try.underlying29 Try.underlying22 (by kernel_rfl) (hval 1 29 v1 rfl rfl) h1
  refine (walk W a0 w0 v1 l1 hl1 hn1 hm1).mono fun e W' ⟨he, hg⟩ => ?_
  subst he
  exact ⟨_, rfl, law_post laidOut rfl hW' (by kernel_rfl) rfl Try.underlying4 rfl (below_of_by hg)⟩

theorem proved : Rows.TallyChargesSaid :=
  OpenClaim.holds_of_wide 4 Try.f4 rfl rfl rfl rfl rfl rfl rfl ⟨rfl, rfl, rfl, rfl, rfl⟩ rfl rfl rfl rfl rfl (by kernel_rfl) Try.func4 (by kernel_rfl)
    (of_decide_eq_true (by kernel_rfl)) (by unfold Func.isWrapper; first | (rw [if_pos (by decide +kernel)]; kernel_rfl) | (rw [if_neg (by decide +kernel)]; exact ⟨rfl, rfl⟩))
    (fun os started H enc _ => lifted os started H enc)
#print axioms proved
end Go.Proofs.Ytdbfphceadllbaa.tallyCharges
