/-
  TallyNever: a meter never tells more than it may, and what is refused changes nothing (all inputs, no condition).
-/
import Derived.Test.YtdbfphceadllbaaMay
import Derived.Test.YtdbfphceadllbaaRow
import Derived.Deep.LoopGhost
namespace Go.Proofs.Ytdbfphceadllbaa.tallyNever
open Go.ChangeShapes Go.WideShapes Go.ChangeAt Go.RowKit

structure Rel (w0 : World) (l : List Int) (g : Nat) (most : Int) (k : Nat) (s i : Value) (wr : World) (j : Nat) (sum : Int) : Prop where
  slot : i = .int .i64 j
  out : s = .int .u64 sum
  le : j ≤ l.length
  num : k = l.length - j
  s0 : 0 ≤ sum
  s1 : sum ≤ most
  blk : Blk wr g 50 #[.int .u64 most, .int .u64 sum]
  by_ : w0.grownBy wr none

set_option maxRecDepth 100000 in
set_option maxHeartbeats 1000000 in
theorem walk (w : World) (most : Int) (wm : (Lit.int .u64 most).wf = true) (v : Value) (l : List Int) (hv : Nums w .u64 v l) (hl : l.length ≤ maxLen) (hw : ∀ z ∈ l, (Lit.int .u64 z).wf = true) :
    Calls Try.prog 6 #[.int .u64 most, v] w fun e w' => e = .returned (.bool true) ∧ w.grownBy w' none := by
  obtain ⟨m0, m1⟩ := bounds_u64 wm
  unfold maxLen at hl
  have HV := Lib.hid (And.intro hv hw)
  obtain ⟨A, cap, rfl, hcap, _⟩ := hv
  clear hw wm
  go_enter Try.func6, Try.ntmps6
  go_wp2_with fail
  refine (works_walk w).mono ?_
  rintro e w1 ⟨rfl, y1⟩
  have Y1 := Lib.hid y1
  clear y1
  go_wp2_with fail
  refine (new_any most w1).mono ?_
  rintro e w2 ⟨g, rfl, b2, y2, l2⟩
  have hg : w.heap.size ≤ g := by have := Y1.out.size; omega
  have B2 := Lib.hid (And.intro b2 (by_trans Y1.out y2 (fun x hx => by cases hx)))
  clear b2 y2 l2 Y1
  go_wp2_with fail
  go_loopg [6, 7] l.length (fun k s i wr => ∃ j sum, Rel w l g most k s i wr j sum)
  case atStart => exact ⟨0, 0, rfl, rfl, by omega, by omega, by omega, m0, B2.out.1, B2.out.2⟩
  case round =>
    clear B2
    obtain ⟨j, sum, hr⟩ := hrel
    obtain rfl := hr.slot
    obtain rfl := hr.out
    have hle := hr.le
    have s0 := hr.s0
    have s1 := hr.s1
    have Hr := Lib.hid hr
    clear hr
    by_cases h1 : j < l.length
    · by_cases h2 : j < 200
      · obtain ⟨A', cap', hA, _, hcell⟩ := (HV.out.1.grown Hr.out.by_ (.inl rfl))
        injection hA with hA1 hA2 hA3
        subst hA1; subst hA3
        obtain ⟨b, off, rfl, hb, hc⟩ := hcell (by omega)
        have c1 := hc j h1
        have hlt' : (j : Int) < (l.length : Int) := by omega
        obtain ⟨z0, z1⟩ := bounds_u64 (HV.out.2 l[j] (List.getElem_mem h1))
        have hbg : b ≠ g := by
          obtain ⟨A'', _, hA'', _, hc''⟩ := HV.out.1
          injection hA'' with e1 _ _
          obtain ⟨b', _, e2, hb', _⟩ := hc'' (by omega)
          rw [← e1] at e2
          injection e2 with e2
          injection e2 with e2
          omega
        generalize l[j] = z at *
        clear hcell hc hA2 hb
        go_wp2_with fail
        refine (charge_any g most sum z wr Hr.out.blk s0 s1 m1 ⟨z0, z1⟩).mono ?_
        rintro e w3 ⟨rfl, b3, y3⟩
        have c3 : w3.cell? ⟨b, off + j, none⟩ = some (.int .u64 z) := y3.cell c1 (by simpa using hbg)
        have Y3 := Lib.hid (by_trans Hr.out.by_ y3 (fun x hx => .inr (by cases hx; exact hg)))
        clear y3 c1
        by_cases hc : sum + z ≤ most
        · rw [show chE most sum z = 0 from by unfold chE; rw [if_pos hc]]
          rw [show chS most sum z = sum + z from by unfold chS; rw [if_pos hc]] at b3
          have B3 := Lib.hid b3
          clear b3
          go_wp2_with fail
          refine (total_any g most (sum + z) w3 B3.out).mono ?_
          rintro e w' ⟨rfl, rfl⟩
          go_wp2
          go_roundg (l.length - (j + 1))
          case measure => have := Hr.out.num; omega
          case rel => exact ⟨j + 1, sum + z, by go_num, rfl, by omega, rfl, by omega, hc, B3.out, Y3.out⟩
        · rw [show chE most sum z = 7 from by unfold chE; rw [if_neg hc]]
          rw [show chS most sum z = sum from by unfold chS; rw [if_neg hc]] at b3
          have hc' : most - sum < z := by omega
          have B3 := Lib.hid b3
          clear b3 hc
          go_wp2_with fail
          refine (total_any g most sum w3 B3.out).mono ?_
          rintro e w' ⟨rfl, rfl⟩
          go_wp2
          go_roundg (l.length - (j + 1))
          case measure => have := Hr.out.num; omega
          case rel => exact ⟨j + 1, sum, by go_num, rfl, by omega, rfl, s0, s1, B3.out, Y3.out⟩
      · go_wp2
        go_ret
        exact ⟨rfl, Hr.out.by_⟩
    · go_wp2
      go_ret
      exact ⟨rfl, Hr.out.by_⟩

set_option maxRecDepth 100000 in
theorem lifted (os : Os) (started : os.Started) (H : Type) (enc : TypeId × Value → H) :
    ReturnsInHanded {} Try.checked os 6 .any (Rows.tallyNeverSpec.pre6 enc Try.prog Try.f6 Rows.tallyNeverRow.domain false) (Rows.tallyNeverSpec.post enc Try.prog Try.f6 false true false false) := by
  refine returnsInHanded_of_change (C := Try.checked) own started (by kernel_rfl) Try.func6
    (ChangeSpec.witness6 (enc := enc) (C := Try.checked) false ⟨#[], #[.int .u64 0, .slice none 0 0], []⟩ 8 (by kernel_rfl) (by kernel_rfl) (by kernel_rfl) (by kernel_rfl)) ?_
  intro W base args ds gs before hval0 hW hcnd _
  have hval : ∀ (j : Nat) t v, Try.f6.params[j]? = some t → args[j]? = some v → Value.okWide Try.prog W .any base t v := hval0
  have hW' := hW
  obtain ⟨p, q, hA0, hV, rfl, hfz, hnd⟩ := hW
  have hA : DataW.TrodAll enc Try.prog W 0 (fun _ => true) true Try.f6.params.toList args.toList ds p := hA0
  rw [Try.params6] at hA hval
  obtain ⟨v0, vs0, d0, ds0, p0, q0, hargs, rfl, rfl, h0, r0⟩ := trodAll_cons hA
  obtain ⟨v1, vs1, d1, ds1, p1, q1, rfl, rfl, rfl, h1, r1⟩ := trodAll_cons r0
  obtain ⟨rfl, rfl, rfl⟩ := trodAll_nil r1
  obtain rfl : args = #[v0, v1] := by cases args; simp_all
  obtain ⟨rfl, rfl⟩ := trodVars_none hV
  obtain ⟨a0, rfl, rfl, rfl, w0⟩ := open_int Try.underlying22 (hval 0 22 v0 rfl rfl) h0
  obtain ⟨l1, hl1, hm1, hn1⟩ := arg_nums Try.underlying29 Try.underlying22 (by kernel_rfl) (hval 1 29 v1 rfl rfl) h1
  refine (walk W a0 w0 v1 l1 hl1 hn1 hm1).mono fun e W' ⟨he, hg⟩ => ?_
  subst he
  exact ⟨_, rfl, law_post laidOut rfl hW' (by kernel_rfl) rfl Try.underlying4 rfl (below_of_by hg)⟩

theorem proved : Rows.TallyNeverSaid :=
  OpenClaim.holds_of_wide 6 Try.f6 rfl rfl rfl rfl rfl rfl rfl ⟨rfl, rfl, rfl, rfl, rfl⟩ rfl rfl rfl rfl rfl (by kernel_rfl) Try.func6 (by kernel_rfl)
    (of_decide_eq_true (by kernel_rfl)) (by unfold Func.isWrapper; first | (rw [if_pos (by decide +kernel)]; kernel_rfl) | (rw [if_neg (by decide +kernel)]; exact ⟨rfl, rfl⟩))
    (fun os started H enc _ => lifted os started H enc)
#print axioms proved
end Go.Proofs.Ytdbfphceadllbaa.tallyNever
