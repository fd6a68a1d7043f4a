/-
  FramePacks: for every text, both 'Pack's answer the same (all inputs, no condition).
-/
import Derived.Test.YteidcneijjnkaaaWorks
import Derived.Test.YteidcneijjnkaaaRow
namespace Go.Proofs.Yteidcneijjnkaaa.framePacks
open Go.ChangeShapes Go.WideShapes Go.ChangeAt Go.RowKit
open Go.ChangeMaps (open_string shut_string)

set_option maxHeartbeats 400000 in
theorem walk (s : ByteArray) (hs : s.size ≤ maxLen) (w : World) :
    Calls Try.prog 4 #[.string s] w fun e w' => e = .returned (.bool true) ∧ w.grownBy w' none := by
  unfold maxLen at hs
  by_cases h1 : s.size = 0
  · go_enter Try.func4, Try.ntmps4
    go_wp2_with fail
    refine (pack_none s w h1).mono ?_
    rintro e w' ⟨rfl, rfl⟩
    go_wp2_with fail
    refine (rpack_none s w h1).mono ?_
    rintro e w' ⟨rfl, rfl⟩
    go_wp2_with fail
    refine (works_walk w).mono ?_
    rintro e w1 ⟨rfl, y1⟩
    go_wp2
    go_ret
    exact ⟨rfl, y1⟩
  · by_cases h2 : s.size ≤ 8192
    · have h3 : 1 ≤ s.size := by omega
      go_enter Try.func4, Try.ntmps4
      go_wp2_with fail
      refine (pack_ok s w h3 h2).mono ?_
      rintro e w1 ⟨rfl, y1⟩
      go_wp2_with fail
      refine (rpack_ok s w1 h3 h2).mono ?_
      rintro e w2 ⟨rfl, y2⟩
      go_wp2_with fail
      refine (works_walk w2).mono ?_
      rintro e w3 ⟨rfl, y3⟩
      have Y := Lib.hid (by_trans (by_trans y1 y2 (fun x hx => by cases hx)) y3 (fun x hx => by cases hx))
      clear y1 y2 y3
      go_wp2
      go_ret
      exact ⟨rfl, Y.out⟩
    · have h3 : 8192 < s.size := by omega
      go_enter Try.func4, Try.ntmps4
      go_wp2_with fail
      refine (pack_long s w h3 hs).mono ?_
      rintro e w' ⟨rfl, rfl⟩
      go_wp2_with fail
      refine (rpack_long s w h3 hs).mono ?_
      rintro e w' ⟨rfl, rfl⟩
      go_wp2_with fail
      refine (works_walk w).mono ?_
      rintro e w1 ⟨rfl, y1⟩
      go_wp2
      go_ret
      exact ⟨rfl, y1⟩

set_option maxRecDepth 100000 in
theorem lifted (os : Os) (started : os.Started) (H : Type) (enc : TypeId × Value → H) :
    ReturnsInHanded {} Try.checked os 4 .any (Rows.framePacksSpec.pre6 enc Try.prog Try.f4 Rows.framePacksRow.domain false) (Rows.framePacksSpec.post enc Try.prog Try.f4 false true false false) := by
  refine returnsInHanded_of_change (C := Try.checked) own started (by kernel_rfl) Try.func4
    (ChangeSpec.witness6 (enc := enc) (C := Try.checked) false ⟨#[], #[.string ByteArray.empty], []⟩ 8 (by kernel_rfl) (by kernel_rfl) (by kernel_rfl) (by kernel_rfl)) ?_
  intro W base args ds gs before hval0 hW hcnd _
  have hval : ∀ (j : Nat) t v, Try.f4.params[j]? = some t → args[j]? = some v → Value.okWide Try.prog W .any base t v := hval0
  have hW' := hW
  obtain ⟨p, q, hA0, hV, rfl, hfz, hnd⟩ := hW
  have hA : DataW.TrodAll enc Try.prog W 0 (fun _ => true) true Try.f4.params.toList args.toList ds p := hA0
  rw [Try.params4] at hA hval
  obtain ⟨v0, vs0, d0, ds0, p0, q0, hargs, rfl, rfl, h0, r0⟩ := trodAll_cons hA
  obtain ⟨rfl, rfl, rfl⟩ := trodAll_nil r0
  obtain rfl : args = #[v0] := by cases args; simp_all
  obtain ⟨rfl, rfl⟩ := trodVars_none hV
  obtain ⟨a0, rfl, rfl, rfl, w0⟩ := open_string Try.underlying9 (hval 0 9 v0 rfl rfl) h0
  refine (walk a0 w0 W).mono fun e W' ⟨he, hg⟩ => ?_
  subst he
  exact ⟨_, rfl, law_post laidOut rfl hW' (by kernel_rfl) rfl Try.underlying4 rfl (below_of_by hg)⟩

theorem proved : Rows.FramePacksSaid :=
  OpenClaim.holds_of_wide 4 Try.f4 rfl rfl rfl rfl rfl rfl rfl ⟨rfl, rfl, rfl, rfl, rfl⟩ rfl rfl rfl rfl rfl (by kernel_rfl) Try.func4 (by kernel_rfl)
    (of_decide_eq_true (by kernel_rfl)) (by unfold Func.isWrapper; first | (rw [if_pos (by decide +kernel)]; kernel_rfl) | (rw [if_neg (by decide +kernel)]; exact ⟨rfl, rfl⟩))
    (fun os started H enc _ => lifted os started H enc)
#print axioms proved
end Go.Proofs.Yteidcneijjnkaaa.framePacks
