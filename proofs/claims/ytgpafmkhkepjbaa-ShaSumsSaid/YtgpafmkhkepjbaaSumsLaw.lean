/-
  ShaSums: any text's sum is as the document says (all inputs, no condition).
-/
import Derived.Test.YtgpafmkhkepjbaaRefSum
import Derived.Test.YtgpafmkhkepjbaaEq
import Derived.Test.YtgpafmkhkepjbaaRow
import Derived.ChangeMaps5
namespace Go.Proofs.Ytgpafmkhkepjbaa.shaSums
open Go.ChangeShapes Go.ChangeMaps Go.WideShapes Go.ChangeAt Go.RowKit

set_option maxRecDepth 100000 in
set_option maxHeartbeats 1000000 in
theorem walk (w : World) (s : ByteArray) (ws : s.size ≤ maxLen) :
    Calls Try.prog 3 #[.string s] w fun e w' => e = .returned (.bool true) ∧ w.grownBy w' none := by
  have ls : (s.extract 0 (min (s.size : Int) 2000).toNat).size ≤ 536870912 := by rw [ByteArray.size_extract]; omega
  go_enter Try.func3, Try.ntmps3
  go_wp2_with fail
  generalize s.extract 0 (min (s.size : Int) 2000).toNat = s2 at *
  refine (sum_bytes s2 w ls).mono ?_
  rintro e w1 ⟨rfl, y1⟩
  go_wp2_with fail
  refine (rsum_any s2 w1 ls).mono ?_
  rintro e w2 ⟨rfl, y2⟩
  rw [rowOut_sumB]
  have hq := eq_row (sumB (sumOf s2)) (sumB (sumOf s2)) (sumB_len _) (sumB_len _)
  have hgu : Try.prog.eqGuardType Try.prog.depth 22 = false := by kernel_rfl
  rw [decide_eq_true rfl] at hq
  have Hy := Lib.hid (by_trans y1 y2 (by simp))
  clear y1 y2
  generalize (u8s (sumB (sumOf s2))).toArray = A at *
  go_wp2_with fail
  refine (works_any w2).mono ?_
  rintro e w3 ⟨rfl, y3⟩
  go_wp2
  go_ret
  exact ⟨rfl, by_trans Hy.out y3 (by simp)⟩

set_option maxRecDepth 100000 in
theorem lifted (os : Os) (started : os.Started) (H : Type) (enc : TypeId × Value → H) :
    ReturnsInHanded {} Try.checked os 3 .any (Rows.shaSumsSpec.pre6 enc Try.prog Try.f3 Rows.shaSumsRow.domain false) (Rows.shaSumsSpec.post enc Try.prog Try.f3 false true false false) := by
  refine returnsInHanded_of_change (C := Try.checked) own started (by kernel_rfl) Try.func3
    (ChangeSpec.witness6 (enc := enc) (C := Try.checked) false ⟨#[], #[.string ByteArray.empty], []⟩ 8 (by kernel_rfl) (by kernel_rfl) (by kernel_rfl) (by kernel_rfl)) ?_
  intro W base args ds gs before hval0 hW hcnd _
  have hval : ∀ (j : Nat) t v, Try.f3.params[j]? = some t → args[j]? = some v → Value.okWide Try.prog W .any base t v := hval0
  have hW' := hW
  obtain ⟨p, q, hA0, hV, rfl, hfz, hnd⟩ := hW
  have hA : DataW.TrodAll enc Try.prog W 0 (fun _ => true) true Try.f3.params.toList args.toList ds p := hA0
  rw [Try.params3] at hA hval
  obtain ⟨v0, vs0, d0, ds0, p0, q0, hargs, rfl, rfl, h0, r0⟩ := trodAll_cons hA
  obtain ⟨rfl, rfl, rfl⟩ := trodAll_nil r0
  obtain rfl : args = #[v0] := by cases args; simp_all
  obtain ⟨rfl, rfl⟩ := trodVars_none hV
  obtain ⟨a0, rfl, rfl, rfl, w0⟩ := open_string Try.underlying9 (hval 0 9 v0 rfl rfl) h0
  refine (walk W a0 w0).mono fun e W' ⟨he, hg⟩ => ?_
  subst he
  exact ⟨_, rfl, law_post laidOut rfl hW' (by kernel_rfl) rfl Try.underlying4 rfl (below_of_by hg)⟩

theorem proved : Rows.ShaSumsSaid :=
  OpenClaim.holds_of_wide 3 Try.f3 rfl rfl rfl rfl rfl rfl rfl ⟨rfl, rfl, rfl, rfl, rfl⟩ rfl rfl rfl rfl rfl (by kernel_rfl) Try.func3 (by kernel_rfl)
    (of_decide_eq_true (by kernel_rfl)) (by unfold Func.isWrapper; first | (rw [if_pos (by decide +kernel)]; kernel_rfl) | (rw [if_neg (by decide +kernel)]; exact ⟨rfl, rfl⟩))
    (fun os started H enc _ => lifted os started H enc)
#print axioms proved
end Go.Proofs.Ytgpafmkhkepjbaa.shaSums
