/-
  MacIs: the mark of any bytes with any key is as the document says (where the two are of bulk at most 1048576).
-/
import Derived.Test.YtgpafmkhkepjbaaRefMac2
namespace Go.Proofs.Ytgpafmkhkepjbaa.macIs
open Go.ChangeShapes Go.WideShapes Go.ChangeAt Go.RowKit
open Go.ChangeMaps (open_string)

set_option maxRecDepth 100000 in
set_option maxHeartbeats 1000000 in
theorem walk (w : World) (key : ByteArray) (hk : key.size ≤ 1048576) (s : ByteArray) (hs : s.size ≤ 1048576) :
    Calls Try.prog 9 #[.string key, .string s] w fun e w' => e = .returned (.bool true) ∧ w.grownBy w' none := by
  have Hs := Lib.hid (And.intro hk hs)
  clear hk hs
  go_enter Try.func9, Try.ntmps9
  go_wp2_with fail
  refine (mac_any key s (by have := Hs.out; omega) (by have := Hs.out; omega) w).mono ?_
  rintro e w1 ⟨rfl, y1⟩
  go_wp2_with fail
  refine (rmac_any key s (by have := Hs.out; omega) (by have := Hs.out; omega) w1).mono ?_
  rintro e w2 ⟨rfl, y2⟩
  have hq := eq_row (markB key s) (markB key s) (markB_len _ _) (markB_len _ _)
  have hgu : Try.prog.eqGuardType Try.prog.depth 22 = false := by kernel_rfl
  rw [decide_eq_true rfl] at hq
  have Hy := Lib.hid (by_trans y1 y2 (by simp))
  clear y1 y2
  generalize (u8s (markB key s)).toArray = A at *
  go_wp2_with fail
  refine (works4_any w2).mono ?_
  rintro e w3 ⟨rfl, y3⟩
  go_wp2
  go_ret
  exact ⟨rfl, by_trans Hy.out y3 (by simp)⟩

set_option maxRecDepth 100000 in
theorem lifted (os : Os) (started : os.Started) (H : Type) (enc : TypeId × Value → H) (F : Stop.Interp) :
    ReturnsInHanded {} Try.checked os 9 .any ((Rows.OpenSpec.upto Rows.macIsSpec).pre6 enc Try.prog Try.f9 Rows.macIsUptoRow.domain false) (((Rows.OpenSpec.upto Rows.macIsSpec).at F).post enc Try.prog Try.f9 false true false false) := by
  refine returnsInHanded_of_cond (C := Try.checked) (s := Rows.OpenSpec.upto Rows.macIsSpec) (k := Rows.uptoSmall) rfl own started (by kernel_rfl) Try.func9
    (OpenSpec.witness (enc := enc) (C := Try.checked) (s := Rows.OpenSpec.upto Rows.macIsSpec) (k := Rows.uptoSmall) rfl false ⟨#[], #[.string ByteArray.empty, .string ByteArray.empty], []⟩ 8 (by kernel_rfl) (by kernel_rfl) (by kernel_rfl)
      (x := ([.lit (.string []), .lit (.string [])], [], [])) (by kernel_rfl) rfl (by kernel_rfl)) ?_
  intro W base args ds gs before hval0 hW hcnd hk _
  have hval : ∀ (j : Nat) t v, Try.f9.params[j]? = some t → args[j]? = some v → Value.okWide Try.prog W .any base t v := hval0
  have hW' := hW
  obtain ⟨p, q, hA0, hV, rfl, hfz, hnd⟩ := hW
  have hA : DataW.TrodAll enc Try.prog W 0 (fun _ => true) true Try.f9.params.toList args.toList ds p := hA0
  rw [Try.params9] at hA hval
  obtain ⟨v0, vs0, d0, ds0, p0, q0, hargs, rfl, rfl, h0, r0⟩ := trodAll_cons hA
  obtain ⟨v1, vs1, d1, ds1, p1, q1, rfl, rfl, rfl, h1, r1⟩ := trodAll_cons r0
  obtain ⟨rfl, rfl, rfl⟩ := trodAll_nil r1
  obtain rfl : args = #[v0, v1] := by cases args; simp_all
  obtain ⟨rfl, rfl⟩ := trodVars_none hV
  obtain ⟨a0, rfl, rfl, rfl, w0⟩ := open_string Try.underlying9 (hval 0 9 v0 rfl rfl) h0
  obtain ⟨a1, rfl, rfl, rfl, w1⟩ := open_string Try.underlying9 (hval 1 9 v1 rfl rfl) h1
  refine (walk W a0 (by have := of_decide_eq_true hk; simp only [List.append_nil, List.cons_append, List.nil_append, Rows.uptoBulkAll, Rows.uptoBulk, Array.length_toList] at this; have e0 : a0.size = a0.data.size := rfl; omega) a1 (by have := of_decide_eq_true hk; simp only [List.append_nil, List.cons_append, List.nil_append, Rows.uptoBulkAll, Rows.uptoBulk, Array.length_toList] at this; have e1 : a1.size = a1.data.size := rfl; omega)).mono fun e W' ⟨he, hg⟩ => ?_
  subst he
  exact ⟨_, rfl, law_post (s := Rows.macIsSpec) laidOut rfl hW' (by kernel_rfl) rfl Try.underlying4 rfl (below_of_by hg)⟩

theorem proved : Rows.MacIsUptoSaid :=
  OpenClaim.holds_of_cond 9 Try.f9 rfl rfl rfl rfl rfl rfl rfl ⟨rfl, rfl, rfl, rfl, rfl⟩ rfl rfl rfl rfl rfl (by kernel_rfl) Try.func9 (by kernel_rfl)
    (of_decide_eq_true (by kernel_rfl)) (by unfold Func.isWrapper; first | (rw [if_pos (by decide +kernel)]; kernel_rfl) | (rw [if_neg (by decide +kernel)]; exact ⟨rfl, rfl⟩))
    (fun os started H enc _ F => lifted os started H enc F)
#print axioms proved
end Go.Proofs.Ytgpafmkhkepjbaa.macIs
