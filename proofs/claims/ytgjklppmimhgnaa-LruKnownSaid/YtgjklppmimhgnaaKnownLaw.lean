/-
  LruKnown: the chapter's examples of an Lru, and others (a closed statement).
-/
import Derived.Test.YtgjklppmimhgnaaOStrInt
import Derived.Test.YtgjklppmimhgnaaOIntStr
import Derived.Test.YtgjklppmimhgnaaDuo
import Derived.Test.YtgjklppmimhgnaaRow
import Derived.StillTailTactics
import Derived.Deep.DeepCutAuto
import Derived.Deep.RegionWith
namespace Go.Proofs.Ytgjklppmimhgnaa
open Go.ChangeShapes Go.WideShapes Go.ChangeAt Go.RowKit

/-! ### an Lru that is none -/
theorem put_nil (w : World) (k v : Int) : Calls Try.prog 12 #[.pointer none, .int .i64 k, .int .i64 v] w fun e w' => e = .returned (.tuple #[]) ∧ w = w' := by
  go_enter Try.func12, Try.ntmps12
  go_wp2_with fail
  refine bodyPost_ret (results_none rfl _ _ _) rfl ?_
  exact ⟨rfl, rfl⟩
theorem get_nil (w : World) (k : Int) : Calls Try.prog 10 #[.pointer none, .int .i64 k] w fun e w' => e = .returned (.tuple #[.int .i64 0, .bool false]) ∧ w = w' := by
  go_enter Try.func10, Try.ntmps10
  go_wp2_with fail
  go_ret2
  exact ⟨rfl, rfl⟩
theorem len_nil (w : World) : Calls Try.prog 17 #[.pointer none] w fun e w' => e = .returned (.int .i64 0) ∧ w = w' := by
  go_enter Try.func17, Try.ntmps17
  go_wp2_with fail
  go_ret
  exact ⟨rfl, rfl⟩
theorem keys_nil (w : World) : Calls Try.prog 14 #[.pointer none] w fun e w' => e = .returned (.slice none 0 0) ∧ w = w' := by
  go_enter Try.func14, Try.ntmps14
  go_wp2_with fail
  go_ret
  exact ⟨rfl, rfl⟩

theorem sk_keys {w0 w : World} {l : Nat} {cap : Int} {a c : ByteArray} {x y : Int} (h : iStrInt.One w0 w l cap [(a, x), (c, y)]) :
    Calls Try.prog 32 #[.pointer (some ⟨l, 0, none⟩)] w fun e w' => ∃ g n, e = .returned (.slice (some ⟨g, 0, none⟩) 2 n) ∧ w'.cell? ⟨g, 0, none⟩ = some (.string a) ∧ w'.cell? ⟨g, 1, none⟩ = some (.string c) ∧ iStrInt.One w0 w' l cap [(a, x), (c, y)] := by
  have hh := h
  obtain ⟨own, h1, _⟩ := h
  refine (iStrInt.keys_any w l own cap _ h1 (by simp)).mono fun e w' ⟨v, he, k1, k2⟩ => ?_
  obtain ⟨g, n, rfl, _⟩ := k1.form (by simp)
  refine ⟨g, n, he, ?_, ?_, hh.by_none k2⟩
  · rw [k1.cellAt 0 (by simp)]; rfl
  · rw [k1.cellAt 1 (by simp)]; rfl

abbrev sA : ByteArray := ⟨#[97]⟩
abbrev sB : ByteArray := ⟨#[98]⟩
abbrev sC : ByteArray := ⟨#[99]⟩

set_option maxHeartbeats 2000000 in
set_option maxRecDepth 100000 in
theorem known_any (w : World) : Calls Try.prog 7 #[] w fun e w' => e = .returned (.bool true) ∧ w.grownBy w' none := by
  go_enter Try.func7, Try.ntmps7
  go_wp2_with fail
  refine (iStrInt.new_one w w 2 (by_refl _ _)).mono ?_
  rintro e w1 ⟨l, rfl, S1⟩
  go_wp2_with fail
  refine (S1.put (k := sA) (v := 1) (by unfold iStrInt.WfI; decide) (by decide)).mono ?_
  rintro e w2 ⟨rfl, S2⟩
  replace S2 : iStrInt.One w w2 l 2 [(sA, 1)] := S2
  go_wp2_with fail
  refine (S2.put (k := sB) (v := 2) (by unfold iStrInt.WfI; decide) (by decide)).mono ?_
  rintro e w3 ⟨rfl, S3⟩
  replace S3 : iStrInt.One w w3 l 2 [(sB, 2), (sA, 1)] := S3
  go_wp2_with fail
  refine (S3.get (k := sA) (by unfold iStrInt.WfI; decide)).mono ?_
  rintro e w4 ⟨rfl, S4⟩
  replace S4 : iStrInt.One w w4 l 2 [(sA, 1), (sB, 2)] := S4
  have e4 : iStrInt.GetV [(sB, 2), (sA, 1)] sA = .tuple #[.int .i64 1, .bool true] := rfl
  rw [e4]
  clear e4
  go_wp2_with fail
  refine (S4.put (k := sC) (v := 3) (by unfold iStrInt.WfI; decide) (by decide)).mono ?_
  rintro e w5 ⟨rfl, S5⟩
  replace S5 : iStrInt.One w w5 l 2 [(sC, 3), (sA, 1)] := S5
  go_wp2_with fail
  refine (S5.get (k := sB) (by unfold iStrInt.WfI; decide)).mono ?_
  rintro e w6 ⟨rfl, S6⟩
  replace S6 : iStrInt.One w w6 l 2 [(sC, 3), (sA, 1)] := S6
  have e6 : iStrInt.GetV [(sC, 3), (sA, 1)] sB = .tuple #[.int .i64 0, .bool false] := rfl
  rw [e6]
  clear e6
  go_wp2_with fail
  refine (S6.put (k := sA) (v := 4) (by unfold iStrInt.WfI; decide) (by decide)).mono ?_
  rintro e w7 ⟨rfl, S7⟩
  replace S7 : iStrInt.One w w7 l 2 [(sA, 4), (sC, 3)] := S7
  go_wp2_with fail
  refine (S7.get (k := sA) (by unfold iStrInt.WfI; decide)).mono ?_
  rintro e w8 ⟨rfl, S8⟩
  replace S8 : iStrInt.One w w8 l 2 [(sA, 4), (sC, 3)] := S8
  have e8 : iStrInt.GetV [(sA, 4), (sC, 3)] sA = .tuple #[.int .i64 4, .bool true] := rfl
  rw [e8]
  clear e8
  go_wp2_with fail
  refine (sk_keys S8).mono ?_
  rintro e w9 ⟨g, n, rfl, c0, c1, S9⟩
  clear S1 S2 S3 S4 S5 S6 S7 S8
  go_wp2_with fail
  refine (S9.len).mono ?_
  rintro e w10 ⟨rfl, rfl⟩
  have B := S9.by_
  clear S9 c0 c1
  simp only [List.length_cons, List.length_nil]
  go_wp2_with fail
  refine (iIntStr.new_one w w9 0 B).mono ?_
  rintro e w1 ⟨a, rfl, S1⟩
  go_wp2_with fail
  refine (iIntStr.new_two w w1 a _ (-5) _ S1).mono ?_
  rintro e w2 ⟨b, rfl, S2⟩
  go_wp2_with fail
  refine (iIntStr.new_three w w2 a b _ _ 1 _ _ S2).mono ?_
  rintro e w3 ⟨c, rfl, S3⟩
  replace S3 : iIntStr.T3 w w3 a b c 0 0 1 [] [] [] := S3
  clear S1 S2 B
  go_wp2_with fail
  refine (S3.put (k := 1) (v := sA) (by unfold iIntStr.WfI; decide) (by decide)).mono ?_
  rintro e w4 ⟨rfl, S4⟩
  replace S4 : iIntStr.T3 w w4 b c a 0 1 0 [] [] [] := iIntStr.T3.turn S4
  go_wp2_with fail
  refine (S4.put (k := 1) (v := sA) (by unfold iIntStr.WfI; decide) (by decide)).mono ?_
  rintro e w5 ⟨rfl, S5⟩
  replace S5 : iIntStr.T3 w w5 c a b 1 0 0 [] [] [] := iIntStr.T3.turn S5
  go_wp2_with fail
  refine (S5.put (k := 1) (v := sA) (by unfold iIntStr.WfI; decide) (by decide)).mono ?_
  rintro e w6 ⟨rfl, S6⟩
  replace S6 : iIntStr.T3 w w6 c a b 1 0 0 [(1, sA)] [] [] := S6
  go_wp2_with fail
  refine (S6.put (k := 2) (v := sB) (by unfold iIntStr.WfI; decide) (by decide)).mono ?_
  rintro e w7 ⟨rfl, S7⟩
  replace S7 : iIntStr.T3 w w7 c a b 1 0 0 [(2, sB)] [] [] := S7
  go_wp2_with fail
  refine (S7.put (k := 2) (v := sC) (by unfold iIntStr.WfI; decide) (by decide)).mono ?_
  rintro e w8 ⟨rfl, S8⟩
  replace S8 : iIntStr.T3 w w8 a b c 0 0 1 [] [] [(2, sC)] := iIntStr.T3.turn S8
  clear S3 S4 S5 S6 S7
  go_wp2_with fail
  refine (S8.get (k := 1) (by unfold iIntStr.WfI; decide)).mono ?_
  rintro e w9 ⟨rfl, S9⟩
  replace S9 : iIntStr.T3 w w9 c a b 1 0 0 [(2, sC)] [] [] := iIntStr.T3.turn (iIntStr.T3.turn S9)
  have e9 : iIntStr.GetV [] 1 = .tuple #[.string ⟨#[]⟩, .bool false] := rfl
  rw [e9]
  clear e9
  go_wp2_with fail
  refine (S9.get (k := 2) (by unfold iIntStr.WfI; decide)).mono ?_
  rintro e w10 ⟨rfl, S10⟩
  replace S10 : iIntStr.T3 w w10 c a b 1 0 0 [(2, sC)] [] [] := S10
  have e10 : iIntStr.GetV [(2, sC)] 2 = .tuple #[.string sC, .bool true] := rfl
  rw [e10]
  clear e10
  go_wp2_with fail
  refine (S10.get (k := 1) (by unfold iIntStr.WfI; decide)).mono ?_
  rintro e w11 ⟨rfl, S11⟩
  replace S11 : iIntStr.T3 w w11 a b c 0 0 1 [] [] [(2, sC)] := iIntStr.T3.turn S11
  have e11 : iIntStr.GetV [(2, sC)] 1 = .tuple #[.string ⟨#[]⟩, .bool false] := rfl
  rw [e11]
  clear e11 S8 S9 S10
  go_wp2_with fail
  refine (put_nil w11 1 1).mono ?_
  rintro e w12 ⟨rfl, rfl⟩
  go_wp2_with fail
  refine (get_nil w11 1).mono ?_
  rintro e w12 ⟨rfl, rfl⟩
  go_wp2_with fail
  refine (S11.len).mono ?_
  rintro e w12 ⟨rfl, rfl⟩
  simp only [List.length_cons, List.length_nil]
  go_wp2_with fail
  have T12 := iIntStr.T3.turn S11
  refine (T12.len).mono ?_
  rintro e w12 ⟨rfl, rfl⟩
  simp only [List.length_cons, List.length_nil]
  go_wp2_with fail
  refine (T12.keys (by decide)).mono ?_
  rintro e w13 ⟨A, n2, rfl, S13⟩
  simp only [List.length_cons, List.length_nil]
  replace S13 := iIntStr.T3.turn S13
  clear T12 S11
  go_wp2_with fail
  refine (S13.len).mono ?_
  rintro e w14 ⟨rfl, rfl⟩
  simp only [List.length_cons, List.length_nil]
  go_wp2_with fail
  refine (len_nil w13).mono ?_
  rintro e w14 ⟨rfl, rfl⟩
  go_wp2_with fail
  refine (keys_nil w13).mono ?_
  rintro e w14 ⟨rfl, rfl⟩
  obtain ⟨oa, ob, oc, S⟩ := S13
  have B := S.by_
  clear S
  go_wp2_with fail
  refine (works_any w13).mono ?_
  rintro e w14 ⟨rfl, y14⟩
  have Hf := Lib.hid (by_trans B y14 (by simp))
  clear B y14
  go_wp2
  go_ret
  exact ⟨rfl, Hf.out⟩

namespace lruKnown
theorem walk (w : World) : Calls Try.prog 7 #[] w fun e w' => e = .returned (.bool true) ∧ w.grownBy w' none := known_any w
set_option maxRecDepth 100000 in
theorem lifted (os : Os) (started : os.Started) (H : Type) (enc : TypeId × Value → H) :
    ReturnsInHanded {} Try.checked os 7 .any (Rows.lruKnownSpec.pre6 enc Try.prog Try.f7 Rows.lruKnownRow.domain false) (Rows.lruKnownSpec.post enc Try.prog Try.f7 false true false false) := by
  refine returnsInHanded_of_change (C := Try.checked) own started (by kernel_rfl) Try.func7
    (ChangeSpec.witness6 (enc := enc) (C := Try.checked) false ⟨#[], #[], []⟩ 8 (by kernel_rfl) (by kernel_rfl) (by kernel_rfl) (by kernel_rfl)) ?_
  intro W base args ds gs before hval0 hW hcnd _
  have hval : ∀ (j : Nat) t v, Try.f7.params[j]? = some t → args[j]? = some v → Value.okWide Try.prog W .any base t v := hval0
  have hW' := hW
  obtain ⟨p, q, hA0, hV, rfl, hfz, hnd⟩ := hW
  have hA : DataW.TrodAll enc Try.prog W 0 (fun _ => true) true Try.f7.params.toList args.toList ds p := hA0
  rw [Try.params7] at hA hval
  obtain ⟨hargs, rfl, rfl⟩ := trodAll_nil hA
  obtain rfl : args = #[] := by cases args; simp_all
  obtain ⟨rfl, rfl⟩ := trodVars_none hV
  refine (walk W).mono fun e W' ⟨he, hg⟩ => ?_
  subst he
  exact ⟨_, rfl, law_post laidOut rfl hW' (by kernel_rfl) rfl Try.underlying4 rfl (below_of_by hg)⟩

theorem proved : Rows.LruKnownSaid :=
  OpenClaim.holds_of_wide 7 Try.f7 rfl rfl rfl rfl rfl rfl rfl ⟨rfl, rfl, rfl, rfl, rfl⟩ rfl rfl rfl rfl rfl (by kernel_rfl) Try.func7 (by kernel_rfl)
    (of_decide_eq_true (by kernel_rfl)) (by unfold Func.isWrapper; first | (rw [if_pos (by decide +kernel)]; kernel_rfl) | (rw [if_neg (by decide +kernel)]; exact ⟨rfl, rfl⟩))
    (fun os started H enc _ => lifted os started H enc)
#print axioms proved
end lruKnown
end Go.Proofs.Ytgjklppmimhgnaa
