/-
  ShaHexes: any 32 bytes' digits are as the document says (all inputs, no condition).
-/
import Derived.Test.YtgpafmkhkepjbaaRefHex
import Derived.Test.YtgpafmkhkepjbaaEq
import Derived.Test.YtgpafmkhkepjbaaArr
import Derived.Deep.RegionHeld3
namespace Go.Proofs.Ytgpafmkhkepjbaa.shaHexes
open Go.ChangeShapes Go.WideShapes Go.ChangeAt Go.RowKit

structure One (w0 : World) (g1 : Nat) (LA : List Value) (W : World) : Prop where
  a : Blk W g1 22 LA.toArray
  by_ : w0.grownBy W none
theorem One.range {w0 : World} {g1 : Nat} {LA : List Value} {W : World} (h : One w0 g1 LA W) : W.rangeAt g1 0 LA :=
  fun j v hv => by rw [Nat.zero_add, h.a.cell]; simpa using hv
theorem One.drew {w0 : World} {g1 : Nat} {LA : List Value} {W : World} (h : One w0 g1 LA W) : One w0 g1 LA W.drew := ⟨h.a.drew, by_drew h.by_⟩
theorem One.grown {w0 : World} {g1 : Nat} {LA : List Value} {W W' : World} (h : One w0 g1 LA W) (y : W.grownBy W' none) : One w0 g1 LA W' := ⟨h.a.grown y (by simp), by_trans h.by_ y (by simp)⟩

set_option maxRecDepth 100000 in
set_option maxHeartbeats 1000000 in
theorem walk (w : World) (la : List UInt8) (hla : la.length = 32) :
    Calls Try.prog 4 #[.agg (u8s la).toArray] w fun e w' => e = .returned (.bool true) ∧ w.grownBy w' none := by
  have hcA : ∀ W, Calls Try.prog 17 #[.agg (u8s la).toArray] W fun e w' => e = .returned (.string ⟨(hexL la).toArray⟩) ∧ W.grownBy w' none := fun W => hex_any la hla W
  have hcB : ∀ W, Calls Try.prog 18 #[.agg (u8s la).toArray] W fun e w' => e = .returned (.string ⟨(hexL la).toArray⟩) ∧ W.grownBy w' none := fun W => rhex_any la hla W
  obtain ⟨LA, hLA⟩ : ∃ L, L = u8s la := ⟨_, rfl⟩
  have hlA : LA.length = 32 := by rw [hLA]; simp [u8s, hla]
  rw [← hLA] at hcA hcB ⊢
  generalize (⟨(hexL la).toArray⟩ : ByteArray) = sa at *
  have Hc := Lib.hid (And.intro hcA hcB)
  have hA : One w w.heap.size LA (w.alloc (.cells LA.toArray 22)) := ⟨Blk.new w 22 _, by_alloc (by_refl _ _) _⟩
  obtain ⟨W, hW⟩ : ∃ W, W = w.alloc (.cells LA.toArray 22) := ⟨_, rfl⟩
  rw [← hW] at hA
  have HA := Lib.hid hA
  have HW := Lib.hid hW
  clear hcA hcB hA hW hLA
  have hu := Try.underlying22
  have hiA : (Try.prog.info? 22).map (·.size) = some LA.length := by rw [info22, hlA]
  go_enter Try.func4, Try.ntmps4
  go_wp2
  rw [← HW.out]
  refine wp_region_noPanic ?_
  refine wp_region_held_drew (S := fun W => One w w.heap.size LA W) (by kernel_rfl) (HA.out.drew) (fun hHeld => ?_)
  refine wpAnyH_take (i := 0) (oi := _) (v := _) rfl (by kernel_rfl) (by kernel_rfl) (by kernel_rfl) (fun _ _ _ h => h) (yieldsIf_load_mid (by rfl) _ _ rfl _ _ rfl LA _ (fun _ h => h.range) hu rfl hiA) hHeld ?_
  try simp only [Act.put, List.getElem_toArray, List.getElem_cons_zero, List.getElem_cons_succ, List.setIfInBounds_toArray, List.set_cons_zero, List.set_cons_succ]
  refine wpAnyH_take (i := 2) (oi := _) (v := _) rfl (by kernel_rfl) (by kernel_rfl) (by kernel_rfl) (fun _ _ _ h => h) (yieldsIf_load_mid (by rfl) _ _ rfl _ _ rfl LA _ (fun _ h => h.range) hu rfl hiA) hHeld ?_
  try simp only [Act.put, List.getElem_toArray, List.getElem_cons_zero, List.getElem_cons_succ, List.setIfInBounds_toArray, List.set_cons_zero, List.set_cons_succ]
  refine wpAnyH_ready (rs := [1]) (by kernel_rfl) (by simp) ?_
  refine AllReadyH.cons (o := _) rfl (fun K hK => ?_) AllReadyH.nil
  go_simp
  refine (Hc.out.1 _).mono ?_
  rintro e w2 ⟨rfl, y2⟩
  dsimp only
  refine hK.out _ _ (hHeld.grown y2) (fun hHeld => ?_)
  clear hK K
  try simp only [Act.put, List.getElem_toArray, List.getElem_cons_zero, List.getElem_cons_succ, List.setIfInBounds_toArray, List.set_cons_zero, List.set_cons_succ]
  refine wpAnyH_ready (rs := [3]) (by kernel_rfl) (by simp) ?_
  refine AllReadyH.cons (o := _) rfl (fun K hK => ?_) AllReadyH.nil
  go_simp
  refine (Hc.out.2 _).mono ?_
  rintro e w3 ⟨rfl, y3⟩
  dsimp only
  refine hK.out _ _ (hHeld.grown y3) (fun hHeld => ?_)
  clear hK K
  try simp only [Act.put, List.getElem_toArray, List.getElem_cons_zero, List.getElem_cons_succ, List.setIfInBounds_toArray, List.set_cons_zero, List.set_cons_succ]
  refine wpAnyH_take (i := 4) (oi := _) (v := _) rfl (by kernel_rfl) (by kernel_rfl) (by kernel_rfl) (fun _ _ _ h => h) (Or.inl ⟨by rfl, fun _ _ => by go_simp; try rfl⟩) hHeld ?_
  try simp only [Act.put, List.getElem_toArray, List.getElem_cons_zero, List.getElem_cons_succ, List.setIfInBounds_toArray, List.set_cons_zero, List.set_cons_succ]
  refine wpAnyH_take (i := 5) (oi := _) (v := _) rfl (by kernel_rfl) (by kernel_rfl) (by kernel_rfl) (fun _ _ _ h => h) (Or.inl ⟨by rfl, fun _ _ => by go_simp; try rfl⟩) hHeld ?_
  try simp only [Act.put, List.getElem_toArray, List.getElem_cons_zero, List.getElem_cons_succ, List.setIfInBounds_toArray, List.set_cons_zero, List.set_cons_succ]
  refine wpAnyH_ready (rs := [6]) (by kernel_rfl) (by simp) ?_
  refine AllReadyH.cons (o := _) rfl (fun K hK => ?_) AllReadyH.nil
  go_simp
  refine (works_any _).mono ?_
  rintro e w4 ⟨rfl, y4⟩
  dsimp only
  refine hK.out _ _ (hHeld.grown y4) (fun hHeld => ?_)
  clear hK K
  try simp only [Act.put, List.getElem_toArray, List.getElem_cons_zero, List.getElem_cons_succ, List.setIfInBounds_toArray, List.set_cons_zero, List.set_cons_succ]
  refine wpAnyH_take (i := 7) (oi := _) (v := _) rfl (by kernel_rfl) (by kernel_rfl) (by kernel_rfl) (fun _ _ _ h => h) (Or.inl ⟨by rfl, fun _ _ => by go_simp; try rfl⟩) hHeld ?_
  try simp only [Act.put, List.getElem_toArray, List.getElem_cons_zero, List.getElem_cons_succ, List.setIfInBounds_toArray, List.set_cons_zero, List.set_cons_succ]
  refine wpAnyH_take (i := 8) (oi := _) (v := _) rfl (by kernel_rfl) (by kernel_rfl) (by kernel_rfl) (fun _ _ _ h => h) (Or.inl ⟨by rfl, fun _ _ => by go_simp; try rfl⟩) hHeld ?_
  try simp only [Act.put, List.getElem_toArray, List.getElem_cons_zero, List.getElem_cons_succ, List.setIfInBounds_toArray, List.set_cons_zero, List.set_cons_succ]
  refine wpAnyH_done (by kernel_rfl) (NoPanic.normal ?_) _
  go_wp2
  go_ret
  exact ⟨rfl, hHeld.by_⟩

set_option maxRecDepth 100000 in
theorem lifted (os : Os) (started : os.Started) (H : Type) (enc : TypeId × Value → H) :
    ReturnsInHanded {} Try.checked os 4 .any (Rows.shaHexesSpec.pre6 enc Try.prog Try.f4 Rows.shaHexesRow.domain false) (Rows.shaHexesSpec.post enc Try.prog Try.f4 false true false false) := by
  refine returnsInHanded_of_change (C := Try.checked) own started (by kernel_rfl) Try.func4
    (ChangeSpec.witness6 (enc := enc) (C := Try.checked) false ⟨#[], #[.agg #[.int .u8 0, .int .u8 0, .int .u8 0, .int .u8 0, .int .u8 0, .int .u8 0, .int .u8 0, .int .u8 0, .int .u8 0, .int .u8 0, .int .u8 0, .int .u8 0, .int .u8 0, .int .u8 0, .int .u8 0, .int .u8 0, .int .u8 0, .int .u8 0, .int .u8 0, .int .u8 0, .int .u8 0, .int .u8 0, .int .u8 0, .int .u8 0, .int .u8 0, .int .u8 0, .int .u8 0, .int .u8 0, .int .u8 0, .int .u8 0, .int .u8 0, .int .u8 0]], []⟩ 8 (by kernel_rfl) (by kernel_rfl) (by kernel_rfl) (by kernel_rfl)) ?_
  intro W base args ds gs before hval0 hW hcnd _
  have hval : ∀ (j : Nat) t v, Try.f4.params[j]? = some t → args[j]? = some v → Value.okWide Try.prog W .any base t v := hval0
  have hW' := hW
  obtain ⟨p, q, hA0, hV, rfl, hfz, hnd⟩ := hW
  have hA : DataW.TrodAll enc Try.prog W 0 (fun _ => true) true Try.f4.params.toList args.toList ds p := hA0
  rw [Try.params4] at hA hval
  obtain ⟨v0, vs0, d0, ds0, p0, q0, hargs, rfl, rfl, h0, r0⟩ := trodAll_cons hA
  obtain ⟨rfl, rfl, rfl⟩ := trodAll_nil r0
  obtain rfl : args = #[v0] := by cases args; simp_all
  obtain ⟨rfl, rfl⟩ := trodVars_none hV
  obtain ⟨l0, hl0, rfl⟩ := arg_bytes Try.underlying22 Try.underlying5 (by kernel_rfl) (by kernel_rfl) (hval 0 22 v0 rfl rfl) h0
  refine (walk W l0 hl0).mono fun e W' ⟨he, hg⟩ => ?_
  subst he
  exact ⟨_, rfl, law_post laidOut rfl hW' (by kernel_rfl) rfl Try.underlying4 rfl (below_of_by hg)⟩

theorem proved : Rows.ShaHexesSaid :=
  OpenClaim.holds_of_wide 4 Try.f4 rfl rfl rfl rfl rfl rfl rfl ⟨rfl, rfl, rfl, rfl, rfl⟩ rfl rfl rfl rfl rfl (by kernel_rfl) Try.func4 (by kernel_rfl)
    (of_decide_eq_true (by kernel_rfl)) (by unfold Func.isWrapper; first | (rw [if_pos (by decide +kernel)]; kernel_rfl) | (rw [if_neg (by decide +kernel)]; exact ⟨rfl, rfl⟩))
    (fun os started H enc _ => lifted os started H enc)
#print axioms proved
end Go.Proofs.Ytgpafmkhkepjbaa.shaHexes
