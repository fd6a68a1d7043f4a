/-
  CacheKnown: the chapter's examples; caches that are none (wkknown.py).
-/
import Derived.Test.YtndmnnapjhjkmaaWorks
import Derived.Test.YtndmnnapjhjkmaaRow
namespace Go.Proofs.Ytndmnnapjhjkmaa
open Go.ChangeShapes Go.WideShapes Go.ChangeAt Go.RowKit iStrRes
namespace cacheKnown
set_option maxRecDepth 100000 in
set_option maxHeartbeats 1000000 in
theorem walk (w : World) : Calls Try.prog 6 #[] w fun e w' => e = .returned (.bool true) ∧ w.grownBy w' none := by
  go_enter Try.func6, Try.ntmps6
  have Hy := Lib.hid (by_refl w none)
  go_wp2_with fail
  refine (res_at w 1 1 (by decide) (by decide)).mono ?_
  rintro e w1 ⟨r, G, rfl, hv, y, _, _⟩
  have t := Tr.grown y
  replace Hy := Lib.hid (by_trans Hy.out y (by simp))
  have Hv := Lib.hid hv
  clear hv y t
  go_wp2_with fail
  refine (cput_nil w1 _ _).mono ?_
  rintro e w2 ⟨rfl, y⟩
  have t := Tr.grown y
  replace Hy := Lib.hid (by_trans Hy.out y (by simp))
  clear y t Hv
  go_wp2_with fail
  refine (cget_nil w2 _).mono ?_
  rintro e w3 ⟨rfl, y⟩
  have t := Tr.grown y
  replace Hy := Lib.hid (by_trans Hy.out y (by simp))
  clear y t
  obtain ⟨w4, hw⟩ : ∃ W, W = w3.alloc (.cells #[.slice none 0 0, .string ⟨#[]⟩, .bool false, .slice none 0 0, .slice none 0 0, .int .u64 0] 38) := ⟨_, rfl⟩
  have y : w3.grownBy w4 none := by rw [hw]; exact by_alloc (by_refl _ _) _
  have t := Tr.grown y
  replace Hy := Lib.hid (by_trans Hy.out y (by simp))
  have Hw := Lib.hid hw
  clear hw y t
  go_wp2_with fail
  rw [← Hw.out]
  clear Hw
  go_wp2_with fail
  refine (cs_new w4 (-3) (cap := 0) (by decide)).mono ?_
  rintro e w5 ⟨c, rfl, hc, y⟩
  have t := Tr.grown y
  have Hc := Lib.hid hc
  clear hc y t
  go_wp2_with fail
  refine (res_at w5 1 1 (by decide) (by decide)).mono ?_
  rintro e w6 ⟨r, G, rfl, hv, y, _, _⟩
  have t := Tr.grown y
  replace Hc := Lib.hid (Hc.out.grown y)
  have Hv := Lib.hid hv
  clear hv y t
  go_wp2_with fail
  refine (Hc.out.put Hc.out.size (by unfold WfI maxLen; decide) (by decide) Hv.out (ps' := []) (by decide +kernel)).mono ?_
  rintro e w7 ⟨rfl, h, t⟩
  replace Hc := Lib.hid h
  clear h t Hv
  go_wp2_with fail
  refine (Hc.out.miss Hc.out.size (by unfold WfI maxLen; decide) (by decide +kernel)).mono ?_
  rintro e w8 ⟨rfl, h, t⟩
  replace Hc := Lib.hid h
  clear h t
  obtain ⟨w9, hw⟩ : ∃ W, W = w8.alloc (.cells #[.slice none 0 0, .string ⟨#[]⟩, .bool false, .slice none 0 0, .slice none 0 0, .int .u64 0] 38) := ⟨_, rfl⟩
  have y : w8.grownBy w9 none := by rw [hw]; exact by_alloc (by_refl _ _) _
  have t := Tr.grown y
  replace Hc := Lib.hid (Hc.out.grown y)
  have Hw := Lib.hid hw
  clear hw y t
  go_wp2_with fail
  rw [← Hw.out]
  clear Hw
  have Hy2 := Lib.hid (by_trans Hy.out Hc.out.by_ (by simp))
  go_wp2_with fail
  refine (cs_new w9 (1) (cap := 1) (by decide)).mono ?_
  rintro e w10 ⟨d, rfl, hd, y⟩
  have t := Tr.grown y
  have Hd := Lib.hid hd
  clear hd y t
  go_wp2_with fail
  refine (res_at w10 7 7 (by decide) (by decide)).mono ?_
  rintro e w11 ⟨r, G, rfl, hv, y, _, _⟩
  have t := Tr.grown y
  replace Hd := Lib.hid (Hd.out.grown y)
  have Hv := Lib.hid hv
  clear hv y t
  go_wp2_with fail
  refine (Hd.out.put Hd.out.size (by unfold WfI maxLen; decide) (by decide) Hv.out (ps' := [(⟨#[]⟩, 7)]) (by decide +kernel)).mono ?_
  rintro e w12 ⟨rfl, h, t⟩
  replace Hd := Lib.hid h
  clear h t Hv
  go_wp2_with fail
  refine (res_at w12 6 6 (by decide) (by decide)).mono ?_
  rintro e w13 ⟨r, G, rfl, hv, y, _, _⟩
  have t := Tr.grown y
  replace Hd := Lib.hid (Hd.out.grown y)
  have Hv := Lib.hid hv
  clear hv y t
  go_wp2_with fail
  refine (Hd.out.put Hd.out.size (by unfold WfI maxLen; decide) (by decide) Hv.out (ps' := [(⟨#[0]⟩, 6)]) (by decide +kernel)).mono ?_
  rintro e w14 ⟨rfl, h, t⟩
  replace Hd := Lib.hid h
  clear h t Hv
  go_wp2_with fail
  refine (Hd.out.hit Hd.out.size (by unfold WfI maxLen; decide) (n := 6) (by decide +kernel) (ps' := [(⟨#[0]⟩, 6)]) (by decide +kernel)).mono ?_
  rintro e w15 ⟨x, G, rfl, hv, h, t⟩
  replace Hd := Lib.hid h
  clear h t
  obtain ⟨w16, hw⟩ : ∃ W, W = w15.alloc (.cells #[.slice x.d.1 x.d.2.1 x.d.2.2, .string x.p, .bool x.b, .slice x.vs.1 x.vs.2.1 x.vs.2.2, .slice x.ts.1 x.ts.2.1 x.ts.2.2, .int .u64 x.c] 38) := ⟨_, rfl⟩
  have y : w15.grownBy w16 none := by rw [hw]; exact by_alloc (by_refl _ _) _
  have t := Tr.grown y
  replace Hd := Lib.hid (Hd.out.grown y)
  have Hx := Lib.hid (And.intro (show Blk w16 w15.heap.size 38 _ by rw [hw]; exact Blk.new _ _ _) (hv.grown y))
  obtain ⟨bx, hbx⟩ : ∃ b, b = w15.heap.size := ⟨_, rfl⟩
  rw [← hbx] at Hx
  have Hw := Lib.hid (And.intro hw hbx)
  clear hw hbx y t hv
  go_wp2_with fail
  rw [← Hw.out.1, ← Hw.out.2]
  clear Hw
  go_wp2_with fail
  refine (Hd.out.miss Hd.out.size (by unfold WfI maxLen; decide) (by decide +kernel)).mono ?_
  rintro e w17 ⟨rfl, h, t⟩
  replace Hx := Lib.hid (And.intro (t.res _ _ Hx.out.1) (t.val _ _ _ Hx.out.2))
  replace Hd := Lib.hid h
  clear h t
  obtain ⟨w18, hw⟩ : ∃ W, W = w17.alloc (.cells #[.slice none 0 0, .string ⟨#[]⟩, .bool false, .slice none 0 0, .slice none 0 0, .int .u64 0] 38) := ⟨_, rfl⟩
  have y : w17.grownBy w18 none := by rw [hw]; exact by_alloc (by_refl _ _) _
  have t := Tr.grown y
  replace Hx := Lib.hid (And.intro (t.res _ _ Hx.out.1) (t.val _ _ _ Hx.out.2))
  replace Hd := Lib.hid (Hd.out.grown y)
  have Hw := Lib.hid hw
  clear hw y t
  go_wp2_with fail
  rw [← Hw.out]
  clear Hw
  go_wp2_with fail
  refine (works_any w18).mono ?_
  rintro e w19 ⟨rfl, y⟩
  have t := Tr.grown y
  replace Hx := Lib.hid (And.intro (t.res _ _ Hx.out.1) (t.val _ _ _ Hx.out.2))
  replace Hd := Lib.hid (Hd.out.grown y)
  clear y t
  go_wp2_with fail
  refine (clen_nil w19).mono ?_
  rintro e _ ⟨rfl, rfl⟩
  replace Hc := Lib.hid (Hc.out.beside Hd.out (Nat.le_refl _) Hc.out.size)
  go_wp2_with fail
  refine (Hc.out.len 0 (by decide)).mono ?_
  rintro e _ ⟨rfl, rfl⟩
  go_wp2_with (refine wpList_load_row_g rfl 38 (.tmp 8) rfl bx rfl 38 #[.slice x.d.1 x.d.2.1 x.d.2.2, .string x.p, .bool x.b, .slice x.vs.1 x.vs.2.1 x.vs.2.2, .slice x.ts.1 x.ts.2.1 x.ts.2.2, .int .u64 x.c] (0, 0) _ Hx.out.1 Try.underlying38 rfl (sz6 x) ?_)
  refine (is_at w19 x 6 _ 6 (by decide) (by decide) Hx.out.2).mono ?_
  rintro e w20 ⟨rfl, y⟩
  have t := Tr.grown y
  clear Hx
  replace Hd := Lib.hid (Hd.out.grown y)
  clear y t
  go_wp2_with fail
  refine (Hd.out.len 1 (by decide)).mono ?_
  rintro e _ ⟨rfl, rfl⟩
  go_wp2
  go_ret
  exact ⟨rfl, by_trans Hy2.out Hd.out.by_ (by simp)⟩

set_option maxRecDepth 100000 in
theorem lifted (os : Os) (started : os.Started) (H : Type) (enc : TypeId × Value → H) :
    ReturnsInHanded {} Try.checked os 6 .any (Rows.cacheKnownSpec.pre6 enc Try.prog Try.f6 Rows.cacheKnownRow.domain false) (Rows.cacheKnownSpec.post enc Try.prog Try.f6 false true false false) := by
  refine returnsInHanded_of_change (C := Try.checked) own started (by kernel_rfl) Try.func6
    (ChangeSpec.witness6 (enc := enc) (C := Try.checked) false ⟨#[], #[], []⟩ 8 (by kernel_rfl) (by kernel_rfl) (by kernel_rfl) (by kernel_rfl)) ?_
  intro W base args ds gs before hval0 hW hcnd _
  have hval : ∀ (j : Nat) t v, Try.f6.params[j]? = some t → args[j]? = some v → Value.okWide Try.prog W .any base t v := hval0
  have hW' := hW
  obtain ⟨p, q, hA0, hV, rfl, hfz, hnd⟩ := hW
  have hA : DataW.TrodAll enc Try.prog W 0 (fun _ => true) true Try.f6.params.toList args.toList ds p := hA0
  rw [Try.params6] at hA hval
  obtain ⟨hargs, rfl, rfl⟩ := trodAll_nil hA
  obtain rfl : args = #[] := by cases args; simp_all
  obtain ⟨rfl, rfl⟩ := trodVars_none hV
  refine (walk W).mono fun e W' ⟨he, hg⟩ => ?_
  subst he
  exact ⟨_, rfl, law_post laidOut rfl hW' (by kernel_rfl) rfl Try.underlying4 rfl (below_of_by hg)⟩

theorem proved : Rows.CacheKnownSaid :=
  OpenClaim.holds_of_wide 6 Try.f6 rfl rfl rfl rfl rfl rfl rfl ⟨rfl, rfl, rfl, rfl, rfl⟩ rfl rfl rfl rfl rfl (by kernel_rfl) Try.func6 (by kernel_rfl)
    (of_decide_eq_true (by kernel_rfl)) (by unfold Func.isWrapper; first | (rw [if_pos (by decide +kernel)]; kernel_rfl) | (rw [if_neg (by decide +kernel)]; exact ⟨rfl, rfl⟩))
    (fun os started H enc _ => lifted os started H enc)
#print axioms proved
end cacheKnown
end Go.Proofs.Ytndmnnapjhjkmaa
