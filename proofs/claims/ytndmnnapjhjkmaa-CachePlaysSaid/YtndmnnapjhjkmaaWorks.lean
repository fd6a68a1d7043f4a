/-
  lodgerlaw24.works (wkworks.py).
-/
import Derived.Test.YtndmnnapjhjkmaaCs
namespace Go.Proofs.Ytndmnnapjhjkmaa
open Go.RowKit iStrRes
set_option maxRecDepth 100000 in
set_option maxHeartbeats 1000000 in
theorem works_any (w : World) : Calls Try.prog 15 #[] w fun e w' => e = .returned (.bool true) ∧ w.grownBy w' none := by
  go_enter Try.func15, Try.ntmps15
  go_wp2_with fail
  refine (cs_new w 2 (cap := 2) (by decide)).mono ?_
  rintro e w1 ⟨c, rfl, hc, y⟩
  have t := Tr.grown y
  have Hc := Lib.hid hc
  clear hc y t
  go_wp2_with fail
  refine (res_at w1 1 1 (by decide) (by decide)).mono ?_
  rintro e w2 ⟨r, G, rfl, hv, y, _, _⟩
  have t := Tr.grown y
  replace Hc := Lib.hid (Hc.out.grown y)
  have Hv := Lib.hid hv
  clear hv y t
  go_wp2_with fail
  refine (Hc.out.put Hc.out.size (by unfold WfI maxLen; decide) (by decide) Hv.out (ps' := [(⟨#[97]⟩, 1)]) (by decide +kernel)).mono ?_
  rintro e w3 ⟨rfl, h, t⟩
  replace Hc := Lib.hid h
  clear h t Hv
  go_wp2_with fail
  refine (res_at w3 2 2 (by decide) (by decide)).mono ?_
  rintro e w4 ⟨r, G, rfl, hv, y, _, _⟩
  have t := Tr.grown y
  replace Hc := Lib.hid (Hc.out.grown y)
  have Hv := Lib.hid hv
  clear hv y t
  go_wp2_with fail
  refine (Hc.out.put Hc.out.size (by unfold WfI maxLen; decide) (by decide) Hv.out (ps' := [(⟨#[98]⟩, 2), (⟨#[97]⟩, 1)]) (by decide +kernel)).mono ?_
  rintro e w5 ⟨rfl, h, t⟩
  replace Hc := Lib.hid h
  clear h t Hv
  go_wp2_with fail
  refine (Hc.out.hit Hc.out.size (by unfold WfI maxLen; decide) (n := 1) (by decide +kernel) (ps' := [(⟨#[97]⟩, 1), (⟨#[98]⟩, 2)]) (by decide +kernel)).mono ?_
  rintro e w6 ⟨x, G, rfl, hv, h, t⟩
  replace Hc := Lib.hid h
  clear h t
  obtain ⟨w7, hw⟩ : ∃ W, W = w6.alloc (.cells #[.slice x.d.1 x.d.2.1 x.d.2.2, .string x.p, .bool x.b, .slice x.vs.1 x.vs.2.1 x.vs.2.2, .slice x.ts.1 x.ts.2.1 x.ts.2.2, .int .u64 x.c] 38) := ⟨_, rfl⟩
  have y : w6.grownBy w7 none := by rw [hw]; exact by_alloc (by_refl _ _) _
  have t := Tr.grown y
  replace Hc := Lib.hid (Hc.out.grown y)
  have Hx := Lib.hid (And.intro (show Blk w7 w6.heap.size 38 _ by rw [hw]; exact Blk.new _ _ _) (hv.grown y))
  obtain ⟨bx, hbx⟩ : ∃ b, b = w6.heap.size := ⟨_, rfl⟩
  rw [← hbx] at Hx
  have Hw := Lib.hid (And.intro hw hbx)
  clear hw hbx y t hv
  go_wp2_with fail
  rw [← Hw.out.1, ← Hw.out.2]
  clear Hw
  go_wp2_with fail
  refine (res_at w7 3 3 (by decide) (by decide)).mono ?_
  rintro e w8 ⟨r, G, rfl, hv, y, _, _⟩
  have t := Tr.grown y
  replace Hx := Lib.hid (And.intro (t.res _ _ Hx.out.1) (t.val _ _ _ Hx.out.2))
  replace Hc := Lib.hid (Hc.out.grown y)
  have Hv := Lib.hid hv
  clear hv y t
  go_wp2_with fail
  refine (Hc.out.put Hc.out.size (by unfold WfI maxLen; decide) (by decide) Hv.out (ps' := [(⟨#[99]⟩, 3), (⟨#[97]⟩, 1)]) (by decide +kernel)).mono ?_
  rintro e w9 ⟨rfl, h, t⟩
  replace Hx := Lib.hid (And.intro (t.res _ _ Hx.out.1) (t.val _ _ _ Hx.out.2))
  replace Hc := Lib.hid h
  clear h t Hv
  go_wp2_with fail
  refine (Hc.out.miss Hc.out.size (by unfold WfI maxLen; decide) (by decide +kernel)).mono ?_
  rintro e w10 ⟨rfl, h, t⟩
  replace Hx := Lib.hid (And.intro (t.res _ _ Hx.out.1) (t.val _ _ _ Hx.out.2))
  replace Hc := Lib.hid h
  clear h t
  obtain ⟨w11, hw⟩ : ∃ W, W = w10.alloc (.cells #[.slice none 0 0, .string ⟨#[]⟩, .bool false, .slice none 0 0, .slice none 0 0, .int .u64 0] 38) := ⟨_, rfl⟩
  have y : w10.grownBy w11 none := by rw [hw]; exact by_alloc (by_refl _ _) _
  have t := Tr.grown y
  replace Hx := Lib.hid (And.intro (t.res _ _ Hx.out.1) (t.val _ _ _ Hx.out.2))
  replace Hc := Lib.hid (Hc.out.grown y)
  have Hw := Lib.hid hw
  clear hw y t
  go_wp2_with fail
  rw [← Hw.out]
  clear Hw
  go_wp2_with fail
  refine (Hc.out.hit Hc.out.size (by unfold WfI maxLen; decide) (n := 1) (by decide +kernel) (ps' := [(⟨#[97]⟩, 1), (⟨#[99]⟩, 3)]) (by decide +kernel)).mono ?_
  rintro e w12 ⟨yv, G, rfl, hv, h, t⟩
  replace Hx := Lib.hid (And.intro (t.res _ _ Hx.out.1) (t.val _ _ _ Hx.out.2))
  replace Hc := Lib.hid h
  clear h t
  obtain ⟨w13, hw⟩ : ∃ W, W = w12.alloc (.cells #[.slice yv.d.1 yv.d.2.1 yv.d.2.2, .string yv.p, .bool yv.b, .slice yv.vs.1 yv.vs.2.1 yv.vs.2.2, .slice yv.ts.1 yv.ts.2.1 yv.ts.2.2, .int .u64 yv.c] 38) := ⟨_, rfl⟩
  have y : w12.grownBy w13 none := by rw [hw]; exact by_alloc (by_refl _ _) _
  have t := Tr.grown y
  replace Hx := Lib.hid (And.intro (t.res _ _ Hx.out.1) (t.val _ _ _ Hx.out.2))
  replace Hc := Lib.hid (Hc.out.grown y)
  have Hyv := Lib.hid (And.intro (show Blk w13 w12.heap.size 38 _ by rw [hw]; exact Blk.new _ _ _) (hv.grown y))
  obtain ⟨byv, hbyv⟩ : ∃ b, b = w12.heap.size := ⟨_, rfl⟩
  rw [← hbyv] at Hyv
  have Hw := Lib.hid (And.intro hw hbyv)
  clear hw hbyv y t hv
  go_wp2_with fail
  rw [← Hw.out.1, ← Hw.out.2]
  clear Hw
  go_wp2_with fail
  refine (Hc.out.hit Hc.out.size (by unfold WfI maxLen; decide) (n := 3) (by decide +kernel) (ps' := [(⟨#[99]⟩, 3), (⟨#[97]⟩, 1)]) (by decide +kernel)).mono ?_
  rintro e w14 ⟨z, G, rfl, hv, h, t⟩
  replace Hx := Lib.hid (And.intro (t.res _ _ Hx.out.1) (t.val _ _ _ Hx.out.2))
  replace Hyv := Lib.hid (And.intro (t.res _ _ Hyv.out.1) (t.val _ _ _ Hyv.out.2))
  replace Hc := Lib.hid h
  clear h t
  obtain ⟨w15, hw⟩ : ∃ W, W = w14.alloc (.cells #[.slice z.d.1 z.d.2.1 z.d.2.2, .string z.p, .bool z.b, .slice z.vs.1 z.vs.2.1 z.vs.2.2, .slice z.ts.1 z.ts.2.1 z.ts.2.2, .int .u64 z.c] 38) := ⟨_, rfl⟩
  have y : w14.grownBy w15 none := by rw [hw]; exact by_alloc (by_refl _ _) _
  have t := Tr.grown y
  replace Hx := Lib.hid (And.intro (t.res _ _ Hx.out.1) (t.val _ _ _ Hx.out.2))
  replace Hyv := Lib.hid (And.intro (t.res _ _ Hyv.out.1) (t.val _ _ _ Hyv.out.2))
  replace Hc := Lib.hid (Hc.out.grown y)
  have Hz := Lib.hid (And.intro (show Blk w15 w14.heap.size 38 _ by rw [hw]; exact Blk.new _ _ _) (hv.grown y))
  obtain ⟨bz, hbz⟩ : ∃ b, b = w14.heap.size := ⟨_, rfl⟩
  rw [← hbz] at Hz
  have Hw := Lib.hid (And.intro hw hbz)
  clear hw hbz y t hv
  go_wp2_with (rw [← Hw.out.1, ← Hw.out.2]; refine wpList_load_row rfl 38 (.tmp 2) rfl bx rfl 38 #[.slice x.d.1 x.d.2.1 x.d.2.2, .string x.p, .bool x.b, .slice x.vs.1 x.vs.2.1 x.vs.2.2, .slice x.ts.1 x.ts.2.1 x.ts.2.2, .int .u64 x.c] (0, 0) _ Hx.out.1 Try.underlying38 rfl (sz6 x) ?_)
  clear Hw
  refine (is_at w15 x 1 _ 1 (by decide) (by decide) Hx.out.2).mono ?_
  rintro e w16 ⟨rfl, y⟩
  have t := Tr.grown y
  clear Hx
  replace Hyv := Lib.hid (And.intro (t.res _ _ Hyv.out.1) (t.val _ _ _ Hyv.out.2))
  replace Hz := Lib.hid (And.intro (t.res _ _ Hz.out.1) (t.val _ _ _ Hz.out.2))
  replace Hc := Lib.hid (Hc.out.grown y)
  clear y t
  go_wp2_with (refine wpList_load_row_g rfl 38 (.tmp 6) rfl byv rfl 38 #[.slice yv.d.1 yv.d.2.1 yv.d.2.2, .string yv.p, .bool yv.b, .slice yv.vs.1 yv.vs.2.1 yv.vs.2.2, .slice yv.ts.1 yv.ts.2.1 yv.ts.2.2, .int .u64 yv.c] (0, 0) _ Hyv.out.1 Try.underlying38 rfl (sz6 yv) ?_)
  refine (is_at w16 yv 1 _ 1 (by decide) (by decide) Hyv.out.2).mono ?_
  rintro e w17 ⟨rfl, y⟩
  have t := Tr.grown y
  clear Hyv
  replace Hz := Lib.hid (And.intro (t.res _ _ Hz.out.1) (t.val _ _ _ Hz.out.2))
  replace Hc := Lib.hid (Hc.out.grown y)
  clear y t
  go_wp2_with (refine wpList_load_row_g rfl 38 (.tmp 8) rfl bz rfl 38 #[.slice z.d.1 z.d.2.1 z.d.2.2, .string z.p, .bool z.b, .slice z.vs.1 z.vs.2.1 z.vs.2.2, .slice z.ts.1 z.ts.2.1 z.ts.2.2, .int .u64 z.c] (0, 0) _ Hz.out.1 Try.underlying38 rfl (sz6 z) ?_)
  refine (is_at w17 z 3 _ 3 (by decide) (by decide) Hz.out.2).mono ?_
  rintro e w18 ⟨rfl, y⟩
  have t := Tr.grown y
  clear Hz
  replace Hc := Lib.hid (Hc.out.grown y)
  clear y t
  go_wp2_with fail
  refine (Hc.out.len 2 (by decide)).mono ?_
  rintro e _ ⟨rfl, rfl⟩
  go_wp2_with fail
  refine (res_at w18 2 2 (by decide) (by decide)).mono ?_
  rintro e w19 ⟨r, G, rfl, hv, y, _, _⟩
  have t := Tr.grown y
  replace Hc := Lib.hid (Hc.out.grown y)
  have Hv := Lib.hid hv
  clear hv y t
  go_wp2_with fail
  refine (Hc.out.put Hc.out.size (by unfold WfI maxLen; decide) (by decide) Hv.out (ps' := [(⟨#[97]⟩, 2), (⟨#[99]⟩, 3)]) (by decide +kernel)).mono ?_
  rintro e w20 ⟨rfl, h, t⟩
  replace Hc := Lib.hid h
  clear h t Hv
  go_wp2_with fail
  refine (Hc.out.hit Hc.out.size (by unfold WfI maxLen; decide) (n := 2) (by decide +kernel) (ps' := [(⟨#[97]⟩, 2), (⟨#[99]⟩, 3)]) (by decide +kernel)).mono ?_
  rintro e w21 ⟨vv, G, rfl, hv, h, t⟩
  replace Hc := Lib.hid h
  clear h t
  obtain ⟨w22, hw⟩ : ∃ W, W = w21.alloc (.cells #[.slice vv.d.1 vv.d.2.1 vv.d.2.2, .string vv.p, .bool vv.b, .slice vv.vs.1 vv.vs.2.1 vv.vs.2.2, .slice vv.ts.1 vv.ts.2.1 vv.ts.2.2, .int .u64 vv.c] 38) := ⟨_, rfl⟩
  have y : w21.grownBy w22 none := by rw [hw]; exact by_alloc (by_refl _ _) _
  have t := Tr.grown y
  replace Hc := Lib.hid (Hc.out.grown y)
  have Hvv := Lib.hid (And.intro (show Blk w22 w21.heap.size 38 _ by rw [hw]; exact Blk.new _ _ _) (hv.grown y))
  obtain ⟨bvv, hbvv⟩ : ∃ b, b = w21.heap.size := ⟨_, rfl⟩
  rw [← hbvv] at Hvv
  have Hw := Lib.hid (And.intro hw hbvv)
  clear hw hbvv y t hv
  go_wp2_with fail
  rw [← Hw.out.1, ← Hw.out.2]
  clear Hw
  go_wp2_with fail
  refine (cs_new w22 0 (cap := 0) (by decide)).mono ?_
  rintro e w23 ⟨n, rfl, hn, y⟩
  have t := Tr.grown y
  replace Hvv := Lib.hid (And.intro (t.res _ _ Hvv.out.1) (t.val _ _ _ Hvv.out.2))
  have Hn := Lib.hid hn
  clear hn y t
  go_wp2_with fail
  refine (res_at w23 1 1 (by decide) (by decide)).mono ?_
  rintro e w24 ⟨r, G, rfl, hv, y, _, _⟩
  have t := Tr.grown y
  replace Hvv := Lib.hid (And.intro (t.res _ _ Hvv.out.1) (t.val _ _ _ Hvv.out.2))
  replace Hn := Lib.hid (Hn.out.grown y)
  have Hv := Lib.hid hv
  clear hv y t
  go_wp2_with fail
  refine (Hn.out.put Hn.out.size (by unfold WfI maxLen; decide) (by decide) Hv.out (ps' := []) (by decide +kernel)).mono ?_
  rintro e w25 ⟨rfl, h, t⟩
  replace Hvv := Lib.hid (And.intro (t.res _ _ Hvv.out.1) (t.val _ _ _ Hvv.out.2))
  replace Hn := Lib.hid h
  clear h t Hv
  go_wp2_with fail
  refine (Hn.out.miss Hn.out.size (by unfold WfI maxLen; decide) (by decide +kernel)).mono ?_
  rintro e w26 ⟨rfl, h, t⟩
  replace Hvv := Lib.hid (And.intro (t.res _ _ Hvv.out.1) (t.val _ _ _ Hvv.out.2))
  replace Hn := Lib.hid h
  clear h t
  obtain ⟨w27, hw⟩ : ∃ W, W = w26.alloc (.cells #[.slice none 0 0, .string ⟨#[]⟩, .bool false, .slice none 0 0, .slice none 0 0, .int .u64 0] 38) := ⟨_, rfl⟩
  have y : w26.grownBy w27 none := by rw [hw]; exact by_alloc (by_refl _ _) _
  have t := Tr.grown y
  replace Hvv := Lib.hid (And.intro (t.res _ _ Hvv.out.1) (t.val _ _ _ Hvv.out.2))
  replace Hn := Lib.hid (Hn.out.grown y)
  have Hw := Lib.hid hw
  clear hw y t
  go_wp2_with (rw [← Hw.out]; refine wpList_load_row rfl 38 (.tmp 10) rfl bvv rfl 38 #[.slice vv.d.1 vv.d.2.1 vv.d.2.2, .string vv.p, .bool vv.b, .slice vv.vs.1 vv.vs.2.1 vv.vs.2.2, .slice vv.ts.1 vv.ts.2.1 vv.ts.2.2, .int .u64 vv.c] (0, 0) _ Hvv.out.1 Try.underlying38 rfl (sz6 vv) ?_)
  clear Hw
  refine (is_at w27 vv 2 _ 2 (by decide) (by decide) Hvv.out.2).mono ?_
  rintro e w28 ⟨rfl, y⟩
  have t := Tr.grown y
  clear Hvv
  replace Hn := Lib.hid (Hn.out.grown y)
  clear y t
  replace Hc := Lib.hid (Hc.out.beside Hn.out (Nat.le_refl _) Hc.out.size)
  go_wp2_with fail
  refine (Hc.out.len 2 (by decide)).mono ?_
  rintro e _ ⟨rfl, rfl⟩
  go_wp2_with fail
  refine (Hn.out.len 0 (by decide)).mono ?_
  rintro e _ ⟨rfl, rfl⟩
  go_wp2
  go_ret
  exact ⟨rfl, Hc.out.by_⟩
end Go.Proofs.Ytndmnnapjhjkmaa
