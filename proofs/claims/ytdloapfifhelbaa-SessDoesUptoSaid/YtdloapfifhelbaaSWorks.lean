/-
  lodgerlaw08.works.
-/
import Derived.Test.YtdloapfifhelbaaCs
namespace Go.Proofs.Ytdloapfifhelbaa
open Go.RowKit
section
variable {t u : ByteArray}
abbrev sA : Ses := ⟨⟨#[115]⟩, 10, 2, 0, []⟩
theorem wk1 : sA.logs ⟨#[120]⟩ ⟨#[110]⟩ 0 = (sA, ⟨#[]⟩, 8) := by
  have : (⟨#[120]⟩ : ByteArray) ≠ ⟨#[115]⟩ := by decide
  simp [Ses.logs, this]
theorem wk2 (ht : t = tokB ⟨#[115]⟩ ⟨#[110]⟩ 1) : sA.logs ⟨#[115]⟩ ⟨#[110]⟩ 5 = (⟨⟨#[115]⟩, 10, 2, 1, [(t, 5)]⟩, t, 0) := by
  simp [Ses.logs, Ses.in_, livL, ht]
theorem wk3 (hu : u = tokB ⟨#[115]⟩ ⟨#[110]⟩ 2) : (⟨⟨#[115]⟩, 10, 2, 1, [(t, 5)]⟩ : Ses).logs ⟨#[115]⟩ ⟨#[110]⟩ 6 = (⟨⟨#[115]⟩, 10, 2, 2, [(t, 5), (u, 6)]⟩, u, 0) := by
  simp [Ses.logs, Ses.in_, livL, overB, hu]
theorem wk4 : (⟨⟨#[115]⟩, 10, 2, 2, [(t, 5), (u, 6)]⟩ : Ses).logs ⟨#[115]⟩ ⟨#[110]⟩ 7 = (⟨⟨#[115]⟩, 10, 2, 2, [(t, 5), (u, 6)]⟩, ⟨#[]⟩, 12) := by
  simp [Ses.logs, Ses.cut, livL, overB]
theorem wk5 : (⟨⟨#[115]⟩, 10, 2, 2, [(t, 5), (u, 6)]⟩ : Ses).use t 14 = 0 := by
  simp [Ses.use, Ses.find, idx, findB, overB, List.findIdx?_cons]
theorem wk6 (h : t ≠ u) : (⟨⟨#[115]⟩, 10, 2, 2, [(t, 5), (u, 6)]⟩ : Ses).use t 15 = 8 := by
  simp [Ses.use, Ses.find, idx, findB, overB, List.findIdx?_cons, h.symm]
theorem wk7 (h : t ≠ u) : (⟨⟨#[115]⟩, 10, 2, 2, [(t, 5), (u, 6)]⟩ : Ses).use u 15 = 0 := by
  simp [Ses.use, Ses.find, idx, findB, overB, List.findIdx?_cons, h]
theorem wk8 : ((livL (⟨⟨#[115]⟩, 10, 2, 2, [(t, 5), (u, 6)]⟩ : Ses) 15).length : Int) = 1 := by
  simp [livL, overB]
theorem wk9 : ((livL (⟨⟨#[115]⟩, 10, 2, 2, [(t, 5), (u, 6)]⟩ : Ses) 16).length : Int) = 0 := by
  simp [livL, overB]
theorem wk10 (h : t ≠ u) : (⟨⟨#[115]⟩, 10, 2, 2, [(t, 5), (u, 6)]⟩ : Ses).out u 15 = ⟨⟨#[115]⟩, 10, 2, 2, [(t, 5)]⟩ := by
  simp [Ses.out, Ses.find, idx, findB, overB, List.findIdx?_cons, h]
theorem wk11 (h : t ≠ u) : (⟨⟨#[115]⟩, 10, 2, 2, [(t, 5)]⟩ : Ses).use u 15 = 8 := by
  simp [Ses.use, Ses.find, idx, findB, overB, List.findIdx?_cons, h]
theorem wk12 (h : t ≠ u) : (⟨⟨#[115]⟩, 10, 2, 2, [(t, 5)]⟩ : Ses).out u 15 = ⟨⟨#[115]⟩, 10, 2, 2, [(t, 5)]⟩ := by
  simp [Ses.out, Ses.find, idx, findB, overB, List.findIdx?_cons, h]
theorem wk13 : ((livL (⟨⟨#[115]⟩, 10, 2, 2, [(t, 5)]⟩ : Ses) 0).length : Int) = 1 := by
  simp [livL, overB]
end
set_option maxRecDepth 100000 in
set_option maxHeartbeats 2000000 in
theorem sworks_any (w : World) : Calls Try.prog 17 #[] w fun e w' => e = .returned (.bool true) ∧ w.grownBy w' none := by
  obtain ⟨t, ht⟩ : ∃ t, t = tokB ⟨#[115]⟩ ⟨#[110]⟩ 1 := ⟨_, rfl⟩
  obtain ⟨u, hu⟩ : ∃ t, t = tokB ⟨#[115]⟩ ⟨#[110]⟩ 2 := ⟨_, rfl⟩
  have hne : t ≠ u := by rw [ht, hu]; exact tok_s12
  have htz : t.size = 64 := by rw [ht]; exact tokB_size _ _ _
  have huz : u.size = 64 := by rw [hu]; exact tokB_size _ _ _
  have hx : ∀ a : ByteArray, a.size = 64 → a.size ≤ maxLen := fun a h => by unfold maxLen; omega
  have H := Lib.hid (And.intro ht (And.intro hu (And.intro hne (And.intro (hx t htz) (hx u huz)))))
  clear ht hu hne hx
  go_enter Try.func17, Try.ntmps17
  go_wp2_with fail
  refine (cs_new w ⟨#[115]⟩ 10 2 10 (by decide)).mono ?_
  rintro e w1 ⟨s, rfl, hc⟩
  have Hc := Lib.hid hc
  clear hc
  go_wp2_with fail
  refine (Hc.out.login (by unfold maxLen; decide) (by decide) (by decide) (now := 0) (by decide) (by decide) (by decide) (by decide) wk1).mono ?_
  rintro e w2 ⟨rfl, hc⟩
  replace Hc := Lib.hid hc
  clear hc
  go_wp2_with fail
  refine (Hc.out.login (by unfold maxLen; decide) (by decide) (by decide) (now := 5) (by decide) (by decide) (by decide) (by decide) (wk2 H.out.1)).mono ?_
  rintro e w3 ⟨rfl, hc⟩
  replace Hc := Lib.hid hc
  clear hc
  go_wp2_with fail
  refine (Hc.out.login (by unfold maxLen; decide) (by show (1 : Nat) ≤ 268435456; decide) (by decide) (now := 6) (by decide) (by decide) (by show (1 : Nat) < 1000000; decide) (by simp) (wk3 H.out.2.1)).mono ?_
  rintro e w4 ⟨rfl, hc⟩
  replace Hc := Lib.hid hc
  clear hc
  go_wp2_with fail
  refine (Hc.out.login (by unfold maxLen; decide) (by show (1 : Nat) ≤ 268435456; decide) (by decide) (now := 7) (by decide) (by decide) (by show (2 : Nat) < 1000000; decide) (by simp) wk4).mono ?_
  rintro e w5 ⟨rfl, hc⟩
  replace Hc := Lib.hid hc
  clear hc
  go_wp2_with fail
  refine (Hc.out.use H.out.2.2.2.1 (now := 14) (by decide) (by decide) wk5).mono ?_
  rintro e w6 ⟨rfl, hc⟩
  replace Hc := Lib.hid hc
  clear hc
  go_wp2_with fail
  refine (Hc.out.use H.out.2.2.2.1 (now := 15) (by decide) (by decide) (wk6 H.out.2.2.1)).mono ?_
  rintro e w7 ⟨rfl, hc⟩
  replace Hc := Lib.hid hc
  clear hc
  go_wp2_with fail
  refine (Hc.out.use H.out.2.2.2.2 (now := 15) (by decide) (by decide) (wk7 H.out.2.2.1)).mono ?_
  rintro e w8 ⟨rfl, hc⟩
  replace Hc := Lib.hid hc
  clear hc
  go_wp2_with fail
  refine (Hc.out.live (now := 15) (by decide) (by decide) wk8).mono ?_
  rintro e w9 ⟨rfl, hc⟩
  replace Hc := Lib.hid hc
  clear hc
  go_wp2_with fail
  refine (Hc.out.live (now := 16) (by decide) (by decide) wk9).mono ?_
  rintro e w10 ⟨rfl, hc⟩
  replace Hc := Lib.hid hc
  clear hc
  go_wp2_with fail
  refine (Hc.out.logout H.out.2.2.2.2 (now := 15) (by decide) (by decide) (wk7 H.out.2.2.1) (wk10 H.out.2.2.1)).mono ?_
  rintro e w11 ⟨rfl, hc⟩
  replace Hc := Lib.hid hc
  clear hc
  go_wp2_with fail
  refine (Hc.out.logout H.out.2.2.2.2 (now := 15) (by decide) (by decide) (wk11 H.out.2.2.1) (wk12 H.out.2.2.1)).mono ?_
  rintro e w12 ⟨rfl, hc⟩
  replace Hc := Lib.hid hc
  clear hc
  go_wp2_with fail
  refine (Hc.out.live (now := 0) (by decide) (by decide) wk13).mono ?_
  rintro e w13 ⟨rfl, hc⟩
  have HF := Lib.hid hc.by_
  clear hc Hc
  go_wp2
  go_ret
  exact ⟨rfl, HF.out⟩
end Go.Proofs.Ytdloapfifhelbaa
