/-
  SessKnown: the chapter's examples; limits of times; sessions that are none (known.py).
-/
import Derived.Test.YtdloapfifhelbaaSWorks
import Derived.Test.YtdloapfifhelbaaRow
namespace Go.Proofs.Ytdloapfifhelbaa
open Go.ChangeShapes Go.WideShapes Go.ChangeAt Go.RowKit
namespace sessKnown
theorem loginNil (w : World) (a b : ByteArray) (z : Int) (hz : z = 0 := by rfl) : Calls Try.prog 8 #[.pointer none, .string a, .string b, .int .u64 z] w fun e w' => e = .returned (.tuple #[.string ⟨#[]⟩, .int .i64 1]) ∧ w = w' := by
  subst hz; exact login_nil w a b 0
theorem useNil (w : World) (a : ByteArray) (z : Int) (hz : z = 0 := by rfl) : Calls Try.prog 10 #[.pointer none, .string a, .int .u64 z] w fun e w' => e = .returned (.int .i64 1) ∧ w = w' := by
  subst hz; exact use_nil w a 0
theorem logoutNil (w : World) (a : ByteArray) (z : Int) (hz : z = 0 := by rfl) : Calls Try.prog 13 #[.pointer none, .string a, .int .u64 z] w fun e w' => e = .returned (.int .i64 1) ∧ w = w' := by
  subst hz; exact logout_nil w a 0
theorem liveNil (w : World) (z : Int) (hz : z = 0 := by rfl) : Calls Try.prog 15 #[.pointer none, .int .u64 z] w fun e w' => e = .returned (.int .i64 0) ∧ w = w' := by
  subst hz; exact live_nil w 0
theorem tok_k12 : tokB ⟨#[107]⟩ ⟨#[]⟩ 1 ≠ tokB ⟨#[107]⟩ ⟨#[]⟩ 2 := by
  have h : (hexL (markB ⟨#[107]⟩ (⟨#[]⟩ ++ beB 1)) == hexL (markB ⟨#[107]⟩ (⟨#[]⟩ ++ beB 2))) = false := by kernel_rfl
  intro e
  have e2 := congrArg (fun x : ByteArray => x.data.toList) e
  have e3 : hexL (markB ⟨#[107]⟩ (⟨#[]⟩ ++ beB 1)) = hexL (markB ⟨#[107]⟩ (⟨#[]⟩ ++ beB 2)) := by simpa only [tokB] using e2
  rw [e3] at h
  simp at h
section
variable {t x y : ByteArray} {m : Nat}
theorem kn1 (h : t = tokB ⟨#[]⟩ ⟨#[]⟩ 1) : (⟨⟨#[]⟩, 18446744073709551615, 1, 0, []⟩ : Ses).logs ⟨#[]⟩ ⟨#[]⟩ 5 = (⟨⟨#[]⟩, 18446744073709551615, 1, 1, [(t, 5)]⟩, t, 0) := by simp [Ses.logs, Ses.in_, livL, h]
theorem kn2 : (⟨⟨#[]⟩, 18446744073709551615, 1, 1, [(t, 5)]⟩ : Ses).use t 18446744073709551615 = 0 := by simp [Ses.use, Ses.find, idx, findB, overB, List.findIdx?_cons]
theorem kn3 (h : x = tokB ⟨#[107]⟩ ⟨#[]⟩ 1) : (⟨⟨#[107]⟩, 3, 9, 0, []⟩ : Ses).logs ⟨#[107]⟩ ⟨#[]⟩ 18446744073709551614 = (⟨⟨#[107]⟩, 3, 9, 1, [(x, 18446744073709551614)]⟩, x, 0) := by simp [Ses.logs, Ses.in_, livL, h]
theorem kn4o : overB 18446744073709551615 3 18446744073709551614 = false := by decide +kernel
theorem kn4g (n : Nat) (h : overB n 3 m = false) : (⟨⟨#[107]⟩, 3, 9, 1, [(x, m)]⟩ : Ses).use x n = 0 := by simp [Ses.use, Ses.find, idx, findB, h, List.findIdx?_cons]
theorem kn4 : (⟨⟨#[107]⟩, 3, 9, 1, [(x, 18446744073709551614)]⟩ : Ses).use x 18446744073709551615 = 0 := kn4g _ kn4o
theorem kn5 : (⟨⟨#[107]⟩, 5, 0, 0, []⟩ : Ses).logs ⟨#[107]⟩ ⟨#[]⟩ 0 = (⟨⟨#[107]⟩, 5, 0, 0, []⟩, ⟨#[]⟩, 12) := by simp [Ses.logs, Ses.cut, livL]
theorem kn6 (h : x = tokB ⟨#[107]⟩ ⟨#[]⟩ 1) : (⟨⟨#[107]⟩, 0, 1, 0, []⟩ : Ses).logs ⟨#[107]⟩ ⟨#[]⟩ 4 = (⟨⟨#[107]⟩, 0, 1, 1, [(x, 4)]⟩, x, 0) := by simp [Ses.logs, Ses.in_, livL, h]
theorem kn7 (h : y = tokB ⟨#[107]⟩ ⟨#[]⟩ 2) : (⟨⟨#[107]⟩, 0, 1, 1, [(x, 4)]⟩ : Ses).logs ⟨#[107]⟩ ⟨#[]⟩ 4 = (⟨⟨#[107]⟩, 0, 1, 2, [(y, 4)]⟩, y, 0) := by simp [Ses.logs, Ses.in_, livL, overB, h]
theorem kn8 : (⟨⟨#[107]⟩, 0, 1, 2, [(y, 4)]⟩ : Ses).use x 4 = 8 := by simp [Ses.use, Ses.find, idx, findB, overB, List.findIdx?_cons]
theorem kn9 (h : x ≠ y) : (⟨⟨#[107]⟩, 0, 1, 2, [(y, 4)]⟩ : Ses).use x 3 = 8 := by simp [Ses.use, Ses.find, idx, findB, overB, List.findIdx?_cons, h.symm]
theorem kn10 : (⟨⟨#[107]⟩, 0, 1, 2, [(y, 4)]⟩ : Ses).use y 3 = 0 := by simp [Ses.use, Ses.find, idx, findB, overB, List.findIdx?_cons]
theorem kn11 (h : t ≠ ⟨#[]⟩) : (⟨⟨#[]⟩, 18446744073709551615, 1, 1, [(t, 5)]⟩ : Ses).use ⟨#[]⟩ 6 = 8 := by simp [Ses.use, Ses.find, idx, findB, overB, List.findIdx?_cons, h]
end
set_option maxRecDepth 100000 in
set_option maxHeartbeats 2000000 in
theorem walk (w : World) : Calls Try.prog 6 #[] w fun e w' => e = .returned (.bool true) ∧ w.grownBy w' none := by
  obtain ⟨t, ht⟩ : ∃ t, t = tokB ⟨#[]⟩ ⟨#[]⟩ 1 := ⟨_, rfl⟩
  obtain ⟨x, hx⟩ : ∃ t, t = tokB ⟨#[107]⟩ ⟨#[]⟩ 1 := ⟨_, rfl⟩
  obtain ⟨y, hy⟩ : ∃ t, t = tokB ⟨#[107]⟩ ⟨#[]⟩ 2 := ⟨_, rfl⟩
  have hne : x ≠ y := by rw [hx, hy]; exact tok_k12
  have hsz : ∀ a b c, (tokB a b c).size ≤ maxLen := fun a b c => by rw [tokB_size]; unfold maxLen; omega
  have hte : t ≠ ⟨#[]⟩ := fun e => by
    have h := congrArg ByteArray.size e
    rw [ht, tokB_size] at h
    cases h
  have H := Lib.hid (And.intro ht (And.intro hx (And.intro hy (And.intro hne (And.intro (show t.size ≤ maxLen by rw [ht]; exact hsz _ _ _) (And.intro (show x.size ≤ maxLen by rw [hx]; exact hsz _ _ _) (And.intro (show y.size ≤ maxLen by rw [hy]; exact hsz _ _ _) hte)))))))
  clear ht hx hy hne hsz hte
  go_enter Try.func6, Try.ntmps6
  go_wp2_with fail
  refine (cs_new w ⟨#[]⟩ 18446744073709551615 1 18446744073709551615 (by decide)).mono ?_
  rintro e w1 ⟨s, rfl, hc⟩
  have Hs := Lib.hid hc
  clear hc
  go_wp2_with fail
  refine ((Hs.out.login (secret := ⟨#[]⟩) (nonce := ⟨#[]⟩) (by unfold maxLen; decide) (by show (0 : Nat) ≤ 268435456; decide) (by decide) (now := 5) (by decide) (by decide) (by show (0 : Nat) < 1000000; decide) (by simp) (kn1 H.out.1)) ).mono ?_
  rintro e w2 ⟨rfl, hc⟩
  replace Hs := Lib.hid hc
  clear hc
  go_wp2_with fail
  refine ((Hs.out.use H.out.2.2.2.2.1 (now := 18446744073709551615) (by decide) (by decide) kn2) ).mono ?_
  rintro e w3 ⟨rfl, hc⟩
  replace Hs := Lib.hid hc
  clear hc
  go_wp2_with fail
  refine (cs_new w3 ⟨#[107]⟩ 3 9 3 (by decide)).mono ?_
  rintro e w4 ⟨u, rfl, hc⟩
  have Hu := Lib.hid hc
  clear hc
  go_wp2_with fail
  refine ((Hu.out.login (secret := ⟨#[107]⟩) (nonce := ⟨#[]⟩) (by unfold maxLen; decide) (by show (1 : Nat) ≤ 268435456; decide) (by decide) (now := 18446744073709551614) (by decide) (by decide) (by show (0 : Nat) < 1000000; decide) (by simp) (kn3 H.out.2.1)) ).mono ?_
  rintro e w5 ⟨rfl, hc⟩
  replace Hu := Lib.hid hc
  clear hc
  go_wp2_with fail
  refine ((Hu.out.use H.out.2.2.2.2.2.1 (now := 18446744073709551615) (by decide) (by decide) kn4) ).mono ?_
  rintro e w6 ⟨rfl, hc⟩
  replace Hu := Lib.hid hc
  clear hc
  replace Hs := Lib.hid (Hs.out.grown Hu.out.by_)
  clear Hu
  go_wp2_with fail
  refine (cs_new w6 ⟨#[107]⟩ 5 0 5 (by decide)).mono ?_
  rintro e w7 ⟨k, rfl, hc⟩
  have Hk := Lib.hid hc
  clear hc
  go_wp2_with fail
  refine ((Hk.out.login (secret := ⟨#[107]⟩) (nonce := ⟨#[]⟩) (by unfold maxLen; decide) (by show (1 : Nat) ≤ 268435456; decide) (by decide) (now := 0) (by decide) (by decide) (by show (0 : Nat) < 1000000; decide) (by simp) kn5) ).mono ?_
  rintro e w8 ⟨rfl, hc⟩
  replace Hk := Lib.hid hc
  clear hc
  replace Hs := Lib.hid (Hs.out.grown Hk.out.by_)
  clear Hk
  go_wp2_with fail
  refine (cs_new w8 ⟨#[107]⟩ 0 1 0 (by decide)).mono ?_
  rintro e w9 ⟨q, rfl, hc⟩
  have Hw := Lib.hid hc
  clear hc
  go_wp2_with fail
  refine ((Hw.out.login (secret := ⟨#[107]⟩) (nonce := ⟨#[]⟩) (by unfold maxLen; decide) (by show (1 : Nat) ≤ 268435456; decide) (by decide) (now := 4) (by decide) (by decide) (by show (0 : Nat) < 1000000; decide) (by simp) (kn6 H.out.2.1)) ).mono ?_
  rintro e w10 ⟨rfl, hc⟩
  replace Hw := Lib.hid hc
  clear hc
  go_wp2_with fail
  refine ((Hw.out.login (secret := ⟨#[107]⟩) (nonce := ⟨#[]⟩) (by unfold maxLen; decide) (by show (1 : Nat) ≤ 268435456; decide) (by decide) (now := 4) (by decide) (by decide) (by show (1 : Nat) < 1000000; decide) (by simp) (kn7 H.out.2.2.1)) ).mono ?_
  rintro e w11 ⟨rfl, hc⟩
  replace Hw := Lib.hid hc
  clear hc
  go_wp2_with fail
  refine (loginNil w11 ⟨#[]⟩ ⟨#[]⟩ 0).mono ?_
  rintro e _ ⟨rfl, rfl⟩
  go_wp2_with fail
  refine (sworks_any _).mono ?_
  rintro e w12 ⟨rfl, y⟩
  replace Hw := Lib.hid (Hw.out.grown y)
  clear y
  go_wp2_with fail
  refine ((Hw.out.use H.out.2.2.2.2.2.1 (now := 4) (by decide) (by decide) kn8) ).mono ?_
  rintro e w13 ⟨rfl, hc⟩
  replace Hw := Lib.hid hc
  clear hc
  go_wp2_with fail
  refine ((Hw.out.use H.out.2.2.2.2.2.1 (now := 3) (by decide) (by decide) (kn9 H.out.2.2.2.1)) ).mono ?_
  rintro e w14 ⟨rfl, hc⟩
  replace Hw := Lib.hid hc
  clear hc
  go_wp2_with fail
  refine ((Hw.out.use H.out.2.2.2.2.2.2.1 (now := 3) (by decide) (by decide) kn10) ).mono ?_
  rintro e w15 ⟨rfl, hc⟩
  replace Hw := Lib.hid hc
  clear hc
  go_wp2_with fail
  refine (useNil _ ⟨#[]⟩ 0).mono ?_
  rintro e _ ⟨rfl, rfl⟩
  go_wp2_with fail
  refine (logoutNil _ ⟨#[]⟩ 0).mono ?_
  rintro e _ ⟨rfl, rfl⟩
  go_wp2_with fail
  refine (liveNil _ 0).mono ?_
  rintro e _ ⟨rfl, rfl⟩
  replace Hs := Lib.hid (Hs.out.grown Hw.out.by_)
  clear Hw
  go_wp2_with fail
  refine ((Hs.out.use (by unfold maxLen; decide) (now := 6) (by decide) (by decide) (kn11 H.out.2.2.2.2.2.2.2)) ).mono ?_
  rintro e w16 ⟨rfl, hc⟩
  replace Hs := Lib.hid hc
  clear hc
  have HF := Lib.hid Hs.out.by_
  clear Hs
  go_wp2
  go_ret
  exact ⟨rfl, HF.out⟩

set_option maxRecDepth 100000 in
theorem lifted (os : Os) (started : os.Started) (H : Type) (enc : TypeId × Value → H) :
    ReturnsInHanded {} Try.checked os 6 .any (Rows.sessKnownSpec.pre6 enc Try.prog Try.f6 Rows.sessKnownRow.domain false) (Rows.sessKnownSpec.post enc Try.prog Try.f6 false true false false) := by
  refine returnsInHanded_of_change (C := Try.checked) own started (by kernel_rfl) Try.func6
    (ChangeSpec.witness6 (enc := enc) (C := Try.checked) false ⟨#[], #[], []⟩ 8 (by kernel_rfl) (by kernel_rfl) (by kernel_rfl) (by kernel_rfl)) ?_
  intro W base args ds gs before hval0 hW hcnd _
  have hval : ∀ (j : Nat) t v, Try.f6.params[j]? = some t → args[j]? = some v → Value.okWide Try.prog W .any base t v := hval0
  have hW' := hW
  obtain ⟨p, q, hA0, hV, rfl, hfz, hnd⟩ := hW
  have hA : DataW.TrodAll enc Try.prog W 0 (fun _ => true) true Try.f6.params.toList args.toList ds p := hA0
  rw [Try.params6] at hA hval
  obtain ⟨hargs, rfl, rfl⟩ := trodAll_nil hA
  obtain rfl : args = #[] := by cases args; simp_all
  obtain ⟨rfl, rfl⟩ := trodVars_none hV
  refine (walk W).mono fun e W' ⟨he, hg⟩ => ?_
  subst he
  exact ⟨_, rfl, law_post laidOut rfl hW' (by kernel_rfl) rfl Try.underlying4 rfl (below_of_by hg)⟩

theorem proved : Rows.SessKnownSaid :=
  OpenClaim.holds_of_wide 6 Try.f6 rfl rfl rfl rfl rfl rfl rfl ⟨rfl, rfl, rfl, rfl, rfl⟩ rfl rfl rfl rfl rfl (by kernel_rfl) Try.func6 (by kernel_rfl)
    (of_decide_eq_true (by kernel_rfl)) (by unfold Func.isWrapper; first | (rw [if_pos (by decide +kernel)]; kernel_rfl) | (rw [if_neg (by decide +kernel)]; exact ⟨rfl, rfl⟩))
    (fun os started H enc _ => lifted os started H enc)
#print axioms proved
end sessKnown
end Go.Proofs.Ytdloapfifhelbaa
