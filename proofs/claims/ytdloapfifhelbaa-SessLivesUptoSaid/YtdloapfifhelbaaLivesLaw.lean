/-
  SessLives: a token that was answered may be used till it is over (lives.py).
-/
import Derived.Test.YtdloapfifhelbaaArr
namespace Go.Proofs.Ytdloapfifhelbaa
open Go.ChangeShapes Go.WideShapes Go.ChangeAt Go.RowKit
open Go.ChangeMaps (open_string)
namespace sessLives
section
variable {secret nonce T : ByteArray} {now ttl later : Nat}
theorem lv_logs (h : T = tokB secret nonce 1) : (⟨secret, ttl, 3, 0, []⟩ : Ses).logs secret nonce now = (⟨secret, ttl, 3, 1, [(T, now)]⟩, T, 0) := by simp [Ses.logs, Ses.in_, livL, h]
theorem lv_use_o (h : overB later ttl now = true) : (⟨secret, ttl, 3, 1, [(T, now)]⟩ : Ses).use T later = 8 := by simp [Ses.use, Ses.find, idx, findB, h, List.findIdx?_cons]
theorem lv_use_n (h : overB later ttl now = false) : (⟨secret, ttl, 3, 1, [(T, now)]⟩ : Ses).use T later = 0 := by simp [Ses.use, Ses.find, idx, findB, h, List.findIdx?_cons]
theorem lv_live_o (h : overB later ttl now = true) : ((livL (⟨secret, ttl, 3, 1, [(T, now)]⟩ : Ses) later).length : Int) = 0 := by simp [livL, h]
theorem lv_live_n (h : overB later ttl now = false) : ((livL (⟨secret, ttl, 3, 1, [(T, now)]⟩ : Ses) later).length : Int) = 1 := by simp [livL, h]
theorem lv_out_o (h : overB later ttl now = true) : (⟨secret, ttl, 3, 1, [(T, now)]⟩ : Ses).out T later = ⟨secret, ttl, 3, 1, [(T, now)]⟩ := by simp [Ses.out, Ses.find, idx, findB, h, List.findIdx?_cons]
theorem lv_out_n (h : overB later ttl now = false) : (⟨secret, ttl, 3, 1, [(T, now)]⟩ : Ses).out T later = ⟨secret, ttl, 3, 1, []⟩ := by simp [Ses.out, Ses.find, idx, findB, h, List.findIdx?_cons]
theorem lv_use_e : (⟨secret, ttl, 3, 1, []⟩ : Ses).use T later = 8 := by simp [Ses.use, Ses.find, idx]
theorem lv_out_e : (⟨secret, ttl, 3, 1, []⟩ : Ses).out T later = ⟨secret, ttl, 3, 1, []⟩ := by simp [Ses.out, Ses.find, idx]
theorem lv_live_e : ((livL (⟨secret, ttl, 3, 1, []⟩ : Ses) later).length : Int) = 0 := by simp [livL]
end
set_option maxRecDepth 100000 in
set_option maxHeartbeats 4000000 in
theorem walk3 (w : World) (secret : ByteArray) (hs : secret.size ≤ 1048576) (nonce : ByteArray) (hn : nonce.size ≤ 1048576) (now ttl later : Nat) (h1 : now < 18446744073709551616) (h2 : ttl < 18446744073709551616) (h3 : later < 18446744073709551616) :
    Calls Try.prog 4 #[.string secret, .string nonce, .agg #[.int .u64 (now : Int), .int .u64 (ttl : Int), .int .u64 (later : Int)]] w fun e w' => e = .returned (.bool true) ∧ w.grownBy w' none := by
  obtain ⟨T, hT⟩ : ∃ T, T = tokB secret nonce 1 := ⟨_, rfl⟩
  obtain ⟨L, hL⟩ : ∃ L, L = (u8s (markB secret (nonce ++ ⟨#[0, 0, 0, 0, 0, 0, 0, 1]⟩))).toArray := ⟨_, rfl⟩
  have hTs : T.size ≤ maxLen := by rw [hT, tokB_size]; unfold maxLen; omega
  have he8 : beB 1 = ⟨#[0, 0, 0, 0, 0, 0, 0, 1]⟩ := by kernel_rfl
  have k2 : ∀ W, Calls Try.prog 19 #[.string secret, .string (nonce ++ ⟨#[0, 0, 0, 0, 0, 0, 0, 1]⟩)] W fun e w' => e = .returned (.agg L) ∧ W.grownBy w' none := fun W => by
    rw [hL]; exact mac_any _ _ (by omega) (by rw [ByteArray.size_append]; show nonce.size + 8 ≤ _; omega) W
  have k3 : ∀ W, Calls Try.prog 18 #[.agg L] W fun e w' => e = .returned (.string T) ∧ W.grownBy w' none := fun W => by
    rw [hL, hT, ← he8]; exact hex_any _ (markB_len _ _) W
  have hms : secret.size ≤ maxLen := by unfold maxLen; omega
  have H := Lib.hid (And.intro hTs (And.intro h3 (And.intro h1 (And.intro hT (And.intro k2 (And.intro k3 (And.intro hms (And.intro hs hn))))))))
  have hadd : ¬ 9223372036854775807 < nonce.size + 8 := by omega
  have heq : (T.toList == T.toList) = true := by simp
  clear hTs h1 h2 h3 hT hL he8 k2 k3 hms hs hn
  obtain ⟨wa, hwa⟩ : ∃ wa, wa = w.alloc (.cells #[.int .u64 (now : Int), .int .u64 (ttl : Int), .int .u64 (later : Int)] 42) := ⟨_, rfl⟩
  have ya : w.grownBy wa none := by rw [hwa]; exact by_alloc (by_refl _ _) _
  have hba : Blk wa w.heap.size 42 #[.int .u64 (now : Int), .int .u64 (ttl : Int), .int .u64 (later : Int)] := by rw [hwa]; exact Blk.new _ _ _
  have Ha := Lib.hid (And.intro hwa (And.intro ya hba))
  clear hwa ya hba
  go_enter Try.func4, Try.ntmps4
  go_wp2_with fail
  rw [← Ha.out.1]
  obtain ⟨b0, hb0⟩ : ∃ b, b = w.heap.size := ⟨_, rfl⟩
  rw [← hb0] at Ha ⊢
  refine (sworks_any wa).mono ?_
  rintro e w2 ⟨rfl, y2⟩
  have hb2 := Ha.out.2.2.grown y2 (by simp)
  have c0 : w2.cell? ⟨b0, 0, none⟩ = some (.int .u64 (now : Int)) := hb2.cell 0
  have c1 : w2.cell? ⟨b0, 1, none⟩ = some (.int .u64 (ttl : Int)) := hb2.cell 1
  have c2 : w2.cell? ⟨b0, 2, none⟩ = some (.int .u64 (later : Int)) := hb2.cell 2
  have Hy2 := Lib.hid (by_trans Ha.out.2.1 y2 (by simp))
  clear y2 hb2 Ha hb0
  go_wp2_with fail
  go_quiet (fail)
  go_wp2_with fail
  obtain ⟨w3, hw3⟩ : ∃ W, W = w2.drewN nq := ⟨_, rfl⟩
  rw [← hw3]
  have Hy := Lib.hid (show w.grownBy w3 none by rw [hw3]; exact by_drewN Hy2.out _)
  clear hw3 c0 c1 c2 Hy2
  refine (cs_new w3 secret ttl 3 _ rfl).mono ?_
  rintro e w4 ⟨s, rfl, hc⟩
  have Hc := Lib.hid hc
  clear hc
  go_wp2_with fail
  refine (Hc.out.login H.out.2.2.2.2.2.2.1 (by show secret.size ≤ _; have := H.out.2.2.2.2.2.2.2.1; omega) (by have := H.out.2.2.2.2.2.2.2.2; omega) (now := now) rfl H.out.2.2.1 (by show (0 : Nat) < 1000000; decide) (by simp) (lv_logs H.out.2.2.2.1)).mono ?_
  rintro e w5 ⟨rfl, hc⟩
  replace Hc := Lib.hid hc
  clear hc
  go_wp2_with fail
  refine (H.out.2.2.2.2.1 _).mono ?_
  rintro e w6 ⟨rfl, y⟩
  replace Hc := Lib.hid (Hc.out.grown y)
  clear y
  go_wp2_with fail
  refine (H.out.2.2.2.2.2.1 _).mono ?_
  rintro e w7 ⟨rfl, y⟩
  replace Hc := Lib.hid (Hc.out.grown y)
  clear y
  have Hn := Lib.hid H.out.2.2.1
  have Hl := Lib.hid H.out.2.1
  rcases Nat.lt_or_ge later now with hlt | hge
  · have hv : overB later ttl now = false := by unfold overB; rw [decide_eq_false (by omega)]; rfl
    have Ho := Lib.hid hv
    have d1 : decide ((now : Int) ≤ (later : Int)) = false := by simp; omega
    have d2 : decide (now ≤ later) = false := by simp; omega
    clear hv hlt
    go_wp2_with fail
    refine (Hc.out.use H.out.1 (token := T) (now := later) rfl H.out.2.1 (lv_use_n Ho.out)).mono ?_
    rintro e w7 ⟨rfl, hc⟩
    replace Hc := Lib.hid hc
    clear hc
    go_wp2_with fail
    refine (Hc.out.live (now := later) rfl H.out.2.1 (lv_live_n Ho.out)).mono ?_
    rintro e w8 ⟨rfl, hc⟩
    replace Hc := Lib.hid hc
    clear hc
    go_wp2_with fail
    refine (Hc.out.logout H.out.1 (token := T) (now := later) rfl H.out.2.1 (lv_use_n Ho.out) (lv_out_n Ho.out)).mono ?_
    rintro e w9 ⟨rfl, hc⟩
    replace Hc := Lib.hid hc
    clear hc
    go_wp2_with fail
    refine (Hc.out.use H.out.1 (token := T) (now := later) rfl H.out.2.1 lv_use_e).mono ?_
    rintro e w10 ⟨rfl, hc⟩
    replace Hc := Lib.hid hc
    clear hc
    go_wp2_with fail
    refine (Hc.out.logout H.out.1 (token := T) (now := later) rfl H.out.2.1 lv_use_e lv_out_e).mono ?_
    rintro e w11 ⟨rfl, hc⟩
    replace Hc := Lib.hid hc
    clear hc
    go_wp2_with fail
    refine (Hc.out.live (now := later) rfl H.out.2.1 lv_live_e).mono ?_
    rintro e w12 ⟨rfl, hc⟩
    replace Hc := Lib.hid hc
    clear hc
    have HF := Lib.hid Hc.out.by_
    clear Hc
    go_wp2
    go_ret
    exact ⟨rfl, by_trans Hy.out HF.out (by simp)⟩
  · have hw : IntKind.u64.wrap ((later : Int) - (now : Int)) = ((later - now : Nat) : Int) := by
      rw [IntKind.wrap_u64]
      have := Hl.out
      omega
    have d1 : decide ((now : Int) ≤ (later : Int)) = true := by simp; omega
    have d2 : decide (now ≤ later) = true := by simp; omega
    by_cases h3 : ttl ≤ later - now
    · have hv : overB later ttl now = true := by unfold overB; rw [decide_eq_true hge, decide_eq_true h3]; rfl
      have Ho := Lib.hid hv
      obtain ⟨d, hd⟩ : ∃ d, d = later - now := ⟨_, rfl⟩
      rw [← hd] at hw h3
      have h4 : decide ((ttl : Int) ≤ (d : Int)) = true := by simp; omega
      have h5 : decide (ttl ≤ d) = true := by simp; omega
      clear hv hge h3 hd
      go_wp2_with fail
      refine (Hc.out.use H.out.1 (token := T) (now := later) rfl H.out.2.1 (lv_use_o Ho.out)).mono ?_
      rintro e w7 ⟨rfl, hc⟩
      replace Hc := Lib.hid hc
      clear hc
      go_wp2_with fail
      refine (Hc.out.live (now := later) rfl H.out.2.1 (lv_live_o Ho.out)).mono ?_
      rintro e w8 ⟨rfl, hc⟩
      replace Hc := Lib.hid hc
      clear hc
      go_wp2_with fail
      refine (Hc.out.logout H.out.1 (token := T) (now := later) rfl H.out.2.1 (lv_use_o Ho.out) (lv_out_o Ho.out)).mono ?_
      rintro e w9 ⟨rfl, hc⟩
      replace Hc := Lib.hid hc
      clear hc
      have HF := Lib.hid Hc.out.by_
      clear Hc
      go_wp2
      go_ret
      exact ⟨rfl, by_trans Hy.out HF.out (by simp)⟩
    · have hv : overB later ttl now = false := by unfold overB; rw [decide_eq_false h3]; simp
      have Ho := Lib.hid hv
      obtain ⟨d, hd⟩ : ∃ d, d = later - now := ⟨_, rfl⟩
      rw [← hd] at hw h3
      have h4 : decide ((ttl : Int) ≤ (d : Int)) = false := by simp; omega
      have h5 : decide (ttl ≤ d) = false := by simp; omega
      clear hv hge h3 hd
      go_wp2_with fail
      refine (Hc.out.use H.out.1 (token := T) (now := later) rfl H.out.2.1 (lv_use_n Ho.out)).mono ?_
      rintro e w7 ⟨rfl, hc⟩
      replace Hc := Lib.hid hc
      clear hc
      go_wp2_with fail
      refine (Hc.out.live (now := later) rfl H.out.2.1 (lv_live_n Ho.out)).mono ?_
      rintro e w8 ⟨rfl, hc⟩
      replace Hc := Lib.hid hc
      clear hc
      go_wp2_with fail
      refine (Hc.out.logout H.out.1 (token := T) (now := later) rfl H.out.2.1 (lv_use_n Ho.out) (lv_out_n Ho.out)).mono ?_
      rintro e w9 ⟨rfl, hc⟩
      replace Hc := Lib.hid hc
      clear hc
      go_wp2_with fail
      refine (Hc.out.use H.out.1 (token := T) (now := later) rfl H.out.2.1 lv_use_e).mono ?_
      rintro e w10 ⟨rfl, hc⟩
      replace Hc := Lib.hid hc
      clear hc
      go_wp2_with fail
      refine (Hc.out.logout H.out.1 (token := T) (now := later) rfl H.out.2.1 lv_use_e lv_out_e).mono ?_
      rintro e w11 ⟨rfl, hc⟩
      replace Hc := Lib.hid hc
      clear hc
      go_wp2_with fail
      refine (Hc.out.live (now := later) rfl H.out.2.1 lv_live_e).mono ?_
      rintro e w12 ⟨rfl, hc⟩
      replace Hc := Lib.hid hc
      clear hc
      have HF := Lib.hid Hc.out.by_
      clear Hc
      go_wp2
      go_ret
      exact ⟨rfl, by_trans Hy.out HF.out (by simp)⟩

theorem walk (w : World) (secret : ByteArray) (hs : secret.size ≤ 1048576) (nonce : ByteArray) (hn : nonce.size ≤ 1048576) (l : List Nat) (hl : l.length = 3) (hb : ∀ x ∈ l, x < 18446744073709551616) :
    Calls Try.prog 4 #[.string secret, .string nonce, .agg (nums64 l).toArray] w fun e w' => e = .returned (.bool true) ∧ w.grownBy w' none := by
  match l, hl with
  | [a, b, c], _ => exact walk3 w secret hs nonce hn a b c (hb a (by simp)) (hb b (by simp)) (hb c (by simp))

set_option maxRecDepth 100000 in
theorem lifted (os : Os) (started : os.Started) (H : Type) (enc : TypeId × Value → H) (F : Stop.Interp) :
    ReturnsInHanded {} Try.checked os 4 .any ((Rows.OpenSpec.upto Rows.sessLivesSpec).pre6 enc Try.prog Try.f4 Rows.sessLivesUptoRow.domain false) (((Rows.OpenSpec.upto Rows.sessLivesSpec).at F).post enc Try.prog Try.f4 false true false false) := by
  refine returnsInHanded_of_cond (C := Try.checked) (s := Rows.OpenSpec.upto Rows.sessLivesSpec) (k := Rows.uptoSmall) rfl own started (by kernel_rfl) Try.func4
    (OpenSpec.witness (enc := enc) (C := Try.checked) (s := Rows.OpenSpec.upto Rows.sessLivesSpec) (k := Rows.uptoSmall) rfl false ⟨#[], #[.string ByteArray.empty, .string ByteArray.empty, .agg #[.int .u64 0, .int .u64 0, .int .u64 0]], []⟩ 8 (by kernel_rfl) (by kernel_rfl) (by kernel_rfl)
      (x := ([.lit (.string []), .lit (.string []), .agg [.lit (.int .u64 0), .lit (.int .u64 0), .lit (.int .u64 0)]], [], [])) (by kernel_rfl) rfl (by kernel_rfl)) ?_
  intro W base args ds gs before hval0 hW hcnd hk _
  have hval : ∀ (j : Nat) t v, Try.f4.params[j]? = some t → args[j]? = some v → Value.okWide Try.prog W .any base t v := hval0
  have hW' := hW
  obtain ⟨p, q, hA0, hV, rfl, hfz, hnd⟩ := hW
  have hA : DataW.TrodAll enc Try.prog W 0 (fun _ => true) true Try.f4.params.toList args.toList ds p := hA0
  rw [Try.params4] at hA hval
  obtain ⟨v0, vs0, d0, ds0, p0, q0, hargs, rfl, rfl, h0, r0⟩ := trodAll_cons hA
  obtain ⟨v1, vs1, d1, ds1, p1, q1, rfl, rfl, rfl, h1, r1⟩ := trodAll_cons r0
  obtain ⟨v2, vs2, d2, ds2, p2, q2, rfl, rfl, rfl, h2, r2⟩ := trodAll_cons r1
  obtain ⟨rfl, rfl, rfl⟩ := trodAll_nil r2
  obtain rfl : args = #[v0, v1, v2] := by cases args; simp_all
  obtain ⟨rfl, rfl⟩ := trodVars_none hV
  obtain ⟨a0, rfl, rfl, rfl, w0⟩ := open_string Try.underlying9 (hval 0 9 v0 rfl rfl) h0
  obtain ⟨a1, rfl, rfl, rfl, w1⟩ := open_string Try.underlying9 (hval 1 9 v1 rfl rfl) h1
  obtain ⟨l2, hl2, hb2, rfl⟩ := arg_u64s Try.underlying42 Try.underlying23 (by kernel_rfl) (by kernel_rfl) (hval 2 42 v2 rfl rfl) h2
  refine (walk W a0 (by have := of_decide_eq_true hk; simp only [List.append_nil, List.cons_append, List.nil_append, Rows.uptoBulkAll, Rows.uptoBulk, Array.length_toList] at this; have e0 : a0.size = a0.data.size := rfl; omega) a1 (by have := of_decide_eq_true hk; simp only [List.append_nil, List.cons_append, List.nil_append, Rows.uptoBulkAll, Rows.uptoBulk, Array.length_toList] at this; have e1 : a1.size = a1.data.size := rfl; omega) l2 hl2 hb2).mono fun e W' ⟨he, hg⟩ => ?_
  subst he
  exact ⟨_, rfl, law_post (s := Rows.sessLivesSpec) laidOut rfl hW' (by kernel_rfl) rfl Try.underlying4 rfl (below_of_by hg)⟩

theorem proved : Rows.SessLivesUptoSaid :=
  OpenClaim.holds_of_cond 4 Try.f4 rfl rfl rfl rfl rfl rfl rfl ⟨rfl, rfl, rfl, rfl, rfl⟩ rfl rfl rfl rfl rfl (by kernel_rfl) Try.func4 (by kernel_rfl)
    (of_decide_eq_true (by kernel_rfl)) (by unfold Func.isWrapper; first | (rw [if_pos (by decide +kernel)]; kernel_rfl) | (rw [if_neg (by decide +kernel)]; exact ⟨rfl, rfl⟩))
    (fun os started H enc _ F => lifted os started H enc F)
#print axioms proved
end sessLives
end Go.Proofs.Ytdloapfifhelbaa
