/-
  MacKeys: a key of more than 64 bytes does as its sum does; zeros behind a shorter one change nothing (where the input is of bulk at most 1048576).
-/
import Derived.Test.YtgpafmkhkepjbaaRefMac2
namespace Go.Proofs.Ytgpafmkhkepjbaa.macKeys
open Go.ChangeShapes Go.WideShapes Go.ChangeAt Go.RowKit
open Go.ChangeMaps (open_string)

theorem mark_congr {k1 k2 : ByteArray} (h : keyB k1 = keyB k2) (s : ByteArray) : markB k1 s = markB k2 s := by
  unfold markB innerB
  rw [h]
theorem keyB_sum (key : ByteArray) (h : 64 < key.size) : keyB ⟨(sumB (sumOf key)).toArray⟩ = keyB key := by
  rw [short_long key h]
  have e : short ⟨(sumB (sumOf key)).toArray⟩ = sumB (sumOf key) := by
    unfold short
    rw [if_pos (by show (sumB (sumOf key)).toArray.size ≤ 64; rw [List.size_toArray, sumB_len]; decide)]
  unfold keyB
  rw [e, sumB_len]
theorem keyB_zeros (key : ByteArray) (n : Nat) (h : key.size + n ≤ 64) : keyB ⟨(key.data.toList ++ zeros n).toArray⟩ = keyB key := by
  have hl : key.data.toList.length = key.size := by simp
  have e1 : short key = key.data.toList := by unfold short; rw [if_pos (by omega)]
  have e2 : short ⟨(key.data.toList ++ zeros n).toArray⟩ = key.data.toList ++ zeros n := by
    unfold short
    rw [if_pos (by show (key.data.toList ++ zeros n).toArray.size ≤ 64; rw [List.size_toArray, List.length_append, hl]; simp [zeros]; omega)]
  unfold keyB
  rw [e1, e2, List.length_append, hl, List.append_assoc]
  congr 1
  unfold zeros
  rw [List.length_replicate, List.replicate_append_replicate]
  congr 1
  omega

set_option maxRecDepth 100000 in
set_option maxHeartbeats 1000000 in
theorem walk (w : World) (key : ByteArray) (hk : key.size ≤ 1048576) (s : ByteArray) (hs : s.size ≤ 1048576) (z : Int) (wz : (Lit.int .u8 z).wf = true) :
    Calls Try.prog 12 #[.string key, .string s, .int .u8 z] w fun e w' => e = .returned (.bool true) ∧ w.grownBy w' none := by
  have hz : 0 ≤ z ∧ z ≤ 255 := by
    simp only [Lit.wf, Bool.and_eq_true, decide_eq_true_eq] at wz
    exact ⟨wz.1, wz.2⟩
  clear wz
  obtain ⟨hz0, hz1⟩ := hz
  have Hs := Lib.hid (And.intro hk hs)
  clear hk hs
  have hcm : ∀ k2 : ByteArray, k2.size ≤ 2097152 → keyB k2 = keyB key → ∀ W, Calls Try.prog 20 #[.string k2, .string s] W fun e w' => e = .returned (.agg (u8s (markB key s)).toArray) ∧ W.grownBy w' none := fun k2 h2 hkb W => by
    have h := mac_any k2 s (by omega) (by have := Hs.out; omega) W
    rw [mark_congr hkb s] at h
    exact h
  have hq := eq_row (markB key s) (markB key s) (markB_len _ _) (markB_len _ _)
  have hgu : Try.prog.eqGuardType Try.prog.depth 22 = false := by kernel_rfl
  rw [decide_eq_true rfl] at hq
  have hlm : (markB key s).length = 32 := markB_len _ _
  generalize markB key s = lm at *
  have hu := Try.underlying22
  have hi22 : (Try.prog.info? 22).map (·.size) = some (u8s lm).length := by rw [info22, u8s_len, hlm]
  have hi22a : (Try.prog.info? 22).map (·.size) = some (u8s lm).toArray.size := by rw [info22]; simp [u8s_len, hlm]
  have hA1 : (u8s lm).toArray.all (·.oneCell') = true := all_oneCell_toArray (u8s_one lm)
  have Hc := Lib.hid hcm
  have HI := Lib.hid (And.intro hi22a hA1)
  clear hcm hi22a hA1
  go_enter Try.func12, Try.ntmps12
  go_wp2_with fail
  refine (works4_any w).mono ?_
  rintro e w1 ⟨rfl, y1⟩
  go_wp2_with fail
  refine (Hc.out key (by have := Hs.out; omega) rfl w1).mono ?_
  rintro e w2 ⟨rfl, y2⟩
  have fA := fresh32 w2 (u8s lm).toArray (by simp [u8s_len, hlm])
  obtain ⟨V, hV⟩ : ∃ W, W = (w2.alloc (.cells (Array.replicate 32 (.int .u8 0)) 22)).setCells w2.heap.size 0 (u8s lm).toArray.toList := ⟨_, rfl⟩
  rw [← hV] at fA
  have h7 : R7 w w2.heap.size lm V := ⟨fA.2.1, by_trans (by_trans y1 y2 (by simp)) fA.2.2 (by simp)⟩
  have HA := Lib.hid fA.1
  have HV := Lib.hid hV
  have H7 := Lib.hid h7
  clear fA hV h7 y1 y2
  generalize hg7 : w2.heap.size = g7 at *
  rcases Nat.lt_or_ge 64 key.size with h64 | h64
  · have hsum : ∀ W, Calls Try.prog 14 #[.string key] W fun e w' => e = .returned (.agg (u8s (sumB (sumOf key))).toArray) ∧ W.grownBy w' none := fun W => sum_bytes key W (by have := Hs.out; omega)
    have htx : ∀ W, Calls Try.prog 25 #[.agg (u8s (sumB (sumOf key))).toArray] W fun e w' => e = .returned (.string ⟨(sumB (sumOf key)).toArray⟩) ∧ W.grownBy w' none := fun W => ltext_any _ (sumB_len _) W
    have hmc := Hc.out ⟨(sumB (sumOf key)).toArray⟩ (by show (sumB (sumOf key)).toArray.size ≤ _; rw [List.size_toArray, sumB_len]; decide) (keyB_sum key h64)
    generalize (⟨(sumB (sumOf key)).toArray⟩ : ByteArray) = T at *
    generalize (u8s (sumB (sumOf key))).toArray = B at *
    have Hm := Lib.hid (And.intro hsum (And.intro htx hmc))
    clear hsum htx hmc Hc
    go_wp2_with (refine wpList_store_mid rfl 22 (.tmp 7) (.tmp 13) rfl g7 0 (u8s lm).toArray rfl rfl HA.out HI.out.1 HI.out.2 ?_; refine wpList_at HV.out ?_)
    try dsimp only [Act.put]
    refine wp_region_noPanic ?_
    refine wp_region_held_drew (S := fun W => R7 w g7 lm W) (by kernel_rfl) (H7.out.drew) (fun hHeld => ?_)
    refine wpAnyH_take (i := 5) (oi := _) (v := _) rfl (by kernel_rfl) (by kernel_rfl) (by kernel_rfl) (fun _ _ _ h => h) (yieldsIf_load_mid (by rfl) _ _ rfl _ _ rfl (u8s lm) _ (fun _ h => rangeB h.c) hu rfl hi22) hHeld ?_
    try simp only [Act.put, List.getElem_toArray, List.getElem_cons_zero, List.getElem_cons_succ, List.setIfInBounds_toArray, List.set_cons_zero, List.set_cons_succ]
    refine wpAnyH_take (i := 0) (oi := _) (v := _) rfl (by kernel_rfl) (by kernel_rfl) (by kernel_rfl) (fun _ _ _ h => h) (Or.inl ⟨by rfl, fun _ _ => by go_simp; try rfl⟩) hHeld ?_
    try simp only [Act.put, List.getElem_toArray, List.getElem_cons_zero, List.getElem_cons_succ, List.setIfInBounds_toArray, List.set_cons_zero, List.set_cons_succ]
    refine wpAnyH_take (i := 3) (oi := _) (v := _) rfl (by kernel_rfl) (by kernel_rfl) (by kernel_rfl) (fun _ _ _ h => h) (Or.inl ⟨by rfl, fun _ _ => by go_simp; try rfl⟩) hHeld ?_
    try simp only [Act.put, List.getElem_toArray, List.getElem_cons_zero, List.getElem_cons_succ, List.setIfInBounds_toArray, List.set_cons_zero, List.set_cons_succ]
    refine wpAnyH_ready (rs := [1]) (by kernel_rfl) (by simp) ?_
    refine AllReadyH.cons (o := _) rfl (fun K hK => ?_) AllReadyH.nil
    go_simp
    refine (Hm.out.1 _).mono ?_
    rintro e w4 ⟨rfl, y4⟩
    dsimp only
    refine hK.out _ _ (hHeld.grown y4) (fun hHeld => ?_)
    clear hK K
    try simp only [Act.put, List.getElem_toArray, List.getElem_cons_zero, List.getElem_cons_succ, List.setIfInBounds_toArray, List.set_cons_zero, List.set_cons_succ]
    refine wpAnyH_ready (rs := [2]) (by kernel_rfl) (by simp) ?_
    refine AllReadyH.cons (o := _) rfl (fun K hK => ?_) AllReadyH.nil
    go_simp
    refine (Hm.out.2.1 _).mono ?_
    rintro e w5 ⟨rfl, y5⟩
    dsimp only
    refine hK.out _ _ (hHeld.grown y5) (fun hHeld => ?_)
    clear hK K
    try simp only [Act.put, List.getElem_toArray, List.getElem_cons_zero, List.getElem_cons_succ, List.setIfInBounds_toArray, List.set_cons_zero, List.set_cons_succ]
    refine wpAnyH_ready (rs := [4]) (by kernel_rfl) (by simp) ?_
    refine AllReadyH.cons (o := _) rfl (fun K hK => ?_) AllReadyH.nil
    go_simp
    refine (Hm.out.2.2 _).mono ?_
    rintro e w6 ⟨rfl, y6⟩
    dsimp only
    refine hK.out _ _ (hHeld.grown y6) (fun hHeld => ?_)
    clear hK K
    try simp only [Act.put, List.getElem_toArray, List.getElem_cons_zero, List.getElem_cons_succ, List.setIfInBounds_toArray, List.set_cons_zero, List.set_cons_succ]
    refine wpAnyH_take (i := 6) (oi := _) (v := _) rfl (by kernel_rfl) (by kernel_rfl) (by kernel_rfl) (fun _ _ _ h => h) (Or.inl ⟨by rfl, fun _ _ => by go_simp; try rfl⟩) hHeld ?_
    try simp only [Act.put, List.getElem_toArray, List.getElem_cons_zero, List.getElem_cons_succ, List.setIfInBounds_toArray, List.set_cons_zero, List.set_cons_succ]
    refine wpAnyH_take (i := 7) (oi := _) (v := _) rfl (by kernel_rfl) (by kernel_rfl) (by kernel_rfl) (fun _ _ _ h => h) (Or.inl ⟨by rfl, fun _ _ => by go_simp; try rfl⟩) hHeld ?_
    try simp only [Act.put, List.getElem_toArray, List.getElem_cons_zero, List.getElem_cons_succ, List.setIfInBounds_toArray, List.set_cons_zero, List.set_cons_succ]
    refine wpAnyH_done (by kernel_rfl) (NoPanic.normal ?_) _
    go_wp2
    go_ret
    exact ⟨rfl, hHeld.by_⟩
  · obtain ⟨n, hn, hn2⟩ : ∃ n : Nat, min z (64 - (key.size : Int)) = (n : Int) ∧ key.size + n ≤ 64 := ⟨(min z (64 - (key.size : Int))).toNat, by omega, by omega⟩
    have hmk := fun W => mk_zeros n (by omega) W
    have hcat : ∀ W, (Op.stringOp .add key ⟨(zeros n).toArray⟩).run Try.prog W = .ok (.string ⟨(key.data.toList ++ zeros n).toArray⟩) W := fun W => by
      have h := cat_run2 key.data.toList (zeros n) (by simp [zeros]; have := Hs.out; have e : key.data.size = key.size := rfl; omega) W
      have e : (⟨key.data.toList.toArray⟩ : ByteArray) = key := by simp
      rw [e] at h
      exact h
    have hkz := Hc.out ⟨(key.data.toList ++ zeros n).toArray⟩ (by show (key.data.toList ++ zeros n).toArray.size ≤ _; have := Hs.out; have e : key.data.size = key.size := rfl; simp [zeros]; omega) (keyB_zeros key n hn2)
    have hcv : ∀ W : World, (convert 28 9 (.slice (some ⟨W.heap.size, 0, none⟩) n n)).run Try.prog (W.alloc (.cells (u8s (zeros n)).toArray 5)) = .ok (.string ⟨(zeros n).toArray⟩) (W.alloc (.cells (u8s (zeros n)).toArray 5)) := fun W => conv_blk (by simp [zeros]) (Blk.new W 5 _)
    generalize (⟨(zeros n).toArray⟩ : ByteArray) = Z at *
    generalize (⟨(key.data.toList ++ zeros n).toArray⟩ : ByteArray) = KZ at *
    generalize (u8s (zeros n)).toArray = ZC at *
    have Hm := Lib.hid hkz
    clear hkz Hc
    have hkn : (key.size : Int) ≤ 64 := by omega
    have wk : IntKind.i64.wrap (64 - (key.size : Int)) = 64 - (key.size : Int) := by rw [IntKind.wrap_i64]; omega
    have hcv1 : (convert 28 9 (.slice (some ⟨V.heap.size, 0, none⟩) n n)).run Try.prog (V.drew.alloc (.cells ZC 5)) = .ok (.string Z) (V.drew.alloc (.cells ZC 5)) := hcv V.drew
    have hcv2 : (convert 28 9 (.slice (some ⟨V.heap.size, 0, none⟩) n n)).run Try.prog (V.alloc (.cells ZC 5)).drew = .ok (.string Z) (V.alloc (.cells ZC 5)).drew := by
      have h := hcv V.drew
      exact h
    clear hcv
    go_wp2_with (refine wpList_store_mid rfl 22 (.tmp 7) (.tmp 13) rfl g7 0 (u8s lm).toArray rfl rfl HA.out HI.out.1 HI.out.2 ?_; refine wpList_at HV.out ?_)
    try dsimp only [Act.put]
    refine wp_region_noPanic ?_
    refine wp_region_held_drew (S := fun W => R7 w g7 lm W) (by kernel_rfl) (H7.out.drew) (fun hHeld => ?_)
    refine wpAnyH_take (i := 7) (oi := _) (v := _) rfl (by kernel_rfl) (by kernel_rfl) (by kernel_rfl) (fun _ _ _ h => h) (yieldsIf_load_mid (by rfl) _ _ rfl _ _ rfl (u8s lm) _ (fun _ h => rangeB h.c) hu rfl hi22) hHeld ?_
    try simp only [Act.put, List.getElem_toArray, List.getElem_cons_zero, List.getElem_cons_succ, List.setIfInBounds_toArray, List.set_cons_zero, List.set_cons_succ]
    refine wpAnyH_take (i := 0) (oi := _) (v := _) rfl (by kernel_rfl) (by kernel_rfl) (by kernel_rfl) (fun _ _ _ h => h) (Or.inl ⟨by rfl, fun _ _ => by go_simp; try rfl⟩) hHeld ?_
    try simp only [Act.put, List.getElem_toArray, List.getElem_cons_zero, List.getElem_cons_succ, List.setIfInBounds_toArray, List.set_cons_zero, List.set_cons_succ]
    refine wpAnyH_take (i := 1) (oi := _) (v := _) rfl (by kernel_rfl) (by kernel_rfl) (by kernel_rfl) (fun _ _ _ h => h) (Or.inl ⟨by rfl, fun _ _ => by go_simp; try rfl⟩) hHeld ?_
    try simp only [Act.put, List.getElem_toArray, List.getElem_cons_zero, List.getElem_cons_succ, List.setIfInBounds_toArray, List.set_cons_zero, List.set_cons_succ]
    refine wpAnyH_take (i := 5) (oi := _) (v := _) rfl (by kernel_rfl) (by kernel_rfl) (by kernel_rfl) (fun _ _ _ h => h) (Or.inl ⟨by rfl, fun _ _ => by go_simp; try rfl⟩) hHeld ?_
    try simp only [Act.put, List.getElem_toArray, List.getElem_cons_zero, List.getElem_cons_succ, List.setIfInBounds_toArray, List.set_cons_zero, List.set_cons_succ]
    refine wpAnyH_ready (rs := [2]) (by kernel_rfl) (by simp) ?_
    refine AllReadyH.cons (o := _) rfl (fun K hK => ?_) AllReadyH.nil
    go_simp
    refine hK.out _ _ (hHeld.grown (World.grownBy_alloc _ _ none)) (fun hHeld => ?_)
    clear hK K
    try simp only [Act.put, List.getElem_toArray, List.getElem_cons_zero, List.getElem_cons_succ, List.setIfInBounds_toArray, List.set_cons_zero, List.set_cons_succ]
    refine wpAnyH_ready (rs := [3]) (by kernel_rfl) (by simp) ?_
    refine AllReadyH.cons (o := _) rfl (fun K hK => ?_) AllReadyH.nil
    go_simp
    refine hK.out _ _ (hHeld) (fun hHeld => ?_)
    clear hK K
    try simp only [Act.put, List.getElem_toArray, List.getElem_cons_zero, List.getElem_cons_succ, List.setIfInBounds_toArray, List.set_cons_zero, List.set_cons_succ]
    refine wpAnyH_take (i := 4) (oi := _) (v := _) rfl (by kernel_rfl) (by kernel_rfl) (by kernel_rfl) (fun _ _ _ h => h) (Or.inl ⟨by rfl, fun _ _ => by go_simp; try rfl⟩) hHeld ?_
    try simp only [Act.put, List.getElem_toArray, List.getElem_cons_zero, List.getElem_cons_succ, List.setIfInBounds_toArray, List.set_cons_zero, List.set_cons_succ]
    refine wpAnyH_ready (rs := [6]) (by kernel_rfl) (by simp) ?_
    refine AllReadyH.cons (o := _) rfl (fun K hK => ?_) AllReadyH.nil
    go_simp
    refine (Hm.out _).mono ?_
    rintro e w6 ⟨rfl, y6⟩
    dsimp only
    refine hK.out _ _ (hHeld.grown y6) (fun hHeld => ?_)
    clear hK K
    try simp only [Act.put, List.getElem_toArray, List.getElem_cons_zero, List.getElem_cons_succ, List.setIfInBounds_toArray, List.set_cons_zero, List.set_cons_succ]
    refine wpAnyH_take (i := 8) (oi := _) (v := _) rfl (by kernel_rfl) (by kernel_rfl) (by kernel_rfl) (fun _ _ _ h => h) (Or.inl ⟨by rfl, fun _ _ => by go_simp; try rfl⟩) hHeld ?_
    try simp only [Act.put, List.getElem_toArray, List.getElem_cons_zero, List.getElem_cons_succ, List.setIfInBounds_toArray, List.set_cons_zero, List.set_cons_succ]
    refine wpAnyH_take (i := 9) (oi := _) (v := _) rfl (by kernel_rfl) (by kernel_rfl) (by kernel_rfl) (fun _ _ _ h => h) (Or.inl ⟨by rfl, fun _ _ => by go_simp; try rfl⟩) hHeld ?_
    try simp only [Act.put, List.getElem_toArray, List.getElem_cons_zero, List.getElem_cons_succ, List.setIfInBounds_toArray, List.set_cons_zero, List.set_cons_succ]
    refine wpAnyH_done (by kernel_rfl) (NoPanic.normal ?_) _
    go_wp2
    go_ret
    exact ⟨rfl, hHeld.by_⟩

set_option maxRecDepth 100000 in
theorem lifted (os : Os) (started : os.Started) (H : Type) (enc : TypeId × Value → H) (F : Stop.Interp) :
    ReturnsInHanded {} Try.checked os 12 .any ((Rows.OpenSpec.upto Rows.macKeysSpec).pre6 enc Try.prog Try.f12 Rows.macKeysUptoRow.domain false) (((Rows.OpenSpec.upto Rows.macKeysSpec).at F).post enc Try.prog Try.f12 false true false false) := by
  refine returnsInHanded_of_cond (C := Try.checked) (s := Rows.OpenSpec.upto Rows.macKeysSpec) (k := Rows.uptoSmall) rfl own started (by kernel_rfl) Try.func12
    (OpenSpec.witness (enc := enc) (C := Try.checked) (s := Rows.OpenSpec.upto Rows.macKeysSpec) (k := Rows.uptoSmall) rfl false ⟨#[], #[.string ByteArray.empty, .string ByteArray.empty, .int .u8 0], []⟩ 8 (by kernel_rfl) (by kernel_rfl) (by kernel_rfl)
      (x := ([.lit (.string []), .lit (.string []), .lit (.int .u8 0)], [], [])) (by kernel_rfl) rfl (by kernel_rfl)) ?_
  intro W base args ds gs before hval0 hW hcnd hk _
  have hval : ∀ (j : Nat) t v, Try.f12.params[j]? = some t → args[j]? = some v → Value.okWide Try.prog W .any base t v := hval0
  have hW' := hW
  obtain ⟨p, q, hA0, hV, rfl, hfz, hnd⟩ := hW
  have hA : DataW.TrodAll enc Try.prog W 0 (fun _ => true) true Try.f12.params.toList args.toList ds p := hA0
  rw [Try.params12] at hA hval
  obtain ⟨v0, vs0, d0, ds0, p0, q0, hargs, rfl, rfl, h0, r0⟩ := trodAll_cons hA
  obtain ⟨v1, vs1, d1, ds1, p1, q1, rfl, rfl, rfl, h1, r1⟩ := trodAll_cons r0
  obtain ⟨v2, vs2, d2, ds2, p2, q2, rfl, rfl, rfl, h2, r2⟩ := trodAll_cons r1
  obtain ⟨rfl, rfl, rfl⟩ := trodAll_nil r2
  obtain rfl : args = #[v0, v1, v2] := by cases args; simp_all
  obtain ⟨rfl, rfl⟩ := trodVars_none hV
  obtain ⟨a0, rfl, rfl, rfl, w0⟩ := open_string Try.underlying9 (hval 0 9 v0 rfl rfl) h0
  obtain ⟨a1, rfl, rfl, rfl, w1⟩ := open_string Try.underlying9 (hval 1 9 v1 rfl rfl) h1
  obtain ⟨a2, rfl, rfl, rfl, w2⟩ := open_int Try.underlying5 (hval 2 5 v2 rfl rfl) h2
  refine (walk W a0 (by have := of_decide_eq_true hk; simp only [List.append_nil, List.cons_append, List.nil_append, Rows.uptoBulkAll, Rows.uptoBulk, Array.length_toList] at this; have e0 : a0.size = a0.data.size := rfl; omega) a1 (by have := of_decide_eq_true hk; simp only [List.append_nil, List.cons_append, List.nil_append, Rows.uptoBulkAll, Rows.uptoBulk, Array.length_toList] at this; have e1 : a1.size = a1.data.size := rfl; omega) a2 w2).mono fun e W' ⟨he, hg⟩ => ?_
  subst he
  exact ⟨_, rfl, law_post (s := Rows.macKeysSpec) laidOut rfl hW' (by kernel_rfl) rfl Try.underlying4 rfl (below_of_by hg)⟩

theorem proved : Rows.MacKeysUptoSaid :=
  OpenClaim.holds_of_cond 12 Try.f12 rfl rfl rfl rfl rfl rfl rfl ⟨rfl, rfl, rfl, rfl, rfl⟩ rfl rfl rfl rfl rfl (by kernel_rfl) Try.func12 (by kernel_rfl)
    (of_decide_eq_true (by kernel_rfl)) (by unfold Func.isWrapper; first | (rw [if_pos (by decide +kernel)]; kernel_rfl) | (rw [if_neg (by decide +kernel)]; exact ⟨rfl, rfl⟩))
    (fun os started H enc _ F => lifted os started H enc F)
#print axioms proved
end Go.Proofs.Ytgpafmkhkepjbaa.macKeys
