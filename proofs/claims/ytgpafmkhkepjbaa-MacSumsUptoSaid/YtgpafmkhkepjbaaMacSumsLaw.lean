/-
  MacSums: a mark is two sums, one in the other, of the key and the bytes (where the input is of bulk at most 1048576).
-/
import Derived.Test.YtgpafmkhkepjbaaRefMac2
namespace Go.Proofs.Ytgpafmkhkepjbaa.macSums
open Go.ChangeShapes Go.WideShapes Go.ChangeAt Go.RowKit
open Go.ChangeMaps (open_string)

theorem made64_one (k : List UInt8) (b : UInt8) (i : Nat) (hk : k.length = 64) (h : i < 64) : (made64 k b i).set i (k.getD i 0 ^^^ b) = made64 k b (i + 1) := by
  rw [← made64_set k b i hk h 0, List.set_set]
structure Both (w0 : World) (g6 g7 : Nat) (la lb : List UInt8) (W : World) : Prop where
  a : Blk W g6 5 (u8s la).toArray
  b : Blk W g7 5 (u8s lb).toArray
  by_ : w0.grownBy W none
theorem Both.drew {w0 : World} {g6 g7 : Nat} {la lb : List UInt8} {W : World} (h : Both w0 g6 g7 la lb W) : Both w0 g6 g7 la lb W.drew := ⟨h.a.drew, h.b.drew, by_drew h.by_⟩
theorem Both.grown {w0 : World} {g6 g7 : Nat} {la lb : List UInt8} {W W' : World} (h : Both w0 g6 g7 la lb W) (y : W.grownBy W' none) : Both w0 g6 g7 la lb W' := ⟨h.a.grown y (by simp), h.b.grown y (by simp), by_trans h.by_ y (by simp)⟩
structure MS (w0 : World) (g6 g7 : Nat) (K : List UInt8) (m : Nat) (c : Value) (wr : World) (i : Nat) : Prop where
  slot : c = .int .i64 i
  le : i ≤ 64
  num : m = 64 - i
  both : Both w0 g6 g7 (made64 K 54 i) (made64 K 92 i) wr

set_option maxRecDepth 100000 in
set_option maxHeartbeats 1000000 in
theorem walk (w : World) (key : ByteArray) (hk : key.size ≤ 1048576) (s : ByteArray) (hs : s.size ≤ 1048576) :
    Calls Try.prog 11 #[.string key, .string s] w fun e w' => e = .returned (.bool true) ∧ w.grownBy w' none := by
  have Hs := Lib.hid (And.intro hk hs)
  clear hk hs
  go_enter Try.func11, Try.ntmps11
  go_wp2_with fail
  refine (works4_any w).mono ?_
  rintro e w1 ⟨rfl, y1⟩
  go_upto_if 15 with fail
  go_cut [5] (fun s5 wx => s5 = .string ⟨(short key).toArray⟩ ∧ w.grownBy wx none)
  case first =>
    rcases Nat.lt_or_ge 64 key.size with h64 | h64
    · have hsh : short key = sumB (sumOf key) := by unfold short; rw [if_neg (by omega)]
      go_wp2_with fail
      refine (sum_bytes key w1 (by have := Hs.out; omega)).mono ?_
      rintro e w2 ⟨rfl, y2⟩
      go_wp2_with fail
      refine (ltext_any _ (sumB_len _) w2).mono ?_
      rintro e w3 ⟨rfl, y3⟩
      go_wp2_with fail
      go_meet
      exact ⟨by rw [hsh], by_trans (by_trans y1 y2 (by simp)) y3 (by simp)⟩
    · have hsh : short key = key.data.toList := by unfold short; rw [if_pos h64]
      go_wp2_with fail
      go_meet
      exact ⟨by rw [hsh], y1⟩
  case rest =>
    obtain ⟨rfl, hy0⟩ := hcut
    clear y1
    have hmk : ∀ W : World, (Instr.makeSlice 28 (.int .i64 64) (.int .i64 64)).run Try.prog W = .ok (.slice (some ⟨W.heap.size, 0, none⟩) 64 64) (W.alloc (.cells (u8s (zeros 64)).toArray 5)) := fun W => mk_zeros 64 (by decide) W
    obtain ⟨ZC, hZC⟩ : ∃ Z, Z = (u8s (zeros 64)).toArray := ⟨_, rfl⟩
    rw [← hZC] at hmk
    have HZ := Lib.hid hZC
    clear hZC
    have Hy0 := Lib.hid hy0
    clear hy0
    go_upto_region 6 with fail
    go_cut [6, 7] (fun s6 s7 wx => ∃ g6 g7, s6 = .slice (some ⟨g6, 0, none⟩) 64 64 ∧ s7 = .slice (some ⟨g7, 0, none⟩) 64 64 ∧ g6 ≠ g7 ∧ w.heap.size ≤ g6 ∧ w.heap.size ≤ g7 ∧ Blk wx g6 5 ZC ∧ Blk wx g7 5 ZC ∧ w.grownBy wx none)
    case first =>
      have hsz := Hy0.out.size
      have hyd := by_alloc (by_alloc (by_drew Hy0.out) (.cells ZC 5)) (.cells ZC 5)
      have h1 : Blk ((wc.drew.alloc (.cells ZC 5)).alloc (.cells ZC 5)) wc.heap.size 5 ZC := (Blk.new wc.drew 5 ZC).alloc _
      have h2 : Blk ((wc.drew.alloc (.cells ZC 5)).alloc (.cells ZC 5)) (wc.heap.size + 1) 5 ZC := by
        have h := Blk.new (wc.drew.alloc (.cells ZC 5)) 5 ZC
        have e : (wc.drew.alloc (.cells ZC 5)).heap.size = wc.heap.size + 1 := by simp
        rw [e] at h
        exact h
      have H := Lib.hid (And.intro h1 (And.intro h2 (And.intro hyd hsz)))
      clear h1 h2 hyd hsz
      go_region
      all_goals go_wp2_with fail
      all_goals go_meet
      all_goals
        have hsz := H.out.2.2.2
        first
          | exact ⟨_, _, rfl, rfl, by omega, by omega, by omega, H.out.1, H.out.2.1, H.out.2.2.1⟩
          | exact ⟨_, _, rfl, rfl, by omega, by omega, by omega, H.out.2.1, H.out.1, H.out.2.2.1⟩
    case rest =>
      obtain ⟨g6, g7, rfl, rfl, hne, hg6, hg7, hb6, hb7, hyc⟩ := hcut
      rw [HZ.out] at hb6 hb7
      have hlen := short_len key
      have hkl := keyB_len key
      have hks : ∀ i, i < (short key).length → (keyB key).getD i 0 = (short key).getD i 0 := fun i hi => by
        unfold keyB; rw [List.getD, List.getD, List.getElem?_append_left hi]
      have hkz : ∀ i, (short key).length ≤ i → (keyB key).getD i 0 = 0 := fun i hi => by
        unfold keyB; rw [List.getD, List.getElem?_append_right hi]
        simp only [zeros, List.getElem?_replicate]
        split <;> rfl
      have hK0 : Both w g6 g7 (made64 (keyB key) 54 0) (made64 (keyB key) 92 0) wc := ⟨by simpa [made64, turn] using hb6, by simpa [made64, turn] using hb7, hyc⟩
      have HB0 := Lib.hid hK0
      have HG := Lib.hid (And.intro hne (And.intro hg6 hg7))
      have HK := Lib.hid (And.intro hkl (And.intro hks hkz))
      clear hK0 hb6 hb7 hyc hne hg6 hg7 hkl hks hkz HZ hmk Hy0
      obtain ⟨K, hK⟩ : ∃ K, K = keyB key := ⟨_, rfl⟩
      rw [← hK] at HK HB0
      have HKK := Lib.hid hK
      clear hK
      obtain ⟨S, hS⟩ : ∃ S : ByteArray, S = ⟨(short key).toArray⟩ := ⟨_, rfl⟩
      have hSs : S.size = (short key).length := by rw [hS]; show (short key).toArray.size = _; simp
      have hSd : S.data.toList = short key := by rw [hS]
      rw [← hS]
      rw [← hSs] at hlen
      have HS := Lib.hid (And.intro hSs hSd)
      clear hS hSs hSd
      go_wp2
      go_loopg [8] 64 (fun m c wr => ∃ i, MS w g6 g7 K m c wr i)
      case atStart => exact ⟨0, rfl, by omega, by omega, HB0.out⟩
      case round =>
        clear HB0
        obtain ⟨i, hr⟩ := hrel
        obtain rfl := hr.slot
        have hle := hr.le
        have Hr := Lib.hid hr
        clear hr
        by_cases hlt : i < 64
        · have ha := Hr.out.both.a
          have hb := Hr.out.both.b
          have hna := made64_len K 54 i HK.out.1 hle
          have hnb := made64_len K 92 i HK.out.1 hle
          obtain ⟨c, hc⟩ : ∃ c, c = K.getD i 0 := ⟨_, rfl⟩
          have hx6 := u8_xor_b c 54
          have hx7 := u8_xor_b c 92
          have d6 : ∃ u, wr.cell? ⟨g6, i, none⟩ = some u := ⟨_, by rw [ha.cell]; exact Array.getElem?_eq_getElem (by simp [u8s_len, hna]; omega)⟩
          have f6 : wr.frozen? ⟨g6, i, none⟩ = false := ha.frozen i
          have hne := HG.out.1
          have ha1 := ha.set_ i (.int .u8 ((c ^^^ 54).toNat : Int))
          rw [u8s_set, hc, made64_one K 54 i HK.out.1 hlt, ← hc] at ha1
          have hb1 := hb.far (p := ⟨g6, i, none⟩) (Ne.symm hne) (.int .u8 ((c ^^^ 54).toNat : Int))
          have d7 : ∃ u, (wr.setCell ⟨g6, i, none⟩ (.int .u8 ((c ^^^ 54).toNat : Int))).cell? ⟨g7, i, none⟩ = some u := ⟨_, by rw [hb1.cell]; exact Array.getElem?_eq_getElem (by simp [u8s_len, hnb]; omega)⟩
          have f7 : (wr.setCell ⟨g6, i, none⟩ (.int .u8 ((c ^^^ 54).toNat : Int))).frozen? ⟨g7, i, none⟩ = false := hb1.frozen i
          obtain ⟨u6, d6⟩ := d6
          obtain ⟨u7, d7⟩ := d7
          have hb2 := hb1.set_ i (.int .u8 ((c ^^^ 92).toNat : Int))
          rw [u8s_set, hc, made64_one K 92 i HK.out.1 hlt, ← hc] at hb2
          have ha2 := ha1.far (p := ⟨g7, i, none⟩) hne (.int .u8 ((c ^^^ 92).toNat : Int))
          have hy := by_set (by_set Hr.out.both.by_ (p := ⟨g6, i, none⟩) (.inr HG.out.2.1) (.int .u8 ((c ^^^ 54).toNat : Int))) (p := ⟨g7, i, none⟩) (.inr HG.out.2.2) (.int .u8 ((c ^^^ 92).toNat : Int))
          have hrel : MS w g6 g7 K (63 - i) (.int .i64 ((i : Int) + 1)) ((wr.setCell ⟨g6, i, none⟩ (.int .u8 ((c ^^^ 54).toNat : Int))).setCell ⟨g7, i, none⟩ (.int .u8 ((c ^^^ 92).toNat : Int))) (i + 1) := ⟨by simp, by omega, by omega, ha2, hb2, hy⟩
          have Hn := Lib.hid (And.intro hrel (show 63 - i < gk by have := Hr.out.num; omega))
          have p0 : (0 : Int) ≤ (i : Int) := by omega
          have p1 : (i : Int) < 64 := by omega
          have wx : IntKind.i64.wrap ((i : Int) + 1) = (i : Int) + 1 := by rw [IntKind.wrap_i64]; omega
          clear ha hb hna hnb ha1 hb1 ha2 hb2 hy hrel Hr hne
          rcases Nat.lt_or_ge i S.size with hs | hs
          · have hk1 : c = S.data.toList.getD i 0 := by
              have h1 := HS.out.1
              rw [hc, HK.out.2.1 i (by omega), HS.out.2]
            have hix := fun W => str_at S W i hs
            rw [← hk1] at hix
            have p2 : (i : Int) < (S.size : Int) := by omega
            clear hk1 hc
            have hx6' : bits BinOp.xor IntKind.u8 (c.toNat : Int) 54 = ((c ^^^ 54).toNat : Int) := hx6
            have hx7' : bits BinOp.xor IntKind.u8 (c.toNat : Int) 92 = ((c ^^^ 92).toNat : Int) := hx7
            clear hx6 hx7
            generalize (c ^^^ 54).toNat = y6 at *
            generalize (c ^^^ 92).toNat = y7 at *
            generalize c.toNat = x at *
            go_wp2
            go_roundg (63 - i)
            case measure => exact Hn.out.2
            case rel => exact ⟨i + 1, Hn.out.1⟩
          · have hk1 : c = 0 := by
              have h1 := HS.out.1
              rw [hc]; exact HK.out.2.2 i (by omega)
            have p2 : ¬ (i : Int) < (S.size : Int) := by omega
            have hx6' : bits BinOp.xor IntKind.u8 0 54 = ((c ^^^ 54).toNat : Int) := by rw [hk1] at hx6 ⊢; exact hx6
            have hx7' : bits BinOp.xor IntKind.u8 0 92 = ((c ^^^ 92).toNat : Int) := by rw [hk1] at hx7 ⊢; exact hx7
            clear hx6 hx7 hk1 hc
            generalize (c ^^^ 54).toNat = y6 at *
            generalize (c ^^^ 92).toNat = y7 at *
            go_wp2
            go_roundg (63 - i)
            case measure => exact Hn.out.2
            case rel => exact ⟨i + 1, Hn.out.1⟩
        · have hi : i = 64 := by omega
          subst hi
          have hbo := Hr.out.both
          have e : ∀ b, made64 K b 64 = turn (keyB key) b := fun b => by
            have h1 := HK.out.1
            rw [← HKK.out]
            unfold made64
            rw [List.take_of_length_le (by omega)]
            simp [zeros]
          rw [e, e] at hbo
          have hl54 : (turn (keyB key) 54).length = 64 := by rw [turn_len, keyB_len]
          have hl92 : (turn (keyB key) 92).length = 64 := by rw [turn_len, keyB_len]
          have hc1 := fun W => cat_run (turn (keyB key) 54) s (by have := Hs.out.2; omega) W
          have hc2 := fun W => cat_run2 (turn (keyB key) 92) (innerB key s) (by rw [hl92]; have := sumB_len (sumOf (catB (turn (keyB key) 54) s)); unfold innerB; omega) W
          have hs1 : ∀ W, Calls Try.prog 14 #[.string (catB (turn (keyB key) 54) s)] W fun e w' => e = .returned (.agg (u8s (innerB key s)).toArray) ∧ W.grownBy w' none := fun W => sum_bytes _ W (by rw [catB_size]; have := Hs.out.2; omega)
          have hs2 : ∀ W, Calls Try.prog 14 #[.string ⟨(turn (keyB key) 92 ++ innerB key s).toArray⟩] W fun e w' => e = .returned (.agg (u8s (markB key s)).toArray) ∧ W.grownBy w' none := fun W => sum_bytes _ W (by show (turn (keyB key) 92 ++ innerB key s).toArray.size ≤ _; have := sumB_len (sumOf (catB (turn (keyB key) 54) s)); simp only [List.size_toArray, List.length_append]; unfold innerB; omega)
          have hli : (innerB key s).length = 32 := sumB_len _
          have htx : ∀ W, Calls Try.prog 25 #[.agg (u8s (innerB key s)).toArray] W fun e w' => e = .returned (.string ⟨(innerB key s).toArray⟩) ∧ W.grownBy w' none := fun W => ltext_any _ hli W
          have hmc : ∀ W, Calls Try.prog 20 #[.string key, .string s] W fun e w' => e = .returned (.agg (u8s (markB key s)).toArray) ∧ W.grownBy w' none := fun W => mac_any key s (by have := Hs.out.1; omega) (by have := Hs.out.2; omega) W
          have hq := eq_row (markB key s) (markB key s) (markB_len _ _) (markB_len _ _)
          have hgu : Try.prog.eqGuardType Try.prog.depth 22 = false := by kernel_rfl
          rw [decide_eq_true rfl] at hq
          generalize (⟨(turn (keyB key) 92 ++ innerB key s).toArray⟩ : ByteArray) = J at *
          generalize catB (turn (keyB key) 54) s = I at *
          have hv6 : ∀ W, Both w g6 g7 (turn (keyB key) 54) (turn (keyB key) 92) W → (convert 28 9 (.slice (some ⟨g6, 0, none⟩) 64 64)).run Try.prog W = .ok (.string ⟨(turn (keyB key) 54).toArray⟩) W := fun W h => conv_blk hl54 h.a
          have hv7 : ∀ W, Both w g6 g7 (turn (keyB key) 54) (turn (keyB key) 92) W → (convert 28 9 (.slice (some ⟨g7, 0, none⟩) 64 64)).run Try.prog W = .ok (.string ⟨(turn (keyB key) 92).toArray⟩) W := fun W h => conv_blk hl92 h.b
          generalize (⟨(turn (keyB key) 54).toArray⟩ : ByteArray) = T54 at *
          generalize (⟨(turn (keyB key) 92).toArray⟩ : ByteArray) = T92 at *
          generalize turn (keyB key) 54 = t54 at *
          generalize turn (keyB key) 92 = t92 at *
          generalize (⟨(innerB key s).toArray⟩ : ByteArray) = TI at *
          generalize (u8s (innerB key s)).toArray = AI at *
          generalize (u8s (markB key s)).toArray = AM at *
          have Hc := Lib.hid (And.intro hmc (And.intro hs1 (And.intro htx hs2)))
          have Hv := Lib.hid (And.intro hv6 hv7)
          have Hb := Lib.hid hbo
          clear hmc hs1 htx hs2 hv6 hv7 hbo e hl54 hl92 hli Hr HK HKK HS HG hlen
          go_wp2
          refine wp_region_noPanic ?_
          refine wp_region_held_drew (S := fun W => Both w g6 g7 t54 t92 W) (by kernel_rfl) (Hb.out.drew) (fun hHeld => ?_)
          refine wpAnyH_take (i := 0) (oi := _) (v := _) rfl (by kernel_rfl) (by kernel_rfl) (by kernel_rfl) (fun _ _ _ h => h) (Or.inl ⟨by rfl, fun _ _ => by go_simp; try rfl⟩) hHeld ?_
          try simp only [Act.put, List.getElem_toArray, List.getElem_cons_zero, List.getElem_cons_succ, List.setIfInBounds_toArray, List.set_cons_zero, List.set_cons_succ]
          refine wpAnyH_take (i := 1) (oi := _) (v := _) rfl (by kernel_rfl) (by kernel_rfl) (by kernel_rfl) (fun _ _ _ h => h) (Or.inl ⟨by rfl, fun _ _ => by go_simp; try rfl⟩) hHeld ?_
          try simp only [Act.put, List.getElem_toArray, List.getElem_cons_zero, List.getElem_cons_succ, List.setIfInBounds_toArray, List.set_cons_zero, List.set_cons_succ]
          refine wpAnyH_take (i := 3) (oi := _) (v := _) rfl (by kernel_rfl) (by kernel_rfl) (by kernel_rfl) (fun _ _ _ h => h) (Or.inl ⟨by rfl, fun _ _ => by go_simp; try rfl⟩) hHeld ?_
          try simp only [Act.put, List.getElem_toArray, List.getElem_cons_zero, List.getElem_cons_succ, List.setIfInBounds_toArray, List.set_cons_zero, List.set_cons_succ]
          refine wpAnyH_take (i := 4) (oi := _) (v := _) rfl (by kernel_rfl) (by kernel_rfl) (by kernel_rfl) (fun _ _ _ h => h) (Or.inl ⟨by rfl, fun _ h => by have hx := Hv.out.2 _ h; (try simp only [List.getElem_toArray, List.getElem_cons_zero, List.getElem_cons_succ]); go_simp; try rfl⟩) hHeld ?_
          try simp only [Act.put, List.getElem_toArray, List.getElem_cons_zero, List.getElem_cons_succ, List.setIfInBounds_toArray, List.set_cons_zero, List.set_cons_succ]
          refine wpAnyH_take (i := 5) (oi := _) (v := _) rfl (by kernel_rfl) (by kernel_rfl) (by kernel_rfl) (fun _ _ _ h => h) (Or.inl ⟨by rfl, fun _ _ => by go_simp; try rfl⟩) hHeld ?_
          try simp only [Act.put, List.getElem_toArray, List.getElem_cons_zero, List.getElem_cons_succ, List.setIfInBounds_toArray, List.set_cons_zero, List.set_cons_succ]
          refine wpAnyH_take (i := 6) (oi := _) (v := _) rfl (by kernel_rfl) (by kernel_rfl) (by kernel_rfl) (fun _ _ _ h => h) (Or.inl ⟨by rfl, fun _ h => by have hx := Hv.out.1 _ h; (try simp only [List.getElem_toArray, List.getElem_cons_zero, List.getElem_cons_succ]); go_simp; try rfl⟩) hHeld ?_
          try simp only [Act.put, List.getElem_toArray, List.getElem_cons_zero, List.getElem_cons_succ, List.setIfInBounds_toArray, List.set_cons_zero, List.set_cons_succ]
          refine wpAnyH_take (i := 7) (oi := _) (v := _) rfl (by kernel_rfl) (by kernel_rfl) (by kernel_rfl) (fun _ _ _ h => h) (Or.inl ⟨by rfl, fun _ _ => by go_simp; try rfl⟩) hHeld ?_
          try simp only [Act.put, List.getElem_toArray, List.getElem_cons_zero, List.getElem_cons_succ, List.setIfInBounds_toArray, List.set_cons_zero, List.set_cons_succ]
          refine wpAnyH_take (i := 8) (oi := _) (v := _) rfl (by kernel_rfl) (by kernel_rfl) (by kernel_rfl) (fun _ _ _ h => h) (Or.inl ⟨by rfl, fun _ _ => by go_simp; try rfl⟩) hHeld ?_
          try simp only [Act.put, List.getElem_toArray, List.getElem_cons_zero, List.getElem_cons_succ, List.setIfInBounds_toArray, List.set_cons_zero, List.set_cons_succ]
          refine wpAnyH_ready (rs := [2]) (by kernel_rfl) (by simp) ?_
          refine AllReadyH.cons (o := _) rfl (fun K hK => ?_) AllReadyH.nil
          go_simp
          refine (Hc.out.1 _).mono ?_
          rintro e w2 ⟨rfl, y2⟩
          dsimp only
          refine hK.out _ _ (hHeld.grown y2) (fun hHeld => ?_)
          clear hK K
          try simp only [Act.put, List.getElem_toArray, List.getElem_cons_zero, List.getElem_cons_succ, List.setIfInBounds_toArray, List.set_cons_zero, List.set_cons_succ]
          refine wpAnyH_ready (rs := [9]) (by kernel_rfl) (by simp) ?_
          refine AllReadyH.cons (o := _) rfl (fun K hK => ?_) AllReadyH.nil
          go_simp
          refine (Hc.out.2.1 _).mono ?_
          rintro e w3 ⟨rfl, y3⟩
          dsimp only
          refine hK.out _ _ (hHeld.grown y3) (fun hHeld => ?_)
          clear hK K
          try simp only [Act.put, List.getElem_toArray, List.getElem_cons_zero, List.getElem_cons_succ, List.setIfInBounds_toArray, List.set_cons_zero, List.set_cons_succ]
          refine wpAnyH_ready (rs := [10]) (by kernel_rfl) (by simp) ?_
          refine AllReadyH.cons (o := _) rfl (fun K hK => ?_) AllReadyH.nil
          go_simp
          refine (Hc.out.2.2.1 _).mono ?_
          rintro e w4 ⟨rfl, y4⟩
          dsimp only
          refine hK.out _ _ (hHeld.grown y4) (fun hHeld => ?_)
          clear hK K
          try simp only [Act.put, List.getElem_toArray, List.getElem_cons_zero, List.getElem_cons_succ, List.setIfInBounds_toArray, List.set_cons_zero, List.set_cons_succ]
          refine wpAnyH_take (i := 11) (oi := _) (v := _) rfl (by kernel_rfl) (by kernel_rfl) (by kernel_rfl) (fun _ _ _ h => h) (Or.inl ⟨by rfl, fun _ _ => by go_simp; try rfl⟩) hHeld ?_
          try simp only [Act.put, List.getElem_toArray, List.getElem_cons_zero, List.getElem_cons_succ, List.setIfInBounds_toArray, List.set_cons_zero, List.set_cons_succ]
          refine wpAnyH_ready (rs := [12]) (by kernel_rfl) (by simp) ?_
          refine AllReadyH.cons (o := _) rfl (fun K hK => ?_) AllReadyH.nil
          go_simp
          refine (Hc.out.2.2.2 _).mono ?_
          rintro e w5 ⟨rfl, y5⟩
          dsimp only
          refine hK.out _ _ (hHeld.grown y5) (fun hHeld => ?_)
          clear hK K
          try simp only [Act.put, List.getElem_toArray, List.getElem_cons_zero, List.getElem_cons_succ, List.setIfInBounds_toArray, List.set_cons_zero, List.set_cons_succ]
          refine wpAnyH_take (i := 13) (oi := _) (v := _) rfl (by kernel_rfl) (by kernel_rfl) (by kernel_rfl) (fun _ _ _ h => h) (Or.inl ⟨by rfl, fun _ _ => by go_simp; try rfl⟩) hHeld ?_
          try simp only [Act.put, List.getElem_toArray, List.getElem_cons_zero, List.getElem_cons_succ, List.setIfInBounds_toArray, List.set_cons_zero, List.set_cons_succ]
          refine wpAnyH_take (i := 14) (oi := _) (v := _) rfl (by kernel_rfl) (by kernel_rfl) (by kernel_rfl) (fun _ _ _ h => h) (Or.inl ⟨by rfl, fun _ _ => by go_simp; try rfl⟩) hHeld ?_
          try simp only [Act.put, List.getElem_toArray, List.getElem_cons_zero, List.getElem_cons_succ, List.setIfInBounds_toArray, List.set_cons_zero, List.set_cons_succ]
          refine wpAnyH_done (by kernel_rfl) (NoPanic.normal ?_) _
          go_wp2
          go_ret
          exact ⟨rfl, hHeld.by_⟩

set_option maxRecDepth 100000 in
theorem lifted (os : Os) (started : os.Started) (H : Type) (enc : TypeId × Value → H) (F : Stop.Interp) :
    ReturnsInHanded {} Try.checked os 11 .any ((Rows.OpenSpec.upto Rows.macSumsSpec).pre6 enc Try.prog Try.f11 Rows.macSumsUptoRow.domain false) (((Rows.OpenSpec.upto Rows.macSumsSpec).at F).post enc Try.prog Try.f11 false true false false) := by
  refine returnsInHanded_of_cond (C := Try.checked) (s := Rows.OpenSpec.upto Rows.macSumsSpec) (k := Rows.uptoSmall) rfl own started (by kernel_rfl) Try.func11
    (OpenSpec.witness (enc := enc) (C := Try.checked) (s := Rows.OpenSpec.upto Rows.macSumsSpec) (k := Rows.uptoSmall) rfl false ⟨#[], #[.string ByteArray.empty, .string ByteArray.empty], []⟩ 8 (by kernel_rfl) (by kernel_rfl) (by kernel_rfl)
      (x := ([.lit (.string []), .lit (.string [])], [], [])) (by kernel_rfl) rfl (by kernel_rfl)) ?_
  intro W base args ds gs before hval0 hW hcnd hk _
  have hval : ∀ (j : Nat) t v, Try.f11.params[j]? = some t → args[j]? = some v → Value.okWide Try.prog W .any base t v := hval0
  have hW' := hW
  obtain ⟨p, q, hA0, hV, rfl, hfz, hnd⟩ := hW
  have hA : DataW.TrodAll enc Try.prog W 0 (fun _ => true) true Try.f11.params.toList args.toList ds p := hA0
  rw [Try.params11] at hA hval
  obtain ⟨v0, vs0, d0, ds0, p0, q0, hargs, rfl, rfl, h0, r0⟩ := trodAll_cons hA
  obtain ⟨v1, vs1, d1, ds1, p1, q1, rfl, rfl, rfl, h1, r1⟩ := trodAll_cons r0
  obtain ⟨rfl, rfl, rfl⟩ := trodAll_nil r1
  obtain rfl : args = #[v0, v1] := by cases args; simp_all
  obtain ⟨rfl, rfl⟩ := trodVars_none hV
  obtain ⟨a0, rfl, rfl, rfl, w0⟩ := open_string Try.underlying9 (hval 0 9 v0 rfl rfl) h0
  obtain ⟨a1, rfl, rfl, rfl, w1⟩ := open_string Try.underlying9 (hval 1 9 v1 rfl rfl) h1
  refine (walk W a0 (by have := of_decide_eq_true hk; simp only [List.append_nil, List.cons_append, List.nil_append, Rows.uptoBulkAll, Rows.uptoBulk, Array.length_toList] at this; have e0 : a0.size = a0.data.size := rfl; omega) a1 (by have := of_decide_eq_true hk; simp only [List.append_nil, List.cons_append, List.nil_append, Rows.uptoBulkAll, Rows.uptoBulk, Array.length_toList] at this; have e1 : a1.size = a1.data.size := rfl; omega)).mono fun e W' ⟨he, hg⟩ => ?_
  subst he
  exact ⟨_, rfl, law_post (s := Rows.macSumsSpec) laidOut rfl hW' (by kernel_rfl) rfl Try.underlying4 rfl (below_of_by hg)⟩

theorem proved : Rows.MacSumsUptoSaid :=
  OpenClaim.holds_of_cond 11 Try.f11 rfl rfl rfl rfl rfl rfl rfl ⟨rfl, rfl, rfl, rfl, rfl⟩ rfl rfl rfl rfl rfl (by kernel_rfl) Try.func11 (by kernel_rfl)
    (of_decide_eq_true (by kernel_rfl)) (by unfold Func.isWrapper; first | (rw [if_pos (by decide +kernel)]; kernel_rfl) | (rw [if_neg (by decide +kernel)]; exact ⟨rfl, rfl⟩))
    (fun os started H enc _ F => lifted os started H enc F)
#print axioms proved
end Go.Proofs.Ytgpafmkhkepjbaa.macSums
