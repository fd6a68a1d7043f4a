/-
  The walk of the reference's Mac, and the statement MacIs where the input is of bulk at most 1048576.
-/
import Derived.Test.YtdloapfifhelbaaRefMac
import Derived.Test.YtdloapfifhelbaaRow
import Derived.ChangeMaps5
import Derived.JoinedCond
namespace Go.Proofs.Ytdloapfifhelbaa
open Go.RowKit

structure R7 (w0 : World) (g5 : Nat) (li : List UInt8) (W : World) : Prop where
  c : Blk W g5 44 (u8s li).toArray
  by_ : w0.grownBy W none
theorem R7.drew {w0 : World} {g5 : Nat} {li : List UInt8} {W : World} (h : R7 w0 g5 li W) : R7 w0 g5 li W.drew := ⟨h.c.drew, by_drew h.by_⟩
theorem R7.grown {w0 : World} {g5 : Nat} {li : List UInt8} {W W' : World} (h : R7 w0 g5 li W) (y : W.grownBy W' none) : R7 w0 g5 li W' := ⟨h.c.grown y (by simp), by_trans h.by_ y (by simp)⟩
theorem R7.store {w0 : World} {g4 g5 : Nat} {li : List UInt8} {W : World} (h : R7 w0 g5 li W) (h5 : g5 ≠ g4) (h0 : w0.heap.size ≤ g4) (vs : List Value) : R7 w0 g5 li (W.setCells g4 0 vs) :=
  ⟨Blk.farAll _ _ _ _ h5 h.c, by_setAll (.inr h0) _ _ _ h.by_⟩
theorem rangeB {W : World} {g t : Nat} {L : List Value} (h : Blk W g t L.toArray) : W.rangeAt g 0 L := fun j v hv => by rw [Nat.zero_add, h.cell]; simpa using hv

set_option maxRecDepth 100000 in
set_option maxHeartbeats 1000000 in
theorem rmac_any (key s : ByteArray) (hk : key.size ≤ 268435456) (hs : s.size ≤ 268435456) (w : World) :
    Calls Try.prog 27 #[.string key, .string s] w fun e w' => e = .returned (.agg (u8s (markB key s)).toArray) ∧ w.grownBy w' none := by
  have ht54 : ∀ W, Calls Try.prog 38 #[.string key, .int .u8 54] W fun e w' => e = .returned (.string ⟨(turn (keyB key) 54).toArray⟩) ∧ W.grownBy w' none := fun W => rblock_any key hk 54 W
  have ht92 : ∀ W, Calls Try.prog 38 #[.string key, .int .u8 92] W fun e w' => e = .returned (.string ⟨(turn (keyB key) 92).toArray⟩) ∧ W.grownBy w' none := fun W => rblock_any key hk 92 W
  have hl54 : (turn (keyB key) 54).length = 64 := by rw [turn_len, keyB_len]
  have hl92 : (turn (keyB key) 92).length = 64 := by rw [turn_len, keyB_len]
  have hc1 := fun W => cat_run (turn (keyB key) 54) s (by omega) W
  have hc2 := fun W => cat_run2 (turn (keyB key) 92) (innerB key s) (by rw [hl92]; have := sumB_len (sumOf (catB (turn (keyB key) 54) s)); unfold innerB; omega) W
  have hs1 : ∀ W, Calls Try.prog 37 #[.string (catB (turn (keyB key) 54) s)] W fun e w' => e = .returned (.agg (u8s (innerB key s)).toArray) ∧ W.grownBy w' none := fun W => by
    have h := rsum_any (catB (turn (keyB key) 54) s) W (by rw [catB_size]; omega)
    rw [rowOut_sumB] at h
    exact h
  have hs2 : ∀ W, Calls Try.prog 37 #[.string ⟨(turn (keyB key) 92 ++ innerB key s).toArray⟩] W fun e w' => e = .returned (.agg (u8s (markB key s)).toArray) ∧ W.grownBy w' none := fun W => by
    have h := rsum_any ⟨(turn (keyB key) 92 ++ innerB key s).toArray⟩ W (by show (turn (keyB key) 92 ++ innerB key s).toArray.size ≤ _; have := sumB_len (sumOf (catB (turn (keyB key) 54) s)); simp only [List.size_toArray, List.length_append]; unfold innerB; omega)
    rw [rowOut_sumB] at h
    exact h
  have hli : (innerB key s).length = 32 := sumB_len _
  have hlm : (markB key s).length = 32 := sumB_len _
  obtain ⟨lm, hlm2⟩ : ∃ l, l = markB key s := ⟨_, rfl⟩
  rw [← hlm2] at hs2 hlm ⊢
  clear hlm2
  generalize (⟨(turn (keyB key) 92 ++ innerB key s).toArray⟩ : ByteArray) = J at *
  generalize catB (turn (keyB key) 54) s = I at *
  generalize (⟨(turn (keyB key) 54).toArray⟩ : ByteArray) = T54 at *
  generalize (⟨(turn (keyB key) 92).toArray⟩ : ByteArray) = T92 at *
  generalize innerB key s = li at *
  have htx : ∀ W, Calls Try.prog 39 #[.agg (u8s li).toArray] W fun e w' => e = .returned (.string ⟨li.toArray⟩) ∧ W.grownBy w' none := fun W => rtext_any li hli W
  generalize (⟨li.toArray⟩ : ByteArray) = TL at *
  have Ht := Lib.hid (And.intro ht54 (And.intro ht92 (And.intro hs1 (And.intro hs2 htx))))
  clear ht54 ht92 hs1 hs2 hl54 hl92 htx hk hs
  have hu := Try.underlying44
  have hi22 : (Try.prog.info? 44).map (·.size) = some (u8s li).length := by rw [info22, u8s_len, hli]
  have hi22a : (Try.prog.info? 44).map (·.size) = some (u8s li).toArray.size := by rw [info22]; simp [u8s_len, hli]
  have hi22m : (Try.prog.info? 44).map (·.size) = some (u8s lm).toArray.size := by rw [info22]; simp [u8s_len, hlm]
  have hA1 : (u8s li).toArray.all (·.oneCell') = true := all_oneCell_toArray (u8s_one li)
  have hM1 : (u8s lm).toArray.all (·.oneCell') = true := all_oneCell_toArray (u8s_one lm)
  have hb0 := Blk.new w 44 (Array.replicate 32 (Value.int .u8 0))
  have hy0 := by_alloc (by_refl w none) (.cells (Array.replicate 32 (Value.int .u8 0)) 44)
  obtain ⟨W, hW⟩ : ∃ W, W = w.alloc (.cells (Array.replicate 32 (Value.int .u8 0)) 44) := ⟨_, rfl⟩
  rw [← hW] at hb0 hy0
  have H0 := Lib.hid (And.intro hb0 hy0)
  have HW := Lib.hid hW
  have HI := Lib.hid (And.intro hi22a (And.intro hi22m (And.intro hA1 hM1)))
  clear hi22a hi22m hA1 hM1 hb0 hy0 hW
  go_enter Try.func27, Try.ntmps27
  go_upto_region 1 with fail
  change Code.wp _ _ _ _ (w.alloc (.cells (Array.replicate 32 (Value.int .u8 0)) 44))
  rw [← HW.out]
  go_wp2_with fail
  refine (Ht.out.1 W).mono ?_
  rintro e w2 ⟨rfl, y2⟩
  go_wp2_with fail
  refine (Ht.out.2.2.1 w2).mono ?_
  rintro e w3 ⟨rfl, y3⟩
  have fA := fresh32 w3 (u8s li).toArray (by simp [u8s_len, hli])
  obtain ⟨V3, hV3⟩ : ∃ W, W = (w3.alloc (.cells (Array.replicate 32 (.int .u8 0)) 44)).setCells w3.heap.size 0 (u8s li).toArray.toList := ⟨_, rfl⟩
  rw [← hV3] at fA
  have hz4 := ((H0.out.1.grown y2 (by simp)).grown y3 (by simp)).grown fA.2.2 (by simp)
  have hy4 := by_trans (by_trans (by_trans H0.out.2 y2 (by simp)) y3 (by simp)) fA.2.2 (by simp)
  have hlt := ((H0.out.1.grown y2 (by simp)).grown y3 (by simp)).lt
  have HA := Lib.hid fA.1
  have HV := Lib.hid hV3
  have h7 : R7 w w3.heap.size li V3.drew := ⟨fA.2.1.drew, by_drew hy4⟩
  have H4 := Lib.hid hz4
  have hne : w3.heap.size ≠ w.heap.size := by omega
  clear fA hV3 hz4 hy4 y2 y3 H0 HW hlt
  generalize hg8 : w3.heap.size = g8 at *
  have Hne := Lib.hid hne
  clear hne
  go_wp2_with (refine wpList_store_mid rfl 44 (.tmp 5) (.tmp 10) rfl g8 0 (u8s li).toArray rfl rfl HA.out HI.out.1 HI.out.2.2.1 ?_; refine wpList_at HV.out ?_)
  try dsimp only [Act.put]
  refine wp_region_noPanic ?_
  refine wp_region_held_drew (S := fun W => R7 w g8 li W) (by kernel_rfl) (h7) (fun hHeld => ?_)
  refine wpAnyH_take (i := 2) (oi := _) (v := _) rfl (by kernel_rfl) (by kernel_rfl) (by kernel_rfl) (fun _ _ _ h => h) (yieldsIf_load_mid (by rfl) _ _ rfl _ _ rfl (u8s li) _ (fun _ h => rangeB h.c) hu rfl hi22) hHeld ?_
  try simp only [Act.put, List.getElem_toArray, List.getElem_cons_zero, List.getElem_cons_succ, List.setIfInBounds_toArray, List.set_cons_zero, List.set_cons_succ]
  refine wpAnyH_take (i := 0) (oi := _) (v := _) rfl (by kernel_rfl) (by kernel_rfl) (by kernel_rfl) (fun _ _ _ h => h) (Or.inl ⟨by rfl, fun _ _ => by go_simp; try rfl⟩) hHeld ?_
  try simp only [Act.put, List.getElem_toArray, List.getElem_cons_zero, List.getElem_cons_succ, List.setIfInBounds_toArray, List.set_cons_zero, List.set_cons_succ]
  refine wpAnyH_ready (rs := [1]) (by kernel_rfl) (by simp) ?_
  refine AllReadyH.cons (o := _) rfl (fun K hK => ?_) AllReadyH.nil
  go_simp
  refine (Ht.out.2.1 _).mono ?_
  rintro e w4 ⟨rfl, y4⟩
  dsimp only
  refine hK.out _ _ (hHeld.grown y4) (fun hHeld => ?_)
  clear hK K
  try simp only [Act.put, List.getElem_toArray, List.getElem_cons_zero, List.getElem_cons_succ, List.setIfInBounds_toArray, List.set_cons_zero, List.set_cons_succ]
  refine wpAnyH_ready (rs := [3]) (by kernel_rfl) (by simp) ?_
  refine AllReadyH.cons (o := _) rfl (fun K hK => ?_) AllReadyH.nil
  go_simp
  refine (Ht.out.2.2.2.2 _).mono ?_
  rintro e w5 ⟨rfl, y5⟩
  dsimp only
  refine hK.out _ _ (hHeld.grown y5) (fun hHeld => ?_)
  clear hK K
  try simp only [Act.put, List.getElem_toArray, List.getElem_cons_zero, List.getElem_cons_succ, List.setIfInBounds_toArray, List.set_cons_zero, List.set_cons_succ]
  refine wpAnyH_take (i := 4) (oi := _) (v := _) rfl (by kernel_rfl) (by kernel_rfl) (by kernel_rfl) (fun _ _ _ h => h) (Or.inl ⟨by rfl, fun _ _ => by go_simp; try rfl⟩) hHeld ?_
  try simp only [Act.put, List.getElem_toArray, List.getElem_cons_zero, List.getElem_cons_succ, List.setIfInBounds_toArray, List.set_cons_zero, List.set_cons_succ]
  refine wpAnyH_ready (rs := [5]) (by kernel_rfl) (by simp) ?_
  refine AllReadyH.cons (o := _) rfl (fun K hK => ?_) AllReadyH.nil
  go_simp
  refine (Ht.out.2.2.2.1 _).mono ?_
  rintro e w6 ⟨rfl, y6⟩
  dsimp only
  refine hK.out _ _ (hHeld.grown y6) (fun hHeld => ?_)
  clear hK K
  try simp only [Act.put, List.getElem_toArray, List.getElem_cons_zero, List.getElem_cons_succ, List.setIfInBounds_toArray, List.set_cons_zero, List.set_cons_succ]
  have hz := ((H4.out.drew.grown y4 (by simp)).grown y5 (by simp)).grown y6 (by simp)
  have ht4 := hz.there (u8s lm).toArray.size (by simp [u8s_len, hlm])
  have hs4 := hz.setAll (u8s lm).toArray.toList (by simp [u8s_len, hlm])
  rw [Array.toArray_toList] at hs4
  refine wpAnyH_ready (rs := [6]) (by kernel_rfl) (by simp) ?_
  refine AllReadyH.cons (o := _) rfl (fun K hK => ?_) AllReadyH.nil
  rw [if_pos (by rfl)]
  refine wp_store_mid 44 (.tmp 4) (.tmp 16) rfl w.heap.size 0 (u8s lm).toArray rfl rfl ht4 HI.out.2.1 HI.out.2.2.2 ?_
  try simp only [Act.put, List.getElem_toArray, List.getElem_cons_zero, List.getElem_cons_succ, List.setIfInBounds_toArray, List.set_cons_zero, List.set_cons_succ]
  refine hK.out _ _ (hHeld.store Hne.out (Nat.le_refl _) _) (fun hHeld => ?_)
  clear hK K
  try simp only [Act.put, List.getElem_toArray, List.getElem_cons_zero, List.getElem_cons_succ, List.setIfInBounds_toArray, List.set_cons_zero, List.set_cons_succ]
  refine wpAnyH_done (by kernel_rfl) (NoPanic.normal ?_) _
  go_wp2
  refine bodyPost_ret (results_cell_row rfl _ _ w.heap.size 44 (u8s lm).toArray (0, 0) _ rfl hs4 Try.underlying44 rfl HI.out.2.1) rfl ⟨rfl, hHeld.by_⟩
end Go.Proofs.Ytdloapfifhelbaa
