/-
  The reference: bytes, over.
-/
import Derived.Test.YtdloapfifhelbaaRLst
namespace Go.Proofs.Ytdloapfifhelbaa
open Go.RowKit

def rbF (n k : Nat) : List UInt8 := (List.range 8).map fun i => if 8 - k ≤ i then be n i else 0
theorem rbF_zero (n : Nat) : u8s (rbF n 0) = List.replicate 8 (.int .u8 0) := by
  have : rbF n 0 = (List.range 8).map fun _ => 0 := by
    unfold rbF
    refine List.map_congr_left fun i hi => ?_
    have := List.mem_range.1 hi
    rw [if_neg (by omega)]
  rw [this]; rfl
theorem rbF_all (n : Nat) : rbF n 8 = beF n 8 := by
  unfold rbF beF
  refine List.map_congr_left fun i hi => ?_
  rw [if_pos (List.mem_range.1 hi), if_pos (by omega)]
theorem rbF_set (n k : Nat) (hk : k < 8) : (u8s (rbF n k)).set (7 - k) (.int .u8 ((be n (7 - k)).toNat : Int)) = u8s (rbF n (k + 1)) := by
  unfold u8s rbF
  apply List.ext_getElem
  · simp
  · intro i h1 h2
    simp only [List.length_set, List.length_map, List.length_range] at h1
    rw [List.getElem_set]
    by_cases h : 7 - k = i
    · subst h
      rw [if_pos rfl]
      simp only [List.getElem_map, List.getElem_range]
      rw [if_pos (by omega)]
    · rw [if_neg h]
      simp only [List.getElem_map, List.getElem_range]
      have : (8 - (k + 1) ≤ i) = (8 - k ≤ i) := by simp; omega
      simp only [this]

set_option maxRecDepth 100000 in
set_option maxHeartbeats 1000000 in
theorem rbytes_any (w : World) (n : Nat) (hn : n < 18446744073709551616) :
    Calls Try.prog 28 #[.int .u64 (n : Int)] w fun e w' => e = .returned (.string (beB n)) ∧ w.grownBy w' none := by
  obtain ⟨wa, hwa⟩ : ∃ wa, wa = w.alloc (.cells (u8s (rbF n 0)).toArray 5) := ⟨_, rfl⟩
  have hb : Blk wa w.heap.size 5 (u8s (rbF n 0)).toArray := by rw [hwa]; exact Blk.new _ _ _
  have ya : w.grownBy wa none := by rw [hwa]; exact by_alloc (by_refl _ _) _
  have hmk : ∀ W, (Instr.makeSlice 47 (.int .i64 8) (.int .i64 8)).run Try.prog W = .ok (.slice (some ⟨W.heap.size, 0, none⟩) 8 8) (W.alloc (.cells (u8s (rbF n 0)).toArray 5)) := fun W => by
    rw [rbF_zero]
    kernel_rfl
  have H := Lib.hid (And.intro hb ya)
  have Hwa := Lib.hid hwa
  obtain ⟨N, hN⟩ : ∃ N, N = w.heap.size := ⟨_, rfl⟩
  rw [← hN] at H
  have HN := Lib.hid (And.intro hN hn)
  clear hb ya hwa hn
  go_enter Try.func28, Try.ntmps28
  go_wp2_with fail
  clear hmk hN
  rw [← Hwa.out, ← HN.out.1]
  go_loopg [4] 8 (fun m i wr => ∃ j : Nat, j ≤ 8 ∧ m = 8 - j ∧ i = .int .i64 (j : Nat) ∧ Blk wr N 5 (u8s (rbF n j)).toArray ∧ w.grownBy wr none)
  case atStart => exact ⟨0, by omega, rfl, rfl, H.out.1, H.out.2⟩
  case round =>
    obtain ⟨j, hj, hm, rfl, hb, hy⟩ := hrel
    rcases Nat.lt_or_ge j 8 with hlt | hge
    · have hI : (j : Int) < 8 := by omega
      have hI0 : (0 : Int) ≤ (j : Int) := by omega
      obtain ⟨q, hq⟩ : ∃ q, q = 7 - j := ⟨_, rfl⟩
      have hq7 : (7 : Int) - (j : Int) = (q : Int) := by omega
      have hqb : (q : Int) < 8 := by omega
      obtain ⟨u, hu⟩ : ∃ u, wr.cell? ⟨N, q, none⟩ = some u := ⟨_, by rw [hb.cell]; exact Array.getElem?_eq_getElem (by simp [u8s, rbF]; omega)⟩
      have hz : wr.frozen? ⟨N, q, none⟩ = false := hb.frozen _
      have Hb := Lib.hid (And.intro hb (And.intro hy (And.intro hm hlt)))
      have hv : ((n : Int) / 2 ^ (8 * j) % 256) = ((be n q).toNat : Int) := by
        have e : 56 - 8 * q = 8 * j := by omega
        unfold be
        rw [UInt8.toNat_ofNat', e]
        simp
      have Hv := Lib.hid hv
      have Hq := Lib.hid hq
      clear hv hb hy hm hlt hq
      go_wp2
      go_roundg (8 - (j + 1))
      case measure => have := Hb.out.2.2; omega
      case rel =>
        rw [Hv.out]
        refine ⟨j + 1, by have := Hb.out.2.2.2; omega, rfl, by go_num, ?_, by_set Hb.out.2.1 (.inr (by rw [HN.out.1]; exact Nat.le_refl _)) _⟩
        have h1 := Hb.out.1.set_ q (.int .u8 ((be n q).toNat : Int))
        rw [List.setIfInBounds_toArray, Hq.out, rbF_set n j Hb.out.2.2.2, ← Hq.out] at h1
        exact h1
    · obtain rfl : j = 8 := by omega
      have hst : StrAt wr (some ⟨N, 0, none⟩) 8 (beB n) := by
        refine ⟨by simp [beB, ByteArray.size], fun _ => ⟨N, 0, rfl, hb.lt, fun i hi => ?_⟩⟩
        rw [Nat.zero_add, hb.cell i, rbF_all, beF_all]
        have h8 : i < 8 := by simpa [beB, ByteArray.size] using hi
        have e : (beB n)[i]'hi = be n i := by
          show ((List.range 8).map (be n)).toArray[i]'(by simpa [beB, ByteArray.size] using hi) = _
          simp
        have e2 : (u8s ((List.range 8).map (be n))).toArray[i]? = some (Value.int .u8 ((be n i).toNat : Int)) := by simp [u8s, h8]
        rw [e2, ← e]
      have hcv : (convert 47 9 (.slice (some ⟨N, 0, none⟩) 8 8)).run Try.prog wr = .ok (.string (beB n)) wr := conv_str wr 47 5 9 Try.underlying47 Try.underlying5 Try.underlying9 _ 8 8 _ hst
      have HF := Lib.hid hy
      clear hb hst hy hm hj hge
      go_wp2
      go_ret
      exact ⟨rfl, HF.out⟩

set_option maxRecDepth 100000 in
set_option maxHeartbeats 1000000 in
theorem rover_any (b now ttl : Nat) (hn : now < 18446744073709551616) (tok : ByteArray) (t : Nat) (w : World) (h : ∃ s sl lg v, Blk w b 30 #[.string s, .int .u64 (ttl : Int), sl, lg, v]) :
    Calls Try.prog 25 #[.pointer (some ⟨b, 0, none⟩), .agg #[.string tok, .int .u64 (t : Int)], .int .u64 (now : Int)] w
      fun e w' => e = .returned (.bool (overB now ttl t)) ∧ w.grownBy w' none := by
  obtain ⟨W, hW⟩ : ∃ W, W = w.alloc (.cells #[.string tok, .int .u64 (t : Int)] 62) := ⟨_, rfl⟩
  have hy : w.grownBy W none := by rw [hW]; exact by_alloc (by_refl _ _) _
  have hb : Blk W w.heap.size 62 #[.string tok, .int .u64 (t : Int)] := by rw [hW]; exact Blk.new _ _ _
  obtain ⟨s, sl, lg, v, h2⟩ := h
  have c3 : W.cell? ⟨b, 1, none⟩ = some (.int .u64 (ttl : Int)) := (h2.grown hy (by simp)).cell 1
  have c4 : W.cell? ⟨w.heap.size, 1, none⟩ = some (.int .u64 (t : Int)) := hb.cell 1
  have HW := Lib.hid (And.intro hW hy)
  clear hW hy hb h2
  obtain ⟨a0, ha0⟩ : ∃ a0, a0 = w.heap.size := ⟨_, rfl⟩
  rw [← ha0] at c4
  have Ha0 := Lib.hid ha0
  clear ha0
  have hwr : t ≤ now → IntKind.u64.wrap ((now : Int) - (t : Int)) = ((now - t : Nat) : Int) := fun h => by
    rw [IntKind.wrap_u64]
    omega
  go_enter Try.func25, Try.ntmps25
  rcases Nat.lt_or_ge now t with hlt | hge
  · have hv : overB now ttl t = false := by unfold overB; rw [decide_eq_false (by omega)]; rfl
    have Hv := Lib.hid hv
    have h1 : decide ((t : Int) ≤ (now : Int)) = false := by simp; omega
    have h2 : decide (t ≤ now) = false := by simp; omega
    clear hv hwr hn hlt
    go_wp2_with fail
    rw [← HW.out.1, ← Ha0.out]
    go_quiet (fail)
    go_wp2
    go_ret
    exact ⟨by rw [Hv.out]; rfl, by_drewN HW.out.2 _⟩
  · have hw := hwr hge
    have h1 : decide ((t : Int) ≤ (now : Int)) = true := by simp; omega
    have h2 : decide (t ≤ now) = true := by simp; omega
    by_cases h3 : ttl ≤ now - t
    · have hv : overB now ttl t = true := by unfold overB; rw [decide_eq_true hge, decide_eq_true h3]; rfl
      have Hv := Lib.hid hv
      obtain ⟨d, hd⟩ : ∃ d, d = now - t := ⟨_, rfl⟩
      rw [← hd] at hw h3
      have h4 : decide ((ttl : Int) ≤ (d : Int)) = true := by simp; omega
      have h5 : decide (ttl ≤ d) = true := by simp; omega
      have Hx := Lib.hid hd
      clear hv hwr hn hge h3 hd
      go_wp2_with fail
      rw [← HW.out.1, ← Ha0.out]
      go_quiet (fail)
      go_wp2
      go_ret
      exact ⟨by rw [Hv.out]; rfl, by_drewN HW.out.2 _⟩
    · have hv : overB now ttl t = false := by unfold overB; rw [decide_eq_false h3]; simp
      have Hv := Lib.hid hv
      obtain ⟨d, hd⟩ : ∃ d, d = now - t := ⟨_, rfl⟩
      rw [← hd] at hw h3
      have h4 : decide ((ttl : Int) ≤ (d : Int)) = false := by simp; omega
      have h5 : decide (ttl ≤ d) = false := by simp; omega
      have Hx := Lib.hid hd
      clear hv hwr hn hge h3 hd
      go_wp2_with fail
      rw [← HW.out.1, ← Ha0.out]
      go_quiet (fail)
      go_wp2
      go_ret
      exact ⟨by rw [Hv.out]; rfl, by_drewN HW.out.2 _⟩
end Go.Proofs.Ytdloapfifhelbaa
