/-
  Sess: a number's bytes, the highest first.
-/
import Derived.Test.YtdloapfifhelbaaSess
namespace Go.Proofs.Ytdloapfifhelbaa
open Go.RowKit

def be (n i : Nat) : UInt8 := UInt8.ofNat (n / 2 ^ (56 - 8 * i))
def beF (n k : Nat) : List UInt8 := (List.range 8).map fun i => if i < k then be n i else 0
def beB (n : Nat) : ByteArray := ⟨((List.range 8).map (be n)).toArray⟩
theorem beF_len (n k : Nat) : (beF n k).length = 8 := by simp [beF]
theorem beF_zero (n : Nat) : u8s (beF n 0) = List.replicate 8 (.int .u8 0) := by simp [beF, u8s]; rfl
theorem beF_all (n : Nat) : beF n 8 = (List.range 8).map (be n) := by
  unfold beF
  refine List.map_congr_left fun i hi => ?_
  rw [if_pos (List.mem_range.1 hi)]
theorem beF_set (n k : Nat) (hk : k < 8) : (u8s (beF n k)).set k (.int .u8 ((be n k).toNat : Int)) = u8s (beF n (k + 1)) := by
  unfold u8s beF
  apply List.ext_getElem
  · simp
  · intro i h1 h2
    simp only [List.length_set, List.length_map, List.length_range] at h1
    rw [List.getElem_set]
    by_cases h : k = i
    · subst h
      simp
    · rw [if_neg h]
      simp only [List.getElem_map, List.getElem_range]
      have : (i < k + 1) = (i < k) := by simp; omega
      simp only [this]

set_option maxRecDepth 100000 in
set_option maxHeartbeats 1000000 in
theorem bytes_any (w : World) (n : Nat) (hn : n < 18446744073709551616) :
    Calls Try.prog 23 #[.int .u64 (n : Int)] w fun e w' => e = .returned (.string (beB n)) ∧ w.grownBy w' none := by
  obtain ⟨wa, hwa⟩ : ∃ wa, wa = w.alloc (.cells (u8s (beF n 0)).toArray 5) := ⟨_, rfl⟩
  have hb : Blk wa w.heap.size 5 (u8s (beF n 0)).toArray := by rw [hwa]; exact Blk.new _ _ _
  have ya : w.grownBy wa none := by rw [hwa]; exact by_alloc (by_refl _ _) _
  have hmk : ∀ W, (Instr.makeSlice 47 (.int .i64 8) (.int .i64 8)).run Try.prog W = .ok (.slice (some ⟨W.heap.size, 0, none⟩) 8 8) (W.alloc (.cells (u8s (beF n 0)).toArray 5)) := fun W => by
    rw [beF_zero]
    kernel_rfl
  have H := Lib.hid (And.intro hb ya)
  have Hwa := Lib.hid hwa
  obtain ⟨N, hN⟩ : ∃ N, N = w.heap.size := ⟨_, rfl⟩
  rw [← hN] at H
  have HN := Lib.hid (And.intro hN hn)
  clear hb ya hwa hn
  go_enter Try.func23, Try.ntmps23
  go_wp2_with fail
  clear hmk hN
  rw [← Hwa.out, ← HN.out.1]
  go_loopg [4, 8] 8 (fun m _ i wr => ∃ j : Nat, j ≤ 8 ∧ m = 8 - j ∧ i = .int .i64 (j : Nat) ∧ Blk wr N 5 (u8s (beF n j)).toArray ∧ w.grownBy wr none)
  case atStart => exact ⟨0, by omega, rfl, rfl, H.out.1, H.out.2⟩
  case round =>
    obtain ⟨j, hj, hm, rfl, hb, hy⟩ := hrel
    rcases Nat.lt_or_ge j 8 with hlt | hge
    · have hI : (j : Int) < 8 := by omega
      have hI0 : (0 : Int) ≤ (j : Int) := by omega
      obtain ⟨u, hu⟩ : ∃ u, wr.cell? ⟨N, j, none⟩ = some u := ⟨_, by rw [hb.cell]; exact Array.getElem?_eq_getElem (by simp [u8s, beF]; omega)⟩
      have hz : wr.frozen? ⟨N, j, none⟩ = false := hb.frozen _
      have Hb := Lib.hid (And.intro hb (And.intro hy (And.intro hm hlt)))
      clear hb hy hm hlt
      have hv : ((n : Int) / 2 ^ (56 - 8 * j) % 256) = ((be n j).toNat : Int) := by
        unfold be
        rw [UInt8.toNat_ofNat']
        simp
      have Hv := Lib.hid hv
      clear hv
      go_wp2
      go_roundg (8 - (j + 1))
      case measure => have := Hb.out.2.2; omega
      case rel =>
        rw [Hv.out]
        refine ⟨j + 1, by have := Hb.out.2.2.2; omega, rfl, by go_num, ?_, by_set Hb.out.2.1 (.inr (by rw [HN.out.1]; exact Nat.le_refl _)) _⟩
        have h1 := Hb.out.1.set_ j (.int .u8 ((be n j).toNat : Int))
        rw [List.setIfInBounds_toArray, beF_set n j Hb.out.2.2.2] at h1
        exact h1
    · obtain rfl : j = 8 := by omega
      have hst : StrAt wr (some ⟨N, 0, none⟩) 8 (beB n) := by
        refine ⟨by simp [beB, ByteArray.size], fun _ => ⟨N, 0, rfl, hb.lt, fun i hi => ?_⟩⟩
        rw [Nat.zero_add, hb.cell i, beF_all]
        have h8 : i < 8 := by simpa [beB, ByteArray.size] using hi
        have e : (beB n)[i]'hi = be n i := by
          show ((List.range 8).map (be n)).toArray[i]'(by simpa [beB, ByteArray.size] using hi) = _
          simp
        have e2 : (u8s ((List.range 8).map (be n))).toArray[i]? = some (Value.int .u8 ((be n i).toNat : Int)) := by simp [u8s, h8]
        rw [e2, ← e]
      have hcv : (convert 47 9 (.slice (some ⟨N, 0, none⟩) 8 8)).run Try.prog wr = .ok (.string (beB n)) wr := conv_str wr 47 5 9 Try.underlying47 Try.underlying5 Try.underlying9 _ 8 8 _ hst
      have HF := Lib.hid hy
      clear hb hst hy hm hj hge
      go_wp2
      go_ret
      exact ⟨rfl, HF.out⟩
end Go.Proofs.Ytdloapfifhelbaa
