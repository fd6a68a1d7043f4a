/-
  The reference's 'word' and 'round'.
-/
import Derived.Test.YtdloapfifhelbaaNext
namespace Go.Proofs.Ytdloapfifhelbaa
open Go.RowKit

set_option maxRecDepth 100000 in
set_option maxHeartbeats 1000000 in
theorem word_any (t : ByteArray) (h : t.size = 4) (w : World) :
    Calls Try.prog 48 #[.string t] w fun e w' => e = .returned (.int .u32 (N (wordAt t 0))) ∧ w' = w.drew := by
  have hx : ∀ (j : Nat), j < 4 → ∀ W, (Instr.index 9 (.string t) (.int .i64 (j : Int))).run Try.prog W = .ok (.int .u8 (hd t j : Int)) W := fun j hj W => by
    rw [run_index_string W 9 t .i64 _ Try.underlying9, dif_pos ⟨by omega, by omega⟩]
    simp only [Int.toNat_natCast]
    rw [← hd_eq t j (by omega)]
  have x0 : ∀ W, (Instr.index 9 (.string t) (.int .i64 0)).run Try.prog W = .ok (.int .u8 (hd t 0 : Int)) W := hx 0 (by omega)
  have x1 : ∀ W, (Instr.index 9 (.string t) (.int .i64 1)).run Try.prog W = .ok (.int .u8 (hd t 1 : Int)) W := hx 1 (by omega)
  have x2 : ∀ W, (Instr.index 9 (.string t) (.int .i64 2)).run Try.prog W = .ok (.int .u8 (hd t 2 : Int)) W := hx 2 (by omega)
  have x3 : ∀ W, (Instr.index 9 (.string t) (.int .i64 3)).run Try.prog W = .ok (.int .u8 (hd t 3 : Int)) W := hx 3 (by omega)
  have l0 := hd_lt t 0
  have l1 := hd_lt t 1
  have l2 := hd_lt t 2
  have l3 := hd_lt t 3
  have hby := bytes_or _ _ _ _ l0 l1 l2 l3
  have hwd : BitVec.ofNat 32 (hd t 0 * 16777216 + hd t 1 * 65536 + hd t 2 * 256 + hd t 3) = wordAt t 0 := rfl
  rw [hwd] at hby
  generalize hd t 0 = b0 at *
  generalize hd t 1 = b1 at *
  generalize hd t 2 = b2 at *
  generalize hd t 3 = b3 at *
  have r0 : IntKind.u32.wrap (b0 : Int) = b0 := by rw [IntKind.wrap_u32']; omega
  have r1 : IntKind.u32.wrap (b1 : Int) = b1 := by rw [IntKind.wrap_u32']; omega
  have r2 : IntKind.u32.wrap (b2 : Int) = b2 := by rw [IntKind.wrap_u32']; omega
  have r3 : IntKind.u32.wrap (b3 : Int) = b3 := by rw [IntKind.wrap_u32']; omega
  have s0 : IntKind.u32.wrap ((b0 : Int) * 16777216) = (b0 : Int) * 16777216 := by rw [IntKind.wrap_u32']; omega
  have s1 : IntKind.u32.wrap ((b1 : Int) * 65536) = (b1 : Int) * 65536 := by rw [IntKind.wrap_u32']; omega
  have s2 : IntKind.u32.wrap ((b2 : Int) * 256) = (b2 : Int) * 256 := by rw [IntKind.wrap_u32']; omega
  clear hwd hx
  go_enter Try.func48, Try.ntmps48
  go_wp2
  refine wp_region_still_lit (by kernel_rfl) (by kernel_rfl) ?_
  repeat still_step
  refine wpStill_nil ?_
  change Exit.then _ _ _ _ w.drew
  go_wp2
  go_ret
  exact ⟨rfl, rfl⟩

set_option maxRecDepth 100000 in
set_option maxHeartbeats 1000000 in
theorem round_any (i : Nat) (hi : i < 64) (w : World) :
    Calls Try.prog 50 #[.int .i64 (i : Int)] w fun e w' => e = .returned (.int .u32 (N (kWords.getD i 0))) ∧ w.grownBy w' none := by
  have hz : Blk (w.alloc (.cells (row64 []) 78)) w.heap.size 78 (row64 []) := Blk.new _ _ _
  have hy := by_alloc (by_refl w none) (.cells (row64 []) 78)
  have hb := hz.setAll kCells.toList (by rw [row64_size _ (by simp)]; rfl)
  have hy2 := by_setAll (g := w.heap.size) (.inr (Nat.le_refl _)) kCells.toList 0 _ hy
  have hth := hz.there 64 (by rw [row64_size _ (by simp)]; exact Nat.le_refl _)
  obtain ⟨W, hW⟩ : ∃ W, W = (w.alloc (.cells (row64 []) 78)).setCells w.heap.size 0 kCells.toList := ⟨_, rfl⟩
  rw [← hW] at hb hy2
  have hb2 : Blk W w.heap.size 78 (row64 kWords) := by rw [← kCells_eq]; simpa using hb
  have d0 : W.cell? ⟨w.heap.size, i, none⟩ = some (.int .u32 (N (kWords.getD i 0))) := by rw [hb2.cell]; exact row64_get _ _ hi
  have HW := Lib.hid hW
  have hk1 : kCells.all (·.oneCell') = true := by kernel_rfl
  have HH := Lib.hid (And.intro hy2 (And.intro hth hk1))
  have p0 : (0 : Int) ≤ (i : Int) := by omega
  have p1 : (i : Int) < 64 := by omega
  clear hz hy hb hy2 hth hW hb2 hk1
  generalize kWords.getD i 0 = kk at *
  go_enter Try.func50, Try.ntmps50
  go_wp2_with (refine wpList_store_mid rfl 78 _ _ rfl w.heap.size 0 kCells rfl rfl HH.out.2.1 info50 HH.out.2.2 ?_; refine wpList_at HW.out ?_)
  go_wp2
  go_ret
  exact ⟨rfl, HH.out.1⟩
end Go.Proofs.Ytdloapfifhelbaa
