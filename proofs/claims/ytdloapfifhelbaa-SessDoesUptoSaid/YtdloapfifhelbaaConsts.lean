/-
  The walks of 'rounds' and 'first'.
-/
import Derived.Test.YtdloapfifhelbaaWord
namespace Go.Proofs.Ytdloapfifhelbaa
open Go.RowKit

def kWords : List (BitVec 32) := [1116352408, 1899447441, 3049323471, 3921009573, 961987163, 1508970993, 2453635748, 2870763221, 3624381080, 310598401, 607225278, 1426881987, 1925078388, 2162078206, 2614888103, 3248222580, 3835390401, 4022224774, 264347078, 604807628, 770255983, 1249150122, 1555081692, 1996064986, 2554220882, 2821834349, 2952996808, 3210313671, 3336571891, 3584528711, 113926993, 338241895, 666307205, 773529912, 1294757372, 1396182291, 1695183700, 1986661051, 2177026350, 2456956037, 2730485921, 2820302411, 3259730800, 3345764771, 3516065817, 3600352804, 4094571909, 275423344, 430227734, 506948616, 659060556, 883997877, 958139571, 1322822218, 1537002063, 1747873779, 1955562222, 2024104815, 2227730452, 2361852424, 2428436474, 2756734187, 3204031479, 3329325298]
def hWords : List (BitVec 32) := [1779033703, 3144134277, 1013904242, 2773480762, 1359893119, 2600822924, 528734635, 1541459225]
def kCells : Array Value := #[.int .u32 1116352408, .int .u32 1899447441, .int .u32 3049323471, .int .u32 3921009573, .int .u32 961987163, .int .u32 1508970993, .int .u32 2453635748, .int .u32 2870763221, .int .u32 3624381080, .int .u32 310598401, .int .u32 607225278, .int .u32 1426881987, .int .u32 1925078388, .int .u32 2162078206, .int .u32 2614888103, .int .u32 3248222580, .int .u32 3835390401, .int .u32 4022224774, .int .u32 264347078, .int .u32 604807628, .int .u32 770255983, .int .u32 1249150122, .int .u32 1555081692, .int .u32 1996064986, .int .u32 2554220882, .int .u32 2821834349, .int .u32 2952996808, .int .u32 3210313671, .int .u32 3336571891, .int .u32 3584528711, .int .u32 113926993, .int .u32 338241895, .int .u32 666307205, .int .u32 773529912, .int .u32 1294757372, .int .u32 1396182291, .int .u32 1695183700, .int .u32 1986661051, .int .u32 2177026350, .int .u32 2456956037, .int .u32 2730485921, .int .u32 2820302411, .int .u32 3259730800, .int .u32 3345764771, .int .u32 3516065817, .int .u32 3600352804, .int .u32 4094571909, .int .u32 275423344, .int .u32 430227734, .int .u32 506948616, .int .u32 659060556, .int .u32 883997877, .int .u32 958139571, .int .u32 1322822218, .int .u32 1537002063, .int .u32 1747873779, .int .u32 1955562222, .int .u32 2024104815, .int .u32 2227730452, .int .u32 2361852424, .int .u32 2428436474, .int .u32 2756734187, .int .u32 3204031479, .int .u32 3329325298]
def hCells : Array Value := #[.int .u32 1779033703, .int .u32 3144134277, .int .u32 1013904242, .int .u32 2773480762, .int .u32 1359893119, .int .u32 2600822924, .int .u32 528734635, .int .u32 1541459225]
theorem kCells_eq : kCells = row64 kWords := by kernel_rfl
theorem info50 : (Try.prog.info? 78).map (·.size) = some 64 := by kernel_rfl
theorem info43 : (Try.prog.info? 74).map (·.size) = some 8 := by kernel_rfl

set_option maxRecDepth 100000 in
set_option maxHeartbeats 1000000 in
theorem rounds_any (w : World) :
    Calls Try.prog 44 #[] w fun e w' => e = .returned (.agg (row64 kWords)) ∧ w.grownBy w' none := by
  rw [← kCells_eq]
  have hz : Blk (w.alloc (.cells (row64 []) 78)) w.heap.size 78 (row64 []) := Blk.new _ _ _
  have hy := by_alloc (by_refl w none) (.cells (row64 []) 78)
  have hb := hz.setAll kCells.toList (by rw [row64_size _ (by simp)]; rfl)
  have hy2 := by_setAll (g := w.heap.size) (.inr (Nat.le_refl _)) kCells.toList 0 _ hy
  have hth := hz.there 64 (by rw [row64_size _ (by simp)]; exact Nat.le_refl _)
  have HH := Lib.hid (And.intro hb (And.intro hy2 hth))
  clear hz hy hb hy2 hth
  go_enter Try.func44, Try.ntmps44
  go_wp2_with (refine wpList_store_mid rfl 78 _ _ rfl w.heap.size 0 kCells rfl rfl ?c1 ?c2 ?c3 ?_)
  case c1 => exact HH.out.2.2
  case c2 => exact info50
  case c3 => kernel_rfl
  go_wp2
  refine bodyPost_ret (results_cell_row rfl _ _ w.heap.size 78 kCells (0, 0) _ rfl HH.out.1 Try.underlying78 rfl info50) rfl ⟨rfl, HH.out.2.1⟩

set_option maxRecDepth 100000 in
set_option maxHeartbeats 1000000 in
theorem first_any (w : World) :
    Calls Try.prog 41 #[] w fun e w' => e = .returned (.agg hCells) ∧ w.grownBy w' none := by
  have hz : Blk (w.alloc (.cells (Array.replicate 8 (.int .u32 0)) 74)) w.heap.size 74 (Array.replicate 8 (.int .u32 0)) := Blk.new _ _ _
  have hy := by_alloc (by_refl w none) (.cells (Array.replicate 8 (.int .u32 0)) 74)
  have hb := hz.setAll hCells.toList rfl
  have hy2 := by_setAll (g := w.heap.size) (.inr (Nat.le_refl _)) hCells.toList 0 _ hy
  have hth := hz.there 8 (Nat.le_refl _)
  have HH := Lib.hid (And.intro hb (And.intro hy2 hth))
  clear hz hy hb hy2 hth
  go_enter Try.func41, Try.ntmps41
  go_wp2_with (refine wpList_store_mid rfl 74 _ _ rfl w.heap.size 0 hCells rfl rfl ?c1 ?c2 ?c3 ?_)
  case c1 => exact HH.out.2.2
  case c2 => exact info43
  case c3 => kernel_rfl
  go_wp2
  refine bodyPost_ret (results_cell_row rfl _ _ w.heap.size 74 hCells (0, 0) _ rfl HH.out.1 Try.underlying74 rfl info43) rfl ⟨rfl, HH.out.2.1⟩

end Go.Proofs.Ytdloapfifhelbaa
