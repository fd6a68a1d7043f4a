/-
  The walks of the cutter's constructor, of 'Broken', and of the closure in 'Feed' that takes the first n bytes off what is left.
-/
import Derived.Test.YteidcneijjnkaaaBase
namespace Go.Proofs.Yteidcneijjnkaaa
open Go.RowKit

set_option maxHeartbeats 400000 in
theorem new_any (w : World) :
    Calls Try.prog 8 #[] w fun e w' => e = .returned (.pointer (some ⟨w.heap.size, 0, none⟩)) ∧ w.alloc (.cells #[.string ⟨#[]⟩, .bool false] 39) = w' := by
  go_enter Try.func8, Try.ntmps8
  go_wp2
  go_ret
  exact ⟨rfl, rfl⟩

set_option maxHeartbeats 400000 in
theorem broken_any (g : Nat) (l : ByteArray) (b : Bool) (w : World) (hb : Blk w g 39 #[.string l, .bool b]) :
    Calls Try.prog 12 #[.pointer (some ⟨g, 0, none⟩)] w fun e w' => e = .returned (.bool b) ∧ w = w' := by
  have h0 : w.cell? ⟨g, 1, none⟩ = some (.bool b) := hb.cell 1
  go_enter Try.func12, Try.ntmps12
  go_wp2
  go_ret
  exact ⟨rfl, rfl⟩

set_option maxHeartbeats 400000 in
theorem broken_nil (w : World) :
    Calls Try.prog 12 #[.pointer none] w fun e w' => e = .returned (.bool false) ∧ w = w' := by
  go_enter Try.func12, Try.ntmps12
  go_wp2
  go_ret
  exact ⟨rfl, rfl⟩

set_option maxHeartbeats 400000 in
theorem take_any (bx g n : Nat) (l : ByteArray) (br : Bool) (w : World) (hbx : w.cell? ⟨bx, 0, none⟩ = some (.pointer (some ⟨g, 0, none⟩))) (hg : Blk w g 39 #[.string l, .bool br]) 
  (h1 : 1 ≤ n) (h2 : n ≤ l.size) (h3 : l.size ≤ 1000000) :
    Calls Try.prog 17 #[.int .i64 n, .pointer (some ⟨bx, 0, none⟩)] w fun e w' => e = .returned (.string (l.extract 0 n)) ∧ Blk w' g 39 #[.string (l.extract n l.size), .bool br] ∧ w.grownBy w' (some g) := by
  have h0 : w.cell? ⟨g, 0, none⟩ = some (.string l) := hg.cell 0
  have kc := Lib.run_convert_string_bytes (P := Try.prog) w 9 36 5 l Try.underlying9 Try.underlying36 Try.underlying5
  have hz : ∀ w, (Go.sizeOf 5).run Try.prog w = .ok 1 w := fun _ => by kernel_rfl
  have hlt := hg.lt
  have hblt : bx < w.heap.size := World.block_lt_of_cell? w _ hbx
  have hby := bytesWorld_by w 5 l none
  have hcell := bytesWorld_cellAt w 5 l
  have hsz := Lib.bytesWorld_size w 5 l
  generalize Lib.bytesWorld w 5 l = w1 at *
  generalize hcap : grownCap w l.size 0 5 = cap at *
  have hcap2 : l.size ≤ cap := by rw [← hcap]; exact grownCap_ge _ _ _ _
  have c1 : w1.cell? ⟨bx, 0, none⟩ = some (.pointer (some ⟨g, 0, none⟩)) := hby.cell hbx (by simp)
  have hg1 : Blk w1 g 39 #[.string l, .bool br] := hg.grown hby (by simp)
  have c2 : w1.cell? ⟨g, 0, none⟩ = some (.string l) := hg1.cell 0
  have c3 : w1.frozen? ⟨g, 0, none⟩ = false := hg1.frozen 0
  obtain ⟨A, hA, hA2⟩ : ∃ A, (∀ W, (Instr.slice 36 (.slice (some ⟨w.heap.size, 0, none⟩) l.size cap) (some (.int .i64 n)) none none).run Try.prog W = .ok (.slice A (l.size - n) (cap - n)) W) ∧ StrAt w1 A (l.size - n) (l.extract n l.size) := by
    refine ⟨if cap = n then some ⟨w.heap.size, 0, none⟩ else some ⟨w.heap.size, n, none⟩, fun W => ?_, ?_⟩
    · rw [run_slice_l W 36 _ _ _ rfl .i64 _ (by omega) (by omega)]
      have : Try.prog.elem 36 = 5 := by kernel_rfl
      rw [this, hz]
      simp [Result.andThen, sliced, Addr.add, show ¬ n = 0 by omega]
    · refine ⟨ext_size _ _ _ (Nat.le_refl _), fun hn => ⟨w.heap.size, n, by rw [if_neg (by omega)], by rw [hsz]; omega, fun j hj => ?_⟩⟩
      have hj' : n + j < l.size := by rw [ext_size _ _ _ (Nat.le_refl _)] at hj; omega
      rw [hcell (n + j) hj', ext_get _ _ _ _ hj hj']
  have hcv : (convert 36 9 (.slice A (l.size - n) (cap - n))).run Try.prog w1.drew = .ok (.string (l.extract n l.size)) w1.drew := conv_str _ 36 5 9 Try.underlying36 Try.underlying5 Try.underlying9 A _ _ _ hA2.drew
  have hl : ∀ W, (Instr.slice 36 (.slice (some ⟨w.heap.size, 0, none⟩) l.size cap) none (some (.int .i64 n)) (some (.int .i64 n))).run Try.prog W = .ok (.slice (some ⟨w.heap.size, 0, none⟩) n n) W := fun W => by
    rw [run_slice_hm W 36 _ _ _ rfl .i64 .i64 _ _ (by omega) (by omega) (by omega)]
    have : Try.prog.elem 36 = 5 := by kernel_rfl
    rw [this, hz]
    simp [Result.andThen, sliced, Addr.add]
  have hS : StrAt w1 (some ⟨w.heap.size, 0, none⟩) n (l.extract 0 n) := by
    refine ⟨by rw [ext_size _ _ _ h2]; omega, fun hn => ⟨w.heap.size, 0, rfl, by rw [hsz]; omega, fun j hj => ?_⟩⟩
    have hj' : 0 + j < l.size := by rw [ext_size _ _ _ h2] at hj; omega
    rw [hcell (0 + j) hj', ext_get _ _ _ _ hj hj']
  have hcw : ∀ v, (convert 36 9 (.slice (some ⟨w.heap.size, 0, none⟩) n n)).run Try.prog (w1.setCell ⟨g, 0, none⟩ v).drew = .ok (.string (l.extract 0 n)) (w1.setCell ⟨g, 0, none⟩ v).drew := fun v =>
    conv_str _ 36 5 9 Try.underlying36 Try.underlying5 Try.underlying9 _ _ _ _ (hS.set_ (by simp; omega) v).drew
  have hfin : Blk (w1.setCell ⟨g, 0, none⟩ (.string (l.extract n l.size))).drew g 39 #[.string (l.extract n l.size), .bool br] ∧ w.grownBy (w1.setCell ⟨g, 0, none⟩ (.string (l.extract n l.size))).drew (some g) :=
    ⟨(hg1.set_ 0 _).drew, by_drew (by_set (by_of_none hby _) (.inl rfl) _)⟩
  have Hfin := Lib.hid hfin
  clear hfin hcell hS hA2 hg1 hby hz hcap hsz hg
  go_enter Try.func17, Try.ntmps17
  go_wp2
  go_region
  go_wp2
  go_ret
  exact ⟨rfl, Hfin.out⟩

end Go.Proofs.Yteidcneijjnkaaa
