/-
  cache.New, Len.
-/
import Derived.Test.YtndmnnapjhjkmaaIStrRes
namespace Go.Proofs.Ytndmnnapjhjkmaa
open Go.RowKit iStrRes

set_option maxHeartbeats 400000 in
theorem clen_any (w : World) (c l : Nat) (own : Nat → Prop) (cap : Int) (ps : List (ByteArray × RV)) (hb : Blk w c 58 #[.pointer (some ⟨l, 0, none⟩)]) (h : Lru w l own cap ps) :
    Calls Try.prog 14 #[.pointer (some ⟨c, 0, none⟩)] w fun e w' => e = .returned (.int .i64 (ps.length : Nat)) ∧ w = w' := by
  have c0 : w.cell? ⟨c, 0, none⟩ = some (.pointer (some ⟨l, 0, none⟩)) := hb.cell 0
  have H := Lib.hid h
  clear hb h
  go_enter Try.func14, Try.ntmps14
  go_wp2_with fail
  refine (len_any w l own cap ps H.out).mono ?_
  rintro e w1 ⟨rfl, rfl⟩
  go_wp2
  go_ret
  exact ⟨rfl, rfl⟩
set_option maxHeartbeats 400000 in
theorem clen_nil (w : World) : Calls Try.prog 14 #[.pointer none] w fun e w' => e = .returned (.int .i64 0) ∧ w = w' := by
  go_enter Try.func14, Try.ntmps14
  go_wp2
  go_ret
  exact ⟨rfl, rfl⟩
set_option maxHeartbeats 400000 in
theorem cnew_any (w : World) (cap : Int) :
    Calls Try.prog 7 #[.int .i64 cap] w fun e w' => ∃ w1 l, NewQ w (max cap 0) (.returned (.pointer (some ⟨l, 0, none⟩))) w1 ∧ e = .returned (.pointer (some ⟨w1.heap.size, 0, none⟩)) ∧ w' = w1.alloc (.cells #[.pointer (some ⟨l, 0, none⟩)] 58) := by
  go_enter Try.func7, Try.ntmps7
  go_wp2_with fail
  refine (new_any w cap).mono ?_
  rintro e w1 hq
  have hq2 := hq
  obtain ⟨l, own, rfl, _⟩ := hq2
  have H := Lib.hid hq
  clear hq
  go_wp2
  go_ret
  exact ⟨w1, _, H.out, rfl, rfl⟩
end Go.Proofs.Ytndmnnapjhjkmaa
