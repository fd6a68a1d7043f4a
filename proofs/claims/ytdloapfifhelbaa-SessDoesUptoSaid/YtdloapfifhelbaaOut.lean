/-
  The 32 bytes of a state.
-/
import Derived.Test.YtdloapfifhelbaaBuf
namespace Go.Proofs.Ytdloapfifhelbaa
open Go.RowKit

theorem V8.index (x : V8) (i : Nat) (h : i < 8) (W : World) : (Instr.index 74 (.agg x.cells) (.int .i64 (i : Int))).run Try.prog W = .ok (.int .u32 (N (x.get i))) W := by
  match i, h with
  | 0, _ =>
    show _ = _
    kernel_rfl
  | 1, _ =>
    show _ = _
    kernel_rfl
  | 2, _ =>
    show _ = _
    kernel_rfl
  | 3, _ =>
    show _ = _
    kernel_rfl
  | 4, _ =>
    show _ = _
    kernel_rfl
  | 5, _ =>
    show _ = _
    kernel_rfl
  | 6, _ =>
    show _ = _
    kernel_rfl
  | 7, _ =>
    show _ = _
    kernel_rfl
/-- the n-th byte of a state -/
def outV (v : V8) (n : Nat) : Value := .int .u8 (N (v.get (n / 4)) / 2 ^ (24 - 8 * (n % 4)) % 256)
def rowOut (v : V8) (n : Nat) : Array Value := ((List.range n).map (outV v) ++ List.replicate (32 - n) (Value.int .u8 0)).toArray
theorem rowOut_set (v : V8) (n : Nat) (h : n < 32) : (rowOut v n).setIfInBounds n (outV v n) = rowOut v (n + 1) := by
  unfold rowOut
  apply Array.ext_getElem?
  intro i
  simp only [Array.getElem?_setIfInBounds, List.size_toArray, List.getElem?_toArray, List.length_append, List.length_map, List.length_range, List.length_replicate, List.range_succ, List.map_append, List.map_cons, List.map_nil]
  by_cases hi : n = i
  · subst hi
    rw [if_pos rfl, if_pos (by omega), List.getElem?_append_left (by simp), List.getElem?_append_right (by simp)]
    simp
  · rw [if_neg hi]
    by_cases h1 : i < n
    · rw [List.getElem?_append_left (by simpa using h1), List.getElem?_append_left (by simp; omega), List.getElem?_append_left (by simpa using h1)]
    · rw [List.getElem?_append_right (by simp; omega), List.getElem?_append_right (by simp; omega)]
      simp only [List.length_map, List.length_append, List.length_cons, List.length_nil, List.length_range, List.getElem?_replicate]
      congr 1
      simp
      omega
theorem rowOut_size (v : V8) (n : Nat) (h : n ≤ 32) : (rowOut v n).size = 32 := by unfold rowOut; simp; omega
theorem rowOut_one (v : V8) (n : Nat) : (rowOut v n).all (·.oneCell') = true := by
  unfold rowOut
  refine all_oneCell_toArray fun x hx => ?_
  rcases List.mem_append.1 hx with h | h
  · obtain ⟨y, _, rfl⟩ := List.mem_map.1 h; rfl
  · rw [(List.mem_replicate.1 h).2]; rfl
theorem info22 : (Try.prog.info? 44).map (·.size) = some 32 := by kernel_rfl
theorem outV0 (v : V8) (i : Nat) : outV v (4 * i) = .int .u8 (N (v.get i) / 16777216 % 256) := by
  unfold outV; rw [show 4 * i / 4 = i by omega, show 4 * i % 4 = 0 by omega]; rfl
theorem outV1 (v : V8) (i : Nat) : outV v (4 * i + 1) = .int .u8 (N (v.get i) / 65536 % 256) := by
  unfold outV; rw [show (4 * i + 1) / 4 = i by omega, show (4 * i + 1) % 4 = 1 by omega]; rfl
theorem outV2 (v : V8) (i : Nat) : outV v (4 * i + 2) = .int .u8 (N (v.get i) / 256 % 256) := by
  unfold outV; rw [show (4 * i + 2) / 4 = i by omega, show (4 * i + 2) % 4 = 2 by omega]; rfl
theorem outV3 (v : V8) (i : Nat) : outV v (4 * i + 3) = .int .u8 (N (v.get i) % 256) := by
  unfold outV; rw [show (4 * i + 3) / 4 = i by omega, show (4 * i + 3) % 4 = 3 by omega]; simp
end Go.Proofs.Ytdloapfifhelbaa
