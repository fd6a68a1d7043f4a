/-
  The sorts of rows, one behind the other, as a range over a function gives them.
-/
import Derived.RangeFuncNested
import Derived.RangeFuncBound
import Derived.RangeFuncCalls
import Derived.RangeFuncLeaves
import Derived.Shelf.Abstract
import Derived.Shelf.RegionOpen
import Derived.WalkKit
import Derived.OwnWalkIn
import Derived.TacticsInMore
import Derived.LoopNIn
import Derived.LoopIn
import Derived.Test.YtlnlpphhnbodpaaBase
namespace Go.Proofs.Ytlnlpphhnbodpaa
open Go.RowKit Go.Shelf

attribute [local go_sem] Oper.semAt_some

/-- a sort: from, to, the first byte, so many bytes more -/
abbrev Srt := Int × Int × Int × Int
def encS (x : Srt) : Value := .agg #[.int .u64 x.1, .int .u64 x.2.1, .int .u8 x.2.2.1, .int .i64 x.2.2.2]
def cellS (x : Srt) : Array Value := #[.int .u64 x.1, .int .u64 x.2.1, .int .u8 x.2.2.1, .int .i64 x.2.2.2]
def rows : List Srt := [(0, 240, 0, 0), (240, 2287, 241, 1), (2288, 67823, 249, 2), (0, 16777215, 250, 3), (0, 4294967295, 251, 4), (0, 1099511627775, 252, 5), (0, 281474976710655, 253, 6), (0, 72057594037927935, 254, 7), (0, 18446744073709551615, 255, 8)]

theorem take_snoc_ {α : Type} {l : List α} {k : Nat} {x : α} (h : l[k]? = some x) : l.take k ++ [x] = l.take (k + 1) := by
  rw [List.take_add_one, h]; rfl

set_option maxRecDepth 100000 in
set_option maxHeartbeats 2000000 in
theorem sorts1_in (F : Fence) (n : Nat) (h6 : F.fn 29) (hro : F.round = none) (hn : 1 ≤ n) (l : Nat) (J Jx : List Srt → World → Prop)
    (hY : ∀ pre x W, J pre W → pre.length < 9 → YieldAt F (n - 1) Try.prog l #[encS x] W fun e W' =>
      (e = .returned (.bool true) ∧ J (pre ++ [x]) W' ∧ KeepsWalks W W') ∨ (e = .returned (.bool false) ∧ Jx (pre ++ [x]) W'))
    (W : World) (h0 : J [] W) :
    CallsIn F n Try.prog 29 #[.func (.yield l) #[] #[]] W fun e W' => (∃ v, e = .returned v) ∧
      ((∃ ys, ys = rows ∧ J ys W') ∨ (∃ pre, pre <+: rows ∧ Jx pre W')) := by
  have HY := Lib.hid hY
  clear hY
  refine callsIn_of_wp Try.func29 rfl h6 ?_ hro
  simp only [Try.ntmps29, List.size_toArray, List.length_cons, List.length_nil, Nat.reduceAdd, Nat.reduceSub, Array.replicate_succ, Array.replicate_zero, List.push_toArray, List.append_toArray, List.nil_append, List.cons_append]
  obtain ⟨fn0, t0, a0, b0, hy0, hR0⟩ := HY.out [] (0, 240, 0, 0) W h0 (by decide)
  dsimp only [encS] at hy0
  gi_wp2
  refine hR0.mono ?_
  rintro e W1 (⟨rfl, hJ1, _⟩ | ⟨rfl, hx0⟩)
  rotate_left
  · gi_wp2
    refine ⟨fun _ h => (by cases h), ?_⟩
    gi_wp2
    refine bodyPost_ret (results_none rfl _ _ _) rfl ?_
    exact ⟨⟨_, rfl⟩, .inr ⟨[(0, 240, 0, 0)], ⟨_, rfl⟩, hx0⟩⟩
  obtain ⟨fn1, t1, a1, b1, hy1, hR1⟩ := HY.out [(0, 240, 0, 0)] (240, 2287, 241, 1) W1 hJ1 (by decide)
  dsimp only [encS] at hy1
  gi_wp2
  refine hR1.mono ?_
  rintro e W2 (⟨rfl, hJ2, _⟩ | ⟨rfl, hx1⟩)
  rotate_left
  · gi_wp2
    refine ⟨fun _ h => (by cases h), ?_⟩
    gi_wp2
    refine bodyPost_ret (results_none rfl _ _ _) rfl ?_
    exact ⟨⟨_, rfl⟩, .inr ⟨[(0, 240, 0, 0), (240, 2287, 241, 1)], ⟨_, rfl⟩, hx1⟩⟩
  obtain ⟨fn2, t2, a2, b2, hy2, hR2⟩ := HY.out [(0, 240, 0, 0), (240, 2287, 241, 1)] (2288, 67823, 249, 2) W2 hJ2 (by decide)
  dsimp only [encS] at hy2
  gi_wp2
  refine hR2.mono ?_
  rintro e W3 (⟨rfl, hJ3, _⟩ | ⟨rfl, hx2⟩)
  rotate_left
  · gi_wp2
    refine bodyPost_ret (results_none rfl _ _ _) rfl ?_
    exact ⟨⟨_, rfl⟩, .inr ⟨[(0, 240, 0, 0), (240, 2287, 241, 1), (2288, 67823, 249, 2)], ⟨_, rfl⟩, hx2⟩⟩
  gi_wp2
  gi_loopw [2] (fun p wr => ∃ k : Nat, k ≤ 6 ∧ p = .int .i64 ((k : Int) + 3) ∧ J (rows.take (3 + k)) wr) (fun p _ => 9 - (intOf p).toNat)
  case atStart => exact ⟨0, by omega, rfl, hJ3⟩
  case round =>
    obtain ⟨k, hk, rfl, hJ⟩ := hrel
    clear hy0 hy1 hy2 hR0 hR1 hR2 hJ1 hJ2 hJ3 h0
    have hcase : k = 0 ∨ k = 1 ∨ k = 2 ∨ k = 3 ∨ k = 4 ∨ k = 5 ∨ k = 6 := by omega
    rcases hcase with rfl | rfl | rfl | rfl | rfl | rfl | rfl
    · obtain ⟨fn0, t0, a0, b0, hy0, hR0⟩ := HY.out _ (0, 16777215, 250, 3) wr hJ (by decide)
      dsimp only [encS] at hy0
      gi_wp2
      refine hR0.mono ?_
      rintro e W9 (⟨rfl, hJ9, _⟩ | ⟨rfl, hx9⟩)
      · gi_wp2
        go_roundw
        case rel => exact ⟨1, by omega, by go_num, hJ9⟩
        case measure => simp [intOf]
      · gi_wp2
        refine bodyPost_ret (results_none rfl _ _ _) rfl ?_
        exact ⟨⟨_, rfl⟩, .inr ⟨[(0, 240, 0, 0), (240, 2287, 241, 1), (2288, 67823, 249, 2), (0, 16777215, 250, 3)], ⟨_, rfl⟩, hx9⟩⟩
    · obtain ⟨fn0, t0, a0, b0, hy0, hR0⟩ := HY.out _ (0, 4294967295, 251, 4) wr hJ (by decide)
      dsimp only [encS] at hy0
      gi_wp2
      refine hR0.mono ?_
      rintro e W9 (⟨rfl, hJ9, _⟩ | ⟨rfl, hx9⟩)
      · gi_wp2
        go_roundw
        case rel => exact ⟨2, by omega, by go_num, hJ9⟩
        case measure => simp [intOf]
      · gi_wp2
        refine bodyPost_ret (results_none rfl _ _ _) rfl ?_
        exact ⟨⟨_, rfl⟩, .inr ⟨[(0, 240, 0, 0), (240, 2287, 241, 1), (2288, 67823, 249, 2), (0, 16777215, 250, 3), (0, 4294967295, 251, 4)], ⟨_, rfl⟩, hx9⟩⟩
    · obtain ⟨fn0, t0, a0, b0, hy0, hR0⟩ := HY.out _ (0, 1099511627775, 252, 5) wr hJ (by decide)
      dsimp only [encS] at hy0
      gi_wp2
      refine hR0.mono ?_
      rintro e W9 (⟨rfl, hJ9, _⟩ | ⟨rfl, hx9⟩)
      · gi_wp2
        go_roundw
        case rel => exact ⟨3, by omega, by go_num, hJ9⟩
        case measure => simp [intOf]
      · gi_wp2
        refine bodyPost_ret (results_none rfl _ _ _) rfl ?_
        exact ⟨⟨_, rfl⟩, .inr ⟨[(0, 240, 0, 0), (240, 2287, 241, 1), (2288, 67823, 249, 2), (0, 16777215, 250, 3), (0, 4294967295, 251, 4), (0, 1099511627775, 252, 5)], ⟨_, rfl⟩, hx9⟩⟩
    · obtain ⟨fn0, t0, a0, b0, hy0, hR0⟩ := HY.out _ (0, 281474976710655, 253, 6) wr hJ (by decide)
      dsimp only [encS] at hy0
      gi_wp2
      refine hR0.mono ?_
      rintro e W9 (⟨rfl, hJ9, _⟩ | ⟨rfl, hx9⟩)
      · gi_wp2
        go_roundw
        case rel => exact ⟨4, by omega, by go_num, hJ9⟩
        case measure => simp [intOf]
      · gi_wp2
        refine bodyPost_ret (results_none rfl _ _ _) rfl ?_
        exact ⟨⟨_, rfl⟩, .inr ⟨[(0, 240, 0, 0), (240, 2287, 241, 1), (2288, 67823, 249, 2), (0, 16777215, 250, 3), (0, 4294967295, 251, 4), (0, 1099511627775, 252, 5), (0, 281474976710655, 253, 6)], ⟨_, rfl⟩, hx9⟩⟩
    · obtain ⟨fn0, t0, a0, b0, hy0, hR0⟩ := HY.out _ (0, 72057594037927935, 254, 7) wr hJ (by decide)
      dsimp only [encS] at hy0
      gi_wp2
      refine hR0.mono ?_
      rintro e W9 (⟨rfl, hJ9, _⟩ | ⟨rfl, hx9⟩)
      · gi_wp2
        go_roundw
        case rel => exact ⟨5, by omega, by go_num, hJ9⟩
        case measure => simp [intOf]
      · gi_wp2
        refine bodyPost_ret (results_none rfl _ _ _) rfl ?_
        exact ⟨⟨_, rfl⟩, .inr ⟨[(0, 240, 0, 0), (240, 2287, 241, 1), (2288, 67823, 249, 2), (0, 16777215, 250, 3), (0, 4294967295, 251, 4), (0, 1099511627775, 252, 5), (0, 281474976710655, 253, 6), (0, 72057594037927935, 254, 7)], ⟨_, rfl⟩, hx9⟩⟩
    · obtain ⟨fn0, t0, a0, b0, hy0, hR0⟩ := HY.out _ (0, 18446744073709551615, 255, 8) wr hJ (by decide)
      dsimp only [encS] at hy0
      gi_wp2
      refine hR0.mono ?_
      rintro e W9 (⟨rfl, hJ9, _⟩ | ⟨rfl, hx9⟩)
      · gi_wp2
        go_roundw
        case rel => exact ⟨6, by omega, by go_num, hJ9⟩
        case measure => simp [intOf]
      · gi_wp2
        refine bodyPost_ret (results_none rfl _ _ _) rfl ?_
        exact ⟨⟨_, rfl⟩, .inr ⟨[(0, 240, 0, 0), (240, 2287, 241, 1), (2288, 67823, 249, 2), (0, 16777215, 250, 3), (0, 4294967295, 251, 4), (0, 1099511627775, 252, 5), (0, 281474976710655, 253, 6), (0, 72057594037927935, 254, 7), (0, 18446744073709551615, 255, 8)], ⟨_, rfl⟩, hx9⟩⟩
    · gi_wp2
      go_end0
      exact ⟨⟨_, rfl⟩, .inl ⟨_, rfl, hJ⟩⟩

theorem sorts_stops (F : Fence) (n : Nat) (h6 : F.fn 29) (hro : F.round = none) (hn : 1 ≤ n) (w : World) :
    SeqStopsK F n Try.prog 29 #[] (fun x => #[encS x]) KeepsWalks (fun ys => ys = rows) (fun pre => pre <+: rows) 9 w := fun l J Jx W _ _ _ hY h0 =>
  sorts1_in F n h6 hro hn l J Jx hY W h0

theorem sorts_in (F : Fence) (n : Nat) (h5 : F.fn 28) (hro : F.round = none) (w : World) :
    CallsIn F n Try.prog 28 #[] w fun e w' => e = .returned (.func (.func 29) #[] #[]) ∧ w = w' := by
  refine callsIn_of_wp Try.func28 rfl h5 ?_ hro
  simp only [Try.ntmps28, List.size_toArray, List.length_cons, List.length_nil, Nat.reduceAdd, Nat.reduceSub, Array.replicate_succ, Array.replicate_zero, List.push_toArray, List.append_toArray, List.nil_append, List.cons_append]
  gi_wp2
  go_ret
  exact ⟨rfl, rfl⟩
end Go.Proofs.Ytlnlpphhnbodpaa
