/-
  Rotations of 32-bit words: the walks of math/bits.RotateLeft32, of the two closures over it, and of the reference's 'rot'.
-/
import Derived.Test.YtdloapfifhelbaaBase
import Derived.Deep.LoopGhost
import Derived.BigQuiet
import Derived.Deep.QuietTactic
namespace Go.Proofs.Ytdloapfifhelbaa
open Go.RowKit

/-- a 32-bit word as the model holds it -/
def N (x : BitVec 32) : Int := (x.toNat : Int)
theorem N_pos (x : BitVec 32) : 0 ≤ N x := by unfold N; omega
theorem N_lt (x : BitVec 32) : N x ≤ 4294967295 := by unfold N; have := x.isLt; omega
theorem ret_u32 {a b : Int} (h : a = b) : Ending.returned (.int .u32 a) = .returned (.int .u32 b) := by rw [h]

theorem rot_def (x : BitVec 32) (n k : Nat) (h : k + n = 32) (h1 : 1 ≤ n) (h2 : n ≤ 31) : (x.rotateRight n).toNat = x.toNat / 2 ^ n ||| x.toNat * 2 ^ k % 4294967296 := by
  have e : x.rotateRight n = x >>> n ||| x <<< (32 - n) := by
    unfold BitVec.rotateRight BitVec.rotateRightAux
    rw [Nat.mod_eq_of_lt (by omega)]
  rw [e, BitVec.toNat_or, BitVec.toNat_ushiftRight, BitVec.toNat_shiftLeft, Nat.shiftRight_eq_div_pow, Nat.shiftLeft_eq, show 32 - n = k by omega]
theorem rot_or (x : BitVec 32) (n k : Nat) (h : k + n = 32) (h1 : 1 ≤ n) (h2 : n ≤ 31) :
    bits BinOp.or IntKind.u32 (N x / 2 ^ n) (N x * 2 ^ k % 4294967296) = N (x.rotateRight n) ∧ bits BinOp.or IntKind.u32 (N x * 2 ^ k % 4294967296) (N x / 2 ^ n) = N (x.rotateRight n) := by
  have a1 : N x / 2 ^ n = ((x.toNat / 2 ^ n : Nat) : Int) := by unfold N; rw [Int.natCast_ediv, Int.natCast_pow]; rfl
  have a2 : N x * 2 ^ k % 4294967296 = ((x.toNat * 2 ^ k % 4294967296 : Nat) : Int) := by unfold N; rw [Int.natCast_emod, Int.natCast_mul, Int.natCast_pow]; rfl
  have b1 : x.toNat / 2 ^ n < 4294967296 := Nat.lt_of_le_of_lt (Nat.div_le_self _ _) x.isLt
  have b2 : x.toNat * 2 ^ k % 4294967296 < 4294967296 := Nat.mod_lt _ (by omega)
  rw [a1, a2, u32_or_nat _ _ b1 b2, u32_or_nat _ _ b2 b1, Nat.or_comm (x.toNat * 2 ^ k % 4294967296)]
  unfold N
  rw [rot_def x n k h h1 h2]
  exact ⟨rfl, rfl⟩

set_option maxRecDepth 100000 in
set_option maxHeartbeats 400000 in
theorem rotl_any (x : BitVec 32) (n : Nat) (h1 : 1 ≤ n) (h2 : n ≤ 31) (w : World) :
    Calls Try.prog 47 #[.int .u32 (N x), .int .i64 (-(n : Int))] w fun e w' => e = .returned (.int .u32 (N (x.rotateRight n))) ∧ w = w' := by
  have h0 := N_pos x
  have h3 := N_lt x
  obtain ⟨k, hk⟩ : ∃ k, k + n = 32 := ⟨32 - n, by omega⟩
  have hr := Lib.hid (rot_or x n k hk h1 h2).2
  have hr2 : 32 - k = n := by omega
  have Hr2 := Lib.hid hr2
  have hk1 : 1 ≤ k := by omega
  have hk2 : k ≤ 31 := by omega
  have hand : bits BinOp.and IntKind.u64 (IntKind.u64.wrap (-(n : Int))) 31 = (k : Int) := by
    have e1 : IntKind.u64.wrap (-(n : Int)) = ((18446744073709551616 - n : Nat) : Int) := by rw [IntKind.wrap_u64]; omega
    have h := u64_and_nat (18446744073709551616 - n) 31 (by omega) (by omega)
    rw [nat_mask5] at h
    rw [e1]
    refine h.trans ?_
    omega
  clear hr2 hk
  go_enter Try.func47, Try.ntmps47
  go_wp2
  go_ret
  refine ⟨ret_u32 ?_, rfl⟩
  first | exact hr.out | (rw [Hr2.out]; exact hr.out)

set_option maxRecDepth 100000 in
set_option maxHeartbeats 400000 in
theorem rot1_any (x : BitVec 32) (n : Nat) (h1 : 1 ≤ n) (h2 : n ≤ 31) (w : World) :
    Calls Try.prog 51 #[.int .u32 (N x), .int .i64 (n : Int)] w fun e w' => e = .returned (.int .u32 (N (x.rotateRight n))) ∧ w = w' := by
  go_enter Try.func51, Try.ntmps51
  go_wp2_with fail
  refine (rotl_any x n h1 h2 w).mono ?_
  rintro e w' ⟨rfl, rfl⟩
  go_wp2
  go_ret
  exact ⟨rfl, rfl⟩

set_option maxRecDepth 100000 in
set_option maxHeartbeats 400000 in
theorem rot2_any (x : BitVec 32) (n : Nat) (h1 : 1 ≤ n) (h2 : n ≤ 31) (w : World) :
    Calls Try.prog 46 #[.int .u32 (N x), .int .i64 (n : Int)] w fun e w' => e = .returned (.int .u32 (N (x.rotateRight n))) ∧ w = w' := by
  go_enter Try.func46, Try.ntmps46
  go_wp2_with fail
  refine (rotl_any x n h1 h2 w).mono ?_
  rintro e w' ⟨rfl, rfl⟩
  go_wp2
  go_ret
  exact ⟨rfl, rfl⟩

set_option maxRecDepth 100000 in
set_option maxHeartbeats 400000 in
theorem rrot_any (x : BitVec 32) (n : Nat) (h1 : 1 ≤ n) (h2 : n ≤ 31) (w : World) :
    Calls Try.prog 49 #[.int .u32 (N x), .int .i64 (n : Int)] w fun e w' => e = .returned (.int .u32 (N (x.rotateRight n))) ∧ ∃ q, w' = w.drewN q := by
  have h0 := N_pos x
  have h3 := N_lt x
  have hr := Lib.hid (rot_or x n (32 - n) (by omega) h1 h2).1
  go_enter Try.func49, Try.ntmps49
  go_wp2
  go_quiet (fail)
  go_wp2
  go_ret
  exact ⟨ret_u32 hr.out, nq, rfl⟩
end Go.Proofs.Ytdloapfifhelbaa
