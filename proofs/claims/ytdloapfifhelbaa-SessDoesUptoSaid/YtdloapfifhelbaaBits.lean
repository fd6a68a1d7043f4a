/-
  The reference's forms of choice and majority are the program's; its words' sum too.
-/
import Derived.Test.YtdloapfifhelbaaRefWord
namespace Go.Proofs.Ytdloapfifhelbaa
open Go.RowKit

theorem ch_eq (e f g : BitVec 32) : (e &&& f) ^^^ (~~~e &&& g) = g ^^^ (e &&& (f ^^^ g)) := by
  ext i hi
  simp only [BitVec.getElem_xor, BitVec.getElem_and, BitVec.getElem_not]
  cases e[i] <;> cases f[i] <;> cases g[i] <;> rfl
theorem maj_eq (a b c : BitVec 32) : (a &&& b) ^^^ (a &&& c) ^^^ (b &&& c) = (a &&& b) ||| ((a ||| b) &&& c) := by
  ext i hi
  simp only [BitVec.getElem_xor, BitVec.getElem_and, BitVec.getElem_or]
  cases a[i] <;> cases b[i] <;> cases c[i] <;> rfl
theorem next_eq (a b c d : BitVec 32) : d + c + b + a = a + b + c + d := by ac_rfl
theorem hd_ext (s : ByteArray) (a b j : Nat) (h : a + j < b) (hb : b ≤ s.size) : hd (s.extract a b) j = hd s (a + j) := by
  have h1 : j < (s.extract a b).size := by rw [ext_size _ _ _ hb]; omega
  have e1 := hd_eq (s.extract a b) j h1
  have e2 := hd_eq s (a + j) (by omega)
  rw [ext_get _ _ _ _ h1 (by omega)] at e1
  omega
theorem wordAt_ext (s : ByteArray) (i : Nat) (h : 4 * i + 4 ≤ s.size) : wordAt (s.extract (4 * i) (4 * i + 4)) 0 = wordAt s i := by
  unfold wordAt
  rw [hd_ext _ _ _ _ (by omega) h, hd_ext _ _ _ _ (by omega) h, hd_ext _ _ _ _ (by omega) h, hd_ext _ _ _ _ (by omega) h]
  simp only [Nat.mul_zero, Nat.add_zero, Nat.zero_add]

set_option maxRecDepth 100000 in
set_option maxHeartbeats 400000 in
theorem rrot_d (x : BitVec 32) (n : Nat) (h1 : 1 ≤ n) (h2 : n ≤ 31) (w : World) :
    Calls Try.prog 49 #[.int .u32 (N x), .int .i64 (n : Int)] w fun e w' => e = .returned (.int .u32 (N (x.rotateRight n))) ∧ w' = w.drew := by
  have h0 := N_pos x
  have h3 := N_lt x
  have hr := Lib.hid (rot_or x n (32 - n) (by omega) h1 h2).1
  have hw : IntKind.i64.wrap (32 - (n : Int)) = 32 - (n : Int) := by rw [IntKind.wrap_i64]; omega
  have ht : (32 - (n : Int)).toNat = 32 - n := by omega
  have hp : (0 : Int) ≤ 32 - (n : Int) := by omega
  have hp2 : (n : Int) ≤ 32 := by omega
  go_enter Try.func49, Try.ntmps49
  go_wp2
  refine wp_region_still_lit (by kernel_rfl) (by kernel_rfl) ?_
  repeat still_step
  refine wpStill_nil ?_
  change Exit.then _ _ _ _ w.drew
  go_wp2
  go_ret
  exact ⟨ret_u32 hr.out, rfl⟩
end Go.Proofs.Ytdloapfifhelbaa
