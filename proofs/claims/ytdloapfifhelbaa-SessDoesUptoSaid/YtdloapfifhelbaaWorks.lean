/-
  'works': the digits of the sum of abc, reckoned by the kernel.
-/
import Derived.Test.YtdloapfifhelbaaHex
namespace Go.Proofs.Ytdloapfifhelbaa
open Go.RowKit

/-- the 32 bytes of a state -/
def sumB (v : V8) : List UInt8 := (List.range 32).map fun n => UInt8.ofNat ((v.get (n / 4)).toNat / 2 ^ (24 - 8 * (n % 4)))
theorem sumB_len (v : V8) : (sumB v).length = 32 := by simp [sumB]
theorem rowOut_sumB (v : V8) : rowOut v 32 = (u8s (sumB v)).toArray := by
  unfold rowOut u8s sumB
  simp only [Nat.sub_self, List.replicate_zero, List.append_nil, List.map_map]
  congr 1
def abc : ByteArray := ⟨#[97, 98, 99]⟩
def abcHex : List UInt8 := [98, 97, 55, 56, 49, 54, 98, 102, 56, 102, 48, 49, 99, 102, 101, 97, 52, 49, 52, 49, 52, 48, 100, 101, 53, 100, 97, 101, 50, 50, 50, 51, 98, 48, 48, 51, 54, 49, 97, 51, 57, 54, 49, 55, 55, 97, 57, 99, 98, 52, 49, 48, 102, 102, 54, 49, 102, 50, 48, 48, 49, 53, 97, 100]
theorem abc_hex : hexL (sumB (sumOf abc)) = abcHex := by kernel_rfl

/-- sha.Sum as bytes -/
theorem sum_bytes (s : ByteArray) (w : World) (hs : s.size ≤ 536870912) :
    Calls Try.prog 33 #[.string s] w fun e w' => e = .returned (.agg (u8s (sumB (sumOf s))).toArray) ∧ w.grownBy w' none :=
  (sum_any s w hs).mono fun _ _ h => ⟨by rw [h.1, rowOut_sumB], h.2⟩

end Go.Proofs.Ytdloapfifhelbaa
