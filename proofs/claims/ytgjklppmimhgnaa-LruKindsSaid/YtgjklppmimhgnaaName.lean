/-
  The law's name of a number: a closure that is called by its value.
-/
import Derived.Test.YtgjklppmimhgnaaKeys
namespace Go.Proofs.Ytgjklppmimhgnaa
open Go.RowKit

def nm (k : Int) : ByteArray := ⟨#[UInt8.ofNat (k % 256).toNat, UInt8.ofNat (k / 256).toNat]⟩

theorem nm_inj {a b : Int} (ha : 0 ≤ a ∧ a < 1000) (hb : 0 ≤ b ∧ b < 1000) (h : nm a = nm b) : a = b := by
  unfold nm at h
  simp only [ByteArray.mk.injEq, Array.mk.injEq, List.cons.injEq, and_true] at h
  obtain ⟨h1, h2⟩ := h
  have e1 := congrArg UInt8.toNat h1
  have e2 := congrArg UInt8.toNat h2
  simp only [UInt8.toNat_ofNat'] at e1 e2
  omega
theorem nm_size (k : Int) : (nm k).size = 2 := rfl

set_option maxHeartbeats 400000 in
theorem name_any (w : World) (k : Int) (h0 : 0 ≤ k) (h1 : k < 1000) :
    Calls Try.prog 21 #[.int .i64 k] w fun e w' => e = .returned (.string (nm k)) ∧ w.grownBy w' none := by
  have hcv : ∀ W : World, (convert 47 9 (.slice (some ⟨W.heap.size, 0, none⟩) 2 2)).run Try.prog (W.alloc (.cells #[.int .u8 (k % 256), .int .u8 (k / 256)] 5)) = .ok (.string (nm k)) (W.alloc (.cells #[.int .u8 (k % 256), .int .u8 (k / 256)] 5)) := by
    intro W
    refine conv_str _ 47 5 9 Try.underlying47 Try.underlying5 Try.underlying9 _ _ _ _ ⟨rfl, fun _ => ⟨_, 0, rfl, by simp, fun j hj => ?_⟩⟩
    rw [nm_size] at hj
    have hc := (Blk.new W 5 #[.int .u8 (k % 256), .int .u8 (k / 256)]).cell
    have : j = 0 ∨ j = 1 := by omega
    rcases this with rfl | rfl
    · rw [Nat.zero_add, hc 0]
      have e : ((nm k)[0]'(by rw [nm_size]; omega)).toNat = (k % 256).toNat % 256 := UInt8.toNat_ofNat'
      rw [e]
      simp
      omega
    · rw [Nat.zero_add, hc 1]
      have e : ((nm k)[1]'(by rw [nm_size]; omega)).toNat = (k / 256).toNat % 256 := UInt8.toNat_ofNat'
      rw [e]
      simp
      omega
  have hb : 0 ≤ k / 256 := by omega
  have hb2 : k / 256 < 256 := by omega
  go_enter Try.func21, Try.ntmps21
  go_wp2
  go_ret
  exact ⟨rfl, by_alloc (by_refl _ _) _⟩
end Go.Proofs.Ytgjklppmimhgnaa
