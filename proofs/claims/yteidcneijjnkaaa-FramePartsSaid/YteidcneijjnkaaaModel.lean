/-
  The plain model of the cutter: what of a text is cut off as frames, what is left, and whether it is broken.
-/
import Derived.Test.YteidcneijjnkaaaBase
namespace Go.Proofs.Yteidcneijjnkaaa
open Go.RowKit

def hd (s : ByteArray) (i : Nat) : Nat := (s.data.toList.getD i 0).toNat
def nOf (s : ByteArray) : Nat := hd s 0 * 256 + hd s 1
def cutB : Nat → ByteArray → List ByteArray × ByteArray × Bool
  | 0, s => ([], s, false)
  | k + 1, s =>
    if s.size < 2 then ([], s, false)
    else if nOf s < 1 ∨ 8192 < nOf s then ([], ⟨#[]⟩, true)
    else if s.size < 2 + nOf s then ([], s, false)
    else (s.extract 2 (2 + nOf s) :: (cutB k (s.extract (2 + nOf s) s.size)).1, (cutB k (s.extract (2 + nOf s) s.size)).2)

theorem hd_eq (s : ByteArray) (i : Nat) (h : i < s.size) : (s[i].toNat : Int) = (hd s i : Int) := by
  have : s.data.toList[i]? = some s[i] := by simp [h]; rfl
  simp only [hd, List.getD, this, Option.getD_some]
theorem hd_lt (s : ByteArray) (i : Nat) : hd s i < 256 := by unfold hd; exact UInt8.toNat_lt _

/-- the two bytes of a length, put together -/
theorem or_of (a b : Nat) (ha : a < 256) (hb : b < 256) : bits BinOp.or IntKind.u16 ((a : Int) * 256) (b : Int) = ((a * 256 + b : Nat) : Int) := by
  have h := u16_or_nat (a * 256) b (by omega) (by omega)
  rw [nat_join 8 (a * 256) b (by omega) (by omega)] at h
  rw [← h]
  simp

theorem cut_short {k : Nat} {s : ByteArray} (h : s.size < 2) : cutB k s = ([], s, false) := by
  cases k <;> simp [cutB, h]
theorem cut_bad {k : Nat} {s : ByteArray} (h : ¬ s.size < 2) (h1 : nOf s < 1 ∨ 8192 < nOf s) : cutB (k + 1) s = ([], ⟨#[]⟩, true) := by
  rw [cutB, if_neg h, if_pos h1]
theorem cut_wait {k : Nat} {s : ByteArray} (h : ¬ s.size < 2) (h1 : ¬ (nOf s < 1 ∨ 8192 < nOf s)) (h2 : s.size < 2 + nOf s) : cutB (k + 1) s = ([], s, false) := by
  rw [cutB, if_neg h, if_neg h1, if_pos h2]
theorem cut_one {k : Nat} {s : ByteArray} (h : ¬ s.size < 2) (h1 : ¬ (nOf s < 1 ∨ 8192 < nOf s)) (h2 : ¬ s.size < 2 + nOf s) :
    cutB (k + 1) s = (s.extract 2 (2 + nOf s) :: (cutB k (s.extract (2 + nOf s) s.size)).1, (cutB k (s.extract (2 + nOf s) s.size)).2) := by
  rw [cutB, if_neg h, if_neg h1, if_neg h2]

/-- 'x[:m][a:]' -/
theorem ext_of_ext (s : ByteArray) (a m : Nat) (h : m ≤ s.size) : (s.extract 0 m).extract a m = s.extract a m := by
  rw [ByteArray.extract_extract]
  congr 1 <;> omega
end Go.Proofs.Yteidcneijjnkaaa
