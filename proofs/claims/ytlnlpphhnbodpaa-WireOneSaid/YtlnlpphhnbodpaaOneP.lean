/-
  The next number's row is above, and no shorter; a beginning of a row is none: plain laws.
-/
import Derived.Test.YtlnlpphhnbodpaaRowsP
namespace Go.Proofs.Ytlnlpphhnbodpaa
open Go.RowKit

theorem be_mod : ∀ (k n : Nat), be k (n % 256 ^ k) = be k n
  | 0, _ => rfl
  | k + 1, n => by
    have h1 : n % 256 ^ (k + 1) / 256 ^ k % 256 = n / 256 ^ k % 256 := by
      rw [Nat.pow_succ, Nat.mod_mul_right_div_self, Nat.mod_mod]
    have h2 : be k (n % 256 ^ (k + 1)) = be k n := by
      rw [← be_mod k (n % 256 ^ (k + 1)), Nat.mod_mod_of_dvd _ ⟨256, by rw [Nat.pow_succ]⟩, be_mod k n]
    simp only [be]
    rw [h2]
    congr 1
    apply UInt8.toNat_inj.1
    rw [UInt8.toNat_ofNat', UInt8.toNat_ofNat']
    exact h1
theorem be_less : ∀ (k x y : Nat), x < y → y < 256 ^ k → Op.bytesLess (be k x) (be k y) = true
  | 0, x, y, h1, h2 => by simp at h2; omega
  | k + 1, x, y, h1, h2 => by
    have hp : 0 < 256 ^ k := Nat.pow_pos (by omega)
    have hy : y / 256 ^ k < 256 := by rw [Nat.div_lt_iff_lt_mul hp, Nat.mul_comm, ← Nat.pow_succ]; exact h2
    have hx : x / 256 ^ k ≤ y / 256 ^ k := Nat.div_le_div_right (Nat.le_of_lt h1)
    simp only [be, Op.bytesLess]
    by_cases he : x / 256 ^ k = y / 256 ^ k
    · have hm : x % 256 ^ k < y % 256 ^ k := by
        have e1 := Nat.div_add_mod x (256 ^ k)
        have e2 := Nat.div_add_mod y (256 ^ k)
        rw [he] at e1
        omega
      have ih := be_less k (x % 256 ^ k) (y % 256 ^ k) hm (Nat.mod_lt _ hp)
      rw [be_mod, be_mod] at ih
      rw [he, ih]
      simp
    · have hlt : UInt8.ofNat (x / 256 ^ k) < UInt8.ofNat (y / 256 ^ k) := by
        rw [UInt8.lt_iff_toNat_lt, UInt8.toNat_ofNat', UInt8.toNat_ofNat']
        generalize x / 256 ^ k = a at *
        generalize y / 256 ^ k = b at *
        omega
      simp [hlt]
theorem head_less {a b : Nat} {x y : List UInt8} (h : a < b) (hb : b ≤ 255) : Op.bytesLess (UInt8.ofNat a :: x) (UInt8.ofNat b :: y) = true := by
  have hlt : UInt8.ofNat a < UInt8.ofNat b := by
    rw [UInt8.lt_iff_toNat_lt, UInt8.toNat_ofNat', UInt8.toNat_ofNat']
    omega
  simp [Op.bytesLess, hlt]
/-- a row is a number in base 256, its first byte and all -/
theorem row_be (n : Nat) (_hn : n ≤ 18446744073709551615) : rowL n = be ((srtN n).2.2 + 1) ((srtN n).2.1 * 256 ^ (srtN n).2.2 + (n - (srtN n).1)) := by
  have hp : 0 < 256 ^ (srtN n).2.2 := Nat.pow_pos (by omega)
  rw [be, rowL, Nat.mul_comm, Nat.mul_add_div hp]
  congr 1
  rw [← be_mod _ (256 ^ (srtN n).2.2 * (srtN n).2.1 + (n - (srtN n).1)), Nat.mul_add_mod, be_mod]
theorem row_less (n : Nat) (hn : n + 1 ≤ 18446744073709551615) : Op.bytesLess (rowL n) (rowL (n + 1)) = true ∧ (rowL n).length ≤ (rowL (n + 1)).length := by
  by_cases hs : srtN (n + 1) = srtN n
  · refine ⟨?_, by rw [rowL_len, rowL_len, hs]; exact Nat.le_refl _⟩
    obtain ⟨h1, h2, h3, _⟩ := srt_ok n (by omega)
    obtain ⟨_, _, k3, _⟩ := srt_ok (n + 1) hn
    rw [row_be n (by omega), row_be (n + 1) hn, hs]
    rw [hs] at k3
    have hp : 0 < 256 ^ (srtN n).2.2 := Nat.pow_pos (by omega)
    refine be_less _ _ _ (by omega) ?_
    have e := Nat.div_add_mod (n + 1 - (srtN n).1) (256 ^ (srtN n).2.2)
    have hm := Nat.mod_lt (n + 1 - (srtN n).1) hp
    have : (srtN n).2.1 * 256 ^ (srtN n).2.2 + (n + 1 - (srtN n).1) < 256 * 256 ^ (srtN n).2.2 := by
      have h5 : ((srtN n).2.1 + (n + 1 - (srtN n).1) / 256 ^ (srtN n).2.2 + 1) * 256 ^ (srtN n).2.2 ≤ 256 * 256 ^ (srtN n).2.2 := Nat.mul_le_mul_right _ (by omega)
      rw [Nat.add_mul, Nat.add_mul, Nat.one_mul, Nat.mul_comm ((n + 1 - (srtN n).1) / 256 ^ (srtN n).2.2)] at h5
      omega
    have e3 : 256 ^ ((srtN n).2.2 + 1) = 256 * 256 ^ (srtN n).2.2 := by rw [Nat.pow_succ, Nat.mul_comm]
    rw [e3]
    exact this
  · have hc : n = 240 ∨ n = 2287 ∨ n = 67823 ∨ n = 16777215 ∨ n = 4294967295 ∨ n = 1099511627775 ∨ n = 281474976710655 ∨ n = 72057594037927935 := by
      unfold srtN at hs
      by_cases a1 : n ≤ 240 <;> by_cases a2 : n ≤ 2287 <;> by_cases a3 : n ≤ 67823 <;> by_cases a4 : n ≤ 16777215 <;> by_cases a5 : n ≤ 4294967295 <;> by_cases a6 : n ≤ 1099511627775 <;> by_cases a7 : n ≤ 281474976710655 <;> by_cases a8 : n ≤ 72057594037927935 <;> try omega
      all_goals
        refine Classical.byContradiction fun hno => hs ?_
        simp only [not_or] at hno
        obtain ⟨g1, g2, g3, g4, g5, g6, g7, g8⟩ := hno
        have q1 : (n + 1 ≤ 240) = (n ≤ 240) := by apply propext; omega
        have q2 : (n + 1 ≤ 2287) = (n ≤ 2287) := by apply propext; omega
        have q3 : (n + 1 ≤ 67823) = (n ≤ 67823) := by apply propext; omega
        have q4 : (n + 1 ≤ 16777215) = (n ≤ 16777215) := by apply propext; omega
        have q5 : (n + 1 ≤ 4294967295) = (n ≤ 4294967295) := by apply propext; omega
        have q6 : (n + 1 ≤ 1099511627775) = (n ≤ 1099511627775) := by apply propext; omega
        have q7 : (n + 1 ≤ 281474976710655) = (n ≤ 281474976710655) := by apply propext; omega
        have q8 : (n + 1 ≤ 72057594037927935) = (n ≤ 72057594037927935) := by apply propext; omega
        simp only [q1, q2, q3, q4, q5, q6, q7, q8]
    rcases hc with rfl | rfl | rfl | rfl | rfl | rfl | rfl | rfl <;> exact ⟨by decide +kernel, by decide +kernel⟩

theorem srtB_head (n : Nat) (hn : n ≤ 18446744073709551615) : (srtB ((srtN n).2.1 + (n - (srtN n).1) / 256 ^ (srtN n).2.2)).2.2 = (srtN n).2.2 := by
  have h := says_row n hn []
  have hl : (⟨(rowL n ++ []).toArray⟩ : ByteArray).data.toList = UInt8.ofNat ((srtN n).2.1 + (n - (srtN n).1) / 256 ^ (srtN n).2.2) :: be (srtN n).2.2 (n - (srtN n).1) := by
    simp [rowL]
  obtain ⟨h1, h2, h3, _⟩ := srt_ok n hn
  have hb : (UInt8.ofNat ((srtN n).2.1 + (n - (srtN n).1) / 256 ^ (srtN n).2.2)).toNat = (srtN n).2.1 + (n - (srtN n).1) / 256 ^ (srtN n).2.2 := by
    rw [UInt8.toNat_ofNat']; exact Nat.mod_eq_of_lt (by omega)
  rw [saysN_cons hl, hb, rowL_len] at h
  split at h
  · cases h
  · injection h with h
    injection h with _ h
    omega
/-- a beginning of a row is none -/
theorem row_part (n : Nat) (hn : n ≤ 18446744073709551615) (i : Nat) (hi : i < (rowL n).length) : numR ⟨((rowL n).take i).toArray⟩ = none := by
  have hs : saysN ⟨((rowL n).take i).toArray⟩ = none := by
    cases i with
    | zero => unfold saysN; simp
    | succ i =>
      have hl : (⟨((rowL n).take (i + 1)).toArray⟩ : ByteArray).data.toList = UInt8.ofNat ((srtN n).2.1 + (n - (srtN n).1) / 256 ^ (srtN n).2.2) :: (be (srtN n).2.2 (n - (srtN n).1)).take i := by
        simp [rowL]
      obtain ⟨h1, h2, h3, _⟩ := srt_ok n hn
      have hb : (UInt8.ofNat ((srtN n).2.1 + (n - (srtN n).1) / 256 ^ (srtN n).2.2)).toNat = (srtN n).2.1 + (n - (srtN n).1) / 256 ^ (srtN n).2.2 := by
        rw [UInt8.toNat_ofNat']; exact Nat.mod_eq_of_lt (by omega)
      rw [saysN_cons hl, hb, srtB_head n hn, if_pos]
      rw [rowL_len] at hi
      rw [List.length_take, be_len]
      omega
  unfold numR
  rw [hs]
end Go.Proofs.Ytlnlpphhnbodpaa
