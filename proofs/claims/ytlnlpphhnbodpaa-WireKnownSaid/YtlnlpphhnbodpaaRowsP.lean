/-
  What was put is read back: plain laws.
-/
import Derived.Test.YtlnlpphhnbodpaaRefRead
namespace Go.Proofs.Ytlnlpphhnbodpaa
open Go.RowKit

theorem val_cons (c : UInt8) (l : List UInt8) : val (c :: l) = c.toNat * 256 ^ l.length + val l := by
  show acc (0 * 256 + c.toNat) l = _
  rw [acc_val, Nat.zero_mul, Nat.zero_add]
theorem val_be : ∀ (k p : Nat), val (be k p) = p % 256 ^ k
  | 0, p => by simp [be, val, Nat.mod_one]
  | k + 1, p => by
    have ih := val_be k p
    have hm := Nat.mod_pow_succ (b := 256) (k := k) (x := p)
    rw [be, val_cons, be_len, ih, UInt8.toNat_ofNat', hm, Nat.mul_comm, Nat.add_comm]
theorem acc_be (m k p : Nat) (t : List UInt8) : acc m ((be k p ++ t).take k) = m * 256 ^ k + p % 256 ^ k := by
  rw [List.take_append_of_le_length (by rw [be_len]; exact Nat.le_refl _), List.take_of_length_le (by rw [be_len]; exact Nat.le_refl _), acc_val, be_len, val_be]

theorem says_row (n : Nat) (hn : n ≤ 18446744073709551615) (t : List UInt8) : saysN ⟨(rowL n ++ t).toArray⟩ = some (n, (rowL n).length) := by
  have hl : (⟨(rowL n ++ t).toArray⟩ : ByteArray).data.toList = UInt8.ofNat ((srtN n).2.1 + (n - (srtN n).1) / 256 ^ (srtN n).2.2) :: (be (srtN n).2.2 (n - (srtN n).1) ++ t) := by
    simp [rowL]
  obtain ⟨h1, h2, h3, _⟩ := srt_ok n hn
  rw [saysN_cons hl, rowL_len]
  have hb : (UInt8.ofNat ((srtN n).2.1 + (n - (srtN n).1) / 256 ^ (srtN n).2.2)).toNat = (srtN n).2.1 + (n - (srtN n).1) / 256 ^ (srtN n).2.2 := by
    rw [UInt8.toNat_ofNat']; exact Nat.mod_eq_of_lt (by omega)
  rw [hb]
  have key : srtB ((srtN n).2.1 + (n - (srtN n).1) / 256 ^ (srtN n).2.2) = ((srtN n).1, (srtB ((srtN n).2.1 + (n - (srtN n).1) / 256 ^ (srtN n).2.2)).2.1, (srtN n).2.2) ∧
      ((srtN n).2.1 + (n - (srtN n).1) / 256 ^ (srtN n).2.2 - (srtB ((srtN n).2.1 + (n - (srtN n).1) / 256 ^ (srtN n).2.2)).2.1) * 256 ^ (srtN n).2.2 + (n - (srtN n).1) % 256 ^ (srtN n).2.2 = n - (srtN n).1 := by
    by_cases a1 : n ≤ 240
    · have e : srtN n = (0, 0, 0) := by simp [srtN, a1]
      rw [e]
      simp [srtB, a1, Nat.mod_one]
    · by_cases a2 : n ≤ 2287
      · have e : srtN n = (240, 241, 1) := by simp [srtN, a1, a2]
        rw [e]
        have b1 : ¬ 241 + (n - 240) / 256 ≤ 240 := by omega
        have b2 : 241 + (n - 240) / 256 < 249 := by omega
        simp only [Nat.pow_one]
        have e2 : srtB (241 + (n - 240) / 256) = (240, 241, 1) := by unfold srtB; rw [if_neg b1, if_pos b2]
        rw [e2]
        refine ⟨rfl, ?_⟩
        dsimp only
        omega
      · by_cases a3 : n ≤ 67823
        · have e : srtN n = (2288, 249, 2) := by simp [srtN, a1, a2, a3]
          rw [e]
          have b1 : (n - 2288) / 256 ^ 2 = 0 := by simp; omega
          dsimp only
          rw [b1]
          have e2 : srtB (249 + 0) = (2288, 249, 2) := rfl
          rw [e2]
          refine ⟨rfl, ?_⟩
          simp
          omega
        · obtain ⟨c1, c2, c3, c4, c5, c6⟩ := srt_big n (by omega) hn
          rw [c5, c6, Nat.sub_zero, Nat.div_eq_of_lt c4, Nat.mod_eq_of_lt c4, Nat.add_zero]
          generalize (srtN n).2.2 = k at *
          have b1 : ¬ 247 + k ≤ 240 := by omega
          have b2 : ¬ 247 + k < 249 := by omega
          have b3 : ¬ 247 + k = 249 := by omega
          have e : srtB (247 + k) = (0, 247 + k, 247 + k - 247) := by unfold srtB; rw [if_neg b1, if_neg b2, if_neg b3]
          rw [e]
          refine ⟨?_, by simp⟩
          rw [show 247 + k - 247 = k by omega]
  obtain ⟨k1, k2⟩ := key
  generalize (srtN n).2.1 + (n - (srtN n).1) / 256 ^ (srtN n).2.2 = B at *
  rw [k1]
  dsimp only
  rw [if_neg (by rw [List.length_append, be_len]; omega), acc_be, k2]
  congr 2
  · omega
  · omega

theorem num_row (n : Nat) (hn : n ≤ 18446744073709551615) (t : List UInt8) : numR ⟨(rowL n ++ t).toArray⟩ = some (n, (rowL n).length) := by
  unfold numR
  rw [says_row n hn t]
  dsimp only
  rw [if_pos (by simp)]
theorem ext_row (a t : List UInt8) : (⟨(a ++ t).toArray⟩ : ByteArray).extract a.length (⟨(a ++ t).toArray⟩ : ByteArray).size = ⟨t.toArray⟩ := by
  apply ByteArray.ext
  rw [ByteArray.data_extract]
  apply Array.toList_inj.1
  rw [Array.toList_extract, List.extract_eq_take_drop]
  simp [ByteArray.size]
theorem ext_row0 (a t : List UInt8) : (⟨(a ++ t).toArray⟩ : ByteArray).extract 0 a.length = ⟨a.toArray⟩ := by
  apply ByteArray.ext
  rw [ByteArray.data_extract]
  apply Array.toList_inj.1
  rw [Array.toList_extract, List.extract_eq_take_drop]
  simp
theorem text_row (x t : List UInt8) (hx : x.length ≤ 18446744073709551615) : textR ⟨(rowL x.length ++ (x ++ t)).toArray⟩ = some (⟨x.toArray⟩, ⟨t.toArray⟩) := by
  unfold textR
  rw [num_row x.length hx]
  dsimp only
  rw [ext_row, if_pos (by simp [ByteArray.size]), ext_row0, ext_row]

/-- the rows of numbers, one behind the other -/
def rowsL (l : List Nat) : List UInt8 := l.flatMap rowL
theorem rowsL_snoc (l : List Nat) (n : Nat) : rowsL (l ++ [n]) = rowsL l ++ rowL n := by simp [rowsL]
theorem rowsL_cons (n : Nat) (l : List Nat) : rowsL (n :: l) = rowL n ++ rowsL l := by simp [rowsL]
theorem rowL_le (n : Nat) (hn : n ≤ 18446744073709551615) : (rowL n).length ≤ 9 := by rw [rowL_len]; have := (srt_ok n hn).1; omega
theorem rowsL_le : ∀ (l : List Nat), (∀ n ∈ l, n ≤ 18446744073709551615) → (rowsL l).length ≤ 9 * l.length
  | [], _ => by simp [rowsL]
  | n :: l, h => by
    rw [rowsL_cons, List.length_append, List.length_cons]
    have h1 := rowL_le n (h n (by simp))
    have h2 := rowsL_le l fun m hm => h m (by simp [hm])
    omega
end Go.Proofs.Ytlnlpphhnbodpaa
