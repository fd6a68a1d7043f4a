/-
  What a row says: plain laws (no program in sight).
-/
import Derived.Test.YtlnlpphhnbodpaaOf
import Derived.Test.YtlnlpphhnbodpaaPut
namespace Go.Proofs.Ytlnlpphhnbodpaa

/-- of a first byte the sort -/
def sortB (b : Int) : Srt := lastS (rows.takeWhile (fun y => decide (y.2.2.1 ≤ b)))
def srtB (b : Nat) : Nat × Nat × Nat := if b ≤ 240 then (0, 0, 0) else if b < 249 then (240, 241, 1) else if b = 249 then (2288, 249, 2) else (0, b, b - 247)
theorem srtB_ok (b : Nat) (hb : b ≤ 255) : (srtB b).2.2 ≤ 8 ∧ (srtB b).2.1 ≤ b ∧ ∃ t : Int, sortB (b : Int) = ((((srtB b).1 : Nat) : Int), t, (((srtB b).2.1 : Nat) : Int), (((srtB b).2.2 : Nat) : Int)) := by
  have h : b ≤ 240 ∨ (240 < b ∧ b < 249) ∨ b = 249 ∨ b = 250 ∨ b = 251 ∨ b = 252 ∨ b = 253 ∨ b = 254 ∨ b = 255 := by omega
  rcases h with h | ⟨h, h2⟩ | rfl | rfl | rfl | rfl | rfl | rfl | rfl
  · refine ⟨by simp [srtB, h], by simp [srtB, h], (sortB (b : Int)).2.1, ?_⟩
    unfold sortB rows srtB
    rw [List.takeWhile_cons_of_pos (by simp), List.takeWhile_cons_of_neg (by simp; omega)]
    simp [lastS, h]
  · refine ⟨by simp [srtB, h2, show ¬ b ≤ 240 by omega], by simp [srtB, h2, show ¬ b ≤ 240 by omega]; omega, (sortB (b : Int)).2.1, ?_⟩
    unfold sortB rows srtB
    rw [List.takeWhile_cons_of_pos (by simp), List.takeWhile_cons_of_pos (by simp; omega), List.takeWhile_cons_of_neg (by simp; omega)]
    simp [lastS, h2, show ¬ b ≤ 240 by omega]
  all_goals exact ⟨by decide, by decide, _, rfl⟩

theorem take_pre {b : Int} {pre l : List Srt} {x : Srt} (h : pre ++ [x] <+: l) (h1 : ∀ y ∈ pre, y.2.2.1 ≤ b) (h2 : b < x.2.2.1) : l.takeWhile (fun y => decide (y.2.2.1 ≤ b)) = pre := by
  obtain ⟨t, rfl⟩ := h
  rw [List.append_assoc, List.takeWhile_append_of_pos (by intro y hy; simpa using h1 y hy), List.singleton_append, List.takeWhile_cons_of_neg (by simp; omega), List.append_nil]
theorem take_all {b : Int} {l : List Srt} (h1 : ∀ y ∈ l, y.2.2.1 ≤ b) : l.takeWhile (fun y => decide (y.2.2.1 ≤ b)) = l := by
  have := List.takeWhile_append_of_pos (p := fun y : Srt => decide (y.2.2.1 ≤ b)) (l₁ := l) (l₂ := []) (by intro y hy; simpa using h1 y hy)
  simpa using this

def val (l : List UInt8) : Nat := l.foldl (fun n c => n * 256 + c.toNat) 0

/-- what stands ahead: the number, and how many bytes its row has -/
def saysN (s : ByteArray) : Option (Nat × Nat) :=
  match s.data.toList with
  | [] => none
  | b :: l => if l.length < (srtB b.toNat).2.2 then none else some ((srtB b.toNat).1 + ((b.toNat - (srtB b.toNat).2.1) * 256 ^ (srtB b.toNat).2.2 + val (l.take (srtB b.toNat).2.2)), 1 + (srtB b.toNat).2.2)

/-- what the second loop has reckoned -/
def acc (n0 : Nat) (l : List UInt8) : Nat := l.foldl (fun n c => n * 256 + c.toNat) n0
theorem acc_snoc (n0 : Nat) (l : List UInt8) (c : UInt8) : acc n0 (l ++ [c]) = acc n0 l * 256 + c.toNat := by simp [acc]
theorem acc_lt : ∀ (l : List UInt8) (n0 : Nat), acc n0 l < (n0 + 1) * 256 ^ l.length
  | [], n0 => by simp [acc]
  | c :: l, n0 => by
    have ih := acc_lt l (n0 * 256 + c.toNat)
    have hc := c.toNat_lt
    show acc (n0 * 256 + c.toNat) l < _
    have h2 : (n0 * 256 + c.toNat + 1) * 256 ^ l.length ≤ ((n0 + 1) * 256) * 256 ^ l.length := Nat.mul_le_mul_right _ (by omega)
    rw [List.length_cons, Nat.pow_succ, Nat.mul_comm (256 ^ l.length), ← Nat.mul_assoc]
    omega
theorem acc_val : ∀ (l : List UInt8) (n0 : Nat), acc n0 l = n0 * 256 ^ l.length + val l
  | [], n0 => by simp [acc, val]
  | c :: l, n0 => by
    have ih := acc_val l (n0 * 256 + c.toNat)
    have ih0 := acc_val l (0 * 256 + c.toNat)
    show acc (n0 * 256 + c.toNat) l = _
    have hv : val (c :: l) = acc (0 * 256 + c.toNat) l := rfl
    simp only [Nat.zero_mul, Nat.zero_add] at ih0 hv
    rw [ih, hv, ih0, List.length_cons, Nat.pow_succ, Nat.mul_comm (256 ^ l.length) 256, ← Nat.mul_assoc, Nat.add_mul, Nat.add_assoc]
theorem srtB_bd (b : Nat) (hb : b ≤ 255) : (b - (srtB b).2.1 + 1) * 256 ^ (srtB b).2.2 + (srtB b).1 ≤ 18446744073709551616 := by
  have h : b ≤ 240 ∨ (240 < b ∧ b < 249) ∨ b = 249 ∨ b = 250 ∨ b = 251 ∨ b = 252 ∨ b = 253 ∨ b = 254 ∨ b = 255 := by omega
  rcases h with h | ⟨h, h2⟩ | rfl | rfl | rfl | rfl | rfl | rfl | rfl
  · simp [srtB, h]; omega
  · simp [srtB, h2, show ¬ b ≤ 240 by omega]; omega
  all_goals decide
theorem or_byte (m : Nat) (c : UInt8) (h : m * 256 + c.toNat < 18446744073709551616) : (m * 256) ||| c.toNat = m * 256 + c.toNat := by
  have := Nat.two_pow_add_eq_or_of_lt (i := 8) (b := c.toNat) c.toNat_lt m
  rw [Nat.mul_comm] at this
  exact this.symm
theorem saysN_cons {s : ByteArray} {b : UInt8} {l : List UInt8} (h : s.data.toList = b :: l) : saysN s = if l.length < (srtB b.toNat).2.2 then none else some ((srtB b.toNat).1 + acc (b.toNat - (srtB b.toNat).2.1) (l.take (srtB b.toNat).2.2), 1 + (srtB b.toNat).2.2) := by
  unfold saysN
  rw [h]
  dsimp only
  split
  · rfl
  · rw [acc_val, List.length_take, Nat.min_eq_left (by omega)]

end Go.Proofs.Ytlnlpphhnbodpaa
