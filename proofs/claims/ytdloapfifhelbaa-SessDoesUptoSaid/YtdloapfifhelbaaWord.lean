/-
  The plain model of a block's words, and the walk of 'words'.
-/
import Derived.Test.YtdloapfifhelbaaRot
import Derived.Deep.MidRow
import Derived.Deep.WholeRow
import Derived.StillTailTactics
namespace Go.Proofs.Ytdloapfifhelbaa
open Go.RowKit

/-! ### whole arrays -/
def putAll : List Value → Nat → Array Value → Array Value
  | [], _, cs => cs
  | v :: r, o, cs => putAll r (o + 1) (cs.setIfInBounds o v)
theorem putAll_get : ∀ (vs : List Value) (o : Nat) (cs : Array Value) (i : Nat), (putAll vs o cs)[i]? = if o ≤ i ∧ i < o + vs.length ∧ i < cs.size then vs[i - o]? else cs[i]? := by
  intro vs
  induction vs with
  | nil => intro o cs i; simp [putAll]; intro h1 h2; omega
  | cons v r ih =>
    intro o cs i
    rw [putAll, ih]
    simp only [Array.size_setIfInBounds, List.length_cons, Array.getElem?_setIfInBounds]
    by_cases h : o = i
    · subst h
      have e1 : ¬ (o + 1 ≤ o ∧ o < o + 1 + r.length ∧ o < cs.size) := by omega
      by_cases hs : o < cs.size
      · have e2 : o ≤ o ∧ o < o + (r.length + 1) ∧ o < cs.size := ⟨Nat.le_refl _, by omega, hs⟩
        rw [if_neg e1, if_pos e2]; simp [hs]
      · have e2 : ¬ (o ≤ o ∧ o < o + (r.length + 1) ∧ o < cs.size) := fun x => hs x.2.2
        rw [if_neg e1, if_neg e2]; simp [hs]
    · by_cases h2 : o + 1 ≤ i ∧ i < o + 1 + r.length ∧ i < cs.size
      · rw [if_pos h2, if_pos (by omega), show i - o = (i - (o + 1)) + 1 by omega]
        simp
      · have e2 : ¬ (o ≤ i ∧ i < o + (r.length + 1) ∧ i < cs.size) := by omega
        rw [if_neg h2, if_neg e2, if_neg h]
theorem putAll_full (vs : List Value) (cs : Array Value) (h : cs.size = vs.length) : putAll vs 0 cs = vs.toArray := by
  apply Array.ext_getElem?
  intro i
  rw [putAll_get]
  by_cases hi : i < cs.size
  · rw [if_pos (by omega)]; simp
  · rw [if_neg (by omega)]
    rw [Array.getElem?_eq_none (by omega), Array.getElem?_eq_none (by simp; omega)]
theorem Blk.setCells {g : Nat} {t : TypeId} : ∀ (vs : List Value) (o : Nat) (w : World) (cs : Array Value), Blk w g t cs → Blk (w.setCells g o vs) g t (putAll vs o cs) := by
  intro vs
  induction vs with
  | nil => intro o w cs h; exact h
  | cons v r ih => intro o w cs h; exact ih (o + 1) _ _ (h.set_ o v)
theorem Blk.setAll {g : Nat} {t : TypeId} {w : World} {cs : Array Value} (h : Blk w g t cs) (vs : List Value) (hs : cs.size = vs.length) : Blk (w.setCells g 0 vs) g t vs.toArray := by
  have := Blk.setCells vs 0 w cs h
  rw [putAll_full vs cs hs] at this
  exact this
theorem Blk.farAll {g g' : Nat} {t : TypeId} : ∀ (vs : List Value) (o : Nat) (w : World) (cs : Array Value), g ≠ g' → Blk w g t cs → Blk (w.setCells g' o vs) g t cs := by
  intro vs
  induction vs with
  | nil => intro o w cs _ h; exact h
  | cons v r ih => intro o w cs hne h; exact ih (o + 1) _ _ hne (h.far hne v)
theorem by_setAll {a : World} {row : Option Nat} {g : Nat} (hp : some g = row ∨ a.heap.size ≤ g) : ∀ (vs : List Value) (o : Nat) (w : World), a.grownBy w row → a.grownBy (w.setCells g o vs) row := by
  intro vs
  induction vs with
  | nil => intro o w h; exact h
  | cons v r ih => intro o w h; exact ih (o + 1) _ (by_set h hp v)
theorem Blk.there {w : World} {g : Nat} {t : TypeId} {cs : Array Value} (h : Blk w g t cs) (n : Nat) (hn : n ≤ cs.size) : w.there g 0 n := fun j hj => by
  rw [Nat.zero_add, h.cell, h.frozen]
  exact ⟨by simp; omega, rfl⟩

/-! ### the plain model -/
def hd (s : ByteArray) (i : Nat) : Nat := (s.data.toList.getD i 0).toNat
theorem hd_lt (s : ByteArray) (i : Nat) : hd s i < 256 := by unfold hd; exact UInt8.toNat_lt _
theorem hd_eq (s : ByteArray) (i : Nat) (h : i < s.size) : (s[i].toNat : Int) = (hd s i : Int) := by
  have : s.data.toList[i]? = some s[i] := by simp [h]; rfl
  simp only [hd, List.getD, this, Option.getD_some]
def lo0 (x : BitVec 32) : BitVec 32 := x.rotateRight 7 ^^^ x.rotateRight 18 ^^^ (x >>> 3)
def lo1 (x : BitVec 32) : BitVec 32 := x.rotateRight 17 ^^^ x.rotateRight 19 ^^^ (x >>> 10)
def wordAt (s : ByteArray) (i : Nat) : BitVec 32 := BitVec.ofNat 32 (hd s (4 * i) * 16777216 + hd s (4 * i + 1) * 65536 + hd s (4 * i + 2) * 256 + hd s (4 * i + 3))
/-- the word behind the words l -/
def nextW (l : List (BitVec 32)) : BitVec 32 := l.getD (l.length - 16) 0 + lo0 (l.getD (l.length - 15) 0) + l.getD (l.length - 7) 0 + lo1 (l.getD (l.length - 2) 0)
/-- the first i words of a block -/
def sched (s : ByteArray) : Nat → List (BitVec 32)
  | 0 => []
  | i + 1 => sched s i ++ [if i < 16 then wordAt s i else nextW (sched s i)]
theorem sched_len (s : ByteArray) : ∀ i, (sched s i).length = i := by
  intro i
  induction i with
  | zero => rfl
  | succ i ih => simp [sched, ih]
def v32 (x : BitVec 32) : Value := .int .u32 (N x)
/-- an array of 64 words of which the first ones are l -/
def row64 (l : List (BitVec 32)) : Array Value := (l.map v32 ++ List.replicate (64 - l.length) (Value.int .u32 0)).toArray
theorem row64_get (l : List (BitVec 32)) (j : Nat) (h : j < l.length) : (row64 l)[j]? = some (.int .u32 (N (l.getD j 0))) := by
  unfold row64
  rw [List.getElem?_toArray, List.getElem?_append_left (by simpa using h)]
  simp [h, v32, List.getD]
theorem row64_set (l : List (BitVec 32)) (x : BitVec 32) (h : l.length < 64) : (row64 l).setIfInBounds l.length (.int .u32 (N x)) = row64 (l ++ [x]) := by
  unfold row64
  apply Array.ext_getElem?
  intro i
  simp only [Array.getElem?_setIfInBounds, List.size_toArray, List.getElem?_toArray, List.length_append, List.length_map, List.length_replicate, List.map_append, List.map_cons, List.map_nil, List.length_cons, List.length_nil]
  by_cases hi : l.length = i
  · subst hi
    rw [if_pos rfl, if_pos (by omega), List.getElem?_append_left (by simp), List.getElem?_append_right (by simp)]
    simp [v32]
  · rw [if_neg hi]
    by_cases h1 : i < l.length
    · rw [List.getElem?_append_left (by simpa using h1), List.getElem?_append_left (by simp; omega), List.getElem?_append_left (by simpa using h1)]
    · rw [List.getElem?_append_right (by simp; omega), List.getElem?_append_right (by simp; omega)]
      simp only [List.length_map, List.length_append, List.length_cons, List.length_nil, List.getElem?_replicate]
      congr 1
      simp
      omega
theorem row64_size (l : List (BitVec 32)) (h : l.length ≤ 64) : (row64 l).size = 64 := by unfold row64; simp; omega

/-! ### the rules by which the walk keeps words as words -/
theorem N_xor (a b : BitVec 32) : bits BinOp.xor IntKind.u32 (N a) (N b) = N (a ^^^ b) := by unfold N; rw [u32_xor_nat _ _ a.isLt b.isLt, BitVec.toNat_xor]
theorem N_and (a b : BitVec 32) : bits BinOp.and IntKind.u32 (N a) (N b) = N (a &&& b) := by unfold N; rw [u32_and_nat _ _ a.isLt b.isLt, BitVec.toNat_and]
theorem N_or (a b : BitVec 32) : bits BinOp.or IntKind.u32 (N a) (N b) = N (a ||| b) := by unfold N; rw [u32_or_nat _ _ a.isLt b.isLt, BitVec.toNat_or]
theorem N_add (a b : BitVec 32) : IntKind.u32.wrap (N a + N b) = N (a + b) := by unfold N; rw [IntKind.wrap_u32', BitVec.toNat_add]; omega
theorem N_shr (a : BitVec 32) (n : Nat) (d : Int) (h : d = 2 ^ n) : N a / d = N (a >>> n) := by
  unfold N; rw [BitVec.toNat_ushiftRight, Nat.shiftRight_eq_div_pow, h, Int.natCast_ediv, Int.natCast_pow]; rfl
theorem bytes_or (a b c d : Nat) (ha : a < 256) (hb : b < 256) (hc : c < 256) (hd : d < 256) :
    bits BinOp.or IntKind.u32 (bits BinOp.or IntKind.u32 (bits BinOp.or IntKind.u32 ((a : Int) * 16777216) ((b : Int) * 65536)) ((c : Int) * 256)) (d : Int) = N (BitVec.ofNat 32 (a * 16777216 + b * 65536 + c * 256 + d)) := by
  have e1 := u32_or_nat (a * 16777216) (b * 65536) (by omega) (by omega)
  rw [nat_join 24 _ _ (by omega) (by omega)] at e1
  have e2 := u32_or_nat (a * 16777216 + b * 65536) (c * 256) (by omega) (by omega)
  rw [nat_join 16 _ _ (by omega) (by omega)] at e2
  have e3 := u32_or_nat (a * 16777216 + b * 65536 + c * 256) d (by omega) (by omega)
  rw [nat_join 8 _ _ (by omega) (by omega)] at e3
  simp only [Int.natCast_mul, Int.natCast_add] at e1 e2 e3
  have c1 : ((16777216 : Nat) : Int) = 16777216 := rfl
  have c2 : ((65536 : Nat) : Int) = 65536 := rfl
  have c3 : ((256 : Nat) : Int) = 256 := rfl
  rw [c1, c2] at e1
  rw [c1, c2, c3] at e2 e3
  rw [e1, e2, e3]
  unfold N
  rw [BitVec.toNat_ofNat, Nat.mod_eq_of_lt (by omega)]
  omega
end Go.Proofs.Ytdloapfifhelbaa
