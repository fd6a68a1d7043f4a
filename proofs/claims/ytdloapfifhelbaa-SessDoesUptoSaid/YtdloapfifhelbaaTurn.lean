/-
  The block of a key, turned by a byte: the model, and the walk of the function literal in mac.Mac.
-/
import Derived.Test.YtdloapfifhelbaaWorks
import Derived.Lib.BufferWrite
import Derived.Laws.CopyRow
import Derived.Laws.BitsAllLaws
import Derived.StillTailTactics
namespace Go.Proofs.Ytdloapfifhelbaa
open Go.RowKit

def zeros (n : Nat) : List UInt8 := List.replicate n 0
/-- a key of 64 bytes at most; a longer one's sum -/
def short (key : ByteArray) : List UInt8 := if key.size ≤ 64 then key.data.toList else sumB (sumOf key)
theorem short_len (key : ByteArray) : (short key).length ≤ 64 := by
  unfold short; split
  · assumption
  · rw [sumB_len]; decide
def keyB (key : ByteArray) : List UInt8 := short key ++ zeros (64 - (short key).length)
theorem keyB_len (key : ByteArray) : (keyB key).length = 64 := by
  have := short_len key
  simp [keyB, zeros]; omega
def turn (k : List UInt8) (b : UInt8) : List UInt8 := k.map (· ^^^ b)
theorem turn_len (k : List UInt8) (b : UInt8) : (turn k b).length = k.length := by simp [turn]
theorem u8_xor_b (a b : UInt8) : bits BinOp.xor IntKind.u8 (a.toNat : Int) (b.toNat : Int) = ((a ^^^ b).toNat : Int) := by
  rw [u8_xor_nat _ _ a.toNat_lt b.toNat_lt, UInt8.toNat_xor]
theorem info47 : (Try.prog.info? 67).map (·.size) = some 64 := by kernel_rfl
/-- the first i bytes are turned -/
def part64 (k : List UInt8) (b : UInt8) (i : Nat) : List UInt8 := turn (k.take i) b ++ k.drop i
theorem part64_len (k : List UInt8) (b : UInt8) (i : Nat) : (part64 k b i).length = k.length := by simp [part64, turn_len]; omega
theorem part64_get (k : List UInt8) (b : UInt8) (i : Nat) (h : i < k.length) : (part64 k b i).getD i 0 = k.getD i 0 := by
  have hl : (turn (k.take i) b).length = i := by rw [turn_len, List.length_take]; omega
  unfold part64
  rw [List.getD, List.getD, List.getElem?_append_right (by omega), hl, Nat.sub_self, List.getElem?_drop]
  rfl
theorem part64_set (k : List UInt8) (b : UInt8) (i : Nat) (h : i < k.length) : (part64 k b i).set i (k.getD i 0 ^^^ b) = part64 k b (i + 1) := by
  have hl : (turn (k.take i) b).length = i := by rw [turn_len, List.length_take]; omega
  unfold part64
  rw [List.set_append_right _ _ (by omega), hl, Nat.sub_self, List.drop_eq_getElem_cons h, List.set_cons_zero, List.take_add_one, List.getElem?_eq_getElem h]
  simp only [turn, List.map_append, List.map_cons, List.map_nil, Option.toList, List.append_assoc, List.cons_append, List.nil_append, List.getD, List.getElem?_eq_getElem h, Option.getD_some]
theorem u8s_set (l : List UInt8) (i : Nat) (x : UInt8) : (u8s l).toArray.setIfInBounds i (.int .u8 (x.toNat : Int)) = (u8s (l.set i x)).toArray := by
  rw [List.setIfInBounds_toArray]
  congr 1
  rw [show (Value.int IntKind.u8 (x.toNat : Int)) = (fun b : UInt8 => Value.int IntKind.u8 (b.toNat : Int)) x from rfl]
  unfold u8s
  rw [← List.map_set]
theorem u8s_getM (l : List UInt8) (j : Nat) (h : j < l.length) : (u8s l)[j]? = some (.int .u8 ((l.getD j 0).toNat : Int)) := by
  simp [u8s, List.getD, List.getElem?_eq_getElem h]
/-- a whole block of bytes made a string -/
theorem conv_blk {W : World} {g n t : Nat} {l : List UInt8} (hl : l.length = n) (h : Blk W g t (u8s l).toArray) : (convert 47 9 (.slice (some ⟨g, 0, none⟩) n n)).run Try.prog W = .ok (.string ⟨l.toArray⟩) W := by
  rw [run_convert_bytes_arg (P := Try.prog) W 47 5 Try.underlying47 Try.underlying5 g 0 n n (l.map fun b => (b.toNat : Int)) (by simp [hl]) (fun j hj => by
    rw [Nat.zero_add, h.cell]
    have := u8s_getM l j (by omega)
    rw [List.getElem?_toArray, this]
    simp [List.getD, List.getElem?_eq_getElem (show j < l.length by omega)]) 9 Try.underlying9]
  have : strOfNums (l.map fun b => (b.toNat : Int)) = ⟨l.toArray⟩ := by simp [strOfNums, Function.comp_def]
  rw [this]

structure PT (w0 : World) (g g4 : Nat) (k : List UInt8) (b : UInt8) (m : Nat) (c : Value) (wr : World) (i : Nat) : Prop where
  slot : c = .int .i64 i
  le : i ≤ 64
  num : m = 64 - i
  b4 : Blk wr g4 67 (u8s (part64 k b i)).toArray
  by_ : w0.grownBy wr none

theorem PT.drew {w0 : World} {g g4 : Nat} {k : List UInt8} {b : UInt8} {m : Nat} {c : Value} {wr : World} {i : Nat} (h : PT w0 g g4 k b m c wr i) : PT w0 g g4 k b m c wr.drew i := ⟨h.slot, h.le, h.num, h.b4.drew, by_drew h.by_⟩
set_option maxRecDepth 100000 in
set_option maxHeartbeats 1000000 in
theorem turn_any (k : List UInt8) (hk : k.length = 64) (b : UInt8) (g : Nat) (w : World) (hb : Blk w g 67 (u8s k).toArray) :
    Calls Try.prog 34 #[.int .u8 (b.toNat : Int), .pointer (some ⟨g, 0, none⟩)] w fun e w' => e = .returned (.string ⟨(turn k b).toArray⟩) ∧ w.grownBy w' none := by
  have hp : Blk (w.alloc (.cells (Array.replicate 64 (.int .u8 0)) 67)) w.heap.size 67 (Array.replicate 64 (.int .u8 0)) := Blk.new _ _ _
  obtain ⟨K, hK⟩ : ∃ K, K = (u8s k).toArray := ⟨_, rfl⟩
  have hKs : K.size = 64 := by rw [hK]; simp [u8s, hk]
  have hK1 : K.all (·.oneCell') = true := by rw [hK]; exact all_oneCell_toArray (u8s_one k)
  have hi47 : (Try.prog.info? 67).map (·.size) = some K.size := by rw [hKs]; exact info47
  have hth := hp.there K.size (by simp [hKs])
  have hst := hp.setAll K.toList (by simp [hKs])
  rw [Array.toArray_toList] at hst
  obtain ⟨V, hV⟩ : ∃ W, W = (w.alloc (.cells (Array.replicate 64 (.int .u8 0)) 67)).setCells w.heap.size 0 K.toList := ⟨_, rfl⟩
  have hy : w.grownBy V none := by rw [hV]; exact by_setAll (.inr (Nat.le_refl _)) _ _ _ (by_alloc (by_refl _ _) _)
  rw [← hV] at hst
  have h0 : Blk V w.heap.size 67 (u8s (part64 k b 0)).toArray := by
    have : part64 k b 0 = k := by simp [part64, turn]
    rw [this, ← hK]; exact hst
  rw [← hK] at hb
  have H0 := Lib.hid (And.intro h0 (And.intro hy (And.intro hb (And.intro hi47 (And.intro hth hK1)))))
  have HV := Lib.hid hV
  clear hp hKs hK1 hi47 hth hst hV hy h0 hb hK
  go_enter Try.func34, Try.ntmps34
  go_wp2_with (first | (refine wpList_load_row rfl 67 (.tmp 1) rfl g rfl 67 K (0, 0) _ ((Blk.alloc H0.out.2.2.1 _)) Try.underlying67 rfl H0.out.2.2.2.1 ?_) | (refine wpList_load_row rfl 67 (.tmp 1) rfl g rfl 67 K (0, 0) _ H0.out.2.2.1 Try.underlying67 rfl H0.out.2.2.2.1 ?_) | (refine wpList_store_mid rfl 67 (.tmp 4) (.tmp 6) rfl w.heap.size 0 K rfl rfl H0.out.2.2.2.2.1 H0.out.2.2.2.1 H0.out.2.2.2.2.2 ?_; refine wpList_at HV.out ?_))
  try dsimp only [Act.put]
  go_loopg [7] 64 (fun m c wr => ∃ i, PT w g w.heap.size k b m c wr i)
  case atStart => exact ⟨0, rfl, by omega, by omega, H0.out.1, H0.out.2.1⟩
  case round =>
    clear H0 HV
    obtain ⟨i, hr⟩ := hrel
    obtain rfl := hr.slot
    have hle := hr.le
    have Hr := Lib.hid hr
    clear hr
    by_cases hlt : i < 64
    · have h4 := Hr.out.b4
      have d0 : wr.cell? ⟨w.heap.size, i, none⟩ = some (.int .u8 ((k.getD i 0).toNat : Int)) := by
        rw [h4.cell, List.getElem?_toArray, u8s_getM _ _ (by rw [part64_len, hk]; exact hlt), part64_get _ _ _ (by omega)]
      have f0 : wr.frozen? ⟨w.heap.size, i, none⟩ = false := h4.frozen i
      have hset := h4.set_ i (.int .u8 ((k.getD i 0 ^^^ b).toNat : Int))
      rw [u8s_set, part64_set _ _ _ (by omega)] at hset
      have hy := by_set Hr.out.by_ (p := ⟨w.heap.size, i, none⟩) (.inr (Nat.le_refl _)) (.int .u8 ((k.getD i 0 ^^^ b).toNat : Int))
      have hx := u8_xor_b (k.getD i 0) b
      have hrel : PT w g w.heap.size k b (63 - i) (.int .i64 ((i : Int) + 1)) (wr.setCell ⟨w.heap.size, i, none⟩ (.int .u8 ((k.getD i 0 ^^^ b).toNat : Int))) (i + 1) := ⟨by simp, by omega, by omega, hset, hy⟩
      have Hn := Lib.hid (And.intro hrel (show 63 - i < gk by have := Hr.out.num; omega))
      clear h4 hset hy hrel Hr
      generalize (k.getD i 0 ^^^ b).toNat = y at *
      generalize (k.getD i 0).toNat = x at *
      generalize b.toNat = z at *
      have p0 : (0 : Int) ≤ (i : Int) := by omega
      have p1 : (i : Int) < 64 := by omega
      have wx : IntKind.i64.wrap ((i : Int) + 1) = (i : Int) + 1 := by rw [IntKind.wrap_i64]; omega
      go_wp2
      go_roundg (63 - i)
      case measure => exact Hn.out.2
      case rel => exact ⟨i + 1, Hn.out.1⟩
    · have hi : i = 64 := by omega
      subst hi
      have h4 := Hr.out.b4
      have e : part64 k b 64 = turn k b := by unfold part64; rw [List.take_of_length_le (by omega), List.drop_of_length_le (by omega), List.append_nil]
      rw [e] at h4
      have hcv := conv_blk (by rw [turn_len, hk]) h4
      have Hy := Lib.hid Hr.out.by_
      clear Hr h4 e
      obtain ⟨M, hM⟩ : ∃ M : ByteArray, M = ⟨(turn k b).toArray⟩ := ⟨_, rfl⟩
      rw [← hM] at hcv
      have HM := Lib.hid hM
      clear hM
      go_wp2
      go_ret
      exact ⟨by rw [← HM.out]; rfl, Hy.out⟩
end Go.Proofs.Ytdloapfifhelbaa
