/-
  The walk of sha.Hex: two digits for each byte.
-/
import Derived.Test.YtdloapfifhelbaaSum
import Derived.Laws.OwnMore
import Derived.Laws.BytesArg
import Derived.Laws.BitsAllLaws
import Derived.Deep.AppendLies
import Derived.Deep.RegionLaw
namespace Go.Proofs.Ytdloapfifhelbaa
open Go.RowKit

def dig (n : Nat) : UInt8 := if n < 10 then UInt8.ofNat (48 + n) else UInt8.ofNat (87 + n)
def two (b : UInt8) : List UInt8 := [dig (b.toNat / 16), dig (b.toNat % 16)]
def hexL (l : List UInt8) : List UInt8 := l.flatMap two
def digits : ByteArray := ⟨#[48, 49, 50, 51, 52, 53, 54, 55, 56, 57, 97, 98, 99, 100, 101, 102]⟩
theorem dig_index (n : Nat) (h : n < 16) (W : World) : (Instr.index 9 (.string ⟨#[48, 49, 50, 51, 52, 53, 54, 55, 56, 57, 97, 98, 99, 100, 101, 102]⟩) (.int .u8 (n : Int))).run Try.prog W = .ok (.int .u8 ((dig n).toNat : Int)) W := by
  have h2 : ∀ n, n < 16 → digits[n]? = some (dig n) := by decide
  rw [run_index_string W 9 _ .u8 _ Try.underlying9]
  rw [dif_pos ⟨by omega, by show (n : Int) < 16; omega⟩]
  have e : digits[n]? = some (dig n) := h2 n h
  have : digits[(n : Int).toNat]'(by show _ < 16; omega) = dig n := by
    have h3 : (n : Int).toNat = n := by omega
    simp only [h3]
    rw [getElem?_pos digits n (by show n < 16; omega)] at e
    injection e
  show _ = Result.ok (Value.int .u8 ((dig n).toNat : Int)) W
  rw [← this]; rfl
theorem u8_and15 (b : UInt8) : bits BinOp.and IntKind.u8 (b.toNat : Int) 15 = ((b.toNat % 16 : Nat) : Int) := by
  have h := b.toNat_lt
  have := u8_and_nat b.toNat 15 (by omega) (by omega)
  rw [Nat.and_two_pow_sub_one_eq_mod b.toNat 4] at this
  exact this
theorem arr_index (l : List UInt8) (hl : l.length = 32) (i : Nat) (h : i < 32) (W : World) : (Instr.index 44 (.agg (u8s l).toArray) (.int .i64 (i : Int))).run Try.prog W = .ok (.int .u8 ((l.getD i 0).toNat : Int)) W := by
  have hu : Try.prog.underlying 44 = some (.array 32 5) := by kernel_rfl
  have hi : 0 ≤ (i : Int) ∧ (i : Int) < ((32 : Nat) : Int) := by omega
  have hz : ∀ w, (Go.sizeOf 5).run Try.prog w = .ok 1 w := fun _ => by kernel_rfl
  have hc : (u8s l)[i]? = some (.int .u8 ((l.getD i 0).toNat : Int)) := by
    simp [u8s, List.getD, List.getElem?_eq_getElem (show i < l.length by omega)]
  have hn : ¬ 32 ≤ i := by omega
  simp [Instr.index, run_underlying hu, asIntOf, hi, go_sem, hz, hc]
  intro h; omega
theorem hexL_len (l : List UInt8) : (hexL l).length = 2 * l.length := by
  induction l with
  | nil => rfl
  | cons b t ih => rw [hexL, List.flatMap_cons, List.length_append]; show 2 + (hexL t).length = _; rw [ih]; simp; omega
theorem hexL_take (l : List UInt8) (i : Nat) (h : i < l.length) : hexL (l.take (i + 1)) = hexL (l.take i) ++ two (l.getD i 0) := by
  rw [List.take_add_one, List.getElem?_eq_getElem h]
  unfold hexL
  rw [List.flatMap_append]
  simp [List.getD, List.getElem?_eq_getElem h]

structure PH (w0 : World) (l : List UInt8) (k : Nat) (v c : Value) (wr : World) (i : Nat) : Prop where
  slot : c = .int .i64 i
  le : i ≤ 32
  num : k = 32 - i
  own : wr.ownsRow w0.heap.size 5 1 v (2 * i) (u8s (hexL (l.take i)))
  by_ : w0.grownBy wr none

set_option maxRecDepth 100000 in
set_option maxHeartbeats 2000000 in
theorem hex_any (l : List UInt8) (hl : l.length = 32) (w : World) :
    Calls Try.prog 18 #[.agg (u8s l).toArray] w fun e w' => e = .returned (.string ⟨(hexL l).toArray⟩) ∧ w.grownBy w' none := by
  go_enter Try.func18, Try.ntmps18
  obtain ⟨cs, hcs⟩ : ∃ cs, cs = (u8s l).toArray := ⟨_, rfl⟩
  rw [← hcs]
  have Hcs := Lib.hid hcs
  clear hcs
  obtain ⟨i0, hi, hz0, hz1, hz2⟩ : ∃ i, Try.prog.info? 5 = some i ∧ i.zero = some (.int .u8 0) ∧ i.size = 1 ∧ i.bytes = 1 := ⟨_, rfl, rfl, rfl, rfl⟩
  have Hi := Lib.hid (And.intro hi (And.intro hz0 (And.intro hz1 hz2)))
  clear hi hz0 hz1 hz2
  obtain ⟨R, hR⟩ : ∃ R, R = madeCells (Value.int .u8 0).cells (64 * 1) := ⟨_, rfl⟩
  have hmk : ∀ W, (Instr.makeSlice 47 (.int .i64 0) (.int .i64 64)).run Try.prog W = .ok (.slice (some ⟨W.heap.size, 0, none⟩) 0 64) (W.alloc (.cells R 5)) := fun W => by
    have h := run_make (P := Try.prog) W 47 5 i0 (.int .u8 0) Try.underlying47 Hi.out.1 Hi.out.2.1 .i64 .i64 0 64 (by decide) (by decide) (by rw [Hi.out.2.2.2]; decide) (by decide)
    rw [Hi.out.2.2.1] at h
    rw [hR]; exact h
  obtain ⟨w1, hw1⟩ : ∃ W, W = (w.alloc (.cells cs 44)).alloc (.cells R 5) := ⟨_, rfl⟩
  have hown : w1.ownsRow w.heap.size 5 1 (.slice (some ⟨(w.alloc (.cells cs 44)).heap.size, 0, none⟩) 0 64) 0 [] := by
    rw [hw1]; exact World.ownsRow_made _ R 64 (by simp) (by decide) (by rw [hR]; exact size_madeCells _ _)
  have hb1 : Blk w1 w.heap.size 44 cs := by rw [hw1]; exact (Blk.new w 44 cs).alloc _
  have hy1 : w.grownBy w1 none := by rw [hw1]; exact by_alloc (by_alloc (by_refl _ _) _) _
  have hsz : (w.alloc (.cells cs 44)).heap.size = w.heap.size + 1 := by simp
  rw [hsz] at hown
  have Ho := Lib.hid (And.intro hown (And.intro hb1 hy1))
  have HW := Lib.hid hw1
  clear hown hb1 hy1 hw1 hR hsz
  have hi22 : (Try.prog.info? 44).map (·.size) = some cs.size := by rw [info22, Hcs.out]; simp [u8s, hl]
  have H22 := Lib.hid hi22
  clear hi22
  go_wp2_with (first | (refine wpList_load_row rfl 44 (.tmp 1) rfl w.heap.size rfl 44 cs (0, 0) _ Ho.out.2.1 Try.underlying44 rfl H22.out ?_) | (refine wpList_at HW.out ?_))
  go_loopg [3, 8] 32 (fun k v c wr => ∃ i, PH w l k v c wr i)
  case atStart => exact ⟨0, rfl, by omega, by omega, Ho.out.1, Ho.out.2.2⟩
  case round =>
    clear HW H22 Ho hmk
    obtain ⟨i, hr⟩ := hrel
    obtain rfl := hr.slot
    have hle := hr.le
    have Hr := Lib.hid hr
    clear hr
    by_cases hlt : i < 32
    · obtain ⟨b, hb⟩ : ∃ b, b = l.getD i 0 := ⟨_, rfl⟩
      have hix : ∀ W, (Instr.index 44 (.agg cs) (.int .i64 (i : Int))).run Try.prog W = .ok (.int .u8 (b.toNat : Int)) W := fun W => by
        rw [hb, Hcs.out]; exact arr_index l hl i hlt W
      have hown := Hr.out.own
      have hby := Hr.out.by_
      have htw : two b = [dig (b.toNat / 16), dig (b.toNat % 16)] := rfl
      have Hb := Lib.hid (And.intro hb htw)
      clear hb htw
      have b1 := b.toNat_lt
      have e1 : (b.toNat : Int) / 16 = ((b.toNat / 16 : Nat) : Int) := by omega
      have e2 := u8_and15 b
      have d1 := fun W => dig_index (b.toNat / 16) (by omega) W
      have d2 := fun W => dig_index (b.toNat % 16) (by omega) W
      have p0 : (0 : Int) ≤ (i : Int) := by omega
      have p1 : (i : Int) < 32 := by omega
      have wx : IntKind.i64.wrap ((i : Int) + 1) = (i : Int) + 1 := by rw [IntKind.wrap_i64]; omega
      generalize b.toNat / 16 = n1 at *
      generalize b.toNat % 16 = n2 at *
      generalize dig n1 = x1 at *
      generalize dig n2 = x2 at *
      clear b1
      go_wp2
      have hbase : w.heap.size ≤ (wr.drew.alloc (.cells #[.int .u8 (x1.toNat : Int), .int .u8 (x2.toNat : Int)] 5)).heap.size := by have := hby.size; simp; omega
      have hH : (wr.drew.alloc (.cells #[.int .u8 (x1.toNat : Int), .int .u8 (x2.toNat : Int)] 5)).heap.size = wr.heap.size + 1 := by simp
      have hml : 2 * i + 2 ≤ maxLen := by unfold maxLen; omega
      have hnew := World.news_of_block (cs := #[.int .u8 (x1.toNat : Int), .int .u8 (x2.toNat : Int)]) (t := 5) (fr := (0, 0)) (heap_alloc_new wr.drew (.cells #[.int .u8 (x1.toNat : Int), .int .u8 (x2.toNat : Int)] 5))
      have hown0 := (World.ownsRow.drew hown).alloc (.cells #[.int .u8 (x1.toNat : Int), .int .u8 (x2.toNat : Int)] 5)
      have Ho := Lib.hid (And.intro hown0 (And.intro hbase (And.intro hH (And.intro hml (And.intro (by_alloc (by_drew hby) (.cells #[.int .u8 (x1.toNat : Int), .int .u8 (x2.toNat : Int)] 5)) hnew)))))
      clear hown hby hbase hH hml hown0 hnew
      go_region_law ((refine step_append_lies _ rfl (.tmp 11) (.tmp 18) 47 rfl w.heap.size 5 i0 (.int .u8 0) 1 1 Try.underlying47 Hi.out.1 Hi.out.2.1 Hi.out.2.2.1 Hi.out.2.2.2 rfl (by decide) u3 (2 * i) _ rfl Ho.out.1 ⟨wr.heap.size, 0, none⟩ 2 2 [.int .u8 (x1.toNat : Int), .int .u8 (x2.toNat : Int)] rfl rfl Ho.out.2.2.2.2.2 ?hone (by decide) Ho.out.2.2.2.1 ?hb2 Ho.out.2.1 (wr.heap.size + 1) Ho.out.2.2.1 ?_; (case hone => simp [Value.oneCell']); (case hb2 => omega); intro gg cap w3 hown3 hby3 hat3 hlt3))
      all_goals
        have H3 := Lib.hid (And.intro hown3 hby3)
        clear hown3 hby3 hix d1 d2 e1 e2 hat3 hlt3
        go_wp2
        go_roundg (31 - i)
        case measure => have := Hr.out.num; omega
        case rel =>
          obtain ⟨hown3, hby3⟩ := H3.out
          have h5 := World.ownsRow.lt Ho.out.1
          refine ⟨i + 1, rfl, by omega, by omega, ?_, by_trans Ho.out.2.2.2.2.1 hby3 (fun x hx => .inr (h5 x hx).1)⟩
          rw [show 2 * (i + 1) = 2 * i + 2 by omega, hexL_take l i (by omega), ← Hb.out.1, Hb.out.2]
          rw [show u8s (hexL (l.take i) ++ [x1, x2]) = u8s (hexL (l.take i)) ++ [.int .u8 (x1.toNat : Int), .int .u8 (x2.toNat : Int)] by simp [u8s]]
          exact hown3
    · have hi : i = 32 := by omega
      subst hi
      have hown := Hr.out.own
      obtain ⟨g, cap, cur, hv, hge, hat, -, -, -, htk⟩ := hown.2.resolve_left (fun h => by have := h.2; omega)
      subst hv
      have hlt2 : g < wr.heap.size := Blk.lt (t := 5) (cs := cur) hat
      have hlen : (hexL l).length = 64 := by rw [hexL_len, hl]
      have hcell : ∀ j, j < 2 * 32 → ∀ W, wr.grownBy W none → W.cell? ⟨g, 0 + j, none⟩ = some (.int .u8 (((hexL l).map fun b => (b.toNat : Int)).getD j 0)) := fun j hj W hy => by
        have hc : W.cell? ⟨g, 0 + j, none⟩ = wr.cell? ⟨g, 0 + j, none⟩ := World.cell?_of_block (hy.block g hlt2 (by simp))
        rw [hc, Nat.zero_add, Blk.cell (t := 5) (cs := cur) hat, ← Array.getElem?_toList]
        have e : (cur.toList.take (2 * 32 * 1))[j]? = cur.toList[j]? := by rw [List.getElem?_take, if_pos (by omega)]
        rw [← e, htk, List.take_of_length_le (by omega)]
        have hj2 : j < (hexL l).length := by omega
        simp [u8s, List.getElem?_eq_getElem hj2]
      have hconv : ∀ W, wr.grownBy W none → (convert 47 9 (.slice (some ⟨g, 0, none⟩) (2 * 32) cap)).run Try.prog W = .ok (.string ⟨(hexL l).toArray⟩) W := fun W hy => by
        have h := run_convert_bytes_arg (P := Try.prog) W 47 5 Try.underlying47 Try.underlying5 g 0 (2 * 32) cap ((hexL l).map fun b => (b.toNat : Int)) (by simp [hlen]) (fun j hj => hcell j hj W hy) 9 Try.underlying9
        rw [h]
        have : strOfNums ((hexL l).map fun b => (b.toNat : Int)) = ⟨(hexL l).toArray⟩ := by simp [strOfNums, Function.comp_def]
        rw [this]
      have hc0 := hconv wr (World.grownBy.refl wr none)
      have hby := Hr.out.by_
      have Hby := Lib.hid hby
      clear hconv hcell htk hat hge hown hby Hr
      go_wp2
      go_ret
      exact ⟨rfl, Hby.out⟩
end Go.Proofs.Ytdloapfifhelbaa
