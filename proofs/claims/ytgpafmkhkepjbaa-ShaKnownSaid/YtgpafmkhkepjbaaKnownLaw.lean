/-
  ShaKnown: sums that are published (a closed statement; no condition). The sum of a million letters is reckoned by the kernel (XMillion).
-/
import Derived.Test.YtgpafmkhkepjbaaMillion
import Derived.Test.YtgpafmkhkepjbaaTurn
import Derived.Test.YtgpafmkhkepjbaaRow
import Derived.Laws.Concat
import Derived.Laws.MakeOwn
import Derived.Deep.RegionHeld3
namespace Go.Proofs.Ytgpafmkhkepjbaa.shaKnown
open Go.ChangeShapes Go.WideShapes Go.ChangeAt Go.RowKit

theorem u8s_zeros (n : Nat) : u8s (zeros n) = List.replicate n (.int .u8 0) := by unfold u8s zeros; rw [List.map_replicate]; rfl
theorem mk_zeros (n : Nat) (hn : n ≤ 100000) (W : World) : (Instr.makeSlice 28 (.int .i64 (n : Int)) (.int .i64 (n : Int))).run Try.prog W = .ok (.slice (some ⟨W.heap.size, 0, none⟩) n n) (W.alloc (.cells (u8s (zeros n)).toArray 5)) := by
  obtain ⟨i0, hi, hz0, hz1, hz2⟩ : ∃ i, Try.prog.info? 5 = some i ∧ i.zero = some (.int .u8 0) ∧ i.size = 1 ∧ i.bytes = 1 := ⟨_, rfl, rfl, rfl, rfl⟩
  have h := run_make (P := Try.prog) W 28 5 i0 (.int .u8 0) Try.underlying28 hi hz0 .i64 .i64 n n (by omega) (by omega) (by rw [hz2]; omega) (by omega)
  rw [h, hz1, Nat.mul_one]
  have e : madeCells (Value.int .u8 0).cells (n : Int).toNat = (u8s (zeros n)).toArray := by
    have : (n : Int).toNat = n := by omega
    rw [this, u8s_zeros]
    apply Array.ext
    · simp [madeCells]
    · intro i h1 h2
      simp only [madeCells, Array.getElem_map, List.getElem_toArray, List.getElem_replicate]
      show #[Value.int IntKind.u8 0][_ % 1]! = _
      rw [Nat.mod_one]
      rfl
  rw [e]
  rfl

theorem whole_data (s : ByteArray) : (whole s).data.toList = s.data.toList ++ (128 :: List.replicate (nz s.size) 0 ++ lens s.size 8) := by
  show (padded s (nz s.size) ++ lens s.size 8).toArray.toList = _
  unfold padded
  rw [List.append_assoc]
theorem ext_list (s : ByteArray) (a b : Nat) : (s.extract a b).data.toList = (s.data.toList.drop a).take (b - a) := by
  rw [ByteArray.data_extract, Array.toList_extract]
  try rfl
theorem bytes_eq {a b : ByteArray} (h : a.data.toList = b.data.toList) : a = b := by
  apply ByteArray.ext
  exact Array.ext' h
def lastB : ByteArray := ⟨(128 :: List.replicate 55 (0 : UInt8) ++ lens 1000000 8).toArray⟩
theorem last_data : lastB.data.toList = 128 :: List.replicate 55 (0 : UInt8) ++ lens 1000000 8 := by
  unfold lastB
  generalize 128 :: List.replicate 55 (0 : UInt8) ++ lens 1000000 8 = l
  simp
theorem block_a (n : Nat) (s : ByteArray) (hs : s.data.toList = List.replicate n 97) (i : Nat) (hi : 64 * i + 64 ≤ n) : (whole s).extract (64 * i) (64 * i + 64) = ev.aaa := by
  apply bytes_eq
  rw [ext_list, whole_data, hs]
  rw [List.drop_append_of_le_length (by rw [List.length_replicate]; omega), List.drop_replicate, List.take_append_of_le_length (by rw [List.length_replicate]; omega), List.take_replicate]
  show _ = List.replicate 64 97
  congr 1
  omega
theorem blocks_a (n : Nat) (s : ByteArray) (hs : s.data.toList = List.replicate n 97) : ∀ i, 64 * i ≤ n → V8.blocks (whole s) i = ev.iterV (ev.kwOf ev.aaa) i V8.init
  | 0, _ => rfl
  | i + 1, h => by
    rw [V8.blocks, blocks_a n s hs i (by omega), block_a n s hs i (by omega), ev.next_fold, ← ev.iterV_add]
theorem sum_a (n : Nat) (hn : n = 1000000) (s : ByteArray) (hs : s.data.toList = List.replicate n 97) : sumOf s = ev.st5.next lastB := by
  have hsz : s.size = n := by
    have : s.data.toList.length = s.size := by simp
    rw [← this, hs, List.length_replicate]
  have hz : nz s.size = 55 := by rw [hsz, hn]; rfl
  have hw : (whole s).size = 1000064 := by
    have h1 : (whole s).size = (whole s).data.toList.length := by simp
    rw [h1, whole_data, hs, hz, List.length_append, List.length_replicate, List.length_append, List.length_cons, List.length_replicate, lens_len, hn]
  unfold sumOf
  rw [hw, show 1000064 / 64 = 15625 + 1 from rfl, V8.blocks, blocks_a n s hs 15625 (by omega), ev.run_all]
  have e : (whole s).extract (64 * 15625) (64 * 15625 + 64) = lastB := by
    apply bytes_eq
    rw [ext_list, whole_data, hs, hz, hsz]
    rw [List.drop_append_of_le_length (by rw [List.length_replicate]; omega), List.drop_replicate, show n - 64 * 15625 = 0 by omega, List.replicate_zero, List.nil_append, hn, show 64 * 15625 + 64 - 64 * 15625 = 64 from rfl]
    have hl : (128 :: List.replicate 55 (0 : UInt8) ++ lens 1000000 8).length = 64 := by rw [List.length_append, List.length_cons, List.length_replicate, lens_len]
    rw [List.take_of_length_le (by rw [hl]; exact Nat.le_refl _)]
    exact last_data.symm
  rw [e]
def millionHex : List UInt8 := [99, 100, 99, 55, 54, 101, 53, 99, 57, 57, 49, 52, 102, 98, 57, 50, 56, 49, 97, 49, 99, 55, 101, 50, 56, 52, 100, 55, 51, 101, 54, 55, 102, 49, 56, 48, 57, 97, 52, 56, 97, 52, 57, 55, 50, 48, 48, 101, 48, 52, 54, 100, 51, 57, 99, 99, 99, 55, 49, 49, 50, 99, 100, 48]
theorem million_hex (n : Nat) (hn : n = 1000000) (s : ByteArray) (hs : s.data.toList = List.replicate n 97) : hexL (sumB (sumOf s)) = millionHex := by
  rw [sum_a n hn s hs]
  kernel_rfl

def x0 : ByteArray := ⟨#[]⟩
def y0 : ByteArray := ⟨#[101, 51, 98, 48, 99, 52, 52, 50, 57, 56, 102, 99, 49, 99, 49, 52, 57, 97, 102, 98, 102, 52, 99, 56, 57, 57, 54, 102, 98, 57, 50, 52, 50, 55, 97, 101, 52, 49, 101, 52, 54, 52, 57, 98, 57, 51, 52, 99, 97, 52, 57, 53, 57, 57, 49, 98, 55, 56, 53, 50, 98, 56, 53, 53]⟩
theorem hex0 : (⟨(hexL (sumB (sumOf x0))).toArray⟩ : ByteArray) = y0 := by kernel_rfl
def x1 : ByteArray := ⟨#[97, 98, 99]⟩
def y1 : ByteArray := ⟨#[98, 97, 55, 56, 49, 54, 98, 102, 56, 102, 48, 49, 99, 102, 101, 97, 52, 49, 52, 49, 52, 48, 100, 101, 53, 100, 97, 101, 50, 50, 50, 51, 98, 48, 48, 51, 54, 49, 97, 51, 57, 54, 49, 55, 55, 97, 57, 99, 98, 52, 49, 48, 102, 102, 54, 49, 102, 50, 48, 48, 49, 53, 97, 100]⟩
theorem hex1 : (⟨(hexL (sumB (sumOf x1))).toArray⟩ : ByteArray) = y1 := by kernel_rfl
def x2 : ByteArray := ⟨#[97, 98, 99, 100, 98, 99, 100, 101, 99, 100, 101, 102, 100, 101, 102, 103, 101, 102, 103, 104, 102, 103, 104, 105, 103, 104, 105, 106, 104, 105, 106, 107, 105, 106, 107, 108, 106, 107, 108, 109, 107, 108, 109, 110, 108, 109, 110, 111, 109, 110, 111, 112, 110, 111, 112, 113]⟩
def y2 : ByteArray := ⟨#[50, 52, 56, 100, 54, 97, 54, 49, 100, 50, 48, 54, 51, 56, 98, 56, 101, 53, 99, 48, 50, 54, 57, 51, 48, 99, 51, 101, 54, 48, 51, 57, 97, 51, 51, 99, 101, 52, 53, 57, 54, 52, 102, 102, 50, 49, 54, 55, 102, 54, 101, 99, 101, 100, 100, 52, 49, 57, 100, 98, 48, 54, 99, 49]⟩
theorem hex2 : (⟨(hexL (sumB (sumOf x2))).toArray⟩ : ByteArray) = y2 := by kernel_rfl
theorem sum_hex (x y : ByteArray) (hx : x.size ≤ 536870912) (h : (⟨(hexL (sumB (sumOf x))).toArray⟩ : ByteArray) = y) : ∃ A : Array Value,
    (∀ W, Calls Try.prog 14 #[.string x] W fun e w' => e = .returned (.agg A) ∧ W.grownBy w' none) ∧ (∀ W, Calls Try.prog 17 #[.agg A] W fun e w' => e = .returned (.string y) ∧ W.grownBy w' none) :=
  ⟨(u8s (sumB (sumOf x))).toArray, fun W => sum_bytes x W hx, fun W => by rw [← h]; exact hex_any _ (sumB_len _) W⟩
theorem str_add (a b : ByteArray) (h : a.size + b.size ≤ 9223372036854775807) (W : World) : (Op.stringOp .add a b).run Try.prog W = .ok (.string (a ++ b)) W := run_string_add_sum W _ _ h
theorem app_data (a b : ByteArray) : (a ++ b).data.toList = a.data.toList ++ b.data.toList := by rw [ByteArray.data_append, Array.toList_append]
def fillL (c : UInt8) (n i : Nat) : List UInt8 := List.replicate i c ++ List.replicate (n - i) 0
theorem fill_len (c : UInt8) (n i : Nat) (h : i ≤ n) : (fillL c n i).length = n := by simp [fillL]; omega
theorem fill_set (c : UInt8) (n i : Nat) (h : i < n) : (fillL c n i).set i c = fillL c n (i + 1) := by
  unfold fillL
  obtain ⟨m, rfl⟩ : ∃ m, n = i + (m + 1) := ⟨n - i - 1, by omega⟩
  rw [show i + (m + 1) - i = m + 1 by omega, show i + (m + 1) - (i + 1) = m by omega, List.replicate_succ, List.set_append_right _ _ (by simp)]
  simp [List.replicate_succ']
theorem fill_none (c : UInt8) (n : Nat) : fillL c n 0 = zeros n := by unfold fillL zeros; rw [List.replicate_zero, List.nil_append, Nat.sub_zero]
theorem fill_full (c : UInt8) (n : Nat) : fillL c n n = List.replicate n c := by unfold fillL; rw [Nat.sub_self, List.replicate_zero, List.append_nil]
structure K1 (w0 : World) (g : Nat) (cs : Array Value) (m : Nat) (c : Value) (wr : World) (i : Nat) : Prop where
  slot : c = .int .i64 i
  le : i ≤ 3
  num : m = 3 - i
  blk : Blk wr g 34 cs
  by_ : w0.grownBy wr none
structure KP (w0 : World) (g g2 : Nat) (cs : Array Value) (X Y : ByteArray) (W : World) : Prop where
  blk : Blk W g 34 cs
  p : Blk W g2 34 #[.string X, .string Y]
  by_ : w0.grownBy W none
section
variable {w0 W W' : World} {g g2 : Nat} {cs : Array Value} {X Y : ByteArray}
theorem KP.drew (h : KP w0 g g2 cs X Y W) : KP w0 g g2 cs X Y W.drew := ⟨h.blk.drew, h.p.drew, by_drew h.by_⟩
theorem KP.grown (h : KP w0 g g2 cs X Y W) (y : W.grownBy W' none) : KP w0 g g2 cs X Y W' := ⟨h.blk.grown y (by simp), h.p.grown y (by simp), by_trans h.by_ y (by simp)⟩
theorem KP.c0 (h : KP w0 g g2 cs X Y W) : W.cell? ⟨g2, 0, none⟩ = some (.string X) := h.p.cell 0
theorem KP.c1 (h : KP w0 g g2 cs X Y W) : W.cell? ⟨g2, 1, none⟩ = some (.string Y) := h.p.cell 1
end
structure K2 (w0 : World) (g : Nat) (n : Nat) (m : Nat) (c : Value) (wr : World) (i : Nat) : Prop where
  slot : c = .int .i64 i
  le : i ≤ n
  num : m = n - i
  blk : Blk wr g 5 (u8s (fillL 97 n i)).toArray
  by_ : w0.grownBy wr none
structure K3 (w0 : World) (g n : Nat) (R : List UInt8) (m : Nat) (c d : Value) (wr : World) (i : Nat) (T : ByteArray) : Prop where
  slot5 : c = .string T
  slot : d = .int .i64 i
  le : i ≤ n
  num : m = n - i
  data : T.data.toList = List.replicate (n * i) 97
  blk : Blk wr g 5 (u8s R).toArray
  by_ : w0.grownBy wr none

set_option maxRecDepth 100000 in
set_option maxHeartbeats 4000000 in
theorem walk (w : World) : Calls Try.prog 8 #[] w fun e w' => e = .returned (.bool true) ∧ w.grownBy w' none := by
  obtain ⟨A0, hA0, hB0⟩ := sum_hex x0 y0 (by decide) hex0
  obtain ⟨A1, hA1, hB1⟩ := sum_hex x1 y1 (by decide) hex1
  obtain ⟨A2, hA2, hB2⟩ := sum_hex x2 y2 (by decide) hex2
  have Hc := Lib.hid (And.intro hA0 (And.intro hB0 (And.intro hA1 (And.intro hB1 (And.intro hA2 hB2)))))
  clear hA0 hB0 hA1 hB1 hA2 hB2
  go_enter Try.func8, Try.ntmps8
  go_wp2
  change Code.wp _ _ _ { tmps := _, defers := [] } (w.alloc (.cells #[.string x0, .string y0, .string x1, .string y1, .string x2, .string y2] 34))
  have hb0 := Blk.new w 34 #[Value.string x0, .string y0, .string x1, .string y1, .string x2, .string y2]
  have hy0 := by_alloc (by_refl w none) (.cells #[Value.string x0, .string y0, .string x1, .string y1, .string x2, .string y2] 34)
  generalize w.alloc (.cells #[Value.string x0, .string y0, .string x1, .string y1, .string x2, .string y2] 34) = w1 at *
  generalize x0 = X0 at *
  generalize y0 = Y0 at *
  generalize x1 = X1 at *
  generalize y1 = Y1 at *
  generalize x2 = X2 at *
  generalize y2 = Y2 at *
  have H0 := Lib.hid (And.intro hb0 hy0)
  clear hb0 hy0
  obtain ⟨cs, hcs⟩ : ∃ cs : Array Value, cs = #[.string X0, .string Y0, .string X1, .string Y1, .string X2, .string Y2] := ⟨_, rfl⟩
  rw [← hcs] at H0
  have Hcs := Lib.hid hcs
  clear hcs
  go_loopg [12] 3 (fun m c wr => ∃ i, K1 w w.heap.size cs m c wr i)
  case atStart => exact ⟨0, rfl, by omega, by omega, H0.out.1, H0.out.2⟩
  case round =>
    clear H0
    obtain ⟨i, hr⟩ := hrel
    obtain rfl := hr.slot
    have hle := hr.le
    have Hr := Lib.hid hr
    clear hr
    by_cases hlt : i < 3
    · have hb := Hr.out.blk
      rw [Hcs.out] at hb
      have c0 : wr.cell? ⟨w.heap.size, 0, none⟩ = some (.string X0) := hb.cell 0
      have c1 : wr.cell? ⟨w.heap.size, 1, none⟩ = some (.string Y0) := hb.cell 1
      have c2 : wr.cell? ⟨w.heap.size, 2, none⟩ = some (.string X1) := hb.cell 2
      have c3 : wr.cell? ⟨w.heap.size, 3, none⟩ = some (.string Y1) := hb.cell 3
      have c4 : wr.cell? ⟨w.heap.size, 4, none⟩ = some (.string X2) := hb.cell 4
      have c5 : wr.cell? ⟨w.heap.size, 5, none⟩ = some (.string Y2) := hb.cell 5
      have hcsb := Hr.out.blk
      have hlt2 := hcsb.lt
      have hyr := Hr.out.by_
      have hnum := Hr.out.num
      have H := Lib.hid (And.intro hcsb (And.intro hyr (And.intro hlt2 hnum)))
      clear hb hcsb hyr hlt2 hnum Hr
      rcases (show i = 0 ∨ i = 1 ∨ i = 2 by omega) with rfl | rfl | rfl
      · go_wp2
        have hkp : KP w w.heap.size wr.heap.size cs X0 Y0 (wr.alloc (.cells #[.string X0, .string Y0] 34)) := ⟨H.out.1.alloc _, Blk.new wr 34 _, by_alloc H.out.2.1 _⟩
        clear c0 c1 c2 c3 c4 c5
        refine wp_region_noPanic ?_
        refine wp_region_held_drew (S := fun W => KP w w.heap.size wr.heap.size cs X0 Y0 W) (by kernel_rfl) (hkp.drew) (fun hHeld => ?_)
        refine wpAnyH_take (i := 0) (oi := _) (v := _) rfl (by kernel_rfl) (by kernel_rfl) (by kernel_rfl) (fun _ _ _ h => h) (Or.inl ⟨by rfl, fun _ _ => by go_simp; try rfl⟩) hHeld ?_
        try simp only [Act.put, List.getElem_toArray, List.getElem_cons_zero, List.getElem_cons_succ, List.setIfInBounds_toArray, List.set_cons_zero, List.set_cons_succ]
        refine wpAnyH_take (i := 4) (oi := _) (v := _) rfl (by kernel_rfl) (by kernel_rfl) (by kernel_rfl) (fun _ _ _ h => h) (Or.inl ⟨by rfl, fun _ _ => by go_simp; try rfl⟩) hHeld ?_
        try simp only [Act.put, List.getElem_toArray, List.getElem_cons_zero, List.getElem_cons_succ, List.setIfInBounds_toArray, List.set_cons_zero, List.set_cons_succ]
        refine wpAnyH_take (i := 1) (oi := _) (v := _) rfl (by kernel_rfl) (by kernel_rfl) (by kernel_rfl) (fun _ _ _ h => h) (Or.inl ⟨by rfl, fun _ h => by have hx := h.c0; (try simp only [List.getElem_toArray, List.getElem_cons_zero, List.getElem_cons_succ]); go_simp; try rfl⟩) hHeld ?_
        try simp only [Act.put, List.getElem_toArray, List.getElem_cons_zero, List.getElem_cons_succ, List.setIfInBounds_toArray, List.set_cons_zero, List.set_cons_succ]
        refine wpAnyH_take (i := 5) (oi := _) (v := _) rfl (by kernel_rfl) (by kernel_rfl) (by kernel_rfl) (fun _ _ _ h => h) (Or.inl ⟨by rfl, fun _ h => by have hx := h.c1; (try simp only [List.getElem_toArray, List.getElem_cons_zero, List.getElem_cons_succ]); go_simp; try rfl⟩) hHeld ?_
        try simp only [Act.put, List.getElem_toArray, List.getElem_cons_zero, List.getElem_cons_succ, List.setIfInBounds_toArray, List.set_cons_zero, List.set_cons_succ]
        refine wpAnyH_ready (rs := [2]) (by kernel_rfl) (by simp) ?_
        refine AllReadyH.cons (o := _) rfl (fun K hK => ?_) AllReadyH.nil
        go_simp
        refine (Hc.out.1 _).mono ?_
        rintro e v2 ⟨rfl, z2⟩
        dsimp only
        refine hK.out _ _ (hHeld.grown z2) (fun hHeld => ?_)
        clear hK K
        try simp only [Act.put, List.getElem_toArray, List.getElem_cons_zero, List.getElem_cons_succ, List.setIfInBounds_toArray, List.set_cons_zero, List.set_cons_succ]
        refine wpAnyH_ready (rs := [3]) (by kernel_rfl) (by simp) ?_
        refine AllReadyH.cons (o := _) rfl (fun K hK => ?_) AllReadyH.nil
        go_simp
        refine (Hc.out.2.1 _).mono ?_
        rintro e v3 ⟨rfl, z3⟩
        dsimp only
        refine hK.out _ _ (hHeld.grown z3) (fun hHeld => ?_)
        clear hK K
        try simp only [Act.put, List.getElem_toArray, List.getElem_cons_zero, List.getElem_cons_succ, List.setIfInBounds_toArray, List.set_cons_zero, List.set_cons_succ]
        refine wpAnyH_take (i := 6) (oi := _) (v := _) rfl (by kernel_rfl) (by kernel_rfl) (by kernel_rfl) (fun _ _ _ h => h) (Or.inl ⟨by rfl, fun _ _ => by go_simp; try rfl⟩) hHeld ?_
        try simp only [Act.put, List.getElem_toArray, List.getElem_cons_zero, List.getElem_cons_succ, List.setIfInBounds_toArray, List.set_cons_zero, List.set_cons_succ]
        refine wpAnyH_done (by kernel_rfl) (NoPanic.normal ?_) _
        go_wp2
        go_roundg 2
        case measure => have := H.out.2.2.2; omega
        case rel => exact ⟨1, by first | rfl | simp, by omega, by omega, hHeld.blk, hHeld.by_⟩
      · go_wp2
        have hkp : KP w w.heap.size wr.heap.size cs X1 Y1 (wr.alloc (.cells #[.string X1, .string Y1] 34)) := ⟨H.out.1.alloc _, Blk.new wr 34 _, by_alloc H.out.2.1 _⟩
        clear c0 c1 c2 c3 c4 c5
        refine wp_region_noPanic ?_
        refine wp_region_held_drew (S := fun W => KP w w.heap.size wr.heap.size cs X1 Y1 W) (by kernel_rfl) (hkp.drew) (fun hHeld => ?_)
        refine wpAnyH_take (i := 0) (oi := _) (v := _) rfl (by kernel_rfl) (by kernel_rfl) (by kernel_rfl) (fun _ _ _ h => h) (Or.inl ⟨by rfl, fun _ _ => by go_simp; try rfl⟩) hHeld ?_
        try simp only [Act.put, List.getElem_toArray, List.getElem_cons_zero, List.getElem_cons_succ, List.setIfInBounds_toArray, List.set_cons_zero, List.set_cons_succ]
        refine wpAnyH_take (i := 4) (oi := _) (v := _) rfl (by kernel_rfl) (by kernel_rfl) (by kernel_rfl) (fun _ _ _ h => h) (Or.inl ⟨by rfl, fun _ _ => by go_simp; try rfl⟩) hHeld ?_
        try simp only [Act.put, List.getElem_toArray, List.getElem_cons_zero, List.getElem_cons_succ, List.setIfInBounds_toArray, List.set_cons_zero, List.set_cons_succ]
        refine wpAnyH_take (i := 1) (oi := _) (v := _) rfl (by kernel_rfl) (by kernel_rfl) (by kernel_rfl) (fun _ _ _ h => h) (Or.inl ⟨by rfl, fun _ h => by have hx := h.c0; (try simp only [List.getElem_toArray, List.getElem_cons_zero, List.getElem_cons_succ]); go_simp; try rfl⟩) hHeld ?_
        try simp only [Act.put, List.getElem_toArray, List.getElem_cons_zero, List.getElem_cons_succ, List.setIfInBounds_toArray, List.set_cons_zero, List.set_cons_succ]
        refine wpAnyH_take (i := 5) (oi := _) (v := _) rfl (by kernel_rfl) (by kernel_rfl) (by kernel_rfl) (fun _ _ _ h => h) (Or.inl ⟨by rfl, fun _ h => by have hx := h.c1; (try simp only [List.getElem_toArray, List.getElem_cons_zero, List.getElem_cons_succ]); go_simp; try rfl⟩) hHeld ?_
        try simp only [Act.put, List.getElem_toArray, List.getElem_cons_zero, List.getElem_cons_succ, List.setIfInBounds_toArray, List.set_cons_zero, List.set_cons_succ]
        refine wpAnyH_ready (rs := [2]) (by kernel_rfl) (by simp) ?_
        refine AllReadyH.cons (o := _) rfl (fun K hK => ?_) AllReadyH.nil
        go_simp
        refine (Hc.out.2.2.1 _).mono ?_
        rintro e v2 ⟨rfl, z2⟩
        dsimp only
        refine hK.out _ _ (hHeld.grown z2) (fun hHeld => ?_)
        clear hK K
        try simp only [Act.put, List.getElem_toArray, List.getElem_cons_zero, List.getElem_cons_succ, List.setIfInBounds_toArray, List.set_cons_zero, List.set_cons_succ]
        refine wpAnyH_ready (rs := [3]) (by kernel_rfl) (by simp) ?_
        refine AllReadyH.cons (o := _) rfl (fun K hK => ?_) AllReadyH.nil
        go_simp
        refine (Hc.out.2.2.2.1 _).mono ?_
        rintro e v3 ⟨rfl, z3⟩
        dsimp only
        refine hK.out _ _ (hHeld.grown z3) (fun hHeld => ?_)
        clear hK K
        try simp only [Act.put, List.getElem_toArray, List.getElem_cons_zero, List.getElem_cons_succ, List.setIfInBounds_toArray, List.set_cons_zero, List.set_cons_succ]
        refine wpAnyH_take (i := 6) (oi := _) (v := _) rfl (by kernel_rfl) (by kernel_rfl) (by kernel_rfl) (fun _ _ _ h => h) (Or.inl ⟨by rfl, fun _ _ => by go_simp; try rfl⟩) hHeld ?_
        try simp only [Act.put, List.getElem_toArray, List.getElem_cons_zero, List.getElem_cons_succ, List.setIfInBounds_toArray, List.set_cons_zero, List.set_cons_succ]
        refine wpAnyH_done (by kernel_rfl) (NoPanic.normal ?_) _
        go_wp2
        go_roundg 1
        case measure => have := H.out.2.2.2; omega
        case rel => exact ⟨2, by first | rfl | simp, by omega, by omega, hHeld.blk, hHeld.by_⟩
      · go_wp2
        have hkp : KP w w.heap.size wr.heap.size cs X2 Y2 (wr.alloc (.cells #[.string X2, .string Y2] 34)) := ⟨H.out.1.alloc _, Blk.new wr 34 _, by_alloc H.out.2.1 _⟩
        clear c0 c1 c2 c3 c4 c5
        refine wp_region_noPanic ?_
        refine wp_region_held_drew (S := fun W => KP w w.heap.size wr.heap.size cs X2 Y2 W) (by kernel_rfl) (hkp.drew) (fun hHeld => ?_)
        refine wpAnyH_take (i := 0) (oi := _) (v := _) rfl (by kernel_rfl) (by kernel_rfl) (by kernel_rfl) (fun _ _ _ h => h) (Or.inl ⟨by rfl, fun _ _ => by go_simp; try rfl⟩) hHeld ?_
        try simp only [Act.put, List.getElem_toArray, List.getElem_cons_zero, List.getElem_cons_succ, List.setIfInBounds_toArray, List.set_cons_zero, List.set_cons_succ]
        refine wpAnyH_take (i := 4) (oi := _) (v := _) rfl (by kernel_rfl) (by kernel_rfl) (by kernel_rfl) (fun _ _ _ h => h) (Or.inl ⟨by rfl, fun _ _ => by go_simp; try rfl⟩) hHeld ?_
        try simp only [Act.put, List.getElem_toArray, List.getElem_cons_zero, List.getElem_cons_succ, List.setIfInBounds_toArray, List.set_cons_zero, List.set_cons_succ]
        refine wpAnyH_take (i := 1) (oi := _) (v := _) rfl (by kernel_rfl) (by kernel_rfl) (by kernel_rfl) (fun _ _ _ h => h) (Or.inl ⟨by rfl, fun _ h => by have hx := h.c0; (try simp only [List.getElem_toArray, List.getElem_cons_zero, List.getElem_cons_succ]); go_simp; try rfl⟩) hHeld ?_
        try simp only [Act.put, List.getElem_toArray, List.getElem_cons_zero, List.getElem_cons_succ, List.setIfInBounds_toArray, List.set_cons_zero, List.set_cons_succ]
        refine wpAnyH_take (i := 5) (oi := _) (v := _) rfl (by kernel_rfl) (by kernel_rfl) (by kernel_rfl) (fun _ _ _ h => h) (Or.inl ⟨by rfl, fun _ h => by have hx := h.c1; (try simp only [List.getElem_toArray, List.getElem_cons_zero, List.getElem_cons_succ]); go_simp; try rfl⟩) hHeld ?_
        try simp only [Act.put, List.getElem_toArray, List.getElem_cons_zero, List.getElem_cons_succ, List.setIfInBounds_toArray, List.set_cons_zero, List.set_cons_succ]
        refine wpAnyH_ready (rs := [2]) (by kernel_rfl) (by simp) ?_
        refine AllReadyH.cons (o := _) rfl (fun K hK => ?_) AllReadyH.nil
        go_simp
        refine (Hc.out.2.2.2.2.1 _).mono ?_
        rintro e v2 ⟨rfl, z2⟩
        dsimp only
        refine hK.out _ _ (hHeld.grown z2) (fun hHeld => ?_)
        clear hK K
        try simp only [Act.put, List.getElem_toArray, List.getElem_cons_zero, List.getElem_cons_succ, List.setIfInBounds_toArray, List.set_cons_zero, List.set_cons_succ]
        refine wpAnyH_ready (rs := [3]) (by kernel_rfl) (by simp) ?_
        refine AllReadyH.cons (o := _) rfl (fun K hK => ?_) AllReadyH.nil
        go_simp
        refine (Hc.out.2.2.2.2.2 _).mono ?_
        rintro e v3 ⟨rfl, z3⟩
        dsimp only
        refine hK.out _ _ (hHeld.grown z3) (fun hHeld => ?_)
        clear hK K
        try simp only [Act.put, List.getElem_toArray, List.getElem_cons_zero, List.getElem_cons_succ, List.setIfInBounds_toArray, List.set_cons_zero, List.set_cons_succ]
        refine wpAnyH_take (i := 6) (oi := _) (v := _) rfl (by kernel_rfl) (by kernel_rfl) (by kernel_rfl) (fun _ _ _ h => h) (Or.inl ⟨by rfl, fun _ _ => by go_simp; try rfl⟩) hHeld ?_
        try simp only [Act.put, List.getElem_toArray, List.getElem_cons_zero, List.getElem_cons_succ, List.setIfInBounds_toArray, List.set_cons_zero, List.set_cons_succ]
        refine wpAnyH_done (by kernel_rfl) (NoPanic.normal ?_) _
        go_wp2
        go_roundg 0
        case measure => have := H.out.2.2.2; omega
        case rel => exact ⟨3, by first | rfl | simp, by omega, by omega, hHeld.blk, hHeld.by_⟩
    · have hi : i = 3 := by omega
      subst hi
      have hyr := Hr.out.by_
      have hmk : (Instr.makeSlice 28 (.int .i64 1000) (.int .i64 1000)).run Try.prog wr = .ok (.slice (some ⟨wr.heap.size, 0, none⟩) 1000 1000) (wr.alloc (.cells (u8s (zeros 1000)).toArray 5)) := mk_zeros 1000 (by decide) wr
      have hb := Blk.new wr 5 (u8s (zeros 1000)).toArray
      have hy := by_alloc hyr (.cells (u8s (zeros 1000)).toArray 5)
      have hsz := hyr.size
      obtain ⟨n, hn⟩ : ∃ n : Nat, n = 1000 := ⟨_, rfl⟩
      rw [← hn, ← fill_none 97] at hb
      rw [← hn, ← fill_none 97] at hy
      have hmk2 : (Instr.makeSlice 28 (.int .i64 1000) (.int .i64 1000)).run Try.prog wr = .ok (.slice (some ⟨wr.heap.size, 0, none⟩) n n) (wr.alloc (.cells (u8s (fillL 97 n 0)).toArray 5)) := by rw [hmk, fill_none, hn]
      have Hn := Lib.hid hn
      have hn1 : (n : Int) = 1000 := by omega
      have H1 := Lib.hid (And.intro hb (And.intro hy hsz))
      clear hmk hb hy hsz hn hyr Hr Hc Hcs
      go_wp2
      generalize hg5 : wr.heap.size = g5 at *
      go_loopg [4] n (fun m c wr => ∃ i, K2 w g5 n m c wr i)
      case atStart => exact ⟨0, rfl, by omega, by omega, H1.out.1, H1.out.2.1⟩
      case round =>
        have hge := H1.out.2.2
        have Hge := Lib.hid hge
        clear hge H1 hmk2 hg5
        obtain ⟨i, hr⟩ := hrel
        obtain rfl := hr.slot
        have hle := hr.le
        have Hr := Lib.hid hr
        clear hr
        by_cases hlt : i < n
        · have hb := Hr.out.blk
          have hl := fill_len 97 n i hle
          have d0 : ∃ u, wr.cell? ⟨g5, i, none⟩ = some u := ⟨_, by rw [hb.cell]; exact Array.getElem?_eq_getElem (by rw [List.size_toArray, u8s_len, hl]; exact hlt)⟩
          obtain ⟨u0, d0⟩ := d0
          have f0 : wr.frozen? ⟨g5, i, none⟩ = false := hb.frozen i
          have hset := hb.set_ i (.int .u8 ((97 : UInt8).toNat : Int))
          rw [u8s_set, fill_set 97 n i hlt] at hset
          have hset2 : Blk (wr.setCell ⟨g5, i, none⟩ (.int .u8 97)) g5 5 (u8s (fillL 97 n (i + 1))).toArray := hset
          have h3 := by_set Hr.out.by_ (p := ⟨g5, i, none⟩) (.inr Hge.out) (.int .u8 97)
          have hrel : K2 w g5 n (n - (i + 1)) (.int .i64 ((i : Int) + 1)) (wr.setCell ⟨g5, i, none⟩ (.int .u8 97)) (i + 1) := ⟨by simp, by omega, by omega, hset2, h3⟩
          have Hn2 := Lib.hid (And.intro hrel (show n - (i + 1) < gk by have := Hr.out.num; omega))
          clear hb hl hset hset2 h3 hrel Hr
          have p0 : (0 : Int) ≤ (i : Int) := by omega
          have p1 : (i : Int) < (n : Int) := by omega
          have p2 : (i : Int) < 1000 := by omega
          have wx : IntKind.i64.wrap ((i : Int) + 1) = (i : Int) + 1 := by rw [IntKind.wrap_i64]; omega
          go_wp2
          go_roundg (n - (i + 1))
          case measure => exact Hn2.out.2
          case rel => exact ⟨i + 1, Hn2.out.1⟩
        · have hi : i = n := by omega
          subst hi
          have hb := Hr.out.blk
          rw [fill_full] at hb
          have hyr := Hr.out.by_
          obtain ⟨R, hR⟩ : ∃ R, R = List.replicate i (97 : UInt8) := ⟨_, rfl⟩
          rw [← hR] at hb
          have hRl : R.length = i := by rw [hR, List.length_replicate]
          have hap : ∀ j, List.replicate (i * j) (97 : UInt8) ++ R = List.replicate (i * (j + 1)) 97 := fun j => by
            rw [hR, List.replicate_append_replicate, Nat.mul_add, Nat.mul_one]
          have H2 := Lib.hid (And.intro hb (And.intro hyr (And.intro hRl hap)))
          have hlast : ¬ (i : Int) < (i : Int) := by omega
          clear hb hyr hR hRl hap Hr
          go_wp2
          go_loopg [5, 6] i (fun m c d wr => ∃ j T, K3 w g5 i R m c d wr j T)
          case atStart => exact ⟨0, ⟨#[]⟩, rfl, rfl, by omega, by omega, by rw [Nat.mul_zero]; rfl, H2.out.1, H2.out.2.1⟩
          case round =>
            obtain ⟨j, T, hr⟩ := hrel
            obtain rfl := hr.slot5
            obtain rfl := hr.slot
            have hle3 := hr.le
            have Hr := Lib.hid hr
            clear hr
            have hTs : T.size = i * j := by
              have h : T.data.toList.length = T.size := by simp
              rw [← h, Hr.out.data, List.length_replicate]
            by_cases hlt3 : j < i
            · have hcv := conv_blk H2.out.2.2.1 Hr.out.blk
              obtain ⟨L, hL⟩ : ∃ L : ByteArray, L = ⟨R.toArray⟩ := ⟨_, rfl⟩
              have hLd : L.data.toList = R := by rw [hL]
              have hLs : L.size = i := by rw [hL]; show R.toArray.size = _; rw [List.size_toArray, H2.out.2.2.1]
              rw [← hL] at hcv
              have hij : i * j ≤ 1000000 := by
                have h1 := Hn.out
                have h2 : j ≤ 1000 := by omega
                rw [h1]; omega
              have had := fun W => str_add T L (by rw [hTs, hLs]; omega) W
              have hnd : (T ++ L).data.toList = List.replicate (i * (j + 1)) 97 := by rw [app_data, hLd, Hr.out.data, H2.out.2.2.2]
              generalize T ++ L = T2 at *
              have hrel : K3 w g5 i R (i - (j + 1)) (.string T2) (.int .i64 ((j : Int) + 1)) wr (j + 1) T2 := ⟨rfl, by simp, by omega, by omega, hnd, Hr.out.blk, Hr.out.by_⟩
              have Hn3 := Lib.hid (And.intro hrel (show i - (j + 1) < gk by have := Hr.out.num; omega))
              clear hL hLd hLs hij hnd hrel Hr hTs
              have p1 : (j : Int) < 1000 := by omega
              have wx : IntKind.i64.wrap ((j : Int) + 1) = (j : Int) + 1 := by rw [IntKind.wrap_i64]; omega
              go_wp2
              go_roundg (i - (j + 1))
              case measure => exact Hn3.out.2
              case rel => exact ⟨j + 1, T2, Hn3.out.1⟩
            · have hj : j = i := by omega
              subst hj
              obtain ⟨N, hN⟩ : ∃ N, N = j * j := ⟨_, rfl⟩
              have hNm : N = 1000000 := by rw [hN, Hn.out]
              have hd := Hr.out.data
              rw [← hN] at hd hTs
              obtain ⟨A, hA, hB⟩ := sum_hex T ⟨millionHex.toArray⟩ (by rw [hTs, hNm]; decide) (by rw [million_hex N hNm T hd])
              have hx1 : ((⟨millionHex.toArray⟩ : ByteArray).toList == [99, 100, 99, 55, 54, 101, 53, 99, 57, 57, 49, 52, 102, 98, 57, 50, 56, 49, 97, 49, 99, 55, 101, 50, 56, 52, 100, 55, 51, 101, 54, 55, 102, 49, 56, 48, 57, 97, 52, 56, 97, 52, 57, 55, 50, 48, 48, 101, 48, 52, 54, 100, 51, 57, 99, 99, 99, 55, 49, 49, 50, 99, 100, 48]) = true := by kernel_rfl
              have hh : ∀ W, Calls Try.prog 17 #[.agg #[.int .u8 0, .int .u8 1, .int .u8 171, .int .u8 0, .int .u8 0, .int .u8 0, .int .u8 0, .int .u8 0, .int .u8 0, .int .u8 0, .int .u8 0, .int .u8 0, .int .u8 0, .int .u8 0, .int .u8 0, .int .u8 0, .int .u8 0, .int .u8 0, .int .u8 0, .int .u8 0, .int .u8 0, .int .u8 0, .int .u8 0, .int .u8 0, .int .u8 0, .int .u8 0, .int .u8 0, .int .u8 0, .int .u8 0, .int .u8 0, .int .u8 0, .int .u8 255]] W fun e w' => e = .returned (.string ⟨(hexL [0, 1, 171, 0, 0, 0, 0, 0, 0, 0, 0, 0, 0, 0, 0, 0, 0, 0, 0, 0, 0, 0, 0, 0, 0, 0, 0, 0, 0, 0, 0, 255]).toArray⟩) ∧ W.grownBy w' none := fun W => hex_any [0, 1, 171, 0, 0, 0, 0, 0, 0, 0, 0, 0, 0, 0, 0, 0, 0, 0, 0, 0, 0, 0, 0, 0, 0, 0, 0, 0, 0, 0, 0, 255] rfl W
              have hsl : ∀ W, (Instr.slice 9 (.string ⟨(hexL [0, 1, 171, 0, 0, 0, 0, 0, 0, 0, 0, 0, 0, 0, 0, 0, 0, 0, 0, 0, 0, 0, 0, 0, 0, 0, 0, 0, 0, 0, 0, 255]).toArray⟩) none (some (.int .i64 6)) none).run Try.prog W = .ok (.string ⟨#[48, 48, 48, 49, 97, 98]⟩) W := fun W => by kernel_rfl
              generalize (⟨millionHex.toArray⟩ : ByteArray) = MH at *
              generalize (⟨(hexL [0, 1, 171, 0, 0, 0, 0, 0, 0, 0, 0, 0, 0, 0, 0, 0, 0, 0, 0, 0, 0, 0, 0, 0, 0, 0, 0, 0, 0, 0, 0, 255]).toArray⟩ : ByteArray) = XH at *
              have Hf := Lib.hid (And.intro hA (And.intro hB (And.intro hh Hr.out.by_)))
              have hge3 : ¬ (j : Int) < 1000 := by omega
              clear hA hB hh hN hNm hd hTs Hr
              go_wp2_with fail
              refine (Hf.out.1 wr).mono ?_
              rintro e w2 ⟨rfl, z2⟩
              go_wp2_with fail
              refine (Hf.out.2.1 w2).mono ?_
              rintro e w3 ⟨rfl, z3⟩
              go_wp2_with fail
              refine (Hf.out.2.2.1 w3).mono ?_
              rintro e w4 ⟨rfl, z4⟩
              go_wp2_with fail
              refine (works_any w4).mono ?_
              rintro e w5 ⟨rfl, z5⟩
              go_wp2
              go_ret
              exact ⟨rfl, by_trans (by_trans (by_trans (by_trans Hf.out.2.2.2 z2 (by simp)) z3 (by simp)) z4 (by simp)) z5 (by simp)⟩

set_option maxRecDepth 100000 in
theorem lifted (os : Os) (started : os.Started) (H : Type) (enc : TypeId × Value → H) :
    ReturnsInHanded {} Try.checked os 8 .any (Rows.shaKnownSpec.pre6 enc Try.prog Try.f8 Rows.shaKnownRow.domain false) (Rows.shaKnownSpec.post enc Try.prog Try.f8 false true false false) := by
  refine returnsInHanded_of_change (C := Try.checked) own started (by kernel_rfl) Try.func8
    (ChangeSpec.witness6 (enc := enc) (C := Try.checked) false ⟨#[], #[], []⟩ 8 (by kernel_rfl) (by kernel_rfl) (by kernel_rfl) (by kernel_rfl)) ?_
  intro W base args ds gs before hval0 hW hcnd _
  have hval : ∀ (j : Nat) t v, Try.f8.params[j]? = some t → args[j]? = some v → Value.okWide Try.prog W .any base t v := hval0
  have hW' := hW
  obtain ⟨p, q, hA0, hV, rfl, hfz, hnd⟩ := hW
  have hA : DataW.TrodAll enc Try.prog W 0 (fun _ => true) true Try.f8.params.toList args.toList ds p := hA0
  rw [Try.params8] at hA hval
  obtain ⟨hargs, rfl, rfl⟩ := trodAll_nil hA
  obtain rfl : args = #[] := by cases args; simp_all
  obtain ⟨rfl, rfl⟩ := trodVars_none hV
  refine (walk W).mono fun e W' ⟨he, hg⟩ => ?_
  subst he
  exact ⟨_, rfl, law_post laidOut rfl hW' (by kernel_rfl) rfl Try.underlying4 rfl (below_of_by hg)⟩

theorem proved : Rows.ShaKnownSaid :=
  OpenClaim.holds_of_wide 8 Try.f8 rfl rfl rfl rfl rfl rfl rfl ⟨rfl, rfl, rfl, rfl, rfl⟩ rfl rfl rfl rfl rfl (by kernel_rfl) Try.func8 (by kernel_rfl)
    (of_decide_eq_true (by kernel_rfl)) (by unfold Func.isWrapper; first | (rw [if_pos (by decide +kernel)]; kernel_rfl) | (rw [if_neg (by decide +kernel)]; exact ⟨rfl, rfl⟩))
    (fun os started H enc _ => lifted os started H enc)
#print axioms proved
end Go.Proofs.Ytgpafmkhkepjbaa.shaKnown
