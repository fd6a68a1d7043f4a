/-
  ShaSame: the sum of a text hangs on its bytes alone (all inputs, no condition).
-/
import Derived.Test.YtgpafmkhkepjbaaEq
import Derived.Test.YtgpafmkhkepjbaaArr
import Derived.Deep.RegionHeld3
import Derived.Deep.DeepCutAuto
import Derived.Laws.Concat
import Derived.ChangeMaps5
namespace Go.Proofs.Ytgpafmkhkepjbaa.shaSame
open Go.ChangeShapes Go.ChangeMaps Go.WideShapes Go.ChangeAt Go.RowKit

/-- 'var x [32]byte; x = ..' : a new block, filled -/
theorem fresh22 (W : World) (cs : Array Value) (hs : cs.size = 32) :
    (W.alloc (.cells (Array.replicate 32 (.int .u8 0)) 22)).there W.heap.size 0 cs.size ∧
    Blk ((W.alloc (.cells (Array.replicate 32 (.int .u8 0)) 22)).setCells W.heap.size 0 cs.toList) W.heap.size 22 cs ∧
    W.grownBy ((W.alloc (.cells (Array.replicate 32 (.int .u8 0)) 22)).setCells W.heap.size 0 cs.toList) none := by
  have p : Blk (W.alloc (.cells (Array.replicate 32 (.int .u8 0)) 22)) W.heap.size 22 (Array.replicate 32 (.int .u8 0)) := Blk.new _ _ _
  have h := p.setAll cs.toList (by simp [hs])
  rw [Array.toArray_toList] at h
  exact ⟨p.there _ (by simp [hs]), h, by_setAll (.inr (Nat.le_refl _)) _ _ _ (by_alloc (by_refl _ _) _)⟩
theorem conv_buf {W : World} {base g cap : Nat} {v : Value} {l : List UInt8} (h : Buf W base g v (u8s l) cap) : (convert 28 9 v).run Try.prog W = .ok (.string ⟨l.toArray⟩) W := by
  have hv := h.val
  rw [u8s_len] at hv
  rw [hv, run_convert_bytes_arg (P := Try.prog) W 28 5 Try.underlying28 Try.underlying5 g 0 l.length cap (l.map fun b => (b.toNat : Int)) (by simp) (fun j hj => by
    rw [Nat.zero_add]
    refine h.cells j _ ?_
    rw [u8s_get l j hj]
    simp [List.getD, List.getElem?_eq_getElem hj]) 9 Try.underlying9]
  have : strOfNums (l.map fun b => (b.toNat : Int)) = ⟨l.toArray⟩ := by simp [strOfNums, Function.comp_def]
  rw [this]

structure Duo (w0 : World) (g8 g9 : Nat) (A B : Array Value) (W : World) : Prop where
  a : Blk W g8 22 A
  b : Blk W g9 22 B
  by_ : w0.grownBy W none
theorem Duo.drew {w0 : World} {g8 g9 : Nat} {A B : Array Value} {W : World} (h : Duo w0 g8 g9 A B W) : Duo w0 g8 g9 A B W.drew := ⟨h.a.drew, h.b.drew, by_drew h.by_⟩
theorem Duo.grown {w0 : World} {g8 g9 : Nat} {A B : Array Value} {W W' : World} (h : Duo w0 g8 g9 A B W) (y : W.grownBy W' none) : Duo w0 g8 g9 A B W' := ⟨h.a.grown y (by simp), h.b.grown y (by simp), by_trans h.by_ y (by simp)⟩
theorem Duo.alloc {w0 : World} {g8 g9 : Nat} {A B : Array Value} {W : World} (h : Duo w0 g8 g9 A B W) (o : Obj) : Duo w0 g8 g9 A B (W.alloc o) := h.grown (World.grownBy_alloc W o none)

theorem Duo.bytes {w0 : World} {g8 g9 : Nat} {A B : Array Value} {W : World} (h : Duo w0 g8 g9 A B W) (x : ByteArray) : Duo w0 g8 g9 A B (Lib.bytesWorld W 5 x) := h.grown (bytesWorld_by W 5 x none)
theorem Duo.store {w0 : World} {g8 g9 g : Nat} {A B : Array Value} {W : World} (h : Duo w0 g8 g9 A B W) (h8 : g8 ≠ g) (h9 : g9 ≠ g) (h0 : w0.heap.size ≤ g) (vs : List Value) : Duo w0 g8 g9 A B (W.setCells g 0 vs) :=
  ⟨Blk.farAll _ _ _ _ h8 h.a, Blk.farAll _ _ _ _ h9 h.b, by_setAll (.inr h0) _ _ _ h.by_⟩
def Z32 : Array Value := Array.replicate 32 (.int .u8 0)
theorem full22 {W : World} {g : Nat} (h : Blk W g 22 Z32) (cs : Array Value) (hs : cs.size = 32) : W.there g 0 cs.size ∧ Blk (W.setCells g 0 cs.toList) g 22 cs := by
  have h2 := h.setAll cs.toList (by simp [Z32, hs])
  rw [Array.toArray_toList] at h2
  exact ⟨h.there _ (by simp [Z32, hs]), h2⟩
theorem conv_new (W : World) (x : ByteArray) : (convert 28 9 (.slice (some ⟨W.heap.size, 0, none⟩) x.size (grownCap W x.size 0 5))).run Try.prog (Lib.bytesWorld W 5 x) = .ok (.string x) (Lib.bytesWorld W 5 x) := by
  have h := conv_buf (Buf.of_bytes W 5 x)
  simpa using h
theorem conv_new2 (W : World) (x : ByteArray) (o : Obj) : (convert 28 9 (.slice (some ⟨W.heap.size, 0, none⟩) x.size (grownCap W x.size 0 5))).run Try.prog ((Lib.bytesWorld W 5 x).alloc o) = .ok (.string x) ((Lib.bytesWorld W 5 x).alloc o) := by
  have h := conv_buf ((Buf.of_bytes W 5 x).alloc o)
  simpa using h

structure Tri (w0 : World) (g8 g9 g10 : Nat) (LA LB : List Value) (W : World) : Prop where
  duo : Duo w0 g8 g9 LA.toArray LB.toArray W
  c : Blk W g10 22 LA.toArray
theorem Tri.drew {w0 : World} {g8 g9 g10 : Nat} {LA LB : List Value} {W : World} (h : Tri w0 g8 g9 g10 LA LB W) : Tri w0 g8 g9 g10 LA LB W.drew := ⟨h.duo.drew, h.c.drew⟩
theorem Tri.grown {w0 : World} {g8 g9 g10 : Nat} {LA LB : List Value} {W W' : World} (h : Tri w0 g8 g9 g10 LA LB W) (y : W.grownBy W' none) : Tri w0 g8 g9 g10 LA LB W' := ⟨h.duo.grown y, h.c.grown y (by simp)⟩
theorem range_of {W : World} {g : Nat} {L : List Value} (h : Blk W g 22 L.toArray) : W.rangeAt g 0 L := fun j v hv => by rw [Nat.zero_add, h.cell]; simpa using hv

set_option maxRecDepth 100000 in
set_option maxHeartbeats 1000000 in
theorem walk (w : World) (s : ByteArray) (ws : s.size ≤ maxLen) (o : ByteArray) (wo : o.size ≤ maxLen) (k : Int) (wk : (Lit.int .u16 k).wf = true) :
    Calls Try.prog 7 #[.string s, .string o, .int .u16 k] w fun e w' => e = .returned (.bool true) ∧ w.grownBy w' none := by
  have hk : 0 ≤ k ∧ k ≤ 65535 := by
    simp only [Lit.wf, Bool.and_eq_true, decide_eq_true_eq] at wk
    exact ⟨wk.1, wk.2⟩
  clear wk
  obtain ⟨hk0, hk1⟩ := hk
  have ls : (s.extract 0 (min (s.size : Int) 2000).toNat).size ≤ 2000 := by rw [ByteArray.size_extract]; omega
  have lo : (o.extract 0 (min (o.size : Int) 2000).toNat).size ≤ 2000 := by rw [ByteArray.size_extract]; omega
  have hsz : (s.extract 0 (min (s.size : Int) 2000).toNat).size = min (min (s.size : Int) 2000).toNat s.size := by rw [ByteArray.size_extract]; omega
  go_enter Try.func7, Try.ntmps7
  go_wp2_with fail
  generalize s.extract 0 (min (s.size : Int) 2000).toNat = s2 at *
  generalize o.extract 0 (min (o.size : Int) 2000).toNat = o2 at *
  generalize min (min (s.size : Int) 2000).toNat s.size = n2 at *
  subst hsz
  obtain ⟨kk, hkk, hkl⟩ : ∃ n : Nat, k % ((s2.size : Int) + 1) = (n : Int) ∧ n ≤ s2.size := by
    have h1 := Int.emod_nonneg k (show (s2.size : Int) + 1 ≠ 0 by omega)
    have h2 := Int.emod_lt_of_pos k (show (0 : Int) < (s2.size : Int) + 1 by omega)
    exact ⟨(k % ((s2.size : Int) + 1)).toNat, by omega, by omega⟩
  rw [hkk]
  have HK := Lib.hid (And.intro ls (And.intro lo hkl))
  clear hkk ls lo ws wo hk0 hk1 hkl
  refine (sum_bytes s2 w (by have := HK.out; omega)).mono ?_
  rintro e w1 ⟨rfl, y1⟩
  have hqA := eq_row (sumB (sumOf s2)) (sumB (sumOf s2)) (sumB_len _) (sumB_len _)
  have hqB := eq_row (sumB (sumOf o2)) (sumB (sumOf o2)) (sumB_len _) (sumB_len _)
  rw [decide_eq_true rfl] at hqA hqB
  obtain ⟨LA, hLA⟩ : ∃ L, L = u8s (sumB (sumOf s2)) := ⟨_, rfl⟩
  obtain ⟨LB, hLB⟩ : ∃ L, L = u8s (sumB (sumOf o2)) := ⟨_, rfl⟩
  have hAB : s2 = o2 → LA = LB := fun h => by rw [hLA, hLB, h]
  have hcA : ∀ W, Calls Try.prog 14 #[.string s2] W fun e w' => e = .returned (.agg LA.toArray) ∧ W.grownBy w' none := fun W => by rw [hLA]; exact sum_bytes s2 W (by have := HK.out; omega)
  have hcB : ∀ W, Calls Try.prog 14 #[.string o2] W fun e w' => e = .returned (.agg LB.toArray) ∧ W.grownBy w' none := fun W => by rw [hLB]; exact sum_bytes o2 W (by have := HK.out; omega)
  have hlA : LA.length = 32 := by rw [hLA, u8s_len, sumB_len]
  have hlB : LB.length = 32 := by rw [hLB, u8s_len, sumB_len]
  have h1A : LA.toArray.all (·.oneCell') = true := all_oneCell_toArray (by rw [hLA]; exact u8s_one _)
  have h1B : LB.toArray.all (·.oneCell') = true := all_oneCell_toArray (by rw [hLB]; exact u8s_one _)
  rw [← hLA] at hqA ⊢
  rw [← hLB] at hqB
  clear hLA hLB
  have fA := fresh22 w1 LA.toArray (by simp [hlA])
  obtain ⟨V1, hV1⟩ : ∃ W, W = (w1.alloc (.cells (Array.replicate 32 (.int .u8 0)) 22)).setCells w1.heap.size 0 LA.toArray.toList := ⟨_, rfl⟩
  rw [← hV1] at fA
  have Hc := Lib.hid (And.intro hcA hcB)
  have Hq := Lib.hid (And.intro hqA (And.intro hqB hAB))
  have HA := Lib.hid (And.intro fA (And.intro h1A (by_trans y1 fA.2.2 (by simp))))
  have HV := Lib.hid hV1
  have hiA : (Try.prog.info? 22).map (·.size) = some LA.toArray.size := by rw [info22]; simp [hlA]
  have hiB : (Try.prog.info? 22).map (·.size) = some LB.toArray.size := by rw [info22]; simp [hlB]
  have HI := Lib.hid (And.intro hiA (And.intro hiB (And.intro h1B hlB)))
  clear hcA hcB hqA hqB hAB fA h1A hV1 y1 hiA hiB h1B hlB
  go_wp2_with (refine wpList_store_mid rfl 22 (.tmp 8) (.tmp 28) rfl w1.heap.size 0 LA.toArray rfl rfl HA.out.1.1 HI.out.1 HA.out.2.1 ?_; refine wpList_at HV.out ?_)
  refine (Hc.out.2 V1).mono ?_
  rintro e w3 ⟨rfl, y3⟩
  have fB := fresh22 w3 LB.toArray (by simp [HI.out.2.2.2])
  obtain ⟨V3, hV3⟩ : ∃ W, W = (w3.alloc (.cells (Array.replicate 32 (.int .u8 0)) 22)).setCells w3.heap.size 0 LB.toArray.toList := ⟨_, rfl⟩
  rw [← hV3] at fB
  have hD : Duo w w1.heap.size w3.heap.size LA.toArray LB.toArray V3 := ⟨(HA.out.1.2.1.grown y3 (by simp)).grown fB.2.2 (by simp), fB.2.1, by_trans (by_trans HA.out.2.2 y3 (by simp)) fB.2.2 (by simp)⟩
  have HB := Lib.hid fB.1
  have HD := Lib.hid hD
  have HV3 := Lib.hid hV3
  clear fB hD hV3 y3 HV
  go_upto_region 6 with (refine wpList_store_mid rfl 22 (.tmp 9) (.tmp 30) rfl w3.heap.size 0 LB.toArray rfl rfl HB.out HI.out.2.1 HI.out.2.2.1 ?_; refine wpList_at HV3.out ?_)
  obtain ⟨g8, hg8⟩ : ∃ g, g = w1.heap.size := ⟨_, rfl⟩
  obtain ⟨g9, hg9⟩ : ∃ g, g = w3.heap.size := ⟨_, rfl⟩
  rw [← hg8, ← hg9] at HD ⊢
  have hlt8 := HD.out.a.lt
  have hlt9 := HD.out.b.lt
  have hge := HD.out.by_.size
  have HG := Lib.hid (And.intro hlt8 (And.intro hlt9 hge))
  clear hg8 hg9 hlt8 hlt9 hge
  obtain ⟨X, hX⟩ : ∃ X, X = s2.extract kk s2.size := ⟨_, rfl⟩
  obtain ⟨P0, hP0⟩ : ∃ X, X = s2.extract 0 kk := ⟨_, rfl⟩
  have hPX : P0 ++ X = s2 := by
    have := HK.out.2.2
    rw [hP0, hX, ByteArray.extract_append_extract]
    simp
  have hsl1 : ∀ W, (Instr.slice 9 (.string s2) none (some (.int .i64 (kk : Int))) none).run Try.prog W = .ok (.string P0) W := fun W => by
    rw [run_slice_string_to_if W 9 s2 .i64 _ Try.underlying9, if_pos ⟨by omega, by have := HK.out.2.2; omega⟩, hP0]
    rfl
  have hsl2 : ∀ W, (Instr.slice 9 (.string s2) (some (.int .i64 (kk : Int))) none none).run Try.prog W = .ok (.string X) W := fun W => by
    rw [run_slice_string_from_if W 9 s2 .i64 _ Try.underlying9, if_pos ⟨by omega, by have := HK.out.2.2; omega⟩, hX]
    rfl
  have hcat : ∀ W, (Op.stringOp .add P0 X).run Try.prog W = .ok (.string s2) W := fun W => by
    have h1 := HK.out.1
    have h2 : P0.size + X.size = s2.size := by rw [← hPX, ByteArray.size_append]
    rw [run_string_add_sum W _ _ (by omega), hPX]
  have hconv : ∀ W, (convert 9 28 (.string X)).run Try.prog W = .ok (.slice (some ⟨W.heap.size, 0, none⟩) X.size (grownCap W X.size 0 5)) (Lib.bytesWorld W 5 X) := fun W => Lib.run_convert_string_bytes W 9 28 5 X Try.underlying9 Try.underlying28 Try.underlying5
  clear hX hP0 hPX
  try dsimp only [Act.put]
  go_cut [10] (fun s10 wx => ∃ g, s10 = .pointer (some ⟨g, 0, none⟩) ∧ Blk wx g 22 LA.toArray ∧ Duo w g8 g9 LA.toArray LB.toArray wx)
  case first =>
    have hcv1 : (convert 28 9 (.slice (some ⟨V3.heap.size, 0, none⟩) X.size (grownCap V3.drew X.size 0 5))).run Try.prog (Lib.bytesWorld V3.drew 5 X) = .ok (.string X) (Lib.bytesWorld V3.drew 5 X) := conv_new V3.drew X
    have hcv2 : (convert 28 9 (.slice (some ⟨V3.heap.size, 0, none⟩) X.size (grownCap V3.drew X.size 0 5))).run Try.prog ((Lib.bytesWorld V3.drew 5 X).alloc (.cells #[.int .u8 0, .int .u8 0, .int .u8 0, .int .u8 0, .int .u8 0, .int .u8 0, .int .u8 0, .int .u8 0, .int .u8 0, .int .u8 0, .int .u8 0, .int .u8 0, .int .u8 0, .int .u8 0, .int .u8 0, .int .u8 0, .int .u8 0, .int .u8 0, .int .u8 0, .int .u8 0, .int .u8 0, .int .u8 0, .int .u8 0, .int .u8 0, .int .u8 0, .int .u8 0, .int .u8 0, .int .u8 0, .int .u8 0, .int .u8 0, .int .u8 0, .int .u8 0] 22)) = .ok (.string X) ((Lib.bytesWorld V3.drew 5 X).alloc (.cells #[.int .u8 0, .int .u8 0, .int .u8 0, .int .u8 0, .int .u8 0, .int .u8 0, .int .u8 0, .int .u8 0, .int .u8 0, .int .u8 0, .int .u8 0, .int .u8 0, .int .u8 0, .int .u8 0, .int .u8 0, .int .u8 0, .int .u8 0, .int .u8 0, .int .u8 0, .int .u8 0, .int .u8 0, .int .u8 0, .int .u8 0, .int .u8 0, .int .u8 0, .int .u8 0, .int .u8 0, .int .u8 0, .int .u8 0, .int .u8 0, .int .u8 0, .int .u8 0] 22)) := conv_new2 V3.drew X _
    have hcv3 : (convert 28 9 (.slice (some ⟨V3.heap.size + 1, 0, none⟩) X.size (grownCap (V3.alloc (.cells #[.int .u8 0, .int .u8 0, .int .u8 0, .int .u8 0, .int .u8 0, .int .u8 0, .int .u8 0, .int .u8 0, .int .u8 0, .int .u8 0, .int .u8 0, .int .u8 0, .int .u8 0, .int .u8 0, .int .u8 0, .int .u8 0, .int .u8 0, .int .u8 0, .int .u8 0, .int .u8 0, .int .u8 0, .int .u8 0, .int .u8 0, .int .u8 0, .int .u8 0, .int .u8 0, .int .u8 0, .int .u8 0, .int .u8 0, .int .u8 0, .int .u8 0, .int .u8 0] 22)).drew X.size 0 5))).run Try.prog (Lib.bytesWorld (V3.alloc (.cells #[.int .u8 0, .int .u8 0, .int .u8 0, .int .u8 0, .int .u8 0, .int .u8 0, .int .u8 0, .int .u8 0, .int .u8 0, .int .u8 0, .int .u8 0, .int .u8 0, .int .u8 0, .int .u8 0, .int .u8 0, .int .u8 0, .int .u8 0, .int .u8 0, .int .u8 0, .int .u8 0, .int .u8 0, .int .u8 0, .int .u8 0, .int .u8 0, .int .u8 0, .int .u8 0, .int .u8 0, .int .u8 0, .int .u8 0, .int .u8 0, .int .u8 0, .int .u8 0] 22)).drew 5 X) = .ok (.string X) (Lib.bytesWorld (V3.alloc (.cells #[.int .u8 0, .int .u8 0, .int .u8 0, .int .u8 0, .int .u8 0, .int .u8 0, .int .u8 0, .int .u8 0, .int .u8 0, .int .u8 0, .int .u8 0, .int .u8 0, .int .u8 0, .int .u8 0, .int .u8 0, .int .u8 0, .int .u8 0, .int .u8 0, .int .u8 0, .int .u8 0, .int .u8 0, .int .u8 0, .int .u8 0, .int .u8 0, .int .u8 0, .int .u8 0, .int .u8 0, .int .u8 0, .int .u8 0, .int .u8 0, .int .u8 0, .int .u8 0] 22)).drew 5 X) := by
      have h := conv_new (V3.alloc (.cells #[.int .u8 0, .int .u8 0, .int .u8 0, .int .u8 0, .int .u8 0, .int .u8 0, .int .u8 0, .int .u8 0, .int .u8 0, .int .u8 0, .int .u8 0, .int .u8 0, .int .u8 0, .int .u8 0, .int .u8 0, .int .u8 0, .int .u8 0, .int .u8 0, .int .u8 0, .int .u8 0, .int .u8 0, .int .u8 0, .int .u8 0, .int .u8 0, .int .u8 0, .int .u8 0, .int .u8 0, .int .u8 0, .int .u8 0, .int .u8 0, .int .u8 0, .int .u8 0] 22)).drew X
      have e : (V3.alloc (.cells #[.int .u8 0, .int .u8 0, .int .u8 0, .int .u8 0, .int .u8 0, .int .u8 0, .int .u8 0, .int .u8 0, .int .u8 0, .int .u8 0, .int .u8 0, .int .u8 0, .int .u8 0, .int .u8 0, .int .u8 0, .int .u8 0, .int .u8 0, .int .u8 0, .int .u8 0, .int .u8 0, .int .u8 0, .int .u8 0, .int .u8 0, .int .u8 0, .int .u8 0, .int .u8 0, .int .u8 0, .int .u8 0, .int .u8 0, .int .u8 0, .int .u8 0, .int .u8 0] 22)).drew.heap.size = V3.heap.size + 1 := by simp
      rw [e] at h
      exact h
    refine wp_region_noPanic ?_
    refine wp_region_held_drew (S := fun W => Duo w g8 g9 LA.toArray LB.toArray W) (by kernel_rfl) (HD.out.drew) (fun hHeld => ?_)
    refine wpAnyH_take (i := 0) (oi := _) (v := _) rfl (by kernel_rfl) (by kernel_rfl) (by kernel_rfl) (fun _ _ _ h => h) (Or.inl ⟨by rfl, fun _ _ => by go_simp; try rfl⟩) hHeld ?_
    try simp only [Act.put, List.getElem_toArray, List.getElem_cons_zero, List.getElem_cons_succ, List.setIfInBounds_toArray, List.set_cons_zero, List.set_cons_succ]
    refine wpAnyH_take (i := 1) (oi := _) (v := _) rfl (by kernel_rfl) (by kernel_rfl) (by kernel_rfl) (fun _ _ _ h => h) (Or.inl ⟨by rfl, fun _ _ => by go_simp; try rfl⟩) hHeld ?_
    try simp only [Act.put, List.getElem_toArray, List.getElem_cons_zero, List.getElem_cons_succ, List.setIfInBounds_toArray, List.set_cons_zero, List.set_cons_succ]
    refine wpAnyH_take (i := 2) (oi := _) (v := _) rfl (by kernel_rfl) (by kernel_rfl) (by kernel_rfl) (fun _ _ _ h => h) (Or.inl ⟨by rfl, fun _ _ => by go_simp; try rfl⟩) hHeld ?_
    try simp only [Act.put, List.getElem_toArray, List.getElem_cons_zero, List.getElem_cons_succ, List.setIfInBounds_toArray, List.set_cons_zero, List.set_cons_succ]
    refine wpAnyH_take (i := 3) (oi := _) (v := _) rfl (by kernel_rfl) (by kernel_rfl) (by kernel_rfl) (fun _ _ _ h => h) (Or.inl ⟨by rfl, fun _ _ => by go_simp; try rfl⟩) hHeld ?_
    try simp only [Act.put, List.getElem_toArray, List.getElem_cons_zero, List.getElem_cons_succ, List.setIfInBounds_toArray, List.set_cons_zero, List.set_cons_succ]
    refine wpAnyH_take (i := 4) (oi := _) (v := _) rfl (by kernel_rfl) (by kernel_rfl) (by kernel_rfl) (fun _ _ _ h => h) (Or.inl ⟨by rfl, fun _ _ => by go_simp; try rfl⟩) hHeld ?_
    try simp only [Act.put, List.getElem_toArray, List.getElem_cons_zero, List.getElem_cons_succ, List.setIfInBounds_toArray, List.set_cons_zero, List.set_cons_succ]
    refine wpAnyH_take (i := 5) (oi := _) (v := _) rfl (by kernel_rfl) (by kernel_rfl) (by kernel_rfl) (fun _ _ _ h => h) (Or.inl ⟨by rfl, fun _ _ => by go_simp; try rfl⟩) hHeld ?_
    try simp only [Act.put, List.getElem_toArray, List.getElem_cons_zero, List.getElem_cons_succ, List.setIfInBounds_toArray, List.set_cons_zero, List.set_cons_succ]
    refine wpAnyH_ready (rs := [6, 10]) (by kernel_rfl) (by simp) ?_
    refine AllReadyH.cons (o := _) rfl (fun K hK => ?_) (AllReadyH.cons (o := _) rfl (fun K hK => ?_) AllReadyH.nil)
    · go_simp
      refine hK.out _ _ (hHeld.bytes X) (fun hHeld => ?_)
      clear hK K
      try simp only [Act.put, List.getElem_toArray, List.getElem_cons_zero, List.getElem_cons_succ, List.setIfInBounds_toArray, List.set_cons_zero, List.set_cons_succ]
      refine wpAnyH_ready (rs := [7, 10]) (by kernel_rfl) (by simp) ?_
      refine AllReadyH.cons (o := _) rfl (fun K hK => ?_) (AllReadyH.cons (o := _) rfl (fun K hK => ?_) AllReadyH.nil)
      · go_simp
        refine hK.out _ _ (hHeld) (fun hHeld => ?_)
        clear hK K
        try simp only [Act.put, List.getElem_toArray, List.getElem_cons_zero, List.getElem_cons_succ, List.setIfInBounds_toArray, List.set_cons_zero, List.set_cons_succ]
        refine wpAnyH_take (i := 8) (oi := _) (v := _) rfl (by kernel_rfl) (by kernel_rfl) (by kernel_rfl) (fun _ _ _ h => h) (Or.inl ⟨by rfl, fun _ _ => by go_simp; try rfl⟩) hHeld ?_
        try simp only [Act.put, List.getElem_toArray, List.getElem_cons_zero, List.getElem_cons_succ, List.setIfInBounds_toArray, List.set_cons_zero, List.set_cons_succ]
        refine wpAnyH_ready (rs := [9, 10]) (by kernel_rfl) (by simp) ?_
        refine AllReadyH.cons (o := _) rfl (fun K hK => ?_) (AllReadyH.cons (o := _) rfl (fun K hK => ?_) AllReadyH.nil)
        · go_simp
          refine (Hc.out.1 _).mono ?_
          rintro e w5 ⟨rfl, y5⟩
          dsimp only
          refine hK.out _ _ (hHeld.grown y5) (fun hHeld => ?_)
          clear hK K
          refine wpAnyH_ready (rs := [10]) (by kernel_rfl) (by simp) ?_
          refine AllReadyH.cons (o := _) rfl (fun K hK => ?_) AllReadyH.nil
          go_simp
          refine hK.out _ _ (hHeld.alloc _) (fun hHeld => ?_)
          clear hK K
          try simp only [Act.put, List.getElem_toArray, List.getElem_cons_zero, List.getElem_cons_succ, List.setIfInBounds_toArray, List.set_cons_zero, List.set_cons_succ]
          have hz : Blk (w5.alloc (.cells Z32 22)) w5.heap.size 22 Z32 := Blk.new _ _ _
          have hsz : V3.heap.size ≤ w5.heap.size := by
            have := y5.size
            rw [Lib.bytesWorld_size] at this
            have h2 : V3.drew.heap.size = V3.heap.size := rfl
            omega
          obtain ⟨f1, f2⟩ := full22 hz LA.toArray (by simp [hlA])
          refine wpAnyH_ready (rs := [11]) (by kernel_rfl) (by simp) ?_
          refine AllReadyH.cons (o := _) rfl (fun K hK => ?_) AllReadyH.nil
          rw [if_pos (by rfl)]
          refine wp_store_mid 22 (.tmp 10) (.tmp 40) rfl w5.heap.size 0 LA.toArray rfl rfl f1 HI.out.1 HA.out.2.1 ?_
          try simp only [Act.put, List.getElem_toArray, List.getElem_cons_zero, List.getElem_cons_succ, List.setIfInBounds_toArray, List.set_cons_zero, List.set_cons_succ]
          refine hK.out _ _ (hHeld.store (by have := HG.out; omega) (by have := HG.out; omega) (by have := HG.out; omega) _) (fun hHeld => ?_)
          clear hK K
          try simp only [Act.put, List.getElem_toArray, List.getElem_cons_zero, List.getElem_cons_succ, List.setIfInBounds_toArray, List.set_cons_zero, List.set_cons_succ]
          refine wpAnyH_done (by kernel_rfl) (NoPanic.normal ?_) _
          go_wp2_with fail
          go_meet
          exact ⟨_, rfl, f2, hHeld⟩
        · go_simp
          refine hK.out _ _ (hHeld.alloc _) (fun hHeld => ?_)
          clear hK K
          try simp only [Act.put, List.getElem_toArray, List.getElem_cons_zero, List.getElem_cons_succ, List.setIfInBounds_toArray, List.set_cons_zero, List.set_cons_succ]
          have hz0 : Blk ((Lib.bytesWorld V3.drew 5 X).alloc (.cells Z32 22)) (Lib.bytesWorld V3.drew 5 X).heap.size 22 Z32 := Blk.new _ _ _
          have hsz0 : (Lib.bytesWorld V3.drew 5 X).heap.size = V3.heap.size + 1 := by rw [Lib.bytesWorld_size]; rfl
          rw [hsz0] at hz0
          refine wpAnyH_ready (rs := [9]) (by kernel_rfl) (by simp) ?_
          refine AllReadyH.cons (o := _) rfl (fun K hK => ?_) AllReadyH.nil
          go_simp
          refine (Hc.out.1 _).mono ?_
          rintro e w5 ⟨rfl, y5⟩
          dsimp only
          refine hK.out _ _ (hHeld.grown y5) (fun hHeld => ?_)
          clear hK K
          try simp only [Act.put, List.getElem_toArray, List.getElem_cons_zero, List.getElem_cons_succ, List.setIfInBounds_toArray, List.set_cons_zero, List.set_cons_succ]
          have hz := hz0.grown y5 (by simp)
          obtain ⟨f1, f2⟩ := full22 hz LA.toArray (by simp [hlA])
          refine wpAnyH_ready (rs := [11]) (by kernel_rfl) (by simp) ?_
          refine AllReadyH.cons (o := _) rfl (fun K hK => ?_) AllReadyH.nil
          rw [if_pos (by rfl)]
          refine wp_store_mid 22 (.tmp 10) (.tmp 40) rfl (V3.heap.size + 1) 0 LA.toArray rfl rfl f1 HI.out.1 HA.out.2.1 ?_
          try simp only [Act.put, List.getElem_toArray, List.getElem_cons_zero, List.getElem_cons_succ, List.setIfInBounds_toArray, List.set_cons_zero, List.set_cons_succ]
          refine hK.out _ _ (hHeld.store (by have := HG.out; omega) (by have := HG.out; omega) (by have := HG.out; omega) _) (fun hHeld => ?_)
          clear hK K
          try simp only [Act.put, List.getElem_toArray, List.getElem_cons_zero, List.getElem_cons_succ, List.setIfInBounds_toArray, List.set_cons_zero, List.set_cons_succ]
          refine wpAnyH_done (by kernel_rfl) (NoPanic.normal ?_) _
          go_wp2_with fail
          go_meet
          exact ⟨_, rfl, f2, hHeld⟩
      · go_simp
        refine hK.out _ _ (hHeld.alloc _) (fun hHeld => ?_)
        clear hK K
        try simp only [Act.put, List.getElem_toArray, List.getElem_cons_zero, List.getElem_cons_succ, List.setIfInBounds_toArray, List.set_cons_zero, List.set_cons_succ]
        have hz0 : Blk ((Lib.bytesWorld V3.drew 5 X).alloc (.cells Z32 22)) (Lib.bytesWorld V3.drew 5 X).heap.size 22 Z32 := Blk.new _ _ _
        have hsz0 : (Lib.bytesWorld V3.drew 5 X).heap.size = V3.heap.size + 1 := by rw [Lib.bytesWorld_size]; rfl
        rw [hsz0] at hz0
        refine wpAnyH_ready (rs := [7]) (by kernel_rfl) (by simp) ?_
        refine AllReadyH.cons (o := _) rfl (fun K hK => ?_) AllReadyH.nil
        go_simp
        refine hK.out _ _ (hHeld) (fun hHeld => ?_)
        clear hK K
        try simp only [Act.put, List.getElem_toArray, List.getElem_cons_zero, List.getElem_cons_succ, List.setIfInBounds_toArray, List.set_cons_zero, List.set_cons_succ]
        refine wpAnyH_take (i := 8) (oi := _) (v := _) rfl (by kernel_rfl) (by kernel_rfl) (by kernel_rfl) (fun _ _ _ h => h) (Or.inl ⟨by rfl, fun _ _ => by go_simp; try rfl⟩) hHeld ?_
        try simp only [Act.put, List.getElem_toArray, List.getElem_cons_zero, List.getElem_cons_succ, List.setIfInBounds_toArray, List.set_cons_zero, List.set_cons_succ]
        refine wpAnyH_ready (rs := [9]) (by kernel_rfl) (by simp) ?_
        refine AllReadyH.cons (o := _) rfl (fun K hK => ?_) AllReadyH.nil
        go_simp
        refine (Hc.out.1 _).mono ?_
        rintro e w5 ⟨rfl, y5⟩
        dsimp only
        refine hK.out _ _ (hHeld.grown y5) (fun hHeld => ?_)
        clear hK K
        try simp only [Act.put, List.getElem_toArray, List.getElem_cons_zero, List.getElem_cons_succ, List.setIfInBounds_toArray, List.set_cons_zero, List.set_cons_succ]
        have hz := hz0.grown y5 (by simp)
        obtain ⟨f1, f2⟩ := full22 hz LA.toArray (by simp [hlA])
        refine wpAnyH_ready (rs := [11]) (by kernel_rfl) (by simp) ?_
        refine AllReadyH.cons (o := _) rfl (fun K hK => ?_) AllReadyH.nil
        rw [if_pos (by rfl)]
        refine wp_store_mid 22 (.tmp 10) (.tmp 40) rfl (V3.heap.size + 1) 0 LA.toArray rfl rfl f1 HI.out.1 HA.out.2.1 ?_
        try simp only [Act.put, List.getElem_toArray, List.getElem_cons_zero, List.getElem_cons_succ, List.setIfInBounds_toArray, List.set_cons_zero, List.set_cons_succ]
        refine hK.out _ _ (hHeld.store (by have := HG.out; omega) (by have := HG.out; omega) (by have := HG.out; omega) _) (fun hHeld => ?_)
        clear hK K
        try simp only [Act.put, List.getElem_toArray, List.getElem_cons_zero, List.getElem_cons_succ, List.setIfInBounds_toArray, List.set_cons_zero, List.set_cons_succ]
        refine wpAnyH_done (by kernel_rfl) (NoPanic.normal ?_) _
        go_wp2_with fail
        go_meet
        exact ⟨_, rfl, f2, hHeld⟩
    · go_simp
      refine hK.out _ _ (hHeld.alloc _) (fun hHeld => ?_)
      clear hK K
      try simp only [Act.put, List.getElem_toArray, List.getElem_cons_zero, List.getElem_cons_succ, List.setIfInBounds_toArray, List.set_cons_zero, List.set_cons_succ]
      have hz0 : Blk (V3.alloc (.cells Z32 22)).drew V3.heap.size 22 Z32 := (Blk.new V3 22 Z32).drew
      refine wpAnyH_ready (rs := [6]) (by kernel_rfl) (by simp) ?_
      refine AllReadyH.cons (o := _) rfl (fun K hK => ?_) AllReadyH.nil
      go_simp
      refine hK.out _ _ (hHeld.bytes X) (fun hHeld => ?_)
      clear hK K
      try simp only [Act.put, List.getElem_toArray, List.getElem_cons_zero, List.getElem_cons_succ, List.setIfInBounds_toArray, List.set_cons_zero, List.set_cons_succ]
      refine wpAnyH_ready (rs := [7]) (by kernel_rfl) (by simp) ?_
      refine AllReadyH.cons (o := _) rfl (fun K hK => ?_) AllReadyH.nil
      go_simp
      refine hK.out _ _ (hHeld) (fun hHeld => ?_)
      clear hK K
      try simp only [Act.put, List.getElem_toArray, List.getElem_cons_zero, List.getElem_cons_succ, List.setIfInBounds_toArray, List.set_cons_zero, List.set_cons_succ]
      refine wpAnyH_take (i := 8) (oi := _) (v := _) rfl (by kernel_rfl) (by kernel_rfl) (by kernel_rfl) (fun _ _ _ h => h) (Or.inl ⟨by rfl, fun _ _ => by go_simp; try rfl⟩) hHeld ?_
      try simp only [Act.put, List.getElem_toArray, List.getElem_cons_zero, List.getElem_cons_succ, List.setIfInBounds_toArray, List.set_cons_zero, List.set_cons_succ]
      refine wpAnyH_ready (rs := [9]) (by kernel_rfl) (by simp) ?_
      refine AllReadyH.cons (o := _) rfl (fun K hK => ?_) AllReadyH.nil
      go_simp
      refine (Hc.out.1 _).mono ?_
      rintro e w5 ⟨rfl, y5⟩
      dsimp only
      refine hK.out _ _ (hHeld.grown y5) (fun hHeld => ?_)
      clear hK K
      try simp only [Act.put, List.getElem_toArray, List.getElem_cons_zero, List.getElem_cons_succ, List.setIfInBounds_toArray, List.set_cons_zero, List.set_cons_succ]
      have hz := (hz0.grown (bytesWorld_by _ 5 X none) (by simp)).grown y5 (by simp)
      obtain ⟨f1, f2⟩ := full22 hz LA.toArray (by simp [hlA])
      refine wpAnyH_ready (rs := [11]) (by kernel_rfl) (by simp) ?_
      refine AllReadyH.cons (o := _) rfl (fun K hK => ?_) AllReadyH.nil
      rw [if_pos (by rfl)]
      refine wp_store_mid 22 (.tmp 10) (.tmp 40) rfl V3.heap.size 0 LA.toArray rfl rfl f1 HI.out.1 HA.out.2.1 ?_
      try simp only [Act.put, List.getElem_toArray, List.getElem_cons_zero, List.getElem_cons_succ, List.setIfInBounds_toArray, List.set_cons_zero, List.set_cons_succ]
      refine hK.out _ _ (hHeld.store (by have := HG.out; omega) (by have := HG.out; omega) (by have := HG.out; omega) _) (fun hHeld => ?_)
      clear hK K
      try simp only [Act.put, List.getElem_toArray, List.getElem_cons_zero, List.getElem_cons_succ, List.setIfInBounds_toArray, List.set_cons_zero, List.set_cons_succ]
      refine wpAnyH_done (by kernel_rfl) (NoPanic.normal ?_) _
      go_wp2_with fail
      go_meet
      exact ⟨_, rfl, f2, hHeld⟩
  case rest =>
    obtain ⟨g10, rfl, hC, hD2⟩ := hcut
    have hT : Tri w g8 g9 g10 LA LB wc := ⟨hD2, hC⟩
    have HT := Lib.hid hT
    clear hC hD2 hT hsl1 hsl2 hcat hconv HG HB HD HV3 HA
    obtain ⟨hqA, hqB, hAB⟩ := Hq.out
    have hgu : Try.prog.eqGuardType Try.prog.depth 22 = false := by kernel_rfl
    have hu := Try.underlying22
    have hiA : (Try.prog.info? 22).map (·.size) = some LA.length := by rw [info22, hlA]
    have hiB : (Try.prog.info? 22).map (·.size) = some LB.length := by rw [info22, HI.out.2.2.2]
    by_cases hso : s2 = o2
    · have hL := hAB hso
      subst hso
      subst hL
      clear hAB
      have hne : (s2.toList == s2.toList) = true := by simp
      go_wp2
      refine wp_region_noPanic ?_
      refine wp_region_held_drew (S := fun W => Tri w g8 g9 g10 LA LA W) (by kernel_rfl) (HT.out.drew) (fun hHeld => ?_)
      refine wpAnyH_take (i := 0) (oi := _) (v := _) rfl (by kernel_rfl) (by kernel_rfl) (by kernel_rfl) (fun _ _ _ h => h) (yieldsIf_load_mid (by rfl) _ _ rfl _ _ rfl LA _ (fun _ h => range_of h.duo.a) hu rfl hiA) hHeld ?_
      try simp only [Act.put, List.getElem_toArray, List.getElem_cons_zero, List.getElem_cons_succ, List.setIfInBounds_toArray, List.set_cons_zero, List.set_cons_succ]
      refine wpAnyH_take (i := 1) (oi := _) (v := _) rfl (by kernel_rfl) (by kernel_rfl) (by kernel_rfl) (fun _ _ _ h => h) (yieldsIf_load_mid (by rfl) _ _ rfl _ _ rfl LA _ (fun _ h => range_of h.c) hu rfl hiA) hHeld ?_
      try simp only [Act.put, List.getElem_toArray, List.getElem_cons_zero, List.getElem_cons_succ, List.setIfInBounds_toArray, List.set_cons_zero, List.set_cons_succ]
      refine wpAnyH_take (i := 2) (oi := _) (v := _) rfl (by kernel_rfl) (by kernel_rfl) (by kernel_rfl) (fun _ _ _ h => h) (Or.inl ⟨by rfl, fun _ _ => by go_simp; try rfl⟩) hHeld ?_
      try simp only [Act.put, List.getElem_toArray, List.getElem_cons_zero, List.getElem_cons_succ, List.setIfInBounds_toArray, List.set_cons_zero, List.set_cons_succ]
      refine wpAnyH_take (i := 3) (oi := _) (v := _) rfl (by kernel_rfl) (by kernel_rfl) (by kernel_rfl) (fun _ _ _ h => h) (Or.inl ⟨by rfl, fun _ _ => by go_simp; try rfl⟩) hHeld ?_
      try simp only [Act.put, List.getElem_toArray, List.getElem_cons_zero, List.getElem_cons_succ, List.setIfInBounds_toArray, List.set_cons_zero, List.set_cons_succ]
      refine wpAnyH_take (i := 4) (oi := _) (v := _) rfl (by kernel_rfl) (by kernel_rfl) (by kernel_rfl) (fun _ _ _ h => h) (yieldsIf_load_mid (by rfl) _ _ rfl _ _ rfl LA _ (fun _ h => range_of h.duo.b) hu rfl hiA) hHeld ?_
      try simp only [Act.put, List.getElem_toArray, List.getElem_cons_zero, List.getElem_cons_succ, List.setIfInBounds_toArray, List.set_cons_zero, List.set_cons_succ]
      refine wpAnyH_take (i := 5) (oi := _) (v := _) rfl (by kernel_rfl) (by kernel_rfl) (by kernel_rfl) (fun _ _ _ h => h) (Or.inl ⟨by rfl, fun _ _ => by go_simp; try rfl⟩) hHeld ?_
      try simp only [Act.put, List.getElem_toArray, List.getElem_cons_zero, List.getElem_cons_succ, List.setIfInBounds_toArray, List.set_cons_zero, List.set_cons_succ]
      refine wpAnyH_ready (rs := [6]) (by kernel_rfl) (by simp) ?_
      refine AllReadyH.cons (o := _) rfl (fun K hK => ?_) AllReadyH.nil
      go_simp
      refine (Hc.out.2 _).mono ?_
      rintro e w5 ⟨rfl, y5⟩
      dsimp only
      refine hK.out _ _ (hHeld.grown y5) (fun hHeld => ?_)
      clear hK K
      try simp only [Act.put, List.getElem_toArray, List.getElem_cons_zero, List.getElem_cons_succ, List.setIfInBounds_toArray, List.set_cons_zero, List.set_cons_succ]
      refine wpAnyH_take (i := 7) (oi := _) (v := _) rfl (by kernel_rfl) (by kernel_rfl) (by kernel_rfl) (fun _ _ _ h => h) (Or.inl ⟨by rfl, fun _ _ => by go_simp; try rfl⟩) hHeld ?_
      try simp only [Act.put, List.getElem_toArray, List.getElem_cons_zero, List.getElem_cons_succ, List.setIfInBounds_toArray, List.set_cons_zero, List.set_cons_succ]
      refine wpAnyH_take (i := 8) (oi := _) (v := _) rfl (by kernel_rfl) (by kernel_rfl) (by kernel_rfl) (fun _ _ _ h => h) (Or.inl ⟨by rfl, fun _ _ => by go_simp; try rfl⟩) hHeld ?_
      try simp only [Act.put, List.getElem_toArray, List.getElem_cons_zero, List.getElem_cons_succ, List.setIfInBounds_toArray, List.set_cons_zero, List.set_cons_succ]
      refine wpAnyH_take (i := 9) (oi := _) (v := _) rfl (by kernel_rfl) (by kernel_rfl) (by kernel_rfl) (fun _ _ _ h => h) (Or.inl ⟨by rfl, fun _ _ => by go_simp; try rfl⟩) hHeld ?_
      try simp only [Act.put, List.getElem_toArray, List.getElem_cons_zero, List.getElem_cons_succ, List.setIfInBounds_toArray, List.set_cons_zero, List.set_cons_succ]
      refine wpAnyH_take (i := 10) (oi := _) (v := _) rfl (by kernel_rfl) (by kernel_rfl) (by kernel_rfl) (fun _ _ _ h => h) (Or.inl ⟨by rfl, fun _ _ => by go_simp; try rfl⟩) hHeld ?_
      try simp only [Act.put, List.getElem_toArray, List.getElem_cons_zero, List.getElem_cons_succ, List.setIfInBounds_toArray, List.set_cons_zero, List.set_cons_succ]
      refine wpAnyH_take (i := 11) (oi := _) (v := _) rfl (by kernel_rfl) (by kernel_rfl) (by kernel_rfl) (fun _ _ _ h => h) (Or.inl ⟨by rfl, fun _ _ => by go_simp; try rfl⟩) hHeld ?_
      try simp only [Act.put, List.getElem_toArray, List.getElem_cons_zero, List.getElem_cons_succ, List.setIfInBounds_toArray, List.set_cons_zero, List.set_cons_succ]
      refine wpAnyH_take (i := 12) (oi := _) (v := _) rfl (by kernel_rfl) (by kernel_rfl) (by kernel_rfl) (fun _ _ _ h => h) (Or.inl ⟨by rfl, fun _ _ => by go_simp; try rfl⟩) hHeld ?_
      try simp only [Act.put, List.getElem_toArray, List.getElem_cons_zero, List.getElem_cons_succ, List.setIfInBounds_toArray, List.set_cons_zero, List.set_cons_succ]
      refine wpAnyH_take (i := 13) (oi := _) (v := _) rfl (by kernel_rfl) (by kernel_rfl) (by kernel_rfl) (fun _ _ _ h => h) (Or.inl ⟨by rfl, fun _ _ => by go_simp; try rfl⟩) hHeld ?_
      try simp only [Act.put, List.getElem_toArray, List.getElem_cons_zero, List.getElem_cons_succ, List.setIfInBounds_toArray, List.set_cons_zero, List.set_cons_succ]
      refine wpAnyH_take (i := 14) (oi := _) (v := _) rfl (by kernel_rfl) (by kernel_rfl) (by kernel_rfl) (fun _ _ _ h => h) (yieldsIf_load_mid (by rfl) _ _ rfl _ _ rfl LA _ (fun _ h => range_of h.duo.a) hu rfl hiA) hHeld ?_
      try simp only [Act.put, List.getElem_toArray, List.getElem_cons_zero, List.getElem_cons_succ, List.setIfInBounds_toArray, List.set_cons_zero, List.set_cons_succ]
      refine wpAnyH_take (i := 15) (oi := _) (v := _) rfl (by kernel_rfl) (by kernel_rfl) (by kernel_rfl) (fun _ _ _ h => h) (yieldsIf_load_mid (by rfl) _ _ rfl _ _ rfl LA _ (fun _ h => range_of h.duo.b) hu rfl hiA) hHeld ?_
      try simp only [Act.put, List.getElem_toArray, List.getElem_cons_zero, List.getElem_cons_succ, List.setIfInBounds_toArray, List.set_cons_zero, List.set_cons_succ]
      refine wpAnyH_take (i := 16) (oi := _) (v := _) rfl (by kernel_rfl) (by kernel_rfl) (by kernel_rfl) (fun _ _ _ h => h) (Or.inl ⟨by rfl, fun _ _ => by go_simp; try rfl⟩) hHeld ?_
      try simp only [Act.put, List.getElem_toArray, List.getElem_cons_zero, List.getElem_cons_succ, List.setIfInBounds_toArray, List.set_cons_zero, List.set_cons_succ]
      refine wpAnyH_take (i := 17) (oi := _) (v := _) rfl (by kernel_rfl) (by kernel_rfl) (by kernel_rfl) (fun _ _ _ h => h) (Or.inl ⟨by rfl, fun _ _ => by go_simp; try rfl⟩) hHeld ?_
      try simp only [Act.put, List.getElem_toArray, List.getElem_cons_zero, List.getElem_cons_succ, List.setIfInBounds_toArray, List.set_cons_zero, List.set_cons_succ]
      refine wpAnyH_take (i := 18) (oi := _) (v := _) rfl (by kernel_rfl) (by kernel_rfl) (by kernel_rfl) (fun _ _ _ h => h) (Or.inl ⟨by rfl, fun _ _ => by go_simp; try rfl⟩) hHeld ?_
      try simp only [Act.put, List.getElem_toArray, List.getElem_cons_zero, List.getElem_cons_succ, List.setIfInBounds_toArray, List.set_cons_zero, List.set_cons_succ]
      refine wpAnyH_take (i := 19) (oi := _) (v := _) rfl (by kernel_rfl) (by kernel_rfl) (by kernel_rfl) (fun _ _ _ h => h) (Or.inl ⟨by rfl, fun _ _ => by go_simp; try rfl⟩) hHeld ?_
      try simp only [Act.put, List.getElem_toArray, List.getElem_cons_zero, List.getElem_cons_succ, List.setIfInBounds_toArray, List.set_cons_zero, List.set_cons_succ]
      refine wpAnyH_ready (rs := [20]) (by kernel_rfl) (by simp) ?_
      refine AllReadyH.cons (o := _) rfl (fun K hK => ?_) AllReadyH.nil
      go_simp
      refine (works_any _).mono ?_
      rintro e w6 ⟨rfl, y6⟩
      dsimp only
      refine hK.out _ _ (hHeld.grown y6) (fun hHeld => ?_)
      clear hK K
      try simp only [Act.put, List.getElem_toArray, List.getElem_cons_zero, List.getElem_cons_succ, List.setIfInBounds_toArray, List.set_cons_zero, List.set_cons_succ]
      refine wpAnyH_take (i := 21) (oi := _) (v := _) rfl (by kernel_rfl) (by kernel_rfl) (by kernel_rfl) (fun _ _ _ h => h) (Or.inl ⟨by rfl, fun _ _ => by go_simp; try rfl⟩) hHeld ?_
      try simp only [Act.put, List.getElem_toArray, List.getElem_cons_zero, List.getElem_cons_succ, List.setIfInBounds_toArray, List.set_cons_zero, List.set_cons_succ]
      refine wpAnyH_take (i := 22) (oi := _) (v := _) rfl (by kernel_rfl) (by kernel_rfl) (by kernel_rfl) (fun _ _ _ h => h) (Or.inl ⟨by rfl, fun _ _ => by go_simp; try rfl⟩) hHeld ?_
      try simp only [Act.put, List.getElem_toArray, List.getElem_cons_zero, List.getElem_cons_succ, List.setIfInBounds_toArray, List.set_cons_zero, List.set_cons_succ]
      refine wpAnyH_done (by kernel_rfl) (NoPanic.normal ?_) _
      go_wp2
      go_ret
      exact ⟨rfl, hHeld.duo.by_⟩
    · have hne : (s2.toList == o2.toList) = false := by
        rw [Bool.eq_false_iff]
        intro h
        simp only [beq_iff_eq] at h
        apply hso
        apply ByteArray.ext
        apply Array.ext'
        rw [← ByteArray.toList_eq, ← ByteArray.toList_eq]; exact h
      clear hAB hso
      go_wp2
      refine wp_region_noPanic ?_
      refine wp_region_held_drew (S := fun W => Tri w g8 g9 g10 LA LB W) (by kernel_rfl) (HT.out.drew) (fun hHeld => ?_)
      refine wpAnyH_take (i := 0) (oi := _) (v := _) rfl (by kernel_rfl) (by kernel_rfl) (by kernel_rfl) (fun _ _ _ h => h) (yieldsIf_load_mid (by rfl) _ _ rfl _ _ rfl LA _ (fun _ h => range_of h.duo.a) hu rfl hiA) hHeld ?_
      try simp only [Act.put, List.getElem_toArray, List.getElem_cons_zero, List.getElem_cons_succ, List.setIfInBounds_toArray, List.set_cons_zero, List.set_cons_succ]
      refine wpAnyH_take (i := 1) (oi := _) (v := _) rfl (by kernel_rfl) (by kernel_rfl) (by kernel_rfl) (fun _ _ _ h => h) (yieldsIf_load_mid (by rfl) _ _ rfl _ _ rfl LA _ (fun _ h => range_of h.c) hu rfl hiA) hHeld ?_
      try simp only [Act.put, List.getElem_toArray, List.getElem_cons_zero, List.getElem_cons_succ, List.setIfInBounds_toArray, List.set_cons_zero, List.set_cons_succ]
      refine wpAnyH_take (i := 2) (oi := _) (v := _) rfl (by kernel_rfl) (by kernel_rfl) (by kernel_rfl) (fun _ _ _ h => h) (Or.inl ⟨by rfl, fun _ _ => by go_simp; try rfl⟩) hHeld ?_
      try simp only [Act.put, List.getElem_toArray, List.getElem_cons_zero, List.getElem_cons_succ, List.setIfInBounds_toArray, List.set_cons_zero, List.set_cons_succ]
      refine wpAnyH_take (i := 3) (oi := _) (v := _) rfl (by kernel_rfl) (by kernel_rfl) (by kernel_rfl) (fun _ _ _ h => h) (Or.inl ⟨by rfl, fun _ _ => by go_simp; try rfl⟩) hHeld ?_
      try simp only [Act.put, List.getElem_toArray, List.getElem_cons_zero, List.getElem_cons_succ, List.setIfInBounds_toArray, List.set_cons_zero, List.set_cons_succ]
      refine wpAnyH_take (i := 4) (oi := _) (v := _) rfl (by kernel_rfl) (by kernel_rfl) (by kernel_rfl) (fun _ _ _ h => h) (yieldsIf_load_mid (by rfl) _ _ rfl _ _ rfl LB _ (fun _ h => range_of h.duo.b) hu rfl hiB) hHeld ?_
      try simp only [Act.put, List.getElem_toArray, List.getElem_cons_zero, List.getElem_cons_succ, List.setIfInBounds_toArray, List.set_cons_zero, List.set_cons_succ]
      refine wpAnyH_take (i := 5) (oi := _) (v := _) rfl (by kernel_rfl) (by kernel_rfl) (by kernel_rfl) (fun _ _ _ h => h) (Or.inl ⟨by rfl, fun _ _ => by go_simp; try rfl⟩) hHeld ?_
      try simp only [Act.put, List.getElem_toArray, List.getElem_cons_zero, List.getElem_cons_succ, List.setIfInBounds_toArray, List.set_cons_zero, List.set_cons_succ]
      refine wpAnyH_ready (rs := [6]) (by kernel_rfl) (by simp) ?_
      refine AllReadyH.cons (o := _) rfl (fun K hK => ?_) AllReadyH.nil
      go_simp
      refine (Hc.out.2 _).mono ?_
      rintro e w5 ⟨rfl, y5⟩
      dsimp only
      refine hK.out _ _ (hHeld.grown y5) (fun hHeld => ?_)
      clear hK K
      try simp only [Act.put, List.getElem_toArray, List.getElem_cons_zero, List.getElem_cons_succ, List.setIfInBounds_toArray, List.set_cons_zero, List.set_cons_succ]
      refine wpAnyH_take (i := 7) (oi := _) (v := _) rfl (by kernel_rfl) (by kernel_rfl) (by kernel_rfl) (fun _ _ _ h => h) (Or.inl ⟨by rfl, fun _ _ => by go_simp; try rfl⟩) hHeld ?_
      try simp only [Act.put, List.getElem_toArray, List.getElem_cons_zero, List.getElem_cons_succ, List.setIfInBounds_toArray, List.set_cons_zero, List.set_cons_succ]
      refine wpAnyH_take (i := 8) (oi := _) (v := _) rfl (by kernel_rfl) (by kernel_rfl) (by kernel_rfl) (fun _ _ _ h => h) (Or.inl ⟨by rfl, fun _ _ => by go_simp; try rfl⟩) hHeld ?_
      try simp only [Act.put, List.getElem_toArray, List.getElem_cons_zero, List.getElem_cons_succ, List.setIfInBounds_toArray, List.set_cons_zero, List.set_cons_succ]
      refine wpAnyH_take (i := 9) (oi := _) (v := _) rfl (by kernel_rfl) (by kernel_rfl) (by kernel_rfl) (fun _ _ _ h => h) (Or.inl ⟨by rfl, fun _ _ => by go_simp; try rfl⟩) hHeld ?_
      try simp only [Act.put, List.getElem_toArray, List.getElem_cons_zero, List.getElem_cons_succ, List.setIfInBounds_toArray, List.set_cons_zero, List.set_cons_succ]
      refine wpAnyH_take (i := 10) (oi := _) (v := _) rfl (by kernel_rfl) (by kernel_rfl) (by kernel_rfl) (fun _ _ _ h => h) (Or.inl ⟨by rfl, fun _ _ => by go_simp; try rfl⟩) hHeld ?_
      try simp only [Act.put, List.getElem_toArray, List.getElem_cons_zero, List.getElem_cons_succ, List.setIfInBounds_toArray, List.set_cons_zero, List.set_cons_succ]
      refine wpAnyH_take (i := 11) (oi := _) (v := _) rfl (by kernel_rfl) (by kernel_rfl) (by kernel_rfl) (fun _ _ _ h => h) (Or.inl ⟨by rfl, fun _ _ => by go_simp; try rfl⟩) hHeld ?_
      try simp only [Act.put, List.getElem_toArray, List.getElem_cons_zero, List.getElem_cons_succ, List.setIfInBounds_toArray, List.set_cons_zero, List.set_cons_succ]
      refine wpAnyH_take (i := 12) (oi := _) (v := _) rfl (by kernel_rfl) (by kernel_rfl) (by kernel_rfl) (fun _ _ _ h => h) (Or.inl ⟨by rfl, fun _ _ => by go_simp; try rfl⟩) hHeld ?_
      try simp only [Act.put, List.getElem_toArray, List.getElem_cons_zero, List.getElem_cons_succ, List.setIfInBounds_toArray, List.set_cons_zero, List.set_cons_succ]
      refine wpAnyH_take (i := 13) (oi := _) (v := _) rfl (by kernel_rfl) (by kernel_rfl) (by kernel_rfl) (fun _ _ _ h => h) (Or.inl ⟨by rfl, fun _ _ => by go_simp; try rfl⟩) hHeld ?_
      try simp only [Act.put, List.getElem_toArray, List.getElem_cons_zero, List.getElem_cons_succ, List.setIfInBounds_toArray, List.set_cons_zero, List.set_cons_succ]
      refine wpAnyH_take (i := 14) (oi := _) (v := _) rfl (by kernel_rfl) (by kernel_rfl) (by kernel_rfl) (fun _ _ _ h => h) (Or.inr ⟨by rfl, rfl⟩) hHeld ?_
      try simp only [Act.put, List.getElem_toArray, List.getElem_cons_zero, List.getElem_cons_succ, List.setIfInBounds_toArray, List.set_cons_zero, List.set_cons_succ]
      refine wpAnyH_take (i := 15) (oi := _) (v := _) rfl (by kernel_rfl) (by kernel_rfl) (by kernel_rfl) (fun _ _ _ h => h) (Or.inr ⟨by rfl, rfl⟩) hHeld ?_
      try simp only [Act.put, List.getElem_toArray, List.getElem_cons_zero, List.getElem_cons_succ, List.setIfInBounds_toArray, List.set_cons_zero, List.set_cons_succ]
      refine wpAnyH_take (i := 16) (oi := _) (v := _) rfl (by kernel_rfl) (by kernel_rfl) (by kernel_rfl) (fun _ _ _ h => h) (Or.inr ⟨by rfl, rfl⟩) hHeld ?_
      try simp only [Act.put, List.getElem_toArray, List.getElem_cons_zero, List.getElem_cons_succ, List.setIfInBounds_toArray, List.set_cons_zero, List.set_cons_succ]
      refine wpAnyH_take (i := 17) (oi := _) (v := _) rfl (by kernel_rfl) (by kernel_rfl) (by kernel_rfl) (fun _ _ _ h => h) (Or.inl ⟨by rfl, fun _ _ => by go_simp; try rfl⟩) hHeld ?_
      try simp only [Act.put, List.getElem_toArray, List.getElem_cons_zero, List.getElem_cons_succ, List.setIfInBounds_toArray, List.set_cons_zero, List.set_cons_succ]
      refine wpAnyH_take (i := 18) (oi := _) (v := _) rfl (by kernel_rfl) (by kernel_rfl) (by kernel_rfl) (fun _ _ _ h => h) (Or.inl ⟨by rfl, fun _ _ => by go_simp; try rfl⟩) hHeld ?_
      try simp only [Act.put, List.getElem_toArray, List.getElem_cons_zero, List.getElem_cons_succ, List.setIfInBounds_toArray, List.set_cons_zero, List.set_cons_succ]
      refine wpAnyH_take (i := 19) (oi := _) (v := _) rfl (by kernel_rfl) (by kernel_rfl) (by kernel_rfl) (fun _ _ _ h => h) (Or.inl ⟨by rfl, fun _ _ => by go_simp; try rfl⟩) hHeld ?_
      try simp only [Act.put, List.getElem_toArray, List.getElem_cons_zero, List.getElem_cons_succ, List.setIfInBounds_toArray, List.set_cons_zero, List.set_cons_succ]
      refine wpAnyH_ready (rs := [20]) (by kernel_rfl) (by simp) ?_
      refine AllReadyH.cons (o := _) rfl (fun K hK => ?_) AllReadyH.nil
      go_simp
      refine (works_any _).mono ?_
      rintro e w6 ⟨rfl, y6⟩
      dsimp only
      refine hK.out _ _ (hHeld.grown y6) (fun hHeld => ?_)
      clear hK K
      try simp only [Act.put, List.getElem_toArray, List.getElem_cons_zero, List.getElem_cons_succ, List.setIfInBounds_toArray, List.set_cons_zero, List.set_cons_succ]
      refine wpAnyH_take (i := 21) (oi := _) (v := _) rfl (by kernel_rfl) (by kernel_rfl) (by kernel_rfl) (fun _ _ _ h => h) (Or.inl ⟨by rfl, fun _ _ => by go_simp; try rfl⟩) hHeld ?_
      try simp only [Act.put, List.getElem_toArray, List.getElem_cons_zero, List.getElem_cons_succ, List.setIfInBounds_toArray, List.set_cons_zero, List.set_cons_succ]
      refine wpAnyH_take (i := 22) (oi := _) (v := _) rfl (by kernel_rfl) (by kernel_rfl) (by kernel_rfl) (fun _ _ _ h => h) (Or.inl ⟨by rfl, fun _ _ => by go_simp; try rfl⟩) hHeld ?_
      try simp only [Act.put, List.getElem_toArray, List.getElem_cons_zero, List.getElem_cons_succ, List.setIfInBounds_toArray, List.set_cons_zero, List.set_cons_succ]
      refine wpAnyH_done (by kernel_rfl) (NoPanic.normal ?_) _
      go_wp2
      go_ret
      exact ⟨rfl, hHeld.duo.by_⟩

set_option maxRecDepth 100000 in
theorem lifted (os : Os) (started : os.Started) (H : Type) (enc : TypeId × Value → H) :
    ReturnsInHanded {} Try.checked os 7 .any (Rows.shaSameSpec.pre6 enc Try.prog Try.f7 Rows.shaSameRow.domain false) (Rows.shaSameSpec.post enc Try.prog Try.f7 false true false false) := by
  refine returnsInHanded_of_change (C := Try.checked) own started (by kernel_rfl) Try.func7
    (ChangeSpec.witness6 (enc := enc) (C := Try.checked) false ⟨#[], #[.string ByteArray.empty, .string ByteArray.empty, .int .u16 0], []⟩ 8 (by kernel_rfl) (by kernel_rfl) (by kernel_rfl) (by kernel_rfl)) ?_
  intro W base args ds gs before hval0 hW hcnd _
  have hval : ∀ (j : Nat) t v, Try.f7.params[j]? = some t → args[j]? = some v → Value.okWide Try.prog W .any base t v := hval0
  have hW' := hW
  obtain ⟨p, q, hA0, hV, rfl, hfz, hnd⟩ := hW
  have hA : DataW.TrodAll enc Try.prog W 0 (fun _ => true) true Try.f7.params.toList args.toList ds p := hA0
  rw [Try.params7] at hA hval
  obtain ⟨v0, vs0, d0, ds0, p0, q0, hargs, rfl, rfl, h0, r0⟩ := trodAll_cons hA
  obtain ⟨v1, vs1, d1, ds1, p1, q1, rfl, rfl, rfl, h1, r1⟩ := trodAll_cons r0
  obtain ⟨v2, vs2, d2, ds2, p2, q2, rfl, rfl, rfl, h2, r2⟩ := trodAll_cons r1
  obtain ⟨rfl, rfl, rfl⟩ := trodAll_nil r2
  obtain rfl : args = #[v0, v1, v2] := by cases args; simp_all
  obtain ⟨rfl, rfl⟩ := trodVars_none hV
  obtain ⟨a0, rfl, rfl, rfl, w0⟩ := open_string Try.underlying9 (hval 0 9 v0 rfl rfl) h0
  obtain ⟨a1, rfl, rfl, rfl, w1⟩ := open_string Try.underlying9 (hval 1 9 v1 rfl rfl) h1
  obtain ⟨a2, rfl, rfl, rfl, w2⟩ := open_int Try.underlying32 (hval 2 32 v2 rfl rfl) h2
  refine (walk W a0 w0 a1 w1 a2 w2).mono fun e W' ⟨he, hg⟩ => ?_
  subst he
  exact ⟨_, rfl, law_post laidOut rfl hW' (by kernel_rfl) rfl Try.underlying4 rfl (below_of_by hg)⟩

theorem proved : Rows.ShaSameSaid :=
  OpenClaim.holds_of_wide 7 Try.f7 rfl rfl rfl rfl rfl rfl rfl ⟨rfl, rfl, rfl, rfl, rfl⟩ rfl rfl rfl rfl rfl (by kernel_rfl) Try.func7 (by kernel_rfl)
    (of_decide_eq_true (by kernel_rfl)) (by unfold Func.isWrapper; first | (rw [if_pos (by decide +kernel)]; kernel_rfl) | (rw [if_neg (by decide +kernel)]; exact ⟨rfl, rfl⟩))
    (fun os started H enc _ => lifted os started H enc)
#print axioms proved
end Go.Proofs.Ytgpafmkhkepjbaa.shaSame
