/-
  MacKnown: the chapter's examples, and some more of the standard's (a closed statement; no condition).
-/
import Derived.Test.YtgpafmkhkepjbaaRefMac2
namespace Go.Proofs.Ytgpafmkhkepjbaa.macKnown
open Go.ChangeShapes Go.WideShapes Go.ChangeAt Go.RowKit

/-- n bytes, of which the first i are c -/
def fillL (c : UInt8) (n i : Nat) : List UInt8 := List.replicate i c ++ List.replicate (n - i) 0
theorem fill_len (c : UInt8) (n i : Nat) (h : i ≤ n) : (fillL c n i).length = n := by simp [fillL]; omega
theorem fill_set (c : UInt8) (n i : Nat) (h : i < n) : (fillL c n i).set i c = fillL c n (i + 1) := by
  unfold fillL
  obtain ⟨m, rfl⟩ : ∃ m, n = i + (m + 1) := ⟨n - i - 1, by omega⟩
  rw [show i + (m + 1) - i = m + 1 by omega, show i + (m + 1) - (i + 1) = m by omega, List.replicate_succ, List.set_append_right _ _ (by simp)]
  simp [List.replicate_succ']
theorem fill_full (c : UInt8) (n : Nat) : fillL c n n = List.replicate n c := by simp [fillL]
theorem fill_none (c : UInt8) (n : Nat) : fillL c n 0 = zeros n := by simp [fillL, zeros]
def k1 : ByteArray := ⟨(List.replicate 20 (11 : UInt8)).toArray⟩
def k2 : ByteArray := ⟨(List.replicate 20 (170 : UInt8)).toArray⟩
def d3 : ByteArray := ⟨(List.replicate 50 (221 : UInt8)).toArray⟩
def k4 : ByteArray := ⟨(List.replicate 131 (170 : UInt8)).toArray⟩
def e0 : ByteArray := ⟨#[]⟩
def z64 : ByteArray := ⟨(zeros 64).toArray⟩
def t1 : ByteArray := ⟨#[72, 105, 32, 84, 104, 101, 114, 101]⟩
def t3 : ByteArray := ⟨#[84, 101, 115, 116, 32, 85, 115, 105, 110, 103, 32, 76, 97, 114, 103, 101, 114, 32, 84, 104, 97, 110, 32, 66, 108, 111, 99, 107, 45, 83, 105, 122, 101, 32, 75, 101, 121, 32, 45, 32, 72, 97, 115, 104, 32, 75, 101, 121, 32, 70, 105, 114, 115, 116]⟩
def x1 : List UInt8 := [98, 48, 51, 52, 52, 99, 54, 49, 100, 56, 100, 98, 51, 56, 53, 51, 53, 99, 97, 56, 97, 102, 99, 101, 97, 102, 48, 98, 102, 49, 50, 98, 56, 56, 49, 100, 99, 50, 48, 48, 99, 57, 56, 51, 51, 100, 97, 55, 50, 54, 101, 57, 51, 55, 54, 99, 50, 101, 51, 50, 99, 102, 102, 55]
def x2 : List UInt8 := [55, 55, 51, 101, 97, 57, 49, 101, 51, 54, 56, 48, 48, 101, 52, 54, 56, 53, 52, 100, 98, 56, 101, 98, 100, 48, 57, 49, 56, 49, 97, 55, 50, 57, 53, 57, 48, 57, 56, 98, 51, 101, 102, 56, 99, 49, 50, 50, 100, 57, 54, 51, 53, 53, 49, 52, 99, 101, 100, 53, 54, 53, 102, 101]
def x3 : List UInt8 := [54, 48, 101, 52, 51, 49, 53, 57, 49, 101, 101, 48, 98, 54, 55, 102, 48, 100, 56, 97, 50, 54, 97, 97, 99, 98, 102, 53, 98, 55, 55, 102, 56, 101, 48, 98, 99, 54, 50, 49, 51, 55, 50, 56, 99, 53, 49, 52, 48, 53, 52, 54, 48, 52, 48, 102, 48, 101, 101, 51, 55, 102, 53, 52]
theorem hex1 : hexL (markB k1 t1) = x1 := by kernel_rfl
theorem hex2 : hexL (markB k2 d3) = x2 := by kernel_rfl
theorem hex3 : hexL (markB k4 t3) = x3 := by kernel_rfl
theorem same0 : markB z64 e0 = markB e0 e0 := by
  have h : keyB z64 = keyB e0 := by kernel_rfl
  unfold markB innerB
  rw [h]

structure Four (w0 : World) (g1 g2 g3 g4 : Nat) (l1 l2 l3 l4 : List UInt8) (W : World) : Prop where
  a : Blk W g1 5 (u8s l1).toArray
  b : Blk W g2 5 (u8s l2).toArray
  c : Blk W g3 5 (u8s l3).toArray
  d : Blk W g4 5 (u8s l4).toArray
  by_ : w0.grownBy W none
theorem Four.drew {w0 : World} {g1 g2 g3 g4 : Nat} {l1 l2 l3 l4 : List UInt8} {W : World} (h : Four w0 g1 g2 g3 g4 l1 l2 l3 l4 W) : Four w0 g1 g2 g3 g4 l1 l2 l3 l4 W.drew := ⟨h.a.drew, h.b.drew, h.c.drew, h.d.drew, by_drew h.by_⟩
theorem Four.grown {w0 : World} {g1 g2 g3 g4 : Nat} {l1 l2 l3 l4 : List UInt8} {W W' : World} (h : Four w0 g1 g2 g3 g4 l1 l2 l3 l4 W) (y : W.grownBy W' none) : Four w0 g1 g2 g3 g4 l1 l2 l3 l4 W' :=
  ⟨h.a.grown y (by simp), h.b.grown y (by simp), h.c.grown y (by simp), h.d.grown y (by simp), by_trans h.by_ y (by simp)⟩
structure L4 (w0 : World) (g1 g2 g3 g4 : Nat) (m : Nat) (c : Value) (wr : World) (i : Nat) : Prop where
  slot : c = .int .i64 i
  le : i ≤ 131
  num : m = 131 - i
  four : Four w0 g1 g2 g3 g4 (fillL 11 20 (min i 20)) (fillL 170 20 (min i 20)) (fillL 221 50 (min i 50)) (fillL 170 131 i) wr
/-- one of four blocks is stored into -/
theorem set_one {W : World} {g : Nat} {c : UInt8} {n i : Nat} (h : Blk W g 5 (u8s (fillL c n i)).toArray) (hi : i < n) : Blk (W.setCell ⟨g, i, none⟩ (.int .u8 (c.toNat : Int))) g 5 (u8s (fillL c n (i + 1))).toArray ∧ (∃ u, W.cell? ⟨g, i, none⟩ = some u) ∧ W.frozen? ⟨g, i, none⟩ = false := by
  have h1 := h.set_ i (.int .u8 (c.toNat : Int))
  rw [u8s_set, fill_set c n i hi] at h1
  exact ⟨h1, ⟨_, by rw [h.cell]; exact Array.getElem?_eq_getElem (by rw [List.size_toArray, u8s_len, fill_len c n i (by omega)]; exact hi)⟩, h.frozen i⟩

set_option maxRecDepth 100000 in
set_option maxHeartbeats 2000000 in
theorem walk (w : World) : Calls Try.prog 13 #[] w fun e w' => e = .returned (.bool true) ∧ w.grownBy w' none := by
  have m20 : ∀ W : World, (Instr.makeSlice 28 (.int .i64 20) (.int .i64 20)).run Try.prog W = .ok (.slice (some ⟨W.heap.size, 0, none⟩) 20 20) (W.alloc (.cells (u8s (zeros 20)).toArray 5)) := fun W => mk_zeros 20 (by decide) W
  have m50 : ∀ W : World, (Instr.makeSlice 28 (.int .i64 50) (.int .i64 50)).run Try.prog W = .ok (.slice (some ⟨W.heap.size, 0, none⟩) 50 50) (W.alloc (.cells (u8s (zeros 50)).toArray 5)) := fun W => mk_zeros 50 (by decide) W
  have m131 : ∀ W : World, (Instr.makeSlice 28 (.int .i64 131) (.int .i64 131)).run Try.prog W = .ok (.slice (some ⟨W.heap.size, 0, none⟩) 131 131) (W.alloc (.cells (u8s (zeros 131)).toArray 5)) := fun W => mk_zeros 131 (by decide) W
  have hf : ∃ W, W = (((w.alloc (.cells (u8s (zeros 20)).toArray 5)).alloc (.cells (u8s (zeros 20)).toArray 5)).alloc (.cells (u8s (zeros 50)).toArray 5)).alloc (.cells (u8s (zeros 131)).toArray 5) ∧
      Four w w.heap.size (w.heap.size + 1) (w.heap.size + 1 + 1) (w.heap.size + 1 + 1 + 1) (zeros 20) (zeros 20) (zeros 50) (zeros 131) W := by
    refine ⟨_, rfl, (((Blk.new w 5 _).alloc _).alloc _).alloc _, ?_, ?_, ?_, by_alloc (by_alloc (by_alloc (by_alloc (by_refl _ _) _) _) _) _⟩
    · have h := Blk.new (w.alloc (.cells (u8s (zeros 20)).toArray 5)) 5 (u8s (zeros 20)).toArray
      have e : (w.alloc (.cells (u8s (zeros 20)).toArray 5)).heap.size = w.heap.size + 1 := by simp
      rw [e] at h
      exact (h.alloc _).alloc _
    · have h := Blk.new ((w.alloc (.cells (u8s (zeros 20)).toArray 5)).alloc (.cells (u8s (zeros 20)).toArray 5)) 5 (u8s (zeros 50)).toArray
      have e : ((w.alloc (.cells (u8s (zeros 20)).toArray 5)).alloc (.cells (u8s (zeros 20)).toArray 5)).heap.size = w.heap.size + 1 + 1 := by simp
      rw [e] at h
      exact h.alloc _
    · have h := Blk.new (((w.alloc (.cells (u8s (zeros 20)).toArray 5)).alloc (.cells (u8s (zeros 20)).toArray 5)).alloc (.cells (u8s (zeros 50)).toArray 5)) 5 (u8s (zeros 131)).toArray
      have e : (((w.alloc (.cells (u8s (zeros 20)).toArray 5)).alloc (.cells (u8s (zeros 20)).toArray 5)).alloc (.cells (u8s (zeros 50)).toArray 5)).heap.size = w.heap.size + 1 + 1 + 1 := by simp
      rw [e] at h
      exact h
  obtain ⟨W, hW, hF⟩ := hf
  obtain ⟨Z20, hZ20⟩ : ∃ Z, Z = (u8s (zeros 20)).toArray := ⟨_, rfl⟩
  obtain ⟨Z50, hZ50⟩ : ∃ Z, Z = (u8s (zeros 50)).toArray := ⟨_, rfl⟩
  obtain ⟨Z131, hZ131⟩ : ∃ Z, Z = (u8s (zeros 131)).toArray := ⟨_, rfl⟩
  rw [← hZ20] at m20 hW
  rw [← hZ50] at m50 hW
  rw [← hZ131] at m131 hW
  have HF := Lib.hid hF
  have HW := Lib.hid hW
  clear hF hW hZ20 hZ50 hZ131
  go_enter Try.func13, Try.ntmps13
  go_wp2
  rw [← HW.out]
  clear HW m20 m50 m131
  generalize hg1 : w.heap.size = g1 at *
  generalize hg2 : g1 + 1 = g2 at *
  generalize hg3 : g2 + 1 = g3 at *
  generalize hg4 : g3 + 1 = g4 at *
  have HG := Lib.hid (And.intro hg1 (And.intro hg2 (And.intro hg3 hg4)))
  clear hg1 hg2 hg3 hg4
  go_loopg [5] 131 (fun m c wr => ∃ i, L4 w g1 g2 g3 g4 m c wr i)
  case atStart => exact ⟨0, rfl, by omega, by omega, by simpa [fill_none] using HF.out⟩
  case round =>
    clear HF
    obtain ⟨i, hr⟩ := hrel
    obtain rfl := hr.slot
    have hle := hr.le
    have Hr := Lib.hid hr
    clear hr
    have hd : g1 ≠ g2 ∧ g1 ≠ g3 ∧ g1 ≠ g4 ∧ g2 ≠ g3 ∧ g2 ≠ g4 ∧ g3 ≠ g4 ∧ w.heap.size ≤ g1 ∧ w.heap.size ≤ g2 ∧ w.heap.size ≤ g3 ∧ w.heap.size ≤ g4 := by have := HG.out; omega
    have HD := Lib.hid hd
    clear hd
    by_cases hlt : i < 131
    · have p0 : (0 : Int) ≤ (i : Int) := by omega
      have p1 : (i : Int) < 131 := by omega
      have wx : IntKind.i64.wrap ((i : Int) + 1) = (i : Int) + 1 := by rw [IntKind.wrap_i64]; omega
      have h4 := Hr.out.four
      have hnum := Hr.out.num
      rcases Nat.lt_or_ge i 20 with h20 | h20
      · have e20 : min i 20 = i := by omega
        have e50 : min i 50 = i := by omega
        have n20 : min (i + 1) 20 = i + 1 := by omega
        have n50 : min (i + 1) 50 = i + 1 := by omega
        rw [e20, e50] at h4
        obtain ⟨a1, ⟨u1, c1⟩, f1⟩ := set_one h4.a h20
        have b1 := h4.b.far (p := ⟨g1, i, none⟩) (Ne.symm HD.out.1) (.int .u8 11)
        have c1b := h4.c.far (p := ⟨g1, i, none⟩) (Ne.symm HD.out.2.1) (.int .u8 11)
        have d1 := h4.d.far (p := ⟨g1, i, none⟩) (Ne.symm HD.out.2.2.1) (.int .u8 11)
        obtain ⟨b2, ⟨u2, c2⟩, f2⟩ := set_one b1 h20
        have a2 := a1.far (p := ⟨g2, i, none⟩) HD.out.1 (.int .u8 170)
        have c2b := c1b.far (p := ⟨g2, i, none⟩) (Ne.symm HD.out.2.2.2.1) (.int .u8 170)
        have d2 := d1.far (p := ⟨g2, i, none⟩) (Ne.symm HD.out.2.2.2.2.1) (.int .u8 170)
        obtain ⟨c3b, ⟨u3, c3⟩, f3⟩ := set_one c2b (show i < 50 by omega)
        have a3 := a2.far (p := ⟨g3, i, none⟩) HD.out.2.1 (.int .u8 221)
        have b3 := b2.far (p := ⟨g3, i, none⟩) HD.out.2.2.2.1 (.int .u8 221)
        have d3 := d2.far (p := ⟨g3, i, none⟩) (Ne.symm HD.out.2.2.2.2.2.1) (.int .u8 221)
        obtain ⟨d4, ⟨u4, c4⟩, f4⟩ := set_one d3 hlt
        have a4 := a3.far (p := ⟨g4, i, none⟩) HD.out.2.2.1 (.int .u8 170)
        have b4 := b3.far (p := ⟨g4, i, none⟩) HD.out.2.2.2.2.1 (.int .u8 170)
        have c4b := c3b.far (p := ⟨g4, i, none⟩) HD.out.2.2.2.2.2.1 (.int .u8 170)
        have hy := by_set (by_set (by_set (by_set h4.by_ (p := ⟨g1, i, none⟩) (.inr HD.out.2.2.2.2.2.2.1) (.int .u8 11)) (p := ⟨g2, i, none⟩) (.inr HD.out.2.2.2.2.2.2.2.1) (.int .u8 170)) (p := ⟨g3, i, none⟩) (.inr HD.out.2.2.2.2.2.2.2.2.1) (.int .u8 221)) (p := ⟨g4, i, none⟩) (.inr HD.out.2.2.2.2.2.2.2.2.2) (.int .u8 170)
        have hrel : L4 w g1 g2 g3 g4 (130 - i) (.int .i64 ((i : Int) + 1)) ((((wr.setCell ⟨g1, i, none⟩ (.int .u8 11)).setCell ⟨g2, i, none⟩ (.int .u8 170)).setCell ⟨g3, i, none⟩ (.int .u8 221)).setCell ⟨g4, i, none⟩ (.int .u8 170)) (i + 1) := ⟨by simp, by omega, by omega, by rw [n20, n50]; exact ⟨a4, b4, c4b, d4, hy⟩⟩
        have q1 : (wr.setCell ⟨g1, i, none⟩ (.int .u8 11)).cell? ⟨g2, i, none⟩ = some u2 := c2
        have q2 : ((wr.setCell ⟨g1, i, none⟩ (.int .u8 11)).setCell ⟨g2, i, none⟩ (.int .u8 170)).cell? ⟨g3, i, none⟩ = some u3 := c3
        have q3 : (((wr.setCell ⟨g1, i, none⟩ (.int .u8 11)).setCell ⟨g2, i, none⟩ (.int .u8 170)).setCell ⟨g3, i, none⟩ (.int .u8 221)).cell? ⟨g4, i, none⟩ = some u4 := c4
        have r1 : (wr.setCell ⟨g1, i, none⟩ (.int .u8 11)).frozen? ⟨g2, i, none⟩ = false := f2
        have r2 : ((wr.setCell ⟨g1, i, none⟩ (.int .u8 11)).setCell ⟨g2, i, none⟩ (.int .u8 170)).frozen? ⟨g3, i, none⟩ = false := f3
        have r3 : (((wr.setCell ⟨g1, i, none⟩ (.int .u8 11)).setCell ⟨g2, i, none⟩ (.int .u8 170)).setCell ⟨g3, i, none⟩ (.int .u8 221)).frozen? ⟨g4, i, none⟩ = false := f4
        have Hn := Lib.hid (And.intro hrel (show 130 - i < gk by omega))
        clear h4 a1 b1 c1b d1 b2 a2 c2b d2 c3b a3 b3 d3 d4 a4 b4 c4b hy hrel Hr hnum e20 e50 n20 n50 c2 c3 c4 f2 f3 f4
        have p2 : (i : Int) < 20 := by omega
        have p3 : (i : Int) < 50 := by omega
        go_wp2
        go_roundg (130 - i)
        case measure => exact Hn.out.2
        case rel => exact ⟨i + 1, Hn.out.1⟩
      · have p2 : ¬ (i : Int) < 20 := by omega
        have e20 : min i 20 = 20 := by omega
        have n20 : min (i + 1) 20 = 20 := by omega
        rw [e20] at h4
        rcases Nat.lt_or_ge i 50 with h50 | h50
        · have p3 : (i : Int) < 50 := by omega
          have e50 : min i 50 = i := by omega
          have n50 : min (i + 1) 50 = i + 1 := by omega
          rw [e50] at h4
          obtain ⟨c3b, ⟨u3, c3⟩, f3⟩ := set_one h4.c h50
          have a3 := h4.a.far (p := ⟨g3, i, none⟩) HD.out.2.1 (.int .u8 221)
          have b3 := h4.b.far (p := ⟨g3, i, none⟩) HD.out.2.2.2.1 (.int .u8 221)
          have d3 := h4.d.far (p := ⟨g3, i, none⟩) (Ne.symm HD.out.2.2.2.2.2.1) (.int .u8 221)
          obtain ⟨d4, ⟨u4, c4⟩, f4⟩ := set_one d3 hlt
          have a4 := a3.far (p := ⟨g4, i, none⟩) HD.out.2.2.1 (.int .u8 170)
          have b4 := b3.far (p := ⟨g4, i, none⟩) HD.out.2.2.2.2.1 (.int .u8 170)
          have c4b := c3b.far (p := ⟨g4, i, none⟩) HD.out.2.2.2.2.2.1 (.int .u8 170)
          have hy := by_set (by_set h4.by_ (p := ⟨g3, i, none⟩) (.inr HD.out.2.2.2.2.2.2.2.2.1) (.int .u8 221)) (p := ⟨g4, i, none⟩) (.inr HD.out.2.2.2.2.2.2.2.2.2) (.int .u8 170)
          have hrel : L4 w g1 g2 g3 g4 (130 - i) (.int .i64 ((i : Int) + 1)) ((wr.setCell ⟨g3, i, none⟩ (.int .u8 221)).setCell ⟨g4, i, none⟩ (.int .u8 170)) (i + 1) := ⟨by simp, by omega, by omega, by rw [n20, n50]; exact ⟨a4, b4, c4b, d4, hy⟩⟩
          have q3 : (wr.setCell ⟨g3, i, none⟩ (.int .u8 221)).cell? ⟨g4, i, none⟩ = some u4 := c4
          have r3 : (wr.setCell ⟨g3, i, none⟩ (.int .u8 221)).frozen? ⟨g4, i, none⟩ = false := f4
          have Hn := Lib.hid (And.intro hrel (show 130 - i < gk by omega))
          clear h4 c3b a3 b3 d3 d4 a4 b4 c4b hy hrel Hr hnum e20 e50 n20 n50 c4 f4
          go_wp2
          go_roundg (130 - i)
          case measure => exact Hn.out.2
          case rel => exact ⟨i + 1, Hn.out.1⟩
        · have p3 : ¬ (i : Int) < 50 := by omega
          have e50 : min i 50 = 50 := by omega
          have n50 : min (i + 1) 50 = 50 := by omega
          rw [e50] at h4
          obtain ⟨d4, ⟨u4, c4⟩, f4⟩ := set_one h4.d hlt
          have a4 := h4.a.far (p := ⟨g4, i, none⟩) HD.out.2.2.1 (.int .u8 170)
          have b4 := h4.b.far (p := ⟨g4, i, none⟩) HD.out.2.2.2.2.1 (.int .u8 170)
          have c4b := h4.c.far (p := ⟨g4, i, none⟩) HD.out.2.2.2.2.2.1 (.int .u8 170)
          have hy := by_set h4.by_ (p := ⟨g4, i, none⟩) (.inr HD.out.2.2.2.2.2.2.2.2.2) (.int .u8 170)
          have hrel : L4 w g1 g2 g3 g4 (130 - i) (.int .i64 ((i : Int) + 1)) (wr.setCell ⟨g4, i, none⟩ (.int .u8 170)) (i + 1) := ⟨by simp, by omega, by omega, by rw [n20, n50]; exact ⟨a4, b4, c4b, d4, hy⟩⟩
          have Hn := Lib.hid (And.intro hrel (show 130 - i < gk by omega))
          clear h4 d4 a4 b4 c4b hy hrel Hr hnum e20 e50 n20 n50
          go_wp2
          go_roundg (130 - i)
          case measure => exact Hn.out.2
          case rel => exact ⟨i + 1, Hn.out.1⟩
    · have hi : i = 131 := by omega
      subst hi
      have h4 := Hr.out.four
      rw [show min 131 20 = 20 by omega, show min 131 50 = 50 by omega, fill_full, fill_full, fill_full, fill_full] at h4
      have hv1 : ∀ W, Four w g1 g2 g3 g4 (List.replicate 20 11) (List.replicate 20 170) (List.replicate 50 221) (List.replicate 131 170) W → (convert 28 9 (.slice (some ⟨g1, 0, none⟩) 20 20)).run Try.prog W = .ok (.string k1) W := fun W h => conv_blk (by simp) h.a
      have hv2 : ∀ W, Four w g1 g2 g3 g4 (List.replicate 20 11) (List.replicate 20 170) (List.replicate 50 221) (List.replicate 131 170) W → (convert 28 9 (.slice (some ⟨g2, 0, none⟩) 20 20)).run Try.prog W = .ok (.string k2) W := fun W h => conv_blk (by simp) h.b
      have hv3 : ∀ W, Four w g1 g2 g3 g4 (List.replicate 20 11) (List.replicate 20 170) (List.replicate 50 221) (List.replicate 131 170) W → (convert 28 9 (.slice (some ⟨g3, 0, none⟩) 50 50)).run Try.prog W = .ok (.string d3) W := fun W h => conv_blk (by simp) h.c
      have hv4 : ∀ W, Four w g1 g2 g3 g4 (List.replicate 20 11) (List.replicate 20 170) (List.replicate 50 221) (List.replicate 131 170) W → (convert 28 9 (.slice (some ⟨g4, 0, none⟩) 131 131)).run Try.prog W = .ok (.string k4) W := fun W h => conv_blk (by simp) h.d
      have hm1 := fun W => mac_any k1 t1 (by decide) (by decide) W
      have hm2 := fun W => mac_any k2 d3 (by decide) (by decide) W
      have hm3 := fun W => mac_any k4 t3 (by decide) (by decide) W
      have hm4 := fun W => mac_any e0 e0 (by decide) (by decide) W
      have hm5 := fun W => mac_any z64 e0 (by decide) (by decide) W
      rw [same0] at hm5
      have hh1 := fun W => hex_any (markB k1 t1) (markB_len _ _) W
      have hh2 := fun W => hex_any (markB k2 d3) (markB_len _ _) W
      have hh3 := fun W => hex_any (markB k4 t3) (markB_len _ _) W
      rw [hex1] at hh1
      rw [hex2] at hh2
      rw [hex3] at hh3
      have hs1 : ∀ W, Calls Try.prog 23 #[.string ⟨#[]⟩, .string ⟨#[97]⟩] W fun e w' => e = .returned (.bool false) ∧ W.grownBy w' none := fun W => by
        have h := same_any ⟨#[]⟩ ⟨#[97]⟩ (by decide) (by decide) W
        rw [show ((⟨#[]⟩ : ByteArray).toList == (⟨#[97]⟩ : ByteArray).toList) = false by kernel_rfl] at h
        exact h
      have hs2 : ∀ W, Calls Try.prog 23 #[.string ⟨#[98, 97]⟩, .string ⟨#[99, 97]⟩] W fun e w' => e = .returned (.bool false) ∧ W.grownBy w' none := fun W => by
        have h := same_any ⟨#[98, 97]⟩ ⟨#[99, 97]⟩ (by decide) (by decide) W
        rw [show ((⟨#[98, 97]⟩ : ByteArray).toList == (⟨#[99, 97]⟩ : ByteArray).toList) = false by kernel_rfl] at h
        exact h
      have hq := eq_row (markB e0 e0) (markB e0 e0) (markB_len _ _) (markB_len _ _)
      have hgu : Try.prog.eqGuardType Try.prog.depth 22 = false := by kernel_rfl
      rw [decide_eq_true rfl] at hq
      have hx1 : ((⟨x1.toArray⟩ : ByteArray).toList == [98, 48, 51, 52, 52, 99, 54, 49, 100, 56, 100, 98, 51, 56, 53, 51, 53, 99, 97, 56, 97, 102, 99, 101, 97, 102, 48, 98, 102, 49, 50, 98, 56, 56, 49, 100, 99, 50, 48, 48, 99, 57, 56, 51, 51, 100, 97, 55, 50, 54, 101, 57, 51, 55, 54, 99, 50, 101, 51, 50, 99, 102, 102, 55]) = true := by kernel_rfl
      have hx2 : ((⟨x2.toArray⟩ : ByteArray).toList == [55, 55, 51, 101, 97, 57, 49, 101, 51, 54, 56, 48, 48, 101, 52, 54, 56, 53, 52, 100, 98, 56, 101, 98, 100, 48, 57, 49, 56, 49, 97, 55, 50, 57, 53, 57, 48, 57, 56, 98, 51, 101, 102, 56, 99, 49, 50, 50, 100, 57, 54, 51, 53, 53, 49, 52, 99, 101, 100, 53, 54, 53, 102, 101]) = true := by kernel_rfl
      have hx3 : ((⟨x3.toArray⟩ : ByteArray).toList == [54, 48, 101, 52, 51, 49, 53, 57, 49, 101, 101, 48, 98, 54, 55, 102, 48, 100, 56, 97, 50, 54, 97, 97, 99, 98, 102, 53, 98, 55, 55, 102, 56, 101, 48, 98, 99, 54, 50, 49, 51, 55, 50, 56, 99, 53, 49, 52, 48, 53, 52, 54, 48, 52, 48, 102, 48, 101, 101, 51, 55, 102, 53, 52]) = true := by kernel_rfl
      generalize (⟨x1.toArray⟩ : ByteArray) = X1 at *
      generalize (⟨x2.toArray⟩ : ByteArray) = X2 at *
      generalize (⟨x3.toArray⟩ : ByteArray) = X3 at *
      generalize (u8s (markB k1 t1)).toArray = M1 at *
      generalize (u8s (markB k2 d3)).toArray = M2 at *
      generalize (u8s (markB k4 t3)).toArray = M3 at *
      generalize (u8s (markB e0 e0)).toArray = M4 at *
      have m64 : ∀ W : World, (Instr.makeSlice 28 (.int .i64 64) (.int .i64 64)).run Try.prog W = .ok (.slice (some ⟨W.heap.size, 0, none⟩) 64 64) (W.alloc (.cells (u8s (zeros 64)).toArray 5)) := fun W => mk_zeros 64 (by decide) W
      have hvz : ∀ (W : World) (g : Nat), Blk W g 5 (u8s (zeros 64)).toArray → (convert 28 9 (.slice (some ⟨g, 0, none⟩) 64 64)).run Try.prog W = .ok (.string z64) W := fun W g h => conv_blk (by simp [zeros]) h
      have HZ := Lib.hid hvz
      have hzz : (u8s (zeros 64)).toArray = (u8s (zeros 64)).toArray := rfl
      obtain ⟨Z64, hZ64⟩ : ∃ Z, Z = (u8s (zeros 64)).toArray := ⟨_, rfl⟩
      rw [← hZ64] at m64 HZ
      have H4 := Lib.hid h4
      have HV := Lib.hid (And.intro hv1 (And.intro hv2 (And.intro hv3 hv4)))
      have HH := Lib.hid (And.intro hh1 (And.intro hh2 hh3))
      have HM := Lib.hid (And.intro hm1 (And.intro hm2 (And.intro hm3 (And.intro hm4 hm5))))
      have HS := Lib.hid (And.intro hs1 hs2)
      clear h4 hv1 hv2 hv3 hv4 hh1 hh2 hh3 hm1 hm2 hm3 hm4 hm5 hs1 hs2 Hr HG HD hvz hzz hZ64
      generalize List.replicate 20 (11 : UInt8) = r1 at *
      generalize List.replicate 20 (170 : UInt8) = r2 at *
      generalize List.replicate 50 (221 : UInt8) = r3 at *
      generalize List.replicate 131 (170 : UInt8) = r4 at *
      unfold t1 t3 e0 at HM
      generalize k1 = K1 at *
      generalize k2 = K2 at *
      generalize k4 = K4 at *
      generalize d3 = D3 at *
      generalize z64 = ZZ at *
      go_wp2
      refine wp_region_noPanic ?_
      refine wp_region_held_drew (S := fun W => Four w g1 g2 g3 g4 r1 r2 r3 r4 W) (by kernel_rfl) (H4.out.drew) (fun hHeld => ?_)
      refine wpAnyH_ready (rs := [0]) (by kernel_rfl) (by simp) ?_
      refine AllReadyH.cons (o := _) rfl (fun K hK => ?_) AllReadyH.nil
      go_simp
      refine (works4_any _).mono ?_
      rintro e v0 ⟨rfl, z0⟩
      dsimp only
      refine hK.out _ _ (hHeld.grown z0) (fun hHeld => ?_)
      clear hK K
      try simp only [Act.put, List.getElem_toArray, List.getElem_cons_zero, List.getElem_cons_succ, List.setIfInBounds_toArray, List.set_cons_zero, List.set_cons_succ]
      refine wpAnyH_take (i := 1) (oi := _) (v := _) rfl (by kernel_rfl) (by kernel_rfl) (by kernel_rfl) (fun _ _ _ h => h) (Or.inl ⟨by rfl, fun _ _ => by go_simp; try rfl⟩) hHeld ?_
      try simp only [Act.put, List.getElem_toArray, List.getElem_cons_zero, List.getElem_cons_succ, List.setIfInBounds_toArray, List.set_cons_zero, List.set_cons_succ]
      refine wpAnyH_take (i := 2) (oi := _) (v := _) rfl (by kernel_rfl) (by kernel_rfl) (by kernel_rfl) (fun _ _ _ h => h) (Or.inl ⟨by rfl, fun _ _ => by go_simp; try rfl⟩) hHeld ?_
      try simp only [Act.put, List.getElem_toArray, List.getElem_cons_zero, List.getElem_cons_succ, List.setIfInBounds_toArray, List.set_cons_zero, List.set_cons_succ]
      refine wpAnyH_take (i := 3) (oi := _) (v := _) rfl (by kernel_rfl) (by kernel_rfl) (by kernel_rfl) (fun _ _ _ h => h) (Or.inl ⟨by rfl, fun _ h => by have hx := HV.out.1 _ h; (try simp only [List.getElem_toArray, List.getElem_cons_zero, List.getElem_cons_succ]); go_simp; try rfl⟩) hHeld ?_
      try simp only [Act.put, List.getElem_toArray, List.getElem_cons_zero, List.getElem_cons_succ, List.setIfInBounds_toArray, List.set_cons_zero, List.set_cons_succ]
      refine wpAnyH_ready (rs := [4]) (by kernel_rfl) (by simp) ?_
      refine AllReadyH.cons (o := _) rfl (fun K hK => ?_) AllReadyH.nil
      go_simp
      refine (HM.out.1 _).mono ?_
      rintro e v4 ⟨rfl, z4⟩
      dsimp only
      refine hK.out _ _ (hHeld.grown z4) (fun hHeld => ?_)
      clear hK K
      try simp only [Act.put, List.getElem_toArray, List.getElem_cons_zero, List.getElem_cons_succ, List.setIfInBounds_toArray, List.set_cons_zero, List.set_cons_succ]
      refine wpAnyH_ready (rs := [5]) (by kernel_rfl) (by simp) ?_
      refine AllReadyH.cons (o := _) rfl (fun K hK => ?_) AllReadyH.nil
      go_simp
      refine (HH.out.1 _).mono ?_
      rintro e v5 ⟨rfl, z5⟩
      dsimp only
      refine hK.out _ _ (hHeld.grown z5) (fun hHeld => ?_)
      clear hK K
      try simp only [Act.put, List.getElem_toArray, List.getElem_cons_zero, List.getElem_cons_succ, List.setIfInBounds_toArray, List.set_cons_zero, List.set_cons_succ]
      refine wpAnyH_take (i := 6) (oi := _) (v := _) rfl (by kernel_rfl) (by kernel_rfl) (by kernel_rfl) (fun _ _ _ h => h) (Or.inl ⟨by rfl, fun _ _ => by go_simp; try rfl⟩) hHeld ?_
      try simp only [Act.put, List.getElem_toArray, List.getElem_cons_zero, List.getElem_cons_succ, List.setIfInBounds_toArray, List.set_cons_zero, List.set_cons_succ]
      refine wpAnyH_take (i := 7) (oi := _) (v := _) rfl (by kernel_rfl) (by kernel_rfl) (by kernel_rfl) (fun _ _ _ h => h) (Or.inl ⟨by rfl, fun _ _ => by go_simp; try rfl⟩) hHeld ?_
      try simp only [Act.put, List.getElem_toArray, List.getElem_cons_zero, List.getElem_cons_succ, List.setIfInBounds_toArray, List.set_cons_zero, List.set_cons_succ]
      refine wpAnyH_take (i := 8) (oi := _) (v := _) rfl (by kernel_rfl) (by kernel_rfl) (by kernel_rfl) (fun _ _ _ h => h) (Or.inl ⟨by rfl, fun _ _ => by go_simp; try rfl⟩) hHeld ?_
      try simp only [Act.put, List.getElem_toArray, List.getElem_cons_zero, List.getElem_cons_succ, List.setIfInBounds_toArray, List.set_cons_zero, List.set_cons_succ]
      refine wpAnyH_take (i := 9) (oi := _) (v := _) rfl (by kernel_rfl) (by kernel_rfl) (by kernel_rfl) (fun _ _ _ h => h) (Or.inl ⟨by rfl, fun _ _ => by go_simp; try rfl⟩) hHeld ?_
      try simp only [Act.put, List.getElem_toArray, List.getElem_cons_zero, List.getElem_cons_succ, List.setIfInBounds_toArray, List.set_cons_zero, List.set_cons_succ]
      refine wpAnyH_take (i := 10) (oi := _) (v := _) rfl (by kernel_rfl) (by kernel_rfl) (by kernel_rfl) (fun _ _ _ h => h) (Or.inl ⟨by rfl, fun _ h => by have hx := HV.out.2.1 _ h; (try simp only [List.getElem_toArray, List.getElem_cons_zero, List.getElem_cons_succ]); go_simp; try rfl⟩) hHeld ?_
      try simp only [Act.put, List.getElem_toArray, List.getElem_cons_zero, List.getElem_cons_succ, List.setIfInBounds_toArray, List.set_cons_zero, List.set_cons_succ]
      refine wpAnyH_take (i := 11) (oi := _) (v := _) rfl (by kernel_rfl) (by kernel_rfl) (by kernel_rfl) (fun _ _ _ h => h) (Or.inl ⟨by rfl, fun _ _ => by go_simp; try rfl⟩) hHeld ?_
      try simp only [Act.put, List.getElem_toArray, List.getElem_cons_zero, List.getElem_cons_succ, List.setIfInBounds_toArray, List.set_cons_zero, List.set_cons_succ]
      refine wpAnyH_take (i := 12) (oi := _) (v := _) rfl (by kernel_rfl) (by kernel_rfl) (by kernel_rfl) (fun _ _ _ h => h) (Or.inl ⟨by rfl, fun _ h => by have hx := HV.out.2.2.1 _ h; (try simp only [List.getElem_toArray, List.getElem_cons_zero, List.getElem_cons_succ]); go_simp; try rfl⟩) hHeld ?_
      try simp only [Act.put, List.getElem_toArray, List.getElem_cons_zero, List.getElem_cons_succ, List.setIfInBounds_toArray, List.set_cons_zero, List.set_cons_succ]
      refine wpAnyH_ready (rs := [13]) (by kernel_rfl) (by simp) ?_
      refine AllReadyH.cons (o := _) rfl (fun K hK => ?_) AllReadyH.nil
      go_simp
      refine (HM.out.2.1 _).mono ?_
      rintro e v13 ⟨rfl, z13⟩
      dsimp only
      refine hK.out _ _ (hHeld.grown z13) (fun hHeld => ?_)
      clear hK K
      try simp only [Act.put, List.getElem_toArray, List.getElem_cons_zero, List.getElem_cons_succ, List.setIfInBounds_toArray, List.set_cons_zero, List.set_cons_succ]
      refine wpAnyH_ready (rs := [14]) (by kernel_rfl) (by simp) ?_
      refine AllReadyH.cons (o := _) rfl (fun K hK => ?_) AllReadyH.nil
      go_simp
      refine (HH.out.2.1 _).mono ?_
      rintro e v14 ⟨rfl, z14⟩
      dsimp only
      refine hK.out _ _ (hHeld.grown z14) (fun hHeld => ?_)
      clear hK K
      try simp only [Act.put, List.getElem_toArray, List.getElem_cons_zero, List.getElem_cons_succ, List.setIfInBounds_toArray, List.set_cons_zero, List.set_cons_succ]
      refine wpAnyH_take (i := 15) (oi := _) (v := _) rfl (by kernel_rfl) (by kernel_rfl) (by kernel_rfl) (fun _ _ _ h => h) (Or.inl ⟨by rfl, fun _ _ => by go_simp; try rfl⟩) hHeld ?_
      try simp only [Act.put, List.getElem_toArray, List.getElem_cons_zero, List.getElem_cons_succ, List.setIfInBounds_toArray, List.set_cons_zero, List.set_cons_succ]
      refine wpAnyH_take (i := 16) (oi := _) (v := _) rfl (by kernel_rfl) (by kernel_rfl) (by kernel_rfl) (fun _ _ _ h => h) (Or.inl ⟨by rfl, fun _ _ => by go_simp; try rfl⟩) hHeld ?_
      try simp only [Act.put, List.getElem_toArray, List.getElem_cons_zero, List.getElem_cons_succ, List.setIfInBounds_toArray, List.set_cons_zero, List.set_cons_succ]
      refine wpAnyH_take (i := 17) (oi := _) (v := _) rfl (by kernel_rfl) (by kernel_rfl) (by kernel_rfl) (fun _ _ _ h => h) (Or.inl ⟨by rfl, fun _ _ => by go_simp; try rfl⟩) hHeld ?_
      try simp only [Act.put, List.getElem_toArray, List.getElem_cons_zero, List.getElem_cons_succ, List.setIfInBounds_toArray, List.set_cons_zero, List.set_cons_succ]
      refine wpAnyH_take (i := 18) (oi := _) (v := _) rfl (by kernel_rfl) (by kernel_rfl) (by kernel_rfl) (fun _ _ _ h => h) (Or.inl ⟨by rfl, fun _ _ => by go_simp; try rfl⟩) hHeld ?_
      try simp only [Act.put, List.getElem_toArray, List.getElem_cons_zero, List.getElem_cons_succ, List.setIfInBounds_toArray, List.set_cons_zero, List.set_cons_succ]
      refine wpAnyH_take (i := 19) (oi := _) (v := _) rfl (by kernel_rfl) (by kernel_rfl) (by kernel_rfl) (fun _ _ _ h => h) (Or.inl ⟨by rfl, fun _ h => by have hx := HV.out.2.2.2 _ h; (try simp only [List.getElem_toArray, List.getElem_cons_zero, List.getElem_cons_succ]); go_simp; try rfl⟩) hHeld ?_
      try simp only [Act.put, List.getElem_toArray, List.getElem_cons_zero, List.getElem_cons_succ, List.setIfInBounds_toArray, List.set_cons_zero, List.set_cons_succ]
      refine wpAnyH_ready (rs := [20]) (by kernel_rfl) (by simp) ?_
      refine AllReadyH.cons (o := _) rfl (fun K hK => ?_) AllReadyH.nil
      go_simp
      refine (HM.out.2.2.1 _).mono ?_
      rintro e v20 ⟨rfl, z20⟩
      dsimp only
      refine hK.out _ _ (hHeld.grown z20) (fun hHeld => ?_)
      clear hK K
      try simp only [Act.put, List.getElem_toArray, List.getElem_cons_zero, List.getElem_cons_succ, List.setIfInBounds_toArray, List.set_cons_zero, List.set_cons_succ]
      refine wpAnyH_ready (rs := [21]) (by kernel_rfl) (by simp) ?_
      refine AllReadyH.cons (o := _) rfl (fun K hK => ?_) AllReadyH.nil
      go_simp
      refine (HH.out.2.2 _).mono ?_
      rintro e v21 ⟨rfl, z21⟩
      dsimp only
      refine hK.out _ _ (hHeld.grown z21) (fun hHeld => ?_)
      clear hK K
      try simp only [Act.put, List.getElem_toArray, List.getElem_cons_zero, List.getElem_cons_succ, List.setIfInBounds_toArray, List.set_cons_zero, List.set_cons_succ]
      refine wpAnyH_take (i := 22) (oi := _) (v := _) rfl (by kernel_rfl) (by kernel_rfl) (by kernel_rfl) (fun _ _ _ h => h) (Or.inl ⟨by rfl, fun _ _ => by go_simp; try rfl⟩) hHeld ?_
      try simp only [Act.put, List.getElem_toArray, List.getElem_cons_zero, List.getElem_cons_succ, List.setIfInBounds_toArray, List.set_cons_zero, List.set_cons_succ]
      refine wpAnyH_take (i := 23) (oi := _) (v := _) rfl (by kernel_rfl) (by kernel_rfl) (by kernel_rfl) (fun _ _ _ h => h) (Or.inl ⟨by rfl, fun _ _ => by go_simp; try rfl⟩) hHeld ?_
      try simp only [Act.put, List.getElem_toArray, List.getElem_cons_zero, List.getElem_cons_succ, List.setIfInBounds_toArray, List.set_cons_zero, List.set_cons_succ]
      refine wpAnyH_take (i := 24) (oi := _) (v := _) rfl (by kernel_rfl) (by kernel_rfl) (by kernel_rfl) (fun _ _ _ h => h) (Or.inl ⟨by rfl, fun _ _ => by go_simp; try rfl⟩) hHeld ?_
      try simp only [Act.put, List.getElem_toArray, List.getElem_cons_zero, List.getElem_cons_succ, List.setIfInBounds_toArray, List.set_cons_zero, List.set_cons_succ]
      refine wpAnyH_ready (rs := [25, 26]) (by kernel_rfl) (by simp) ?_
      refine AllReadyH.cons (o := _) rfl (fun K hK => ?_) (AllReadyH.cons (o := _) rfl (fun K hK => ?_) AllReadyH.nil)
      · go_simp
        refine (HM.out.2.2.2.1 _).mono ?_
        rintro e v25 ⟨rfl, z25⟩
        dsimp only
        refine hK.out _ _ (hHeld.grown z25) (fun hHeld => ?_)
        clear hK K
        try simp only [Act.put, List.getElem_toArray, List.getElem_cons_zero, List.getElem_cons_succ, List.setIfInBounds_toArray, List.set_cons_zero, List.set_cons_succ]
        have hcz := HZ.out (v25.alloc (.cells Z64 5)) v25.heap.size (Blk.new _ _ _)
        refine wpAnyH_ready (rs := [26]) (by kernel_rfl) (by simp) ?_
        refine AllReadyH.cons (o := _) rfl (fun K hK => ?_) AllReadyH.nil
        go_simp
        refine hK.out _ _ (hHeld.grown (World.grownBy_alloc _ _ none)) (fun hHeld => ?_)
        clear hK K
        try simp only [Act.put, List.getElem_toArray, List.getElem_cons_zero, List.getElem_cons_succ, List.setIfInBounds_toArray, List.set_cons_zero, List.set_cons_succ]
        refine wpAnyH_ready (rs := [27]) (by kernel_rfl) (by simp) ?_
        refine AllReadyH.cons (o := _) rfl (fun K hK => ?_) AllReadyH.nil
        go_simp
        refine hK.out _ _ (hHeld) (fun hHeld => ?_)
        clear hK K
        try simp only [Act.put, List.getElem_toArray, List.getElem_cons_zero, List.getElem_cons_succ, List.setIfInBounds_toArray, List.set_cons_zero, List.set_cons_succ]
        refine wpAnyH_ready (rs := [28]) (by kernel_rfl) (by simp) ?_
        refine AllReadyH.cons (o := _) rfl (fun K hK => ?_) AllReadyH.nil
        go_simp
        refine (HM.out.2.2.2.2 _).mono ?_
        rintro e v28 ⟨rfl, z28⟩
        dsimp only
        refine hK.out _ _ (hHeld.grown z28) (fun hHeld => ?_)
        clear hK K
        try simp only [Act.put, List.getElem_toArray, List.getElem_cons_zero, List.getElem_cons_succ, List.setIfInBounds_toArray, List.set_cons_zero, List.set_cons_succ]
        refine wpAnyH_take (i := 29) (oi := _) (v := _) rfl (by kernel_rfl) (by kernel_rfl) (by kernel_rfl) (fun _ _ _ h => h) (Or.inl ⟨by rfl, fun _ _ => by go_simp; try rfl⟩) hHeld ?_
        try simp only [Act.put, List.getElem_toArray, List.getElem_cons_zero, List.getElem_cons_succ, List.setIfInBounds_toArray, List.set_cons_zero, List.set_cons_succ]
        refine wpAnyH_take (i := 30) (oi := _) (v := _) rfl (by kernel_rfl) (by kernel_rfl) (by kernel_rfl) (fun _ _ _ h => h) (Or.inl ⟨by rfl, fun _ _ => by go_simp; try rfl⟩) hHeld ?_
        try simp only [Act.put, List.getElem_toArray, List.getElem_cons_zero, List.getElem_cons_succ, List.setIfInBounds_toArray, List.set_cons_zero, List.set_cons_succ]
        refine wpAnyH_take (i := 31) (oi := _) (v := _) rfl (by kernel_rfl) (by kernel_rfl) (by kernel_rfl) (fun _ _ _ h => h) (Or.inl ⟨by rfl, fun _ _ => by go_simp; try rfl⟩) hHeld ?_
        try simp only [Act.put, List.getElem_toArray, List.getElem_cons_zero, List.getElem_cons_succ, List.setIfInBounds_toArray, List.set_cons_zero, List.set_cons_succ]
        refine wpAnyH_ready (rs := [32]) (by kernel_rfl) (by simp) ?_
        refine AllReadyH.cons (o := _) rfl (fun K hK => ?_) AllReadyH.nil
        go_simp
        refine (HS.out.1 _).mono ?_
        rintro e v32 ⟨rfl, z32⟩
        dsimp only
        refine hK.out _ _ (hHeld.grown z32) (fun hHeld => ?_)
        clear hK K
        try simp only [Act.put, List.getElem_toArray, List.getElem_cons_zero, List.getElem_cons_succ, List.setIfInBounds_toArray, List.set_cons_zero, List.set_cons_succ]
        refine wpAnyH_take (i := 33) (oi := _) (v := _) rfl (by kernel_rfl) (by kernel_rfl) (by kernel_rfl) (fun _ _ _ h => h) (Or.inl ⟨by rfl, fun _ _ => by go_simp; try rfl⟩) hHeld ?_
        try simp only [Act.put, List.getElem_toArray, List.getElem_cons_zero, List.getElem_cons_succ, List.setIfInBounds_toArray, List.set_cons_zero, List.set_cons_succ]
        refine wpAnyH_take (i := 34) (oi := _) (v := _) rfl (by kernel_rfl) (by kernel_rfl) (by kernel_rfl) (fun _ _ _ h => h) (Or.inl ⟨by rfl, fun _ _ => by go_simp; try rfl⟩) hHeld ?_
        try simp only [Act.put, List.getElem_toArray, List.getElem_cons_zero, List.getElem_cons_succ, List.setIfInBounds_toArray, List.set_cons_zero, List.set_cons_succ]
        refine wpAnyH_take (i := 35) (oi := _) (v := _) rfl (by kernel_rfl) (by kernel_rfl) (by kernel_rfl) (fun _ _ _ h => h) (Or.inl ⟨by rfl, fun _ _ => by go_simp; try rfl⟩) hHeld ?_
        try simp only [Act.put, List.getElem_toArray, List.getElem_cons_zero, List.getElem_cons_succ, List.setIfInBounds_toArray, List.set_cons_zero, List.set_cons_succ]
        refine wpAnyH_ready (rs := [36]) (by kernel_rfl) (by simp) ?_
        refine AllReadyH.cons (o := _) rfl (fun K hK => ?_) AllReadyH.nil
        go_simp
        refine (HS.out.2 _).mono ?_
        rintro e v36 ⟨rfl, z36⟩
        dsimp only
        refine hK.out _ _ (hHeld.grown z36) (fun hHeld => ?_)
        clear hK K
        try simp only [Act.put, List.getElem_toArray, List.getElem_cons_zero, List.getElem_cons_succ, List.setIfInBounds_toArray, List.set_cons_zero, List.set_cons_succ]
        refine wpAnyH_take (i := 37) (oi := _) (v := _) rfl (by kernel_rfl) (by kernel_rfl) (by kernel_rfl) (fun _ _ _ h => h) (Or.inl ⟨by rfl, fun _ _ => by go_simp; try rfl⟩) hHeld ?_
        try simp only [Act.put, List.getElem_toArray, List.getElem_cons_zero, List.getElem_cons_succ, List.setIfInBounds_toArray, List.set_cons_zero, List.set_cons_succ]
        refine wpAnyH_take (i := 38) (oi := _) (v := _) rfl (by kernel_rfl) (by kernel_rfl) (by kernel_rfl) (fun _ _ _ h => h) (Or.inl ⟨by rfl, fun _ _ => by go_simp; try rfl⟩) hHeld ?_
        try simp only [Act.put, List.getElem_toArray, List.getElem_cons_zero, List.getElem_cons_succ, List.setIfInBounds_toArray, List.set_cons_zero, List.set_cons_succ]
        refine wpAnyH_take (i := 39) (oi := _) (v := _) rfl (by kernel_rfl) (by kernel_rfl) (by kernel_rfl) (fun _ _ _ h => h) (Or.inl ⟨by rfl, fun _ _ => by go_simp; try rfl⟩) hHeld ?_
        try simp only [Act.put, List.getElem_toArray, List.getElem_cons_zero, List.getElem_cons_succ, List.setIfInBounds_toArray, List.set_cons_zero, List.set_cons_succ]
        refine wpAnyH_done (by kernel_rfl) (NoPanic.normal ?_) _
        go_wp2
        go_ret
        exact ⟨rfl, hHeld.by_⟩
      · go_simp
        refine hK.out _ _ (hHeld.grown (World.grownBy_alloc _ _ none)) (fun hHeld => ?_)
        clear hK K
        try simp only [Act.put, List.getElem_toArray, List.getElem_cons_zero, List.getElem_cons_succ, List.setIfInBounds_toArray, List.set_cons_zero, List.set_cons_succ]
        have hbz := Blk.new v21 5 Z64
        have hcz := HZ.out (v21.alloc (.cells Z64 5)) v21.heap.size hbz
        refine wpAnyH_ready (rs := [25, 27]) (by kernel_rfl) (by simp) ?_
        refine AllReadyH.cons (o := _) rfl (fun K hK => ?_) (AllReadyH.cons (o := _) rfl (fun K hK => ?_) AllReadyH.nil)
        · go_simp
          refine (HM.out.2.2.2.1 _).mono ?_
          rintro e v25 ⟨rfl, z25⟩
          dsimp only
          refine hK.out _ _ (hHeld.grown z25) (fun hHeld => ?_)
          clear hK K
          try simp only [Act.put, List.getElem_toArray, List.getElem_cons_zero, List.getElem_cons_succ, List.setIfInBounds_toArray, List.set_cons_zero, List.set_cons_succ]
          have hcz2 := HZ.out v25 v21.heap.size (hbz.grown z25 (by simp))
          refine wpAnyH_ready (rs := [27]) (by kernel_rfl) (by simp) ?_
          refine AllReadyH.cons (o := _) rfl (fun K hK => ?_) AllReadyH.nil
          go_simp
          refine hK.out _ _ (hHeld) (fun hHeld => ?_)
          clear hK K
          try simp only [Act.put, List.getElem_toArray, List.getElem_cons_zero, List.getElem_cons_succ, List.setIfInBounds_toArray, List.set_cons_zero, List.set_cons_succ]
          refine wpAnyH_ready (rs := [28]) (by kernel_rfl) (by simp) ?_
          refine AllReadyH.cons (o := _) rfl (fun K hK => ?_) AllReadyH.nil
          go_simp
          refine (HM.out.2.2.2.2 _).mono ?_
          rintro e v28 ⟨rfl, z28⟩
          dsimp only
          refine hK.out _ _ (hHeld.grown z28) (fun hHeld => ?_)
          clear hK K
          try simp only [Act.put, List.getElem_toArray, List.getElem_cons_zero, List.getElem_cons_succ, List.setIfInBounds_toArray, List.set_cons_zero, List.set_cons_succ]
          refine wpAnyH_take (i := 29) (oi := _) (v := _) rfl (by kernel_rfl) (by kernel_rfl) (by kernel_rfl) (fun _ _ _ h => h) (Or.inl ⟨by rfl, fun _ _ => by go_simp; try rfl⟩) hHeld ?_
          try simp only [Act.put, List.getElem_toArray, List.getElem_cons_zero, List.getElem_cons_succ, List.setIfInBounds_toArray, List.set_cons_zero, List.set_cons_succ]
          refine wpAnyH_take (i := 30) (oi := _) (v := _) rfl (by kernel_rfl) (by kernel_rfl) (by kernel_rfl) (fun _ _ _ h => h) (Or.inl ⟨by rfl, fun _ _ => by go_simp; try rfl⟩) hHeld ?_
          try simp only [Act.put, List.getElem_toArray, List.getElem_cons_zero, List.getElem_cons_succ, List.setIfInBounds_toArray, List.set_cons_zero, List.set_cons_succ]
          refine wpAnyH_take (i := 31) (oi := _) (v := _) rfl (by kernel_rfl) (by kernel_rfl) (by kernel_rfl) (fun _ _ _ h => h) (Or.inl ⟨by rfl, fun _ _ => by go_simp; try rfl⟩) hHeld ?_
          try simp only [Act.put, List.getElem_toArray, List.getElem_cons_zero, List.getElem_cons_succ, List.setIfInBounds_toArray, List.set_cons_zero, List.set_cons_succ]
          refine wpAnyH_ready (rs := [32]) (by kernel_rfl) (by simp) ?_
          refine AllReadyH.cons (o := _) rfl (fun K hK => ?_) AllReadyH.nil
          go_simp
          refine (HS.out.1 _).mono ?_
          rintro e v32 ⟨rfl, z32⟩
          dsimp only
          refine hK.out _ _ (hHeld.grown z32) (fun hHeld => ?_)
          clear hK K
          try simp only [Act.put, List.getElem_toArray, List.getElem_cons_zero, List.getElem_cons_succ, List.setIfInBounds_toArray, List.set_cons_zero, List.set_cons_succ]
          refine wpAnyH_take (i := 33) (oi := _) (v := _) rfl (by kernel_rfl) (by kernel_rfl) (by kernel_rfl) (fun _ _ _ h => h) (Or.inl ⟨by rfl, fun _ _ => by go_simp; try rfl⟩) hHeld ?_
          try simp only [Act.put, List.getElem_toArray, List.getElem_cons_zero, List.getElem_cons_succ, List.setIfInBounds_toArray, List.set_cons_zero, List.set_cons_succ]
          refine wpAnyH_take (i := 34) (oi := _) (v := _) rfl (by kernel_rfl) (by kernel_rfl) (by kernel_rfl) (fun _ _ _ h => h) (Or.inl ⟨by rfl, fun _ _ => by go_simp; try rfl⟩) hHeld ?_
          try simp only [Act.put, List.getElem_toArray, List.getElem_cons_zero, List.getElem_cons_succ, List.setIfInBounds_toArray, List.set_cons_zero, List.set_cons_succ]
          refine wpAnyH_take (i := 35) (oi := _) (v := _) rfl (by kernel_rfl) (by kernel_rfl) (by kernel_rfl) (fun _ _ _ h => h) (Or.inl ⟨by rfl, fun _ _ => by go_simp; try rfl⟩) hHeld ?_
          try simp only [Act.put, List.getElem_toArray, List.getElem_cons_zero, List.getElem_cons_succ, List.setIfInBounds_toArray, List.set_cons_zero, List.set_cons_succ]
          refine wpAnyH_ready (rs := [36]) (by kernel_rfl) (by simp) ?_
          refine AllReadyH.cons (o := _) rfl (fun K hK => ?_) AllReadyH.nil
          go_simp
          refine (HS.out.2 _).mono ?_
          rintro e v36 ⟨rfl, z36⟩
          dsimp only
          refine hK.out _ _ (hHeld.grown z36) (fun hHeld => ?_)
          clear hK K
          try simp only [Act.put, List.getElem_toArray, List.getElem_cons_zero, List.getElem_cons_succ, List.setIfInBounds_toArray, List.set_cons_zero, List.set_cons_succ]
          refine wpAnyH_take (i := 37) (oi := _) (v := _) rfl (by kernel_rfl) (by kernel_rfl) (by kernel_rfl) (fun _ _ _ h => h) (Or.inl ⟨by rfl, fun _ _ => by go_simp; try rfl⟩) hHeld ?_
          try simp only [Act.put, List.getElem_toArray, List.getElem_cons_zero, List.getElem_cons_succ, List.setIfInBounds_toArray, List.set_cons_zero, List.set_cons_succ]
          refine wpAnyH_take (i := 38) (oi := _) (v := _) rfl (by kernel_rfl) (by kernel_rfl) (by kernel_rfl) (fun _ _ _ h => h) (Or.inl ⟨by rfl, fun _ _ => by go_simp; try rfl⟩) hHeld ?_
          try simp only [Act.put, List.getElem_toArray, List.getElem_cons_zero, List.getElem_cons_succ, List.setIfInBounds_toArray, List.set_cons_zero, List.set_cons_succ]
          refine wpAnyH_take (i := 39) (oi := _) (v := _) rfl (by kernel_rfl) (by kernel_rfl) (by kernel_rfl) (fun _ _ _ h => h) (Or.inl ⟨by rfl, fun _ _ => by go_simp; try rfl⟩) hHeld ?_
          try simp only [Act.put, List.getElem_toArray, List.getElem_cons_zero, List.getElem_cons_succ, List.setIfInBounds_toArray, List.set_cons_zero, List.set_cons_succ]
          refine wpAnyH_done (by kernel_rfl) (NoPanic.normal ?_) _
          go_wp2
          go_ret
          exact ⟨rfl, hHeld.by_⟩
        · go_simp
          refine hK.out _ _ (hHeld) (fun hHeld => ?_)
          clear hK K
          try simp only [Act.put, List.getElem_toArray, List.getElem_cons_zero, List.getElem_cons_succ, List.setIfInBounds_toArray, List.set_cons_zero, List.set_cons_succ]
          refine wpAnyH_ready (rs := [25]) (by kernel_rfl) (by simp) ?_
          refine AllReadyH.cons (o := _) rfl (fun K hK => ?_) AllReadyH.nil
          go_simp
          refine (HM.out.2.2.2.1 _).mono ?_
          rintro e v25 ⟨rfl, z25⟩
          dsimp only
          refine hK.out _ _ (hHeld.grown z25) (fun hHeld => ?_)
          clear hK K
          try simp only [Act.put, List.getElem_toArray, List.getElem_cons_zero, List.getElem_cons_succ, List.setIfInBounds_toArray, List.set_cons_zero, List.set_cons_succ]
          refine wpAnyH_ready (rs := [28]) (by kernel_rfl) (by simp) ?_
          refine AllReadyH.cons (o := _) rfl (fun K hK => ?_) AllReadyH.nil
          go_simp
          refine (HM.out.2.2.2.2 _).mono ?_
          rintro e v28 ⟨rfl, z28⟩
          dsimp only
          refine hK.out _ _ (hHeld.grown z28) (fun hHeld => ?_)
          clear hK K
          try simp only [Act.put, List.getElem_toArray, List.getElem_cons_zero, List.getElem_cons_succ, List.setIfInBounds_toArray, List.set_cons_zero, List.set_cons_succ]
          refine wpAnyH_take (i := 29) (oi := _) (v := _) rfl (by kernel_rfl) (by kernel_rfl) (by kernel_rfl) (fun _ _ _ h => h) (Or.inl ⟨by rfl, fun _ _ => by go_simp; try rfl⟩) hHeld ?_
          try simp only [Act.put, List.getElem_toArray, List.getElem_cons_zero, List.getElem_cons_succ, List.setIfInBounds_toArray, List.set_cons_zero, List.set_cons_succ]
          refine wpAnyH_take (i := 30) (oi := _) (v := _) rfl (by kernel_rfl) (by kernel_rfl) (by kernel_rfl) (fun _ _ _ h => h) (Or.inl ⟨by rfl, fun _ _ => by go_simp; try rfl⟩) hHeld ?_
          try simp only [Act.put, List.getElem_toArray, List.getElem_cons_zero, List.getElem_cons_succ, List.setIfInBounds_toArray, List.set_cons_zero, List.set_cons_succ]
          refine wpAnyH_take (i := 31) (oi := _) (v := _) rfl (by kernel_rfl) (by kernel_rfl) (by kernel_rfl) (fun _ _ _ h => h) (Or.inl ⟨by rfl, fun _ _ => by go_simp; try rfl⟩) hHeld ?_
          try simp only [Act.put, List.getElem_toArray, List.getElem_cons_zero, List.getElem_cons_succ, List.setIfInBounds_toArray, List.set_cons_zero, List.set_cons_succ]
          refine wpAnyH_ready (rs := [32]) (by kernel_rfl) (by simp) ?_
          refine AllReadyH.cons (o := _) rfl (fun K hK => ?_) AllReadyH.nil
          go_simp
          refine (HS.out.1 _).mono ?_
          rintro e v32 ⟨rfl, z32⟩
          dsimp only
          refine hK.out _ _ (hHeld.grown z32) (fun hHeld => ?_)
          clear hK K
          try simp only [Act.put, List.getElem_toArray, List.getElem_cons_zero, List.getElem_cons_succ, List.setIfInBounds_toArray, List.set_cons_zero, List.set_cons_succ]
          refine wpAnyH_take (i := 33) (oi := _) (v := _) rfl (by kernel_rfl) (by kernel_rfl) (by kernel_rfl) (fun _ _ _ h => h) (Or.inl ⟨by rfl, fun _ _ => by go_simp; try rfl⟩) hHeld ?_
          try simp only [Act.put, List.getElem_toArray, List.getElem_cons_zero, List.getElem_cons_succ, List.setIfInBounds_toArray, List.set_cons_zero, List.set_cons_succ]
          refine wpAnyH_take (i := 34) (oi := _) (v := _) rfl (by kernel_rfl) (by kernel_rfl) (by kernel_rfl) (fun _ _ _ h => h) (Or.inl ⟨by rfl, fun _ _ => by go_simp; try rfl⟩) hHeld ?_
          try simp only [Act.put, List.getElem_toArray, List.getElem_cons_zero, List.getElem_cons_succ, List.setIfInBounds_toArray, List.set_cons_zero, List.set_cons_succ]
          refine wpAnyH_take (i := 35) (oi := _) (v := _) rfl (by kernel_rfl) (by kernel_rfl) (by kernel_rfl) (fun _ _ _ h => h) (Or.inl ⟨by rfl, fun _ _ => by go_simp; try rfl⟩) hHeld ?_
          try simp only [Act.put, List.getElem_toArray, List.getElem_cons_zero, List.getElem_cons_succ, List.setIfInBounds_toArray, List.set_cons_zero, List.set_cons_succ]
          refine wpAnyH_ready (rs := [36]) (by kernel_rfl) (by simp) ?_
          refine AllReadyH.cons (o := _) rfl (fun K hK => ?_) AllReadyH.nil
          go_simp
          refine (HS.out.2 _).mono ?_
          rintro e v36 ⟨rfl, z36⟩
          dsimp only
          refine hK.out _ _ (hHeld.grown z36) (fun hHeld => ?_)
          clear hK K
          try simp only [Act.put, List.getElem_toArray, List.getElem_cons_zero, List.getElem_cons_succ, List.setIfInBounds_toArray, List.set_cons_zero, List.set_cons_succ]
          refine wpAnyH_take (i := 37) (oi := _) (v := _) rfl (by kernel_rfl) (by kernel_rfl) (by kernel_rfl) (fun _ _ _ h => h) (Or.inl ⟨by rfl, fun _ _ => by go_simp; try rfl⟩) hHeld ?_
          try simp only [Act.put, List.getElem_toArray, List.getElem_cons_zero, List.getElem_cons_succ, List.setIfInBounds_toArray, List.set_cons_zero, List.set_cons_succ]
          refine wpAnyH_take (i := 38) (oi := _) (v := _) rfl (by kernel_rfl) (by kernel_rfl) (by kernel_rfl) (fun _ _ _ h => h) (Or.inl ⟨by rfl, fun _ _ => by go_simp; try rfl⟩) hHeld ?_
          try simp only [Act.put, List.getElem_toArray, List.getElem_cons_zero, List.getElem_cons_succ, List.setIfInBounds_toArray, List.set_cons_zero, List.set_cons_succ]
          refine wpAnyH_take (i := 39) (oi := _) (v := _) rfl (by kernel_rfl) (by kernel_rfl) (by kernel_rfl) (fun _ _ _ h => h) (Or.inl ⟨by rfl, fun _ _ => by go_simp; try rfl⟩) hHeld ?_
          try simp only [Act.put, List.getElem_toArray, List.getElem_cons_zero, List.getElem_cons_succ, List.setIfInBounds_toArray, List.set_cons_zero, List.set_cons_succ]
          refine wpAnyH_done (by kernel_rfl) (NoPanic.normal ?_) _
          go_wp2
          go_ret
          exact ⟨rfl, hHeld.by_⟩

set_option maxRecDepth 100000 in
theorem lifted (os : Os) (started : os.Started) (H : Type) (enc : TypeId × Value → H) :
    ReturnsInHanded {} Try.checked os 13 .any (Rows.macKnownSpec.pre6 enc Try.prog Try.f13 Rows.macKnownRow.domain false) (Rows.macKnownSpec.post enc Try.prog Try.f13 false true false false) := by
  refine returnsInHanded_of_change (C := Try.checked) own started (by kernel_rfl) Try.func13
    (ChangeSpec.witness6 (enc := enc) (C := Try.checked) false ⟨#[], #[], []⟩ 8 (by kernel_rfl) (by kernel_rfl) (by kernel_rfl) (by kernel_rfl)) ?_
  intro W base args ds gs before hval0 hW hcnd _
  have hval : ∀ (j : Nat) t v, Try.f13.params[j]? = some t → args[j]? = some v → Value.okWide Try.prog W .any base t v := hval0
  have hW' := hW
  obtain ⟨p, q, hA0, hV, rfl, hfz, hnd⟩ := hW
  have hA : DataW.TrodAll enc Try.prog W 0 (fun _ => true) true Try.f13.params.toList args.toList ds p := hA0
  rw [Try.params13] at hA hval
  obtain ⟨hargs, rfl, rfl⟩ := trodAll_nil hA
  obtain rfl : args = #[] := by cases args; simp_all
  obtain ⟨rfl, rfl⟩ := trodVars_none hV
  refine (walk W).mono fun e W' ⟨he, hg⟩ => ?_
  subst he
  exact ⟨_, rfl, law_post laidOut rfl hW' (by kernel_rfl) rfl Try.underlying4 rfl (below_of_by hg)⟩

theorem proved : Rows.MacKnownSaid :=
  OpenClaim.holds_of_wide 13 Try.f13 rfl rfl rfl rfl rfl rfl rfl ⟨rfl, rfl, rfl, rfl, rfl⟩ rfl rfl rfl rfl rfl (by kernel_rfl) Try.func13 (by kernel_rfl)
    (of_decide_eq_true (by kernel_rfl)) (by unfold Func.isWrapper; first | (rw [if_pos (by decide +kernel)]; kernel_rfl) | (rw [if_neg (by decide +kernel)]; exact ⟨rfl, rfl⟩))
    (fun os started H enc _ => lifted os started H enc)
#print axioms proved
end Go.Proofs.Ytgpafmkhkepjbaa.macKnown
