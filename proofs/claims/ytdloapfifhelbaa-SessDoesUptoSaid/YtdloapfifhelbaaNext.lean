/-
  The walk of 'next': one round of the compression, and the whole.
-/
import Derived.Test.YtdloapfifhelbaaWords
import Derived.Lib.SlBuf
import Derived.Laws.CopyRow
namespace Go.Proofs.Ytdloapfifhelbaa
open Go.RowKit

/-! ### the plain model -/
def hi1 (e : BitVec 32) : BitVec 32 := e.rotateRight 6 ^^^ e.rotateRight 11 ^^^ e.rotateRight 25
def hi0 (a : BitVec 32) : BitVec 32 := a.rotateRight 2 ^^^ a.rotateRight 13 ^^^ a.rotateRight 22
structure V8 where
  a : BitVec 32
  b : BitVec 32
  c : BitVec 32
  d : BitVec 32
  e : BitVec 32
  f : BitVec 32
  g : BitVec 32
  h : BitVec 32
def V8.cells (v : V8) : Array Value := #[v32 v.a, v32 v.b, v32 v.c, v32 v.d, v32 v.e, v32 v.f, v32 v.g, v32 v.h]
def V8.t1 (v : V8) (k w : BitVec 32) : BitVec 32 := v.h + hi1 v.e + (v.g ^^^ (v.e &&& (v.f ^^^ v.g))) + k + w
def V8.t2 (v : V8) : BitVec 32 := hi0 v.a + ((v.a &&& v.b) ||| ((v.a ||| v.b) &&& v.c))
def V8.step (v : V8) (k w : BitVec 32) : V8 := ⟨v.t1 k w + v.t2, v.a, v.b, v.c, v.d + v.t1 k w, v.e, v.f, v.g⟩
def V8.steps (ws : List (BitVec 32)) (v : V8) : Nat → V8
  | 0 => v
  | i + 1 => (V8.steps ws v i).step (kWords.getD i 0) (ws.getD i 0)
def V8.add (v u : V8) : V8 := ⟨v.a + u.a, v.b + u.b, v.c + u.c, v.d + u.d, v.e + u.e, v.f + u.f, v.g + u.g, v.h + u.h⟩
def V8.next (v : V8) (s : ByteArray) : V8 := (V8.steps (sched s 64) v 64).add v

theorem rot2_s (x : BitVec 32) (n : Nat) (h1 : 1 ≤ n) (h2 : n ≤ 31) (w : World) :
    Calls Try.prog 46 #[.int .u32 (N x), .int .i64 (n : Int)] w fun e w' => e = .returned (.int .u32 (N (x.rotateRight n))) ∧ w' = w :=
  (rot2_any x n h1 h2 w).mono fun _ _ h => ⟨h.1, h.2.symm⟩

theorem StrAt.by_ {W W' : World} {A : Option Addr} {n : Nat} {s : ByteArray} (h : StrAt W A n s) (g : W.grownBy W' none) : StrAt W' A n s :=
  ⟨h.1, fun hn => by
    obtain ⟨b, off, rfl, hb, hc⟩ := h.2 hn
    exact ⟨b, off, rfl, Nat.lt_of_lt_of_le hb g.size, fun j hj => g.cell (hc j hj) (by simp)⟩⟩
theorem Blk.row {w : World} {g : Nat} {t : TypeId} {cs : Array Value} (h : Blk w g t cs) (cs' : Array Value) : Blk (w.setRow g cs') g t cs' := setRow_heap w g cs cs' t (0, 0) h
theorem Blk.farRow {w : World} {g g' : Nat} {t : TypeId} {cs : Array Value} (h : Blk w g t cs) (hne : g ≠ g') (cs' : Array Value) : Blk (w.setRow g' cs') g t cs := (setRow_other w g' g cs' hne).trans h
theorem by_setRow {a w : World} {row : Option Nat} (h : a.grownBy w row) {g : Nat} (hg : a.heap.size ≤ g) (cs : Array Value) : a.grownBy (w.setRow g cs) row :=
  ⟨h.os, h.tape, h.output, by simpa [World.setRow] using h.size, fun i hi hne => (setRow_other w g i cs (by omega)).trans (h.block i hi hne)⟩
theorem V8.size (v : V8) : v.cells.size = 8 := rfl
theorem V8.one (v : V8) : v.cells.all (·.oneCell') = true := by
  refine all_oneCell_toArray (cs := [v32 v.a, v32 v.b, v32 v.c, v32 v.d, v32 v.e, v32 v.f, v32 v.g, v32 v.h]) fun x hx => ?_
  simp only [List.mem_cons, List.not_mem_nil, or_false] at hx
  rcases hx with rfl | rfl | rfl | rfl | rfl | rfl | rfl | rfl <;> rfl
theorem wpList_at {P : Program} {ops : Array Oper} {Q : Exit → Act → World → Prop} {l : List Oper} {a : Act} {W W' : World} (h : W = W') (k : wpList P ops Q l a W) : wpList P ops Q l a W' := h ▸ k
theorem setCells_size (vs : List Value) (g : Nat) : ∀ (o : Nat) (w : World), (w.setCells g o vs).heap.size = w.heap.size := by
  induction vs with
  | nil => intro o w; rfl
  | cons v r ih => intro o w; exact (ih (o + 1) _).trans (by simp [World.setCell])

/-- what stays put while 'next' runs: the state it began with, the constants, the words -/
structure NB (w0 : World) (g2 g4 g5 g6 : Nat) (v : V8) (R : Array Value) (W : World) : Prop where
  b2 : Blk W g2 74 v.cells
  b4 : Blk W g4 74 (Array.replicate 8 (.int .u32 0))
  b5 : Blk W g5 78 (row64 kWords)
  b6 : Blk W g6 78 R
  by_ : w0.grownBy W none
theorem NB.drew {w0 : World} {g2 g4 g5 g6 : Nat} {v : V8} {R : Array Value} {W : World} (h : NB w0 g2 g4 g5 g6 v R W) : NB w0 g2 g4 g5 g6 v R W.drew := ⟨h.b2.drew, h.b4.drew, h.b5.drew, h.b6.drew, by_drew h.by_⟩
theorem NB.drewN {w0 : World} {g2 g4 g5 g6 : Nat} {v : V8} {R : Array Value} {W : World} (h : NB w0 g2 g4 g5 g6 v R W) (q : Nat) : NB w0 g2 g4 g5 g6 v R (W.drewN q) := ⟨h.b2.drewN q, h.b4.drewN q, h.b5.drewN q, h.b6.drewN q, by_drewN h.by_ q⟩
theorem NB.set_ {w0 : World} {g2 g4 g5 g6 g8 : Nat} {v : V8} {R : Array Value} {W : World} (h : NB w0 g2 g4 g5 g6 v R W) (h2 : g2 ≠ g8) (h4 : g4 ≠ g8) (h5 : g5 ≠ g8) (h6 : g6 ≠ g8) (hw : w0.heap.size ≤ g8) (o : Nat) (u : Value) :
    NB w0 g2 g4 g5 g6 v R (W.setCell ⟨g8, o, none⟩ u) := ⟨h.b2.far (p := ⟨g8, o, none⟩) h2 u, h.b4.far (p := ⟨g8, o, none⟩) h4 u, h.b5.far (p := ⟨g8, o, none⟩) h5 u, h.b6.far (p := ⟨g8, o, none⟩) h6 u, by_set h.by_ (p := ⟨g8, o, none⟩) (.inr hw) u⟩
theorem NB.row {w0 : World} {g2 g4 g5 g6 g8 : Nat} {v : V8} {R : Array Value} {W : World} (h : NB w0 g2 g4 g5 g6 v R W) (h2 : g2 ≠ g8) (h4 : g4 ≠ g8) (h5 : g5 ≠ g8) (h6 : g6 ≠ g8) (hw : w0.heap.size ≤ g8) (cs : Array Value) :
    NB w0 g2 g4 g5 g6 v R (W.setRow g8 cs) := ⟨h.b2.farRow h2 cs, h.b4.farRow h4 cs, h.b5.farRow h5 cs, h.b6.farRow h6 cs, by_setRow h.by_ hw cs⟩

def V8.shift (v : V8) : V8 := ⟨v.a, v.a, v.b, v.c, v.d, v.e, v.f, v.g⟩
def V8.get (v : V8) : Nat → BitVec 32
  | 0 => v.a | 1 => v.b | 2 => v.c | 3 => v.d | 4 => v.e | 5 => v.f | 6 => v.g | _ => v.h
theorem V8.cells_get (v : V8) (i : Nat) (h : i < 8) : v.cells[i]? = some (.int .u32 (N (v.get i))) := by
  match i, h with
  | 0, _ => rfl | 1, _ => rfl | 2, _ => rfl | 3, _ => rfl | 4, _ => rfl | 5, _ => rfl | 6, _ => rfl | 7, _ => rfl
/-- the first i words of u with v's added -/
def V8.part (u v : V8) (i : Nat) : V8 :=
  ⟨if 0 < i then u.a + v.a else u.a, if 1 < i then u.b + v.b else u.b, if 2 < i then u.c + v.c else u.c, if 3 < i then u.d + v.d else u.d,
   if 4 < i then u.e + v.e else u.e, if 5 < i then u.f + v.f else u.f, if 6 < i then u.g + v.g else u.g, if 7 < i then u.h + v.h else u.h⟩
theorem V8.part_get (u v : V8) (i : Nat) (h : i < 8) : (V8.part u v i).get i = u.get i := by
  match i, h with
  | 0, _ => rfl | 1, _ => rfl | 2, _ => rfl | 3, _ => rfl | 4, _ => rfl | 5, _ => rfl | 6, _ => rfl | 7, _ => rfl
theorem V8.part_set (u v : V8) (i : Nat) (h : i < 8) : (V8.part u v i).cells.setIfInBounds i (.int .u32 (N (u.get i + v.get i))) = (V8.part u v (i + 1)).cells := by
  match i, h with
  | 0, _ => rfl | 1, _ => rfl | 2, _ => rfl | 3, _ => rfl | 4, _ => rfl | 5, _ => rfl | 6, _ => rfl | 7, _ => rfl
theorem copy_down (u : V8) (g : Nat) (ty : TypeId) (W : World) (hb : Blk W g 74 u.cells) :
    (Builtin.copy_ #[82, 82] ty #[.slice (some ⟨g, 1, none⟩) 7 7, .slice (some ⟨g, 0, none⟩) 7 8]).run Try.prog W = .ok (goInt 7) (W.setRow g u.shift.cells) := by
  refine run_copy_row Try.prog W 82 82 ty 72 g 1 7 7 ⟨g, 0, none⟩ 7 8 u.cells 74 [v32 u.a, v32 u.b, v32 u.c, v32 u.d, v32 u.e, v32 u.f, v32 u.g] Try.underlying82 (by kernel_rfl) hb rfl (fun j x hx => ?_) (Nat.le_refl 8) (fun x hx => ?_)
  · have hj : j < 7 := (List.getElem?_eq_some_iff.1 hx).1
    have e : (⟨g, 0, none⟩ : Addr).add j = ⟨g, j, none⟩ := by unfold Addr.add; split <;> simp_all
    rw [e, hb.cell, ← hx]
    match j, hj with
    | 0, _ => rfl | 1, _ => rfl | 2, _ => rfl | 3, _ => rfl | 4, _ => rfl | 5, _ => rfl | 6, _ => rfl
  · simp only [List.mem_cons, List.not_mem_nil, or_false] at hx
    rcases hx with rfl | rfl | rfl | rfl | rfl | rfl | rfl <;> rfl
/-- the cells that a round reads -/
structure CF (g8 g5 : Nat) (u : V8) (kk ww : BitVec 32) (i : Nat) (W : World) : Prop where
  c0 : W.cell? ⟨g8, 0, none⟩ = some (.int .u32 (N u.a))
  c1 : W.cell? ⟨g8, 1, none⟩ = some (.int .u32 (N u.b))
  c2 : W.cell? ⟨g8, 2, none⟩ = some (.int .u32 (N u.c))
  c4 : W.cell? ⟨g8, 4, none⟩ = some (.int .u32 (N u.e))
  c5 : W.cell? ⟨g8, 5, none⟩ = some (.int .u32 (N u.f))
  c6 : W.cell? ⟨g8, 6, none⟩ = some (.int .u32 (N u.g))
  c7 : W.cell? ⟨g8, 7, none⟩ = some (.int .u32 (N u.h))
  ck : W.cell? ⟨g5, i, none⟩ = some (.int .u32 (N kk))
  cw : W.cell? ⟨g5 + 1, i, none⟩ = some (.int .u32 (N ww))
theorem CF.drew {g8 g5 : Nat} {u : V8} {kk ww : BitVec 32} {i : Nat} {W : World} (h : CF g8 g5 u kk ww i W) : CF g8 g5 u kk ww i W.drew := ⟨h.c0, h.c1, h.c2, h.c4, h.c5, h.c6, h.c7, h.ck, h.cw⟩
structure NRel2 (w0 : World) (g2 g4 g5 g6 g8 : Nat) (v u : V8) (R : Array Value) (k : Nat) (c : Value) (wr : World) (i : Nat) : Prop where
  slot : c = .int .i64 i
  le : i ≤ 8
  num : k = 8 - i
  nb : NB w0 g2 g4 g5 g6 v R wr
  b8 : Blk wr g8 74 (V8.part u v i).cells
structure NRel (w0 : World) (g2 g4 g5 g6 g8 : Nat) (v : V8) (R : Array Value) (ws : List (BitVec 32)) (k : Nat) (c : Value) (wr : World) (i : Nat) : Prop where
  slot : c = .int .i64 i
  le : i ≤ 64
  num : k = 64 - i
  nb : NB w0 g2 g4 g5 g6 v R wr
  b8 : Blk wr g8 74 (V8.steps ws v i).cells

set_option maxRecDepth 100000 in
set_option maxHeartbeats 2000000 in
theorem next_row (v : V8) (A : Option Addr) (cap : Nat) (s : ByteArray) (w : World) (hs : StrAt w A 64 s) (R K : Array Value) (hR : Hid (row64 (sched s 64) = R)) (hK : Hid (row64 kWords = K)) :
    Calls Try.prog 42 #[.agg v.cells, .slice A 64 cap] w fun e w' => e = .returned (.agg (v.next s).cells) ∧ w.grownBy w' none := by
  have Hs := Lib.hid hs
  clear hs
  go_enter Try.func42, Try.ntmps42
  go_wp2_with (refine Great.wpList_boxTo rfl 74 _ rfl _ rfl w.heap.size rfl v.cells rfl ?_)
  refine (rounds_any _).mono ?_
  rintro e w1 ⟨rfl, y1⟩
  rw [hK.out]
  replace y1 : ((w.alloc (.cells v.cells 74)).alloc (.cells (Array.replicate 8 (.int .u32 0)) 74)).grownBy w1 none := y1
  have e1 : (w.alloc (.cells v.cells 74)).heap.size = w.heap.size + 1 := by simp
  have n2 : Blk w1 w.heap.size 74 v.cells := ((Blk.new w 74 v.cells).alloc _).grown y1 (by simp)
  have n4 : Blk w1 (w.heap.size + 1) 74 (Array.replicate 8 (.int .u32 0)) := by
    have := (Blk.new (w.alloc (.cells v.cells 74)) 74 (Array.replicate 8 (.int .u32 0))).grown y1 (by simp)
    rw [e1] at this; exact this
  have ny : w.grownBy w1 none := by_trans (by_alloc (by_alloc (by_refl _ _) _) _) y1 (by simp)
  have HH := Lib.hid (And.intro n2 (And.intro n4 ny))
  clear n2 n4 ny y1 e1
  go_wp2_with fail
  refine (words_any A cap s w1 (Hs.out.by_ HH.out.2.2)).mono ?_
  rintro e w2 ⟨rfl, y2⟩
  rw [hR.out]
  have n2 := HH.out.1.grown y2 (by simp)
  have n4 := HH.out.2.1.grown y2 (by simp)
  have ny := by_trans HH.out.2.2 y2 (by simp)
  clear HH y2
  have hR1 : R.size = 64 := by rw [← hR.out]; exact row64_size _ (by rw [sched_len]; omega)
  have hK1 : K.size = 64 := by rw [← hK.out]; exact row64_size _ (by decide)
  have hR2 : R.all (·.oneCell') = true := by rw [← hR.out]; exact row64_one _
  have hK2 : K.all (·.oneCell') = true := by rw [← hK.out]; exact row64_one _
  have hR3 : (Try.prog.info? 78).map (·.size) = some R.size := by rw [hR1]; exact info50
  have hK3 : (Try.prog.info? 78).map (·.size) = some K.size := by rw [hK1]; exact info50
  have hz : (row64 []).size = 64 := row64_size _ (by simp)
  have m5 : Blk ((w2.alloc (.cells (row64 []) 78)).alloc (.cells (row64 []) 78)) w2.heap.size 78 (row64 []) := (Blk.new _ _ _).alloc _
  have m6 : Blk ((w2.alloc (.cells (row64 []) 78)).alloc (.cells (row64 []) 78)) (w2.heap.size + 1) 78 (row64 []) := by
    have h := Blk.new (w2.alloc (.cells (row64 []) 78)) 78 (row64 [])
    have e : (w2.alloc (.cells (row64 []) 78)).heap.size = w2.heap.size + 1 := by simp
    rw [e] at h
    exact h
  have lt2 := n2.lt
  have lt4 := n4.lt
  have t5 := m5.there K.size (by rw [hK1, hz]; exact Nat.le_refl _)
  have t6 := (m6.farAll (g' := w2.heap.size) K.toList 0 _ _ (by omega)).there R.size (by rw [hR1, hz]; exact Nat.le_refl _)
  obtain ⟨W5, hW5⟩ : ∃ W, W = (((w2.alloc (.cells (row64 []) 78)).alloc (.cells (row64 []) 78)).setCells w2.heap.size 0 K.toList).setCells (w2.heap.size + 1) 0 R.toList := ⟨_, rfl⟩
  have k5 : Blk W5 w2.heap.size 78 K := by
    rw [hW5]
    have h := m5.setAll K.toList (by rw [Array.length_toList, hK1, hz])
    rw [Array.toArray_toList] at h
    exact h.farAll R.toList 0 _ _ (by omega)
  have k6 : Blk W5 (w2.heap.size + 1) 78 R := by
    rw [hW5]
    have h := (m6.farAll (g' := w2.heap.size) K.toList 0 _ _ (by omega)).setAll R.toList (by rw [Array.length_toList, hR1, hz])
    rw [Array.toArray_toList] at h
    exact h
  have k2 : Blk W5 w.heap.size 74 v.cells := by
    rw [hW5]
    exact Blk.farAll _ _ _ _ (by omega) (Blk.farAll _ _ _ _ (by omega) ((n2.alloc _).alloc _))
  have k4 : Blk W5 (w.heap.size + 1) 74 (Array.replicate 8 (.int .u32 0)) := by
    rw [hW5]
    exact Blk.farAll _ _ _ _ (by omega) (Blk.farAll _ _ _ _ (by omega) ((n4.alloc _).alloc _))
  have ky : w.grownBy W5 none := by
    rw [hW5]
    exact by_setAll (.inr (by omega)) _ _ _ (by_setAll (.inr (by omega)) _ _ _ (by_alloc (by_alloc ny _) _))
  have hsz5 : W5.heap.size = w2.heap.size + 2 := by rw [hW5, setCells_size, setCells_size]; simp
  have l4 : (Try.prog.info? 74).map (·.size) = some v.cells.size := info43
  have HS := Lib.hid (And.intro t5 (And.intro hK3 (And.intro hK2 (And.intro t6 (And.intro hR3 hR2)))))
  have HW := Lib.hid hW5
  have p8 : Blk (W5.alloc (.cells (Array.replicate 8 (.int .u32 0)) 74)) W5.heap.size 74 (Array.replicate 8 (.int .u32 0)) := Blk.new _ _ _
  have t8 := p8.there v.cells.size (Nat.le_refl _)
  obtain ⟨W6, hW6⟩ : ∃ W, W = (W5.alloc (.cells (Array.replicate 8 (.int .u32 0)) 74)).setCells W5.heap.size 0 v.cells.toList := ⟨_, rfl⟩
  have j8 : Blk W6 W5.heap.size 74 v.cells := by
    rw [hW6]
    have h := p8.setAll v.cells.toList rfl
    rw [Array.toArray_toList] at h
    exact h
  have jn : NB w w.heap.size (w.heap.size + 1) w2.heap.size (w2.heap.size + 1) v R W6 := by
    rw [hW6]
    exact ⟨Blk.farAll _ _ _ _ (by omega) (k2.alloc _), Blk.farAll _ _ _ _ (by omega) (k4.alloc _), by rw [hK.out]; exact Blk.farAll _ _ _ _ (by omega) (k5.alloc _), Blk.farAll _ _ _ _ (by omega) (k6.alloc _), by_setAll (.inr (by omega)) _ _ _ (by_alloc ky _)⟩
  have HV := Lib.hid hW6
  have H8 := Lib.hid (And.intro k2 (And.intro l4 (And.intro t8 v.one)))
  have HJ := Lib.hid (And.intro j8 jn)
  have hds : w.heap.size ≠ W5.heap.size ∧ w.heap.size + 1 ≠ W5.heap.size ∧ w2.heap.size ≠ W5.heap.size ∧ w2.heap.size + 1 ≠ W5.heap.size ∧ w.heap.size ≤ W5.heap.size := by omega
  have HD := Lib.hid hds
  clear hR1 hK1 hR2 hK2 hR3 hK3 hz m5 m6 lt2 lt4 t5 t6 hW5 k5 k6 k2 k4 ky hsz5 l4 p8 t8 hW6 j8 jn n2 n4 ny hds
  go_wp2_with (first | (refine wpList_store_mid rfl 78 _ _ rfl w2.heap.size 0 K rfl rfl HS.out.1 HS.out.2.1 HS.out.2.2.1 ?_) | (refine wpList_store_mid rfl 78 _ _ rfl (w2.heap.size + 1) 0 R rfl rfl HS.out.2.2.2.1 HS.out.2.2.2.2.1 HS.out.2.2.2.2.2 ?_; refine wpList_at HW.out ?_) | (refine wpList_load_row rfl 74 _ rfl w.heap.size rfl 74 v.cells (0, 0) _ H8.out.1 Try.underlying74 rfl H8.out.2.1 ?_) | (refine wpList_store_mid rfl 74 _ _ rfl W5.heap.size 0 v.cells rfl rfl H8.out.2.2.1 H8.out.2.1 H8.out.2.2.2 ?_; refine wpList_at HV.out ?_))
  generalize hg8 : W5.heap.size = g8 at *
  generalize w2.heap.size = g5 at *
  go_loopg [19] 64 (fun k c wr => ∃ i, NRel w w.heap.size (w.heap.size + 1) g5 (g5 + 1) g8 v R (sched s 64) k c wr i)
  case atStart => exact ⟨0, rfl, by omega, by omega, HJ.out.2, HJ.out.1⟩
  case round =>
    clear HS HW HV H8 HJ hg8 Hs
    obtain ⟨i, hr⟩ := hrel
    obtain rfl := hr.slot
    have hle := hr.le
    have Hr := Lib.hid hr
    clear hr
    by_cases hlt : i < 64
    · obtain ⟨u, hu⟩ : ∃ u, u = V8.steps (sched s 64) v i := ⟨_, rfl⟩
      obtain ⟨kk, hkk⟩ : ∃ k, k = kWords.getD i 0 := ⟨_, rfl⟩
      obtain ⟨ww, hww⟩ : ∃ k, k = (sched s 64).getD i 0 := ⟨_, rfl⟩
      have hb8 := Hr.out.b8
      rw [← hu] at hb8
      have hcf : CF g8 g5 u kk ww i wr := ⟨by rw [hb8.cell]; rfl, by rw [hb8.cell]; rfl, by rw [hb8.cell]; rfl, by rw [hb8.cell]; rfl, by rw [hb8.cell]; rfl, by rw [hb8.cell]; rfl, by rw [hb8.cell]; rfl,
        by rw [Hr.out.nb.b5.cell, hkk]; exact row64_get _ _ hlt, by rw [Hr.out.nb.b6.cell, ← hR.out, hww]; exact row64_get _ _ (by rw [sched_len]; exact hlt)⟩
      have Hb := Lib.hid (And.intro hb8 Hr.out.nb)
      have Hc := Lib.hid hcf
      have Hu := Lib.hid (And.intro hu (And.intro hkk hww))
      have hnum := Hr.out.num
      have Hnum := Lib.hid hnum
      clear hb8 hcf hu hkk hww Hr hnum
      have p0 : (0 : Int) ≤ (i : Int) := by omega
      have p1 : (i : Int) < 64 := by omega
      have wx : IntKind.i64.wrap ((i : Int) + 1) = (i : Int) + 1 := by rw [IntKind.wrap_i64]; omega
      have rx := N_xor
      have ra := N_add
      have ro := N_or
      have rn := N_and
      obtain ⟨c0, c1, c2, c4, c5, c6, c7, ck, cw⟩ := Hc.out
      go_wp2
      refine wp_region_still_lit (by kernel_rfl) (by kernel_rfl) ?_
      repeat still_step
      refine wpStill_nil ?_
      change Exit.then _ _ _ _ wr.drew
      clear c0 c1 c2 c4 c5 c6 c7 ck cw
      replace Hc := Lib.hid Hc.out.drew
      replace Hb := Lib.hid (And.intro Hb.out.1.drew Hb.out.2.drew)
      generalize wr.drew = w7 at *
      obtain ⟨c0, c1, c2, c4, c5, c6, c7, ck, cw⟩ := Hc.out
      go_wp2
      obtain ⟨T1, hT1⟩ : ∃ t, u.h + (u.e.rotateRight 6 ^^^ u.e.rotateRight 11 ^^^ u.e.rotateRight 25) + (u.g ^^^ (u.e &&& (u.f ^^^ u.g))) + kk + ww = t := ⟨_, rfl⟩
      refine wp_region_still_lit (by kernel_rfl) (by kernel_rfl) ?_
      repeat still_step
      still_call (rot2_s u.e 6 (by decide) (by decide) _)
      repeat still_step
      still_call (rot2_s u.e 11 (by decide) (by decide) _)
      repeat still_step
      still_call (rot2_s u.e 25 (by decide) (by decide) _)
      repeat still_step
      refine wpStill_nil ?_
      change Exit.then _ _ _ _ w7.drew
      clear c0 c1 c2 c4 c5 c6 c7 ck cw
      replace hT1 := Lib.hid hT1
      replace Hc := Lib.hid Hc.out.drew
      replace Hb := Lib.hid (And.intro Hb.out.1.drew Hb.out.2.drew)
      generalize w7.drew = w8 at *
      obtain ⟨c0, c1, c2, c4, c5, c6, c7, ck, cw⟩ := Hc.out
      go_wp2
      obtain ⟨T2, hT2⟩ : ∃ t, (u.a.rotateRight 2 ^^^ u.a.rotateRight 13 ^^^ u.a.rotateRight 22) + ((u.a &&& u.b) ||| ((u.a ||| u.b) &&& u.c)) = t := ⟨_, rfl⟩
      refine wp_region_still_lit (by kernel_rfl) (by kernel_rfl) ?_
      repeat still_step
      still_call (rot2_s u.a 2 (by decide) (by decide) _)
      repeat still_step
      still_call (rot2_s u.a 13 (by decide) (by decide) _)
      repeat still_step
      still_call (rot2_s u.a 22 (by decide) (by decide) _)
      repeat still_step
      refine wpStill_nil ?_
      change Exit.then _ _ _ _ w8.drew
      clear c0 c1 c2 c4 c5 c6 c7 ck cw Hc
      replace hT2 := Lib.hid hT2
      replace Hb := Lib.hid (And.intro Hb.out.1.drew Hb.out.2.drew)
      generalize w8.drew = w9 at *
      go_wp2
      go_still_tail 2, (by kernel_rfl)
      change wpList _ _ _ _ _ w9.drew
      replace Hb := Lib.hid (And.intro Hb.out.1.drew Hb.out.2.drew)
      generalize w9.drew = w10 at *
      refine Lib.wpList_copy_run _ rfl _ _ 82 82 rfl _ _ rfl rfl (copy_down u g8 _ w10 Hb.out.1) ?_
      replace Hb := Lib.hid (And.intro (Hb.out.1.row u.shift.cells) (Hb.out.2.row HD.out.1 HD.out.2.1 HD.out.2.2.1 HD.out.2.2.2.1 HD.out.2.2.2.2 u.shift.cells))
      generalize w10.setRow g8 u.shift.cells = w11 at *
      have d0 : w11.cell? ⟨g8, 0, none⟩ = some (v32 u.a) := by rw [Hb.out.1.cell]; rfl
      have f0 : w11.frozen? ⟨g8, 0, none⟩ = false := Hb.out.1.frozen 0
      have H1 := Lib.hid (And.intro (Hb.out.1.set_ 0 (.int .u32 (N (T1 + T2)))) (Hb.out.2.set_ HD.out.1 HD.out.2.1 HD.out.2.2.1 HD.out.2.2.2.1 HD.out.2.2.2.2 0 (.int .u32 (N (T1 + T2)))))
      have d4 : (w11.setCell ⟨g8, 0, none⟩ (.int .u32 (N (T1 + T2)))).cell? ⟨g8, 4, none⟩ = some (.int .u32 (N u.d)) := by rw [H1.out.1.cell]; rfl
      have f4 : (w11.setCell ⟨g8, 0, none⟩ (.int .u32 (N (T1 + T2)))).frozen? ⟨g8, 4, none⟩ = false := H1.out.1.frozen 4
      have H2 := Lib.hid (And.intro (H1.out.1.set_ 4 (.int .u32 (N (u.d + T1)))) (H1.out.2.set_ HD.out.1 HD.out.2.1 HD.out.2.2.1 HD.out.2.2.2.1 HD.out.2.2.2.2 4 (.int .u32 (N (u.d + T1)))))
      clear Hb H1
      have hstep : ((u.shift.cells.setIfInBounds 0 (.int .u32 (N (T1 + T2)))).setIfInBounds 4 (.int .u32 (N (u.d + T1)))) = (V8.steps (sched s 64) v (i + 1)).cells := by
        have e : V8.steps (sched s 64) v (i + 1) = u.step kk ww := by rw [V8.steps, ← Hu.out.1, ← Hu.out.2.1, ← Hu.out.2.2]
        rw [e, ← hT1.out, ← hT2.out]
        rfl
      rw [hstep] at H2
      clear hstep
      go_wp2
      go_roundg (63 - i)
      case measure => have := Hnum.out; omega
      case rel => exact ⟨i + 1, rfl, by omega, by omega, H2.out.2, H2.out.1⟩
    · have hi : i = 64 := by omega
      subst hi
      obtain ⟨u, hu⟩ : ∃ u, u = V8.steps (sched s 64) v 64 := ⟨_, rfl⟩
      have hb8 := Hr.out.b8
      rw [← hu] at hb8
      have hnb := Hr.out.nb
      have HU := Lib.hid hu
      have HA := Lib.hid (And.intro hb8 hnb)
      clear hu Hr hb8 hnb
      go_wp2
      go_loopg [96] 8 (fun k c wr => ∃ i, NRel2 w w.heap.size (w.heap.size + 1) g5 (g5 + 1) g8 v u R k c wr i)
      case atStart => exact ⟨0, rfl, by omega, by omega, HA.out.2, HA.out.1⟩
      case round =>
        clear HA
        obtain ⟨i, hr⟩ := hrel
        obtain rfl := hr.slot
        have hle := hr.le
        have Hr := Lib.hid hr
        clear hr
        by_cases hlt : i < 8
        · have hb8 := Hr.out.b8
          have hnb := Hr.out.nb
          have d0 : wr.cell? ⟨g8, i, none⟩ = some (.int .u32 (N (u.get i))) := by rw [hb8.cell, V8.cells_get _ _ hlt, V8.part_get _ _ _ hlt]
          have d1 : wr.cell? ⟨w.heap.size, i, none⟩ = some (.int .u32 (N (v.get i))) := by rw [hnb.b2.cell, V8.cells_get _ _ hlt]
          have f0 : wr.frozen? ⟨g8, i, none⟩ = false := hb8.frozen i
          have hst := hb8.set_ i (.int .u32 (N (u.get i + v.get i)))
          rw [V8.part_set _ _ _ hlt] at hst
          have H2 := Lib.hid (And.intro hst (hnb.set_ HD.out.1 HD.out.2.1 HD.out.2.2.1 HD.out.2.2.2.1 HD.out.2.2.2.2 i (.int .u32 (N (u.get i + v.get i)))))
          have hnum := Hr.out.num
          have Hnum := Lib.hid hnum
          clear hst hb8 hnb Hr hnum
          generalize u.get i = x at *
          generalize v.get i = y at *
          have p0 : (0 : Int) ≤ (i : Int) := by omega
          have p1 : (i : Int) < 8 := by omega
          have wx : IntKind.i64.wrap ((i : Int) + 1) = (i : Int) + 1 := by rw [IntKind.wrap_i64]; omega
          have ra := N_add
          go_wp2
          go_still_tail 8, (by kernel_rfl)
          go_wp2
          go_roundg (7 - i)
          case measure => have := Hnum.out; omega
          case rel => exact ⟨i + 1, rfl, by omega, by omega, H2.out.2.drew, H2.out.1.drew⟩
        · have hi : i = 8 := by omega
          subst hi
          have hb8 := Hr.out.b8
          have hnb := Hr.out.nb
          have e8 : V8.part u v 8 = V8.add u v := rfl
          have e9 : V8.next v s = V8.add u v := by rw [V8.next, ← HU.out]
          obtain ⟨x, hx⟩ : ∃ x, x = V8.next v s := ⟨_, rfl⟩
          rw [e8, ← e9, ← hx] at hb8
          have HX := Lib.hid hx
          clear hx
          have hst := hnb.b4.setAll x.cells.toList rfl
          rw [Array.toArray_toList] at hst
          have hth := hnb.b4.there x.cells.size (Nat.le_refl _)
          have hy2 := by_setAll (g := w.heap.size + 1) (.inr (by omega)) x.cells.toList 0 _ hnb.by_
          have hi0 : (Try.prog.info? 74).map (·.size) = some x.cells.size := info43
          have HH := Lib.hid (And.intro hb8 (And.intro hst (And.intro hth (And.intro hi0 (And.intro x.one hy2)))))
          clear Hr hb8 hnb hst hth hy2 hi0 e8 e9 HU
          go_wp2_with (first | (refine wpList_load_row rfl 74 _ rfl g8 rfl 74 x.cells (0, 0) _ HH.out.1 Try.underlying74 rfl HH.out.2.2.2.1 ?_) | (refine wpList_store_mid rfl 74 _ _ rfl (w.heap.size + 1) 0 x.cells rfl rfl HH.out.2.2.1 HH.out.2.2.2.1 HH.out.2.2.2.2.1 ?_))
          refine bodyPost_ret (results_cell_row rfl _ _ (w.heap.size + 1) 74 x.cells (0, 0) _ rfl HH.out.2.1 Try.underlying74 rfl HH.out.2.2.2.1) rfl ⟨by rw [HX.out], HH.out.2.2.2.2.2⟩
theorem next_any (v : V8) (A : Option Addr) (cap : Nat) (s : ByteArray) (w : World) (hs : StrAt w A 64 s) :
    Calls Try.prog 42 #[.agg v.cells, .slice A 64 cap] w fun e w' => e = .returned (.agg (v.next s).cells) ∧ w.grownBy w' none :=
  next_row v A cap s w hs _ _ (Lib.hid rfl) (Lib.hid rfl)
end Go.Proofs.Ytdloapfifhelbaa
