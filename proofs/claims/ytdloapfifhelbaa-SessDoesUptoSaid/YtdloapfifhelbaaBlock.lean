/-
  The walk of the reference's 'block'.
-/
import Derived.Test.YtdloapfifhelbaaBits
import Derived.Deep.RegionHeld3
namespace Go.Proofs.Ytdloapfifhelbaa
open Go.RowKit

/-- what stays put while 'block' runs -/
structure RB (w0 : World) (g2 g4 : Nat) (v : V8) (W : World) : Prop where
  b2 : Blk W g2 73 v.cells
  b4 : Blk W g4 73 (Array.replicate 8 (.int .u32 0))
  by_ : w0.grownBy W none
theorem RB.drew {w0 : World} {g2 g4 : Nat} {v : V8} {W : World} (h : RB w0 g2 g4 v W) : RB w0 g2 g4 v W.drew := ⟨h.b2.drew, h.b4.drew, by_drew h.by_⟩
theorem RB.set_ {w0 : World} {g2 g4 g5 : Nat} {v : V8} {W : World} (h : RB w0 g2 g4 v W) (h2 : g2 ≠ g5) (h4 : g4 ≠ g5) (hw : w0.heap.size ≤ g5) (o : Nat) (u : Value) : RB w0 g2 g4 v (W.setCell ⟨g5, o, none⟩ u) :=
  ⟨h.b2.far (p := ⟨g5, o, none⟩) h2 u, h.b4.far (p := ⟨g5, o, none⟩) h4 u, by_set h.by_ (p := ⟨g5, o, none⟩) (.inr hw) u⟩
structure B1 (w0 : World) (g2 g4 g5 : Nat) (v : V8) (t : ByteArray) (k : Nat) (c : Value) (wr : World) (i : Nat) : Prop where
  slot : c = .int .i64 i
  le : i ≤ 64
  num : k = 64 - i
  rb : RB w0 g2 g4 v wr
  b5 : Blk wr g5 78 (row64 (sched t i))

/-- what a round of the schedule reads, and what it leaves -/
structure SQ (w0 : World) (g2 g4 g5 i : Nat) (v : V8) (x15 x2 x7 x16 y : BitVec 32) (u : Value) (R : Array Value) (W : World) : Prop where
  c15 : W.cell? ⟨g5, i - 15, none⟩ = some (.int .u32 (N x15))
  c2 : W.cell? ⟨g5, i - 2, none⟩ = some (.int .u32 (N x2))
  c7 : W.cell? ⟨g5, i - 7, none⟩ = some (.int .u32 (N x7))
  c16 : W.cell? ⟨g5, i - 16, none⟩ = some (.int .u32 (N x16))
  d : W.cell? ⟨g5, i, none⟩ = some u
  f : W.frozen? ⟨g5, i, none⟩ = false
  set : Blk (W.setCell ⟨g5, i, none⟩ (.int .u32 (N y))) g5 78 R
  rb : RB w0 g2 g4 v (W.setCell ⟨g5, i, none⟩ (.int .u32 (N y)))
theorem SQ.drew {w0 : World} {g2 g4 g5 i : Nat} {v : V8} {x15 x2 x7 x16 y : BitVec 32} {u : Value} {R : Array Value} {W : World} (h : SQ w0 g2 g4 g5 i v x15 x2 x7 x16 y u R W) : SQ w0 g2 g4 g5 i v x15 x2 x7 x16 y u R W.drew :=
  ⟨h.c15, h.c2, h.c7, h.c16, h.d, h.f, h.set.drew, h.rb.drew⟩

theorem info42 : (Try.prog.info? 73).map (·.size) = some 8 := by kernel_rfl
structure Bun (w0 : World) (g2 g4 g5 g11 : Nat) (v u : V8) (ws : List (BitVec 32)) (W : World) : Prop where
  rb : RB w0 g2 g4 v W
  b5 : Blk W g5 78 (row64 ws)
  b11 : Blk W g11 73 u.cells
theorem Bun.drew {w0 : World} {g2 g4 g5 g11 : Nat} {v u : V8} {ws : List (BitVec 32)} {W : World} (h : Bun w0 g2 g4 g5 g11 v u ws W) : Bun w0 g2 g4 g5 g11 v u ws W.drew := ⟨h.rb.drew, h.b5.drew, h.b11.drew⟩
theorem Bun.grown {w0 : World} {g2 g4 g5 g11 : Nat} {v u : V8} {ws : List (BitVec 32)} {W W' : World} (h : Bun w0 g2 g4 g5 g11 v u ws W) (y : W.grownBy W' none) : Bun w0 g2 g4 g5 g11 v u ws W' :=
  ⟨⟨h.rb.b2.grown y (by simp), h.rb.b4.grown y (by simp), by_trans h.rb.by_ y (by simp)⟩, h.b5.grown y (by simp), h.b11.grown y (by simp)⟩
/-- 'block' in its rounds -/
structure B2 (w0 : World) (g2 g4 g5 g11 : Nat) (v : V8) (ws : List (BitVec 32)) (k : Nat) (c : Value) (wr : World) (i : Nat) : Prop where
  slot : c = .int .i64 i
  le : i ≤ 64
  num : k = 64 - i
  rb : RB w0 g2 g4 v wr
  b5 : Blk wr g5 78 (row64 ws)
  b11 : Blk wr g11 73 (V8.steps ws v i).cells

structure B3 (w0 : World) (g2 g4 g11 : Nat) (v u : V8) (k : Nat) (c : Value) (wr : World) (i : Nat) : Prop where
  slot : c = .int .i64 i
  le : i ≤ 8
  num : k = 8 - i
  rb : RB w0 g2 g4 v wr
  b11 : Blk wr g11 73 (V8.part u v i).cells
theorem ss_drew {w0 : World} {g2 g4 g5 g11 i : Nat} {v u : V8} {ws : List (BitVec 32)} {x y : Value} {W : World}
    (h : W.cell? ⟨g5, i, none⟩ = some x ∧ W.cell? ⟨g11, 7, none⟩ = some y ∧ Bun w0 g2 g4 g5 g11 v u ws W) :
    W.drew.cell? ⟨g5, i, none⟩ = some x ∧ W.drew.cell? ⟨g11, 7, none⟩ = some y ∧ Bun w0 g2 g4 g5 g11 v u ws W.drew := ⟨h.1, h.2.1, h.2.2.drew⟩
theorem ss_grown {w0 : World} {g2 g4 g5 g11 i : Nat} {v u : V8} {ws : List (BitVec 32)} {x y : Value} {W W' : World}
    (h : W.cell? ⟨g5, i, none⟩ = some x ∧ W.cell? ⟨g11, 7, none⟩ = some y ∧ Bun w0 g2 g4 g5 g11 v u ws W) (hy : W.grownBy W' none) :
    W'.cell? ⟨g5, i, none⟩ = some x ∧ W'.cell? ⟨g11, 7, none⟩ = some y ∧ Bun w0 g2 g4 g5 g11 v u ws W' :=
  ⟨(World.cell?_of_block (hy.block g5 h.2.2.b5.lt (by simp))).trans h.1, (World.cell?_of_block (hy.block g11 h.2.2.b11.lt (by simp))).trans h.2.1, h.2.2.grown hy⟩
theorem N_not (a : BitVec 32) : bits BinOp.xor IntKind.u32 (if IntKind.u32.signed = true then -1 else IntKind.u32.max) (N a) = N (~~~a) := by
  have h : (if IntKind.u32.signed = true then -1 else IntKind.u32.max) = N (BitVec.allOnes 32) := by decide
  rw [h, N_xor, BitVec.allOnes_xor]
theorem toNat6 : (6 : Int).toNat = 6 := rfl
theorem toNat11 : (11 : Int).toNat = 11 := rfl
theorem toNat25 : (25 : Int).toNat = 25 := rfl
theorem rrot_i (x : BitVec 32) (n : Int) (h1 : 1 ≤ n) (h2 : n ≤ 31) (w : World) :
    Calls Try.prog 49 #[.int .u32 (N x), .int .i64 n] w fun e w' => e = .returned (.int .u32 (N (x.rotateRight n.toNat))) ∧ w' = w.drew := by
  obtain ⟨k, rfl⟩ := Int.eq_ofNat_of_zero_le (show 0 ≤ n by omega)
  exact rrot_d x k (by omega) (by omega) w

set_option maxRecDepth 100000 in
set_option maxHeartbeats 2000000 in
theorem block_any (v : V8) (t : ByteArray) (ht : t.size = 64) (w : World) :
    Calls Try.prog 43 #[.agg v.cells, .string t] w fun e w' => e = .returned (.agg (v.next t).cells) ∧ w.grownBy w' none := by
  obtain ⟨W, hW⟩ : ∃ W, W = ((w.alloc (.cells v.cells 73)).alloc (.cells (Array.replicate 8 (.int .u32 0)) 73)).alloc (.cells (row64 []) 78) := ⟨_, rfl⟩
  have m2 : Blk W w.heap.size 73 v.cells := by rw [hW]; exact ((Blk.new _ _ _).alloc _).alloc _
  have m4 : Blk W (w.heap.size + 1) 73 (Array.replicate 8 (.int .u32 0)) := by
    have h := Blk.new (w.alloc (.cells v.cells 73)) 73 (Array.replicate 8 (.int .u32 0))
    have e : (w.alloc (.cells v.cells 73)).heap.size = w.heap.size + 1 := by simp
    rw [e] at h
    rw [hW]; exact h.alloc _
  have m5 : Blk W (w.heap.size + 1 + 1) 78 (row64 []) := by
    have h := Blk.new ((w.alloc (.cells v.cells 73)).alloc (.cells (Array.replicate 8 (.int .u32 0)) 73)) 78 (row64 [])
    have e : ((w.alloc (.cells v.cells 73)).alloc (.cells (Array.replicate 8 (.int .u32 0)) 73)).heap.size = w.heap.size + 1 + 1 := by simp
    rw [e] at h
    rw [hW]; exact h
  have my : w.grownBy W none := by rw [hW]; exact by_alloc (by_alloc (by_alloc (by_refl _ _) _) _) _
  have HW := Lib.hid hW
  have HH := Lib.hid (And.intro (RB.mk (w0 := w) (g2 := w.heap.size) (g4 := w.heap.size + 1) m2 m4 my) m5)
  clear hW m2 m4 m5 my
  have Ht := Lib.hid ht
  go_enter Try.func43, Try.ntmps43
  go_wp2_with (refine Great.wpList_boxTo rfl 73 _ rfl _ rfl w.heap.size rfl v.cells rfl ?_)
  change Code.wp _ _ _ _ (((w.alloc (.cells v.cells 73)).alloc (.cells (Array.replicate 8 (.int .u32 0)) 73)).alloc (.cells (row64 []) 78))
  rw [← HW.out]
  obtain ⟨g5, hg5⟩ : ∃ g, g = w.heap.size + 1 + 1 := ⟨_, rfl⟩
  rw [← hg5] at HH ⊢
  have HG := Lib.hid hg5
  clear hg5 HW
  go_loopg [6] 64 (fun k c wr => ∃ i, B1 w w.heap.size (w.heap.size + 1) g5 v t k c wr i)
  case atStart => exact ⟨0, rfl, by omega, by omega, HH.out.1, HH.out.2⟩
  case round =>
    obtain ⟨i, hr⟩ := hrel
    obtain rfl := hr.slot
    have hle := hr.le
    have Hr := Lib.hid hr
    clear hr HH
    by_cases hlt : i < 64
    · have wx : IntKind.i64.wrap ((i : Int) + 1) = (i : Int) + 1 := by rw [IntKind.wrap_i64]; omega
      have p0 : (0 : Int) ≤ (i : Int) := by omega
      have p1 : (i : Int) < 64 := by omega
      have hbk := Hr.out.b5
      have hlen := sched_len t i
      have d0 : ∃ u, wr.cell? ⟨g5, i, none⟩ = some u := ⟨_, by rw [hbk.cell]; exact Array.getElem?_eq_getElem (by rw [row64_size _ (by omega)]; omega)⟩
      obtain ⟨u0, d0⟩ := d0
      have f0 : wr.frozen? ⟨g5, i, none⟩ = false := hbk.frozen i
      have hset : ∀ x, sched t (i + 1) = sched t i ++ [x] → Blk (wr.setCell ⟨g5, i, none⟩ (.int .u32 (N x))) g5 78 (row64 (sched t (i + 1))) := fun x hx => by
        have h := hbk.set_ i (.int .u32 (N x))
        have e := row64_set (sched t i) x (by omega)
        rw [hlen] at e
        rw [e] at h
        rw [hx]; exact h
      have hrb : ∀ x, RB w w.heap.size (w.heap.size + 1) v (wr.setCell ⟨g5, i, none⟩ (.int .u32 (N x))) := fun x =>
        Hr.out.rb.set_ (by have := HG.out; omega) (by have := HG.out; omega) (by have := HG.out; omega) i _
      have Hset := Lib.hid (And.intro hset (And.intro hrb (And.intro hbk hlen)))
      clear hset hrb hbk hlen
      by_cases h16 : i < 16
      · have p2 : (i : Int) < 16 := by omega
        have w1 : IntKind.i64.wrap (4 * (i : Int)) = 4 * (i : Int) := by rw [IntKind.wrap_i64]; omega
        have w2 : IntKind.i64.wrap (4 * (i : Int) + 4) = 4 * (i : Int) + 4 := by rw [IntKind.wrap_i64]; omega
        have hsl : ∀ W, (Instr.slice 9 (.string t) (some (.int .i64 (4 * (i : Int)))) (some (.int .i64 (4 * (i : Int) + 4))) none).run Try.prog W = .ok (.string (t.extract (4 * i) (4 * i + 4))) W := fun W => by
          have := Ht.out
          rw [run_slice_string_if W 9 t .i64 .i64 _ _ Try.underlying9, if_pos ⟨by omega, by omega⟩, if_pos ⟨by omega, by omega⟩]
          have e1 : (4 * (i : Int)).toNat = 4 * i := by omega
          have e2 : (4 * (i : Int) + 4).toNat = 4 * i + 4 := by omega
          rw [e1, e2]
        have Hz := Lib.hid (And.intro (Hset.out.1 (wordAt t i) (by rw [sched, if_pos h16])) (Hset.out.2.1 (wordAt t i)))
        go_wp2_with fail
        refine (word_any _ (by have := Ht.out; rw [ext_size _ _ _ (by omega)]; omega) wr).mono ?_
        rintro e w7 ⟨rfl, rfl⟩
        rw [wordAt_ext t i (by have := Ht.out; omega)]
        go_wp2
        go_roundg (63 - i)
        case measure => have := Hr.out.num; omega
        case rel => exact ⟨i + 1, rfl, by omega, by omega, Hz.out.2.drew, Hz.out.1.drew⟩
      · have hbk := Hset.out.2.2.1
        have hlen := Hset.out.2.2.2
        have hget : ∀ d, 1 ≤ d → d ≤ 16 → wr.cell? ⟨g5, i - d, none⟩ = some (.int .u32 (N ((sched t i).getD (i - d) 0))) := fun d h1 h2 => by
          rw [hbk.cell]; exact row64_get _ _ (by omega)
        have hnx : nextW (sched t i) = (sched t i).getD (i - 16) 0 + lo0 ((sched t i).getD (i - 15) 0) + (sched t i).getD (i - 7) 0 + lo1 ((sched t i).getD (i - 2) 0) := by rw [nextW, hlen]
        rw [← next_eq] at hnx
        have hsq : SQ w w.heap.size (w.heap.size + 1) g5 i v ((sched t i).getD (i - 15) 0) ((sched t i).getD (i - 2) 0) ((sched t i).getD (i - 7) 0) ((sched t i).getD (i - 16) 0) (nextW (sched t i)) u0 (row64 (sched t (i + 1))) wr :=
          ⟨hget 15 (by omega) (by omega), hget 2 (by omega) (by omega), hget 7 (by omega) (by omega), hget 16 (by omega) (by omega), d0, f0, Hset.out.1 _ (by rw [sched, if_neg h16]), Hset.out.2.1 _⟩
        rw [hnx] at hsq
        unfold lo0 lo1 at hsq
        have Hq := Lib.hid hsq
        clear hnx hsq hget hbk hlen Hset d0 f0
        generalize (sched t i).getD (i - 15) 0 = x15 at *
        generalize (sched t i).getD (i - 16) 0 = x16 at *
        generalize (sched t i).getD (i - 2) 0 = x2 at *
        generalize (sched t i).getD (i - 7) 0 = x7 at *
        have g1 : IntKind.i64.wrap ((i : Int) - 15) = (i : Int) - 15 := by rw [IntKind.wrap_i64]; omega
        have g2 : IntKind.i64.wrap ((i : Int) - 16) = (i : Int) - 16 := by rw [IntKind.wrap_i64]; omega
        have g3 : IntKind.i64.wrap ((i : Int) - 2) = (i : Int) - 2 := by rw [IntKind.wrap_i64]; omega
        have g4 : IntKind.i64.wrap ((i : Int) - 7) = (i : Int) - 7 := by rw [IntKind.wrap_i64]; omega
        have t1 : ((i : Int) - 15).toNat = i - 15 := by omega
        have t2 : ((i : Int) - 16).toNat = i - 16 := by omega
        have t3 : ((i : Int) - 2).toNat = i - 2 := by omega
        have t4 : ((i : Int) - 7).toNat = i - 7 := by omega
        have p3 : ¬ (i : Int) < 16 := by omega
        have p6 : (i : Int) - 15 < 64 := by omega
        have p7 : (i : Int) - 16 < 64 := by omega
        have p8 : (i : Int) - 2 < 64 := by omega
        have p9 : (i : Int) - 7 < 64 := by omega
        have m1 : (15 : Int) ≤ (i : Int) := by omega
        have m2 : (16 : Int) ≤ (i : Int) := by omega
        have m3 : (2 : Int) ≤ (i : Int) := by omega
        have m4 : (7 : Int) ≤ (i : Int) := by omega
        have rx := N_xor
        have ra := N_add
        have rs3 : ∀ a : BitVec 32, N a / (8 : Int) = N (a >>> 3) := fun a => N_shr a 3 8 rfl
        have rs10 : ∀ a : BitVec 32, N a / (1024 : Int) = N (a >>> 10) := fun a => N_shr a 10 1024 rfl
        obtain ⟨c15, c2, c7, c16, -, -, -, -⟩ := Hq.out
        go_wp2
        refine wp_region_still_lit (by kernel_rfl) (by kernel_rfl) ?_
        repeat still_step
        refine wpStill_nil ?_
        change Exit.then _ _ _ _ wr.drew
        clear c15 c2 c7 c16
        replace Hq := Lib.hid Hq.out.drew
        generalize wr.drew = w7 at *
        go_wp2_with fail
        refine (rrot_d x15 7 (by decide) (by decide) w7).mono ?_
        rintro e w8 ⟨rfl, rfl⟩
        replace Hq := Lib.hid Hq.out.drew
        generalize w7.drew = w8 at *
        go_wp2_with fail
        refine (rrot_d x15 18 (by decide) (by decide) w8).mono ?_
        rintro e w9 ⟨rfl, rfl⟩
        replace Hq := Lib.hid Hq.out.drew
        generalize w8.drew = w9 at *
        go_wp2_with fail
        refine (rrot_d x2 17 (by decide) (by decide) w9).mono ?_
        rintro e w10 ⟨rfl, rfl⟩
        replace Hq := Lib.hid Hq.out.drew
        generalize w9.drew = w10 at *
        go_wp2_with fail
        refine (rrot_d x2 19 (by decide) (by decide) w10).mono ?_
        rintro e w11 ⟨rfl, rfl⟩
        replace Hq := Lib.hid Hq.out.drew
        generalize w10.drew = w11 at *
        obtain ⟨c15, c2, c7, c16, d0, f0, -, -⟩ := Hq.out
        go_wp2
        go_still_tail 15, (by kernel_rfl)
        go_wp2
        go_roundg (63 - i)
        case measure => have := Hr.out.num; omega
        case rel => exact ⟨i + 1, rfl, by omega, by omega, Hq.out.rb.drew, Hq.out.set.drew⟩
    · have hi : i = 64 := by omega
      subst hi
      have hb5 := Hr.out.b5
      have hrb := Hr.out.rb
      have lt2 := hrb.b2.lt
      have lt4 := hrb.b4.lt
      have lt5 := hb5.lt
      have p8 : Blk (wr.alloc (.cells (Array.replicate 8 (.int .u32 0)) 73)) wr.heap.size 73 (Array.replicate 8 (.int .u32 0)) := Blk.new _ _ _
      have t8 := p8.there v.cells.size (Nat.le_refl _)
      have l4 : (Try.prog.info? 73).map (·.size) = some v.cells.size := info42
      obtain ⟨W6, hW6⟩ : ∃ W, W = (wr.alloc (.cells (Array.replicate 8 (.int .u32 0)) 73)).setCells wr.heap.size 0 v.cells.toList := ⟨_, rfl⟩
      have j8 : Blk W6 wr.heap.size 73 v.cells := by
        rw [hW6]
        have h := p8.setAll v.cells.toList rfl
        rw [Array.toArray_toList] at h
        exact h
      have j5 : Blk W6 g5 78 (row64 (sched t 64)) := by
        rw [hW6]; exact Blk.farAll _ _ _ _ (by omega) (hb5.alloc _)
      have jn : RB w w.heap.size (w.heap.size + 1) v W6 := by
        rw [hW6]
        exact ⟨Blk.farAll _ _ _ _ (by omega) (hrb.b2.alloc _), Blk.farAll _ _ _ _ (by omega) (hrb.b4.alloc _), by_setAll (.inr (by omega)) _ _ _ (by_alloc hrb.by_ _)⟩
      have HV := Lib.hid hW6
      have H8 := Lib.hid (And.intro hrb.b2 (And.intro l4 (And.intro t8 v.one)))
      have HJ := Lib.hid (And.intro j8 (And.intro j5 jn))
      have hds : w.heap.size ≠ wr.heap.size ∧ w.heap.size + 1 ≠ wr.heap.size ∧ g5 ≠ wr.heap.size ∧ w.heap.size ≤ wr.heap.size := by omega
      have HD := Lib.hid hds
      clear hb5 hrb lt2 lt4 lt5 p8 t8 l4 hW6 j8 j5 jn hds Hr
      go_wp2_with (first | (refine wpList_load_row rfl 73 _ rfl w.heap.size rfl 73 v.cells (0, 0) _ H8.out.1 Try.underlying73 rfl H8.out.2.1 ?_) | (refine wpList_store_mid rfl 73 _ _ rfl wr.heap.size 0 v.cells rfl rfl H8.out.2.2.1 H8.out.2.1 H8.out.2.2.2 ?_; refine wpList_at HV.out ?_))
      generalize hg11 : wr.heap.size = g11 at *
      go_loopg [12] 64 (fun k c wr => ∃ i, B2 w w.heap.size (w.heap.size + 1) g5 g11 v (sched t 64) k c wr i)
      case atStart => exact ⟨0, rfl, by omega, by omega, HJ.out.2.2, HJ.out.2.1, HJ.out.1⟩
      case round =>
        clear HV H8 HJ hg11
        obtain ⟨i, hr⟩ := hrel
        obtain rfl := hr.slot
        have hle := hr.le
        have Hr := Lib.hid hr
        clear hr
        by_cases hlt : i < 64
        · obtain ⟨u, hu⟩ : ∃ u, u = V8.steps (sched t 64) v i := ⟨_, rfl⟩
          obtain ⟨ww, hww⟩ : ∃ k, k = (sched t 64).getD i 0 := ⟨_, rfl⟩
          have hb11 := Hr.out.b11
          rw [← hu] at hb11
          have hbun : Bun w w.heap.size (w.heap.size + 1) g5 g11 v u (sched t 64) wr := ⟨Hr.out.rb, Hr.out.b5, hb11⟩
          have cw : wr.cell? ⟨g5, i, none⟩ = some (.int .u32 (N ww)) := by rw [Hr.out.b5.cell, hww]; exact row64_get _ _ (by rw [sched_len]; exact hlt)
          have c0 : wr.cell? ⟨g11, 0, none⟩ = some (.int .u32 (N u.a)) := by rw [hb11.cell]; rfl
          have c1 : wr.cell? ⟨g11, 1, none⟩ = some (.int .u32 (N u.b)) := by rw [hb11.cell]; rfl
          have c2 : wr.cell? ⟨g11, 2, none⟩ = some (.int .u32 (N u.c)) := by rw [hb11.cell]; rfl
          have c4 : wr.cell? ⟨g11, 4, none⟩ = some (.int .u32 (N u.e)) := by rw [hb11.cell]; rfl
          have c5 : wr.cell? ⟨g11, 5, none⟩ = some (.int .u32 (N u.f)) := by rw [hb11.cell]; rfl
          have c6 : wr.cell? ⟨g11, 6, none⟩ = some (.int .u32 (N u.g)) := by rw [hb11.cell]; rfl
          have Hb := Lib.hid (And.intro hbun cw)
          have Hu := Lib.hid (And.intro hu hww)
          have hnum := Hr.out.num
          have Hnum := Lib.hid hnum
          clear hb11 hbun hu hww Hr hnum cw
          have p0 : (0 : Int) ≤ (i : Int) := by omega
          have p1 : (i : Int) < 64 := by omega
          have wx : IntKind.i64.wrap ((i : Int) + 1) = (i : Int) + 1 := by rw [IntKind.wrap_i64]; omega
          have rx := N_xor
          have ra := N_add
          have ro := N_or
          have rn := N_and
          obtain ⟨kk, hkk⟩ : ∃ k, k = kWords.getD i 0 := ⟨_, rfl⟩
          have hround : ∀ W, Calls Try.prog 50 #[.int .i64 (i : Int)] W fun e w' => e = .returned (.int .u32 (N kk)) ∧ W.grownBy w' none := fun W => by rw [hkk]; exact round_any i hlt W
          have Hrd := Lib.hid (And.intro hround hkk)
          clear hround hkk
          go_wp2
          refine wp_region_still_lit (by kernel_rfl) (by kernel_rfl) ?_
          repeat still_step
          refine wpStill_nil ?_
          change Exit.then _ _ _ _ wr.drew
          clear c0 c1 c2 c4 c5 c6
          replace Hb := Lib.hid (And.intro Hb.out.1.drew Hb.out.2)
          have Hc : (wr.drew).cell? ⟨g5, i, none⟩ = some (.int .u32 (N ww)) := Hb.out.2
          have Hbun := Hb.out.1
          clear Hb
          generalize wr.drew = w7 at *
          have c7 : w7.cell? ⟨g11, 7, none⟩ = some (.int .u32 (N u.h)) := by rw [Hbun.b11.cell]; rfl
          have Hs0 := ss_drew (And.intro Hc (And.intro c7 Hbun))
          clear Hc c7 Hbun
          go_wp2
          go_region_held3 (fun w' => w'.cell? ⟨g5, i, none⟩ = some (.int .u32 (N ww)) ∧ w'.cell? ⟨g11, 7, none⟩ = some (.int .u32 (N u.h)) ∧ Bun w w.heap.size (w.heap.size + 1) g5 g11 v u (sched t 64) w')
            (first
              | exact Hs0
              | exact ss_grown (by assumption) hgrow
              | exact ss_drew (by assumption))
            (first
              | (go_at_call 49; refine (rrot_i u.e _ (by decide) (by decide) _).mono ?_; rintro e w2 ⟨rfl, rfl⟩; dsimp only)
              | (go_at_call 50; refine (Hrd.out.1 _).mono ?_; rintro e w2 ⟨rfl, hgrow⟩; dsimp only))
          rename_i hh
          have Hbun := hh.2.2
          clear hh hgrow Hs0
          simp only [N_not, N_xor, N_and, N_add, toNat6, toNat11, toNat25]
          obtain ⟨T1, hT1⟩ : ∃ T, T = u.t1 kk ww := ⟨_, rfl⟩
          have e1 : u.h + (u.e.rotateRight 6 ^^^ u.e.rotateRight 11 ^^^ u.e.rotateRight 25) + ((u.e &&& u.f) ^^^ (~~~u.e &&& u.g)) + kk + ww = T1 := by rw [ch_eq, hT1]; rfl
          rw [e1]
          have HT1 := Lib.hid hT1
          clear e1 hT1
          replace Hbun := Lib.hid Hbun
          go_wp2_with fail
          refine (rrot_i u.a _ (by decide) (by decide) w2).mono ?_
          rintro e w8 ⟨rfl, rfl⟩
          replace Hbun := Lib.hid Hbun.out.drew
          generalize w2.drew = w8 at *
          go_wp2_with fail
          refine (rrot_i u.a _ (by decide) (by decide) w8).mono ?_
          rintro e w9 ⟨rfl, rfl⟩
          replace Hbun := Lib.hid Hbun.out.drew
          generalize w8.drew = w9 at *
          go_wp2_with fail
          refine (rrot_i u.a _ (by decide) (by decide) w9).mono ?_
          rintro e w10 ⟨rfl, rfl⟩
          replace Hbun := Lib.hid Hbun.out.drew
          generalize w9.drew = w10 at *
          have c3 : w10.cell? ⟨g11, 3, none⟩ = some (.int .u32 (N u.d)) := by rw [Hbun.out.b11.cell]; rfl
          have hX : (V8.mk (T1 + ((u.a.rotateRight 2 ^^^ u.a.rotateRight 13 ^^^ u.a.rotateRight 22) + ((u.a &&& u.b) ^^^ (u.a &&& u.c) ^^^ (u.b &&& u.c)))) u.a u.b u.c (u.d + T1) u.e u.f u.g) = u.step kk ww := by rw [maj_eq, HT1.out]; rfl
          have hsteps : V8.steps (sched t 64) v (i + 1) = u.step kk ww := by rw [V8.steps, ← Hu.out.1, ← Hrd.out.2, ← Hu.out.2]
          obtain ⟨X, hXX⟩ : ∃ X, X = u.step kk ww := ⟨_, rfl⟩
          have hset := Hbun.out.b11.setAll X.cells.toList rfl
          rw [Array.toArray_toList] at hset
          have hrb := Hbun.out.rb
          have m1 : RB w w.heap.size (w.heap.size + 1) v (w10.setCells g11 0 X.cells.toList) := ⟨Blk.farAll _ _ _ _ HD.out.1 hrb.b2, Blk.farAll _ _ _ _ HD.out.2.1 hrb.b4, by_setAll (.inr HD.out.2.2.2) _ _ _ hrb.by_⟩
          have m2 := Blk.farAll X.cells.toList 0 _ _ HD.out.2.2.1 Hbun.out.b5
          have hth := Hbun.out.b11.there X.cells.size (Nat.le_refl _)
          have hB2 : B2 w w.heap.size (w.heap.size + 1) g5 g11 v (sched t 64) (63 - i) (.int .i64 ((i : Int) + 1)) (w10.setCells g11 0 X.cells.toList) (i + 1) :=
            ⟨by simp, by omega, by omega, m1, m2, by rw [hsteps, ← hXX]; exact hset⟩
          rw [hXX, ← hX] at hB2 hth
          have HB2 := Lib.hid (And.intro hB2 hth)
          have H42 := Lib.hid info42
          clear hX hsteps hXX hset hrb m1 m2 hB2 hth Hbun
          go_wp2_with (refine wpList_store_mid rfl 73 (.tmp 11) (.tmp 154) rfl g11 0 (V8.mk (T1 + ((u.a.rotateRight 2 ^^^ u.a.rotateRight 13 ^^^ u.a.rotateRight 22) + ((u.a &&& u.b) ^^^ (u.a &&& u.c) ^^^ (u.b &&& u.c)))) u.a u.b u.c (u.d + T1) u.e u.f u.g).cells rfl rfl ?ht ?hi ?h1 ?_)
          case ht => exact HB2.out.2
          case hi => exact H42.out
          case h1 => exact V8.one _
          go_wp2
          go_roundg (63 - i)
          case measure => have := Hnum.out; omega
          case rel => exact ⟨i + 1, HB2.out.1⟩
        · have hi : i = 64 := by omega
          subst hi
          obtain ⟨u, hu⟩ : ∃ u, u = V8.steps (sched t 64) v 64 := ⟨_, rfl⟩
          have hb11 := Hr.out.b11
          rw [← hu] at hb11
          have hrb := Hr.out.rb
          have HU := Lib.hid hu
          have HA := Lib.hid (And.intro hb11 hrb)
          clear hu Hr hb11 hrb
          go_wp2
          go_loopg [21] 8 (fun k c wr => ∃ i, B3 w w.heap.size (w.heap.size + 1) g11 v u k c wr i)
          case atStart => exact ⟨0, rfl, by omega, by omega, HA.out.2, HA.out.1⟩
          case round =>
            clear HA
            obtain ⟨i, hr⟩ := hrel
            obtain rfl := hr.slot
            have hle := hr.le
            have Hr := Lib.hid hr
            clear hr
            by_cases hlt : i < 8
            · have hb11 := Hr.out.b11
              have hrb := Hr.out.rb
              have d0 : wr.cell? ⟨g11, i, none⟩ = some (.int .u32 (N (u.get i))) := by rw [hb11.cell, V8.cells_get _ _ hlt, V8.part_get _ _ _ hlt]
              have d1 : wr.cell? ⟨w.heap.size, i, none⟩ = some (.int .u32 (N (v.get i))) := by rw [hrb.b2.cell, V8.cells_get _ _ hlt]
              have f0 : wr.frozen? ⟨g11, i, none⟩ = false := hb11.frozen i
              have hst := hb11.set_ i (.int .u32 (N (u.get i + v.get i)))
              rw [V8.part_set _ _ _ hlt] at hst
              have H2 := Lib.hid (And.intro hst (hrb.set_ HD.out.1 HD.out.2.1 HD.out.2.2.2 i (.int .u32 (N (u.get i + v.get i)))))
              have hnum := Hr.out.num
              have Hnum := Lib.hid hnum
              clear hst hb11 hrb Hr hnum
              generalize u.get i = x at *
              generalize v.get i = y at *
              have p0 : (0 : Int) ≤ (i : Int) := by omega
              have p1 : (i : Int) < 8 := by omega
              have wx : IntKind.i64.wrap ((i : Int) + 1) = (i : Int) + 1 := by rw [IntKind.wrap_i64]; omega
              have ra := N_add
              go_wp2
              go_still_tail 9, (by kernel_rfl)
              go_wp2
              go_roundg (7 - i)
              case measure => have := Hnum.out; omega
              case rel => exact ⟨i + 1, rfl, by omega, by omega, H2.out.2.drew, H2.out.1.drew⟩
            · have hi : i = 8 := by omega
              subst hi
              have hb11 := Hr.out.b11
              have hrb := Hr.out.rb
              have e8 : V8.part u v 8 = V8.add u v := rfl
              have e9 : V8.next v t = V8.add u v := by rw [V8.next, ← HU.out]
              obtain ⟨x, hx⟩ : ∃ x, x = V8.next v t := ⟨_, rfl⟩
              rw [e8, ← e9, ← hx] at hb11
              have HX := Lib.hid hx
              clear hx
              have hst := hrb.b4.setAll x.cells.toList rfl
              rw [Array.toArray_toList] at hst
              have hth := hrb.b4.there x.cells.size (Nat.le_refl _)
              have hy2 := by_setAll (g := w.heap.size + 1) (.inr (by omega)) x.cells.toList 0 _ hrb.by_
              have hi0 : (Try.prog.info? 73).map (·.size) = some x.cells.size := info42
              have HH := Lib.hid (And.intro hb11 (And.intro hst (And.intro hth (And.intro hi0 (And.intro x.one hy2)))))
              clear Hr hb11 hrb hst hth hy2 hi0 e8 e9 HU
              go_wp2_with (first | (refine wpList_load_row rfl 73 _ rfl g11 rfl 73 x.cells (0, 0) _ HH.out.1 Try.underlying73 rfl HH.out.2.2.2.1 ?_) | (refine wpList_store_mid rfl 73 _ _ rfl (w.heap.size + 1) 0 x.cells rfl rfl HH.out.2.2.1 HH.out.2.2.2.1 HH.out.2.2.2.2.1 ?_))
              refine bodyPost_ret (results_cell_row rfl _ _ (w.heap.size + 1) 73 x.cells (0, 0) _ rfl HH.out.2.1 Try.underlying73 rfl HH.out.2.2.2.1) rfl ⟨by rw [HX.out], HH.out.2.2.2.2.2⟩
end Go.Proofs.Ytdloapfifhelbaa
