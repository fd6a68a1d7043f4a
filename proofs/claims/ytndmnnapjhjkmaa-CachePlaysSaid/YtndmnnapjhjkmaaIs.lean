/-
  lodgerlaw24.is: a result that is that of a number is told so.
-/
import Derived.Test.YtndmnnapjhjkmaaResult
import Derived.Deep.QuietTactic
import Derived.BigQuiet
import Derived.Laws.StructEq
namespace Go.Proofs.Ytndmnnapjhjkmaa
open Go.RowKit iStrRes

theorem diag_eq (a : ByteArray) (x y : Int) (w : World) : (Op.equalIn 10000 50 (.agg #[.string a, .int .i64 x, .int .i64 y]) (.agg #[.string a, .int .i64 x, .int .i64 y])).run Try.prog w = .ok true w := by
  have u3 := Try.underlying3
  have u9 := Try.underlying9
  have a3 : ∀ w, (isAgg 3).run Try.prog w = .ok false w := fun _ => by kernel_rfl
  have a9 : ∀ w, (isAgg 9).run Try.prog w = .ok false w := fun _ => by kernel_rfl
  have z3 : ∀ w, (Go.sizeOf 3).run Try.prog w = .ok 1 w := fun _ => by kernel_rfl
  have z9 : ∀ w, (Go.sizeOf 9).run Try.prog w = .ok 1 w := fun _ => by kernel_rfl
  have hS : Try.prog.underlying 50 = some (.struct (Try.prog.fieldsOf 50)) := by kernel_rfl
  have hp : Try.prog.stoodInHeld 50 = false := by kernel_rfl
  rw [show (10000 : Nat) = 9999 + 1 from rfl, run_equalIn_agg w 9999 50 _ _ hS hp]
  simp only [Program.fieldsOf, Try.underlying50]
  go_simp
theorem diag_same (a : ByteArray) (x y : Int) (w : World) : (binOp .neq 50 (.agg #[.string a, .int .i64 x, .int .i64 y]) (.agg #[.string a, .int .i64 x, .int .i64 y])).run Try.prog w = .ok (.bool false) w := by
  rw [run_neq_struct, diag_eq]
  rfl

theorem Sl.look {w : World} {t : TypeId} {v : Option Addr × Nat × Nat} {n k g i : Nat} {f : Nat → List Value} (h : Sl w t v n (rows f n) g) (hf : ∀ i, (f i).length = k) (hi : i < n) :
    v.1 = some ⟨g, 0, none⟩ ∧ ∀ j, j < k → w.cell? ⟨g, i * k + j, none⟩ = (f i)[j]? := by
  obtain ⟨cur, e, hb, hx⟩ := h.at_ (by omega)
  refine ⟨e, fun j hj => ?_⟩
  have h1 := rows_at hf n i j hi hj
  have h2 : (f i)[j]? = some ((f i)[j]'(by rw [hf]; exact hj)) := List.getElem?_eq_getElem _
  rw [hb.cell, h2]
  exact hx _ _ (h1.trans h2)

set_option maxRecDepth 100000 in
set_option maxHeartbeats 1000000 in
theorem is_any (w : World) (rv : RV) (n : Nat) (G : VG) (hn : n < 256) (h : Val w rv n G) :
    Calls Try.prog 16 #[.agg #[.slice rv.d.1 rv.d.2.1 rv.d.2.2, .string rv.p, .bool rv.b, .slice rv.vs.1 rv.vs.2.1 rv.vs.2.2, .slice rv.ts.1 rv.ts.2.1 rv.ts.2.2, .int .u64 rv.c], .bool true, .int .u8 (n : Int)] w
      fun e w' => e = .returned (.bool true) ∧ w.grownBy w' none := by
  obtain ⟨⟨d1, d2, d3⟩, p, b, ⟨v1, v2, v3⟩, ⟨t1, t2, t3⟩, c⟩ := rv
  obtain ⟨k, hk⟩ : ∃ k, k = n % 4 := ⟨_, rfl⟩
  obtain ⟨bb, hbb⟩ : ∃ bb, bb = decide (n % 5 = 0) := ⟨_, rfl⟩
  obtain rfl : k = d2 := hk.trans h.d.n_.symm
  obtain rfl : k = v2 := hk.trans h.v.n_.symm
  obtain rfl : k = t2 := hk.trans h.t.n_.symm
  obtain rfl : p = ⟨#[109]⟩ := h.p
  obtain rfl : bb = b := hbb.trans h.b.symm
  obtain rfl : c = (n : Int) := h.c
  obtain ⟨w1, hw1⟩ : ∃ w1, w1 = w.alloc (.cells #[.slice d1 k d3, .string ⟨#[109]⟩, .bool bb, .slice v1 k v3, .slice t1 k t3, .int .u64 (n : Int)] 38) := ⟨_, rfl⟩
  have hy1 : w.grownBy w1 none := by rw [hw1]; exact by_alloc (by_refl _ _) _
  have hb1 : Blk w1 w.heap.size 38 #[.slice d1 k d3, .string ⟨#[109]⟩, .bool bb, .slice v1 k v3, .slice t1 k t3, .int .u64 (n : Int)] := by rw [hw1]; exact Blk.new _ _ _
  have HW := Lib.hid hw1
  have H := Lib.hid (And.intro (h.grown hy1) (And.intro hy1 (And.intro hb1 (And.intro hk hbb))))
  clear hw1 hy1 hb1 h hk hbb
  go_enter Try.func16, Try.ntmps16
  go_wp2_with fail
  rw [← HW.out]
  refine (result_any w1 n hn).mono ?_
  rintro e w2 ⟨⟨⟨e1, e2, e3⟩, p, b, ⟨f1, f2, f3⟩, ⟨g1, g2, g3⟩, c⟩, G2, rfl, hv2, y2, hL2, hT2⟩
  obtain rfl : k = e2 := H.out.2.2.2.1.trans hv2.d.n_.symm
  obtain rfl : k = f2 := H.out.2.2.2.1.trans hv2.v.n_.symm
  obtain rfl : k = g2 := H.out.2.2.2.1.trans hv2.t.n_.symm
  obtain rfl : p = ⟨#[109]⟩ := hv2.p
  obtain rfl : bb = b := H.out.2.2.2.2.trans hv2.b.symm
  obtain rfl : c = (n : Int) := hv2.c
  obtain ⟨w3, hw3⟩ : ∃ w3, w3 = w2.alloc (.cells #[.slice e1 k e3, .string ⟨#[109]⟩, .bool bb, .slice f1 k f3, .slice g1 k g3, .int .u64 (n : Int)] 38) := ⟨_, rfl⟩
  have y3 : w2.grownBy w3 none := by rw [hw3]; exact by_alloc (by_refl _ _) _
  have hb3 : Blk w3 w2.heap.size 38 #[.slice e1 k e3, .string ⟨#[109]⟩, .bool bb, .slice f1 k f3, .slice g1 k g3, .int .u64 (n : Int)] := by rw [hw3]; exact Blk.new _ _ _
  have hb1 := (H.out.2.2.1.grown y2 (by simp)).grown y3 (by simp)
  have H3 := Lib.hid (And.intro (hv2.grown y3) (And.intro ((H.out.1.grown y2).grown y3) (And.intro (by_trans (by_trans H.out.2.1 y2 (by simp)) y3 (by simp)) (And.intro hb1 hb3))))
  have x0 := hb1.cell 0
  have x1 := hb1.cell 1
  have x2 := hb1.cell 2
  have x3 := hb1.cell 3
  have x4 := hb1.cell 4
  have x5 := hb1.cell 5
  have k0 := hb3.cell 0
  have k1 := hb3.cell 1
  have k2 := hb3.cell 2
  have k3 := hb3.cell 3
  have k4 := hb3.cell 4
  have k5 := hb3.cell 5
  simp only [List.getElem?_toArray, List.getElem?_cons_zero, List.getElem?_cons_succ] at x0 x1 x2 x3 x4 x5 k0 k1 k2 k3 k4 k5
  rw [hw3] at x0 x1 x2 x3 x4 x5 k0 k1 k2 k3 k4 k5
  have HW3 := Lib.hid hw3
  clear hw3 y3 y2 hL2 hT2 hv2 hb1 hb3
  go_wp2_with fail
  rw [← HW3.out] at x0 x1 x2 x3 x4 x5 k0 k1 k2 k3 k4 k5 ⊢
  go_loopg [8] k (fun m i wr => ∃ j q : Nat, j ≤ k ∧ m = k - j ∧ i = .int .i64 (j : Nat) ∧ wr = w3.drewN q)
  case atStart => exact ⟨0, 0, Nat.zero_le _, rfl, rfl, rfl⟩
  case round =>
    obtain ⟨j, q, hj, hm, rfl, rfl⟩ := hrel
    have hk4 : k < 4 := by have h1 := H.out.2.2.2.1; have h2 := Nat.mod_lt n (y := 4) (by omega); omega
    rcases Nat.lt_or_ge j k with hlt | hge
    · have hI : (j : Int) < (k : Int) := by omega
      have hI0 : (0 : Int) ≤ (j : Int) := by omega
      have hI4 : (k : Int) ≤ 4 := by omega
      have hds := diag_same ⟨#[109]⟩ (n : Int) ((1 + j : Nat) : Int)
      obtain ⟨ed, pd⟩ := H3.out.2.1.d.look (k := 3) (fun _ => rfl) (by rw [← H.out.2.2.2.1]; exact hlt)
      obtain ⟨ev, pv⟩ := H3.out.2.1.v.look (k := 2) (fun _ => rfl) (by rw [← H.out.2.2.2.1]; exact hlt)
      obtain ⟨et, pt⟩ := H3.out.2.1.t.look (k := 2) (fun _ => rfl) (by rw [← H.out.2.2.2.1]; exact hlt)
      obtain ⟨ed2, pd2⟩ := H3.out.1.d.look (k := 3) (fun _ => rfl) (by rw [← H.out.2.2.2.1]; exact hlt)
      obtain ⟨ev2, pv2⟩ := H3.out.1.v.look (k := 2) (fun _ => rfl) (by rw [← H.out.2.2.2.1]; exact hlt)
      obtain ⟨et2, pt2⟩ := H3.out.1.t.look (k := 2) (fun _ => rfl) (by rw [← H.out.2.2.2.1]; exact hlt)
      have q0 : w3.cell? ⟨G.d, j * 3, none⟩ = some (.string ⟨#[109]⟩) := pd 0 (by omega)
      have q1 : w3.cell? ⟨G.d, j * 3 + 1, none⟩ = some (.int .i64 (n : Int)) := pd 1 (by omega)
      have q2 : w3.cell? ⟨G.d, j * 3 + 2, none⟩ = some (.int .i64 ((1 + j : Nat) : Int)) := pd 2 (by omega)
      have q3 : w3.cell? ⟨G2.d, j * 3, none⟩ = some (.string ⟨#[109]⟩) := pd2 0 (by omega)
      have q4 : w3.cell? ⟨G2.d, j * 3 + 1, none⟩ = some (.int .i64 (n : Int)) := pd2 1 (by omega)
      have q5 : w3.cell? ⟨G2.d, j * 3 + 2, none⟩ = some (.int .i64 ((1 + j : Nat) : Int)) := pd2 2 (by omega)
      have r0 : w3.cell? ⟨G.v, j * 2, none⟩ = some (.string ⟨#[97 + UInt8.ofNat j]⟩) := pv 0 (by omega)
      have r1 : w3.cell? ⟨G.v, j * 2 + 1, none⟩ = some (.pointer (some ⟨G.P j, 0, none⟩)) := pv 1 (by omega)
      have r2 : w3.cell? ⟨G2.v, j * 2, none⟩ = some (.string ⟨#[97 + UInt8.ofNat j]⟩) := pv2 0 (by omega)
      have r3 : w3.cell? ⟨G2.v, j * 2 + 1, none⟩ = some (.pointer (some ⟨G2.P j, 0, none⟩)) := pv2 1 (by omega)
      have s0 : w3.cell? ⟨G.t, j * 2, none⟩ = some (.string ⟨#[84]⟩) := pt 0 (by omega)
      have u0 : w3.cell? ⟨G.P j, 0, none⟩ = some (.int .i64 ((1 + n % 5 : Nat) : Int)) := (H3.out.2.1.tp j (by rw [← H.out.2.2.2.1]; exact hlt)).cell 0
      have u1 : w3.cell? ⟨G2.P j, 0, none⟩ = some (.int .i64 ((1 + n % 5 : Nat) : Int)) := (H3.out.1.tp j (by rw [← H.out.2.2.2.1]; exact hlt)).cell 0
      clear pd pv pt pd2 pv2 pt2
      dsimp only at ed ev et ed2 ev2 et2
      subst ed ev et ed2 ev2 et2
      generalize G.d = gd at *
      generalize G.v = gv at *
      generalize G.t = gt at *
      generalize G.P j = gp at *
      generalize G2.d = hd at *
      generalize G2.v = hv at *
      generalize G2.t = ht at *
      generalize G2.P j = hp at *
      generalize (97 + UInt8.ofNat j) = lt at *
      generalize ((1 + n % 5 : Nat) : Int) = kd at *
      generalize ((1 + j : Nat) : Int) = j1 at *
      go_wp2
      go_quiet (fail)
      go_wp2
      go_roundg (k - (j + 1))
      case measure => omega
      case rel => exact ⟨j + 1, _, by omega, rfl, by go_num, rfl⟩
    · obtain rfl : j = k := by omega
      have hI : ¬ ((j : Int) < (j : Int)) := by omega
      have y := H3.out.2.2.1
      go_wp2
      go_ret
      exact ⟨rfl, by_drewN y q⟩
end Go.Proofs.Ytndmnnapjhjkmaa
