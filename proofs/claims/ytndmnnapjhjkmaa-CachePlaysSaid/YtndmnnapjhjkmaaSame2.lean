/-
  The document's 'are two results alike': of one number, or both none.
-/
import Derived.Test.YtndmnnapjhjkmaaSame
namespace Go.Proofs.Ytndmnnapjhjkmaa
open Go.RowKit iStrRes

/-- two results that read alike -/
structure Twin (w : World) (a b : RV) : Prop where
  d : ∃ n k g h, k ≤ 1000 ∧ Sl w 50 a.d k (rows (dcell n) k) g ∧ Sl w 50 b.d k (rows (dcell n) k) h
  v : ∃ (k g h kind : Nat) (nm : Nat → ByteArray) (P Q : Nat → Nat) (f1 f2 : Nat → List Value), k ≤ 1000 ∧ (∀ i, f1 i = [.string (nm i), .pointer (some ⟨P i, 0, none⟩)]) ∧ (∀ i, f2 i = [.string (nm i), .pointer (some ⟨Q i, 0, none⟩)]) ∧
    Sl w 53 a.vs k (rows f1 k) g ∧ Sl w 53 b.vs k (rows f2 k) h ∧ (∀ i, i < k → Blk w (P i) 64 (tyCells kind)) ∧ (∀ i, i < k → Blk w (Q i) 64 (tyCells kind))
  t : ∃ (k g h kind : Nat) (nm : Nat → ByteArray) (P Q : Nat → Nat) (f1 f2 : Nat → List Value), k ≤ 1000 ∧ (∀ i, f1 i = [.string (nm i), .pointer (some ⟨P i, 0, none⟩)]) ∧ (∀ i, f2 i = [.string (nm i), .pointer (some ⟨Q i, 0, none⟩)]) ∧
    Sl w 53 a.ts k (rows f1 k) g ∧ Sl w 53 b.ts k (rows f2 k) h ∧ (∀ i, i < k → Blk w (P i) 64 (tyCells kind)) ∧ (∀ i, i < k → Blk w (Q i) 64 (tyCells kind))
  ep : a.p = b.p
  eb : a.b = b.b
  ec : a.c = b.c
theorem Twin.grown {w w' : World} {a b : RV} (h : Twin w a b) (y : w.grownBy w' none) : Twin w' a b where
  d := by obtain ⟨n, k, g, h', hk, h1, h2⟩ := h.d; exact ⟨n, k, g, h', hk, h1.grown y, h2.grown y⟩
  v := by
    obtain ⟨k, g, h', kind, nm, P, Q, f1, f2, hk, e1, e2, h1, h2, h3, h4⟩ := h.v
    exact ⟨k, g, h', kind, nm, P, Q, f1, f2, hk, e1, e2, h1.grown y, h2.grown y, fun i hi => (h3 i hi).grown y (by simp), fun i hi => (h4 i hi).grown y (by simp)⟩
  t := by
    obtain ⟨k, g, h', kind, nm, P, Q, f1, f2, hk, e1, e2, h1, h2, h3, h4⟩ := h.t
    exact ⟨k, g, h', kind, nm, P, Q, f1, f2, hk, e1, e2, h1.grown y, h2.grown y, fun i hi => (h3 i hi).grown y (by simp), fun i hi => (h4 i hi).grown y (by simp)⟩
  ep := h.ep
  eb := h.eb
  ec := h.ec
theorem Val.twin {w : World} {a b : RV} {n : Nat} {G H : VG} (h : Val w a n G) (h2 : Val w b n H) : Twin w a b where
  d := ⟨n, n % 4, G.d, H.d, by have := Nat.mod_lt n (y := 4) (by omega); omega, h.d, h2.d⟩
  v := ⟨n % 4, G.v, H.v, 1 + n % 5, fun i => ⟨#[97 + UInt8.ofNat i]⟩, G.P, H.P, vcell G.P, vcell H.P, by have := Nat.mod_lt n (y := 4) (by omega); omega, fun _ => rfl, fun _ => rfl, h.v, h2.v, h.tp, h2.tp⟩
  t := ⟨n % 4, G.t, H.t, 2, fun _ => ⟨#[84]⟩, G.Q, H.Q, tcell G.Q, tcell H.Q, by have := Nat.mod_lt n (y := 4) (by omega); omega, fun _ => rfl, fun _ => rfl, h.t, h2.t, h.tq, h2.tq⟩
  ep := h.p.trans h2.p.symm
  eb := h.b.trans h2.b.symm
  ec := h.c.trans h2.c.symm
def RV0 : RV := ⟨(none, 0, 0), ⟨#[]⟩, false, (none, 0, 0), (none, 0, 0), 0⟩
theorem Sl.zero (w : World) (t : TypeId) (f : Nat → List Value) : Sl w t (none, 0, 0) 0 (rows f 0) 0 := ⟨rfl, Nat.le_refl _, fun _ => ⟨rfl, rfl⟩, fun h => absurd h (by omega)⟩
theorem twin_zero (w : World) : Twin w RV0 RV0 where
  d := ⟨0, 0, 0, 0, by omega, Sl.zero _ _ _, Sl.zero _ _ _⟩
  v := ⟨0, 0, 0, 0, fun _ => ⟨#[]⟩, id, id, fun i => [.string ⟨#[]⟩, .pointer (some ⟨i, 0, none⟩)], fun i => [.string ⟨#[]⟩, .pointer (some ⟨i, 0, none⟩)], by omega, fun _ => rfl, fun _ => rfl, Sl.zero _ _ _, Sl.zero _ _ _, fun i hi => absurd hi (by omega), fun i hi => absurd hi (by omega)⟩
  t := ⟨0, 0, 0, 0, fun _ => ⟨#[]⟩, id, id, fun i => [.string ⟨#[]⟩, .pointer (some ⟨i, 0, none⟩)], fun i => [.string ⟨#[]⟩, .pointer (some ⟨i, 0, none⟩)], by omega, fun _ => rfl, fun _ => rfl, Sl.zero _ _ _, Sl.zero _ _ _, fun i hi => absurd hi (by omega), fun i hi => absurd hi (by omega)⟩
  ep := rfl
  eb := rfl
  ec := rfl
theorem Twin.diags {w : World} {a b : RV} (h : Twin w a b) : Calls Try.prog 30 #[.slice a.d.1 a.d.2.1 a.d.2.2, .slice b.d.1 b.d.2.1 b.d.2.2] w fun e w' => e = .returned (.bool true) ∧ ∃ n, w' = w.drewN n := by
  obtain ⟨n, k, g, h', hk, h1, h2⟩ := h.d
  exact diags_any w a.d b.d n k g h' hk h1 h2
theorem Twin.vals {w : World} {a b : RV} (h : Twin w a b) : Calls Try.prog 31 #[.slice a.vs.1 a.vs.2.1 a.vs.2.2, .slice b.vs.1 b.vs.2.1 b.vs.2.2] w fun e w' => e = .returned (.bool true) ∧ ∃ n, w' = w.drewN n := by
  obtain ⟨k, g, h', kind, nm, P, Q, f1, f2, hk, e1, e2, h1, h2, h3, h4⟩ := h.v
  exact exports_any w a.vs b.vs k g h' kind nm P Q f1 f2 hk e1 e2 h1 h2 h3 h4
theorem Twin.types {w : World} {a b : RV} (h : Twin w a b) : Calls Try.prog 31 #[.slice a.ts.1 a.ts.2.1 a.ts.2.2, .slice b.ts.1 b.ts.2.1 b.ts.2.2] w fun e w' => e = .returned (.bool true) ∧ ∃ n, w' = w.drewN n := by
  obtain ⟨k, g, h', kind, nm, P, Q, f1, f2, hk, e1, e2, h1, h2, h3, h4⟩ := h.t
  exact exports_any w a.ts b.ts k g h' kind nm P Q f1 f2 hk e1 e2 h1 h2 h3 h4

set_option maxRecDepth 100000 in
set_option maxHeartbeats 1000000 in
theorem same18_any (w : World) (a b : RV) (h : Twin w a b) :
    Calls Try.prog 23 #[.agg #[.slice a.d.1 a.d.2.1 a.d.2.2, .string a.p, .bool a.b, .slice a.vs.1 a.vs.2.1 a.vs.2.2, .slice a.ts.1 a.ts.2.1 a.ts.2.2, .int .u64 a.c], .agg #[.slice b.d.1 b.d.2.1 b.d.2.2, .string b.p, .bool b.b, .slice b.vs.1 b.vs.2.1 b.vs.2.2, .slice b.ts.1 b.ts.2.1 b.ts.2.2, .int .u64 b.c]] w
      fun e w' => e = .returned (.bool true) ∧ w.grownBy w' none := by
  obtain ⟨⟨d1, d2, d3⟩, p, bb, ⟨v1, v2, v3⟩, ⟨t1, t2, t3⟩, c⟩ := a
  obtain ⟨⟨e1, e2, e3⟩, p', bb', ⟨f1, f2, f3⟩, ⟨g1, g2, g3⟩, c'⟩ := b
  obtain rfl : p = p' := h.ep
  obtain rfl : bb = bb' := h.eb
  obtain rfl : c = c' := h.ec
  obtain ⟨wa, hwa⟩ : ∃ wa, wa = (w.alloc (.cells #[.slice d1 d2 d3, .string p, .bool bb, .slice v1 v2 v3, .slice t1 t2 t3, .int .u64 c] 38)).alloc (.cells #[.slice e1 e2 e3, .string p, .bool bb, .slice f1 f2 f3, .slice g1 g2 g3, .int .u64 c] 38) := ⟨_, rfl⟩
  have ya : w.grownBy wa none := by rw [hwa]; exact by_alloc (by_alloc (by_refl _ _) _) _
  have hx : Blk wa w.heap.size 38 #[.slice d1 d2 d3, .string p, .bool bb, .slice v1 v2 v3, .slice t1 t2 t3, .int .u64 c] := by rw [hwa]; exact (Blk.new _ _ _).alloc _
  have hy : Blk wa (w.heap.size + 1) 38 #[.slice e1 e2 e3, .string p, .bool bb, .slice f1 f2 f3, .slice g1 g2 g3, .int .u64 c] := by
    rw [hwa]
    have := Blk.new (w.alloc (.cells #[.slice d1 d2 d3, .string p, .bool bb, .slice v1 v2 v3, .slice t1 t2 t3, .int .u64 c] 38)) 38 #[.slice e1 e2 e3, .string p, .bool bb, .slice f1 f2 f3, .slice g1 g2 g3, .int .u64 c]
    rw [World.size_alloc] at this
    exact this
  have H := Lib.hid (And.intro (h.grown ya) (And.intro ya (And.intro hx hy)))
  have Hwa := Lib.hid hwa
  have z2 : (p.toList == p.toList) = true := by simp
  clear h ya hx hy hwa
  go_enter Try.func23, Try.ntmps23
  go_wp2_with fail
  rw [← Hwa.out]
  refine H.out.1.diags.mono ?_
  rintro e w1 ⟨rfl, n1, hw1⟩
  have y1 : wa.grownBy w1 none := by rw [hw1]; exact by_drewN (by_refl _ _) _
  have x1 := (H.out.2.2.1.grown y1 (by simp)).cell 1
  have x2 := (H.out.2.2.1.grown y1 (by simp)).cell 2
  have x3 := (H.out.2.2.1.grown y1 (by simp)).cell 3
  have u1 := (H.out.2.2.2.grown y1 (by simp)).cell 1
  have u2 := (H.out.2.2.2.grown y1 (by simp)).cell 2
  have u3 := (H.out.2.2.2.grown y1 (by simp)).cell 3
  simp only [List.getElem?_toArray, List.getElem?_cons_zero, List.getElem?_cons_succ] at x1 x2 x3 u1 u2 u3
  have H1 := Lib.hid (And.intro (H.out.1.grown y1) (And.intro (by_trans H.out.2.1 y1 (by simp)) (And.intro (H.out.2.2.1.grown y1 (by simp)) (H.out.2.2.2.grown y1 (by simp)))))
  clear hw1 y1
  go_wp2_with fail
  refine H1.out.1.vals.mono ?_
  rintro e w2 ⟨rfl, n2, hw2⟩
  have y2 : w1.grownBy w2 none := by rw [hw2]; exact by_drewN (by_refl _ _) _
  have x4 := (H1.out.2.2.1.grown y2 (by simp)).cell 4
  have u4 := (H1.out.2.2.2.grown y2 (by simp)).cell 4
  simp only [List.getElem?_toArray, List.getElem?_cons_zero, List.getElem?_cons_succ] at x4 u4
  have H2 := Lib.hid (And.intro (H1.out.1.grown y2) (by_trans H1.out.2.1 y2 (by simp)))
  clear hw2 y2
  go_wp2_with fail
  refine H2.out.1.types.mono ?_
  rintro e w3 ⟨rfl, n3, hw3⟩
  have y3 : w.grownBy w3 none := by rw [hw3]; exact by_drewN H2.out.2 _
  have H3 := Lib.hid y3
  clear hw3 y3
  go_wp2
  go_ret
  exact ⟨rfl, H3.out⟩

set_option maxHeartbeats 1000000 in
theorem same24_any (w : World) (a b : RV) (h : Twin w a b) :
    Calls Try.prog 13 #[.agg #[.slice a.d.1 a.d.2.1 a.d.2.2, .string a.p, .bool a.b, .slice a.vs.1 a.vs.2.1 a.vs.2.2, .slice a.ts.1 a.ts.2.1 a.ts.2.2, .int .u64 a.c], .agg #[.slice b.d.1 b.d.2.1 b.d.2.2, .string b.p, .bool b.b, .slice b.vs.1 b.vs.2.1 b.vs.2.2, .slice b.ts.1 b.ts.2.1 b.ts.2.2, .int .u64 b.c]] w
      fun e w' => e = .returned (.bool true) ∧ w.grownBy w' none := by
  have H := Lib.hid h
  clear h
  go_enter Try.func13, Try.ntmps13
  go_wp2_with fail
  refine (same18_any _ a b (H.out.grown (by_alloc (by_alloc (by_refl _ _) _) _))).mono ?_
  rintro e w3 ⟨rfl, y3⟩
  have H3 := Lib.hid (by_trans (by_alloc (by_alloc (by_refl w none) _) _) y3 (by simp))
  clear y3
  go_wp2
  go_ret
  exact ⟨rfl, H3.out⟩
end Go.Proofs.Ytndmnnapjhjkmaa
