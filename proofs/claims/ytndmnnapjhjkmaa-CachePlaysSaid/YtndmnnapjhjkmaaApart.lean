/-
  cache.apart: a result whose lists are its own.
-/
import Derived.Test.YtndmnnapjhjkmaaVal
import Derived.Deep.RegionHeld3
namespace Go.Proofs.Ytndmnnapjhjkmaa
open Go.RowKit iStrRes

def ApartQ (w : World) (n : Nat) (G : VG) (e : Ending) (w' : World) : Prop :=
  ∃ (rv : RV) (H : VG), e = .returned (.agg #[.slice rv.d.1 rv.d.2.1 rv.d.2.2, .string rv.p, .bool rv.b, .slice rv.vs.1 rv.vs.2.1 rv.vs.2.2, .slice rv.ts.1 rv.ts.2.1 rv.ts.2.2, .int .u64 rv.c])
    ∧ Val w' rv n H ∧ w.grownBy w' none ∧ H.P = G.P ∧ H.Q = G.Q ∧ w.heap.size ≤ H.d ∧ w.heap.size ≤ H.v ∧ w.heap.size ≤ H.t

/-- while apart's variable r1 is what it is, and only what is new has turned -/
structure AW (w : World) (r1 r2 : Nat) (cs : Array Value) (w' : World) : Prop where
  by_ : w.grownBy w' none
  b1 : Blk w' r1 38 cs
  b2 : Blk w' r2 38 #[.slice none 0 0, .string ⟨#[]⟩, .bool false, .slice none 0 0, .slice none 0 0, .int .u64 0]
theorem AW.grown {w w1 w2 : World} {r1 r2 : Nat} {cs : Array Value} (h : AW w r1 r2 cs w1) (y : w1.grownBy w2 none) : AW w r1 r2 cs w2 :=
  ⟨by_trans h.by_ y (by simp), h.b1.grown y (by simp), h.b2.grown y (by simp)⟩
theorem AW.drew {w w1 : World} {r1 r2 : Nat} {cs : Array Value} (h : AW w r1 r2 cs w1) : AW w r1 r2 cs w1.drew := ⟨by_drew h.by_, h.b1.drew, h.b2.drew⟩
theorem AW.set_ {w w1 : World} {r1 r2 : Nat} {cs : Array Value} (h : AW w r1 r2 cs w1) (hn : r1 ≠ r2) (h1 : w.heap.size ≤ r1) (i : Nat) (u : Value) : AW w r1 r2 (cs.setIfInBounds i u) (w1.setCell ⟨r1, i, none⟩ u) :=
  ⟨by_set h.by_ (.inr h1) _, h.b1.set_ i u, h.b2.far (p := ⟨r1, i, none⟩) (Ne.symm hn) u⟩
theorem Sl.grown {w w' : World} {t : TypeId} {v : Option Addr × Nat × Nat} {n : Nat} {cs : List Value} {g : Nat} (h : Sl w t v n cs g) (y : w.grownBy w' none) : Sl w' t v n cs g :=
  h.chg (Chg.of_none (S := fun _ => False) y) fun _ h => h

section
variable {w w' : World} {rv : RV} {n : Nat} {G : VG}
theorem Val.srcD (h : Val w rv n G) (y : w.grownBy w' none) : Src w' rv.d.1 rv.d.2.1 3 (rows (dcell n) (n % 4)) :=
  (h.d.grown y).src (rows_len (k := 3) (fun _ => rfl) _) (rows_one (dcell_one n) _) (by have := Nat.mod_lt n (y := 4) (by omega); omega)
theorem Val.srcV (h : Val w rv n G) (y : w.grownBy w' none) : Src w' rv.vs.1 rv.vs.2.1 2 (rows (vcell G.P) (n % 4)) :=
  (h.v.grown y).src (rows_len (k := 2) (fun _ => rfl) _) (rows_one (vcell_one G.P) _) (by have := Nat.mod_lt n (y := 4) (by omega); omega)
theorem Val.srcT (h : Val w rv n G) (y : w.grownBy w' none) : Src w' rv.ts.1 rv.ts.2.1 2 (rows (tcell G.Q) (n % 4)) :=
  (h.t.grown y).src (rows_len (k := 2) (fun _ => rfl) _) (rows_one (tcell_one G.Q) _) (by have := Nat.mod_lt n (y := 4) (by omega); omega)
end

theorem fin_apart {w w6 : World} {rv : RV} {n k r1 r2 gd gv gt : Nat} {G : VG} {cs : Array Value} (h : Val w rv n G) (_hr : w.heap.size ≤ r1) (hk : n % 4 = k) (hA : AW w r1 r2 cs w6)
    (bD : Blk w6 gd 50 (rows (dcell n) (n % 4)).toArray) (bV : Blk w6 gv 53 (rows (vcell G.P) (n % 4)).toArray) (bT : Blk w6 gt 53 (rows (tcell G.Q) (n % 4)).toArray)
    (hd : w.heap.size ≤ gd) (hvt : gv < gt) (hv : w.heap.size ≤ gv) (h2 : w.heap.size ≤ r2) (w7 : World) (hC : Chg w6 w7 (fun b => b = r2)) :
    ApartQ w n G (.returned (.agg #[.slice (some ⟨gd, 0, none⟩) k k, .string rv.p, .bool rv.b, .slice (some ⟨gv, 0, none⟩) k k, .slice (some ⟨gt, 0, none⟩) k k, .int .u64 rv.c])) w7 := by
  subst hk
  have y : w.grownBy w7 none := ((Chg.of_none (S := fun b => b = r2) hA.by_).trans hC (fun _ h => .inl h)).none_ (fun k hk => by rw [hk]; exact h2)
  have h7 := h.grown y
  have bD7 := bD.chg hC (bD.ne_ hA.b2 (by decide))
  have bV7 := bV.chg hC (bV.ne_ hA.b2 (by decide))
  have bT7 := bT.chg hC (bT.ne_ hA.b2 (by decide))
  exact ⟨⟨(some ⟨gd, 0, none⟩, n % 4, n % 4), rv.p, rv.b, (some ⟨gv, 0, none⟩, n % 4, n % 4), (some ⟨gt, 0, none⟩, n % 4, n % 4), rv.c⟩, ⟨gd, gv, gt, G.P, G.Q⟩, rfl,
    { d := Sl.of_blk bD7, v := Sl.of_blk bV7, t := Sl.of_blk bT7, tp := h7.tp, tq := h7.tq, ne := fun _ => ⟨bD7.ne_ bV7 (by decide), bD7.ne_ bT7 (by decide), by show gv ≠ gt; omega⟩, p := h7.p, b := h7.b, c := h7.c },
    y, rfl, rfl, hd, hv, by show w.heap.size ≤ gt; omega⟩

set_option maxRecDepth 100000 in
set_option maxHeartbeats 1000000 in
theorem apart_any (w : World) (rv : RV) (n : Nat) (G : VG) (h : Val w rv n G) :
    Calls Try.prog 19 #[.agg #[.slice rv.d.1 rv.d.2.1 rv.d.2.2, .string rv.p, .bool rv.b, .slice rv.vs.1 rv.vs.2.1 rv.vs.2.2, .slice rv.ts.1 rv.ts.2.1 rv.ts.2.2, .int .u64 rv.c]] w (ApartQ w n G) := by
  obtain ⟨⟨d1, d2, d3⟩, p, b, ⟨v1, v2, v3⟩, ⟨t1, t2, t3⟩, c⟩ := rv
  have hD2 : d2 = n % 4 := h.d.n_
  have hV2 : v2 = n % 4 := h.v.n_
  have hT2 : t2 = n % 4 := h.t.n_
  have hk : n % 4 < 4 := Nat.mod_lt _ (by omega)
  subst hD2 hV2 hT2
  generalize hkk : n % 4 = k at *
  have hdn : d1 = none → k = 0 ∧ d3 = 0 := fun e => hkk ▸ h.d.nil e
  have hvn : v1 = none → k = 0 ∧ v3 = 0 := fun e => hkk ▸ h.v.nil e
  have htn : t1 = none → k = 0 ∧ t3 = 0 := fun e => hkk ▸ h.t.nil e
  obtain ⟨w1, hw1⟩ : ∃ w1, w1 = (w.alloc (.cells #[.slice d1 k d3, .string p, .bool b, .slice v1 k v3, .slice t1 k t3, .int .u64 c] 38)).alloc (.cells #[.slice none 0 0, .string ⟨#[]⟩, .bool false, .slice none 0 0, .slice none 0 0, .int .u64 0] 38) := ⟨_, rfl⟩
  have hA : AW w w.heap.size (w.heap.size + 1) #[.slice d1 k d3, .string p, .bool b, .slice v1 k v3, .slice t1 k t3, .int .u64 c] w1 := by
    rw [hw1]
    refine ⟨by_alloc (by_alloc (by_refl _ _) _) _, (Blk.new w _ _).alloc _, ?_⟩
    have := Blk.new (w.alloc (.cells #[.slice d1 k d3, .string p, .bool b, .slice v1 k v3, .slice t1 k t3, .int .u64 c] 38)) 38 #[.slice none 0 0, .string ⟨#[]⟩, .bool false, .slice none 0 0, .slice none 0 0, .int .u64 0]
    simpa using this
  have H := Lib.hid h
  have HW := Lib.hid hw1
  have HA := Lib.hid hA
  have Hn := Lib.hid (And.intro hdn (And.intro hvn htn))
  have HK := Lib.hid hkk
  have hr : w.heap.size ≠ w.heap.size + 1 := by omega
  have Hr := Lib.hid hr
  obtain ⟨r1, hr1⟩ : ∃ r1, w.heap.size = r1 := ⟨_, rfl⟩
  have Hr1 := Lib.hid hr1
  have c0 : w1.cell? ⟨r1, 0, none⟩ = some (.slice d1 k d3) := hr1 ▸ hA.b1.cell 0
  clear h hw1 hA hdn hvn htn hkk hr
  clear hr1
  go_enter Try.func19, Try.ntmps19
  go_wp2_with fail
  rw [← HW.out]
  refine (ownDiag_any w1 d1 k d3 _ (H.out.srcD HA.out.by_) Hn.out.1).mono ?_
  rintro e w2 ⟨gd, rfl, hgd, bD, y2⟩
  rw [Hr1.out]
  have hA2 := HA.out.grown y2
  rw [Hr1.out] at hA2
  have c0 : w2.cell? ⟨r1, 0, none⟩ = some (.slice d1 k d3) := hA2.b1.cell 0
  have z0 : w2.frozen? ⟨r1, 0, none⟩ = false := hA2.b1.frozen 0
  have hA3 := hA2.set_ (by omega) (Nat.le_of_eq Hr1.out) 0 (.slice (some ⟨gd, 0, none⟩) k k)
  have bD3 := bD.far (p := ⟨r1, 0, none⟩) (u := .slice (some ⟨gd, 0, none⟩) k k) (bD.ne_ hA2.b1 (by decide))
  have HD := Lib.hid (And.intro hgd bD3)
  have HA3 := Lib.hid hA3
  clear hgd bD hA2 hA3 bD3 y2
  go_wp2_with fail
  refine wp_region_noPanic ?_
  refine wp_region_held_drew (S := fun _ => True) (by kernel_rfl) (trivial) (fun hHeld => ?_)
  have hA := HA3.out.drew
  refine wpAnyH_take (i := 0) (oi := _) (v := _) rfl (by kernel_rfl) (by kernel_rfl) (by kernel_rfl) (fun _ _ _ h => h) (Or.inl ⟨by rfl, fun _ _ => by go_simp; try rfl⟩) hHeld ?_
  try simp only [Act.put, List.getElem_toArray, List.getElem_cons_zero, List.getElem_cons_succ, List.setIfInBounds_toArray, List.set_cons_zero, List.set_cons_succ]
  refine wpAnyH_take (i := 1) (oi := _) (v := _) rfl (by kernel_rfl) (by kernel_rfl) (by kernel_rfl) (fun _ _ _ h => h) (Or.inl ⟨by rfl, fun _ _ => by go_simp; try rfl⟩) hHeld ?_
  try simp only [Act.put, List.getElem_toArray, List.getElem_cons_zero, List.getElem_cons_succ, List.setIfInBounds_toArray, List.set_cons_zero, List.set_cons_succ]
  refine wpAnyH_take (i := 4) (oi := _) (v := _) rfl (by kernel_rfl) (by kernel_rfl) (by kernel_rfl) (fun _ _ _ h => h) (Or.inl ⟨by rfl, fun _ _ => by go_simp; try rfl⟩) hHeld ?_
  try simp only [Act.put, List.getElem_toArray, List.getElem_cons_zero, List.getElem_cons_succ, List.setIfInBounds_toArray, List.set_cons_zero, List.set_cons_succ]
  refine wpAnyH_take (i := 5) (oi := _) (v := _) rfl (by kernel_rfl) (by kernel_rfl) (by kernel_rfl) (fun _ _ _ h => h) (Or.inl ⟨by rfl, fun _ _ => by go_simp; try rfl⟩) hHeld ?_
  try simp only [Act.put, List.getElem_toArray, List.getElem_cons_zero, List.getElem_cons_succ, List.setIfInBounds_toArray, List.set_cons_zero, List.set_cons_succ]
  have c3 := hA.b1.cell 3
  have c4 := hA.b1.cell 4
  have hbv := hA.by_
  refine wpAnyH_ready (rs := [2, 6]) (by kernel_rfl) (by simp) ?_
  refine AllReadyH.cons (o := _) rfl (fun K hK => ?_) (AllReadyH.cons (o := _) rfl (fun K hK => ?_) AllReadyH.nil)
  · go_simp
    refine hK.out _ _ trivial (fun hHeld => ?_)
    clear hK K
    try simp only [Act.put, List.getElem_toArray, List.getElem_cons_zero, List.getElem_cons_succ, List.setIfInBounds_toArray, List.set_cons_zero, List.set_cons_succ]
    refine wpAnyH_ready (rs := [3, 6]) (by kernel_rfl) (by simp) ?_
    refine AllReadyH.cons (o := _) rfl (fun K hK => ?_) (AllReadyH.cons (o := _) rfl (fun K hK => ?_) AllReadyH.nil)
    · go_simp
      refine (ownExport_any _ v1 k v3 _ (H.out.srcV hA.by_) Hn.out.2.1).mono ?_
      rintro e w4 ⟨gv, rfl, hgv, bV, y4⟩
      dsimp only
      refine hK.out _ _ trivial (fun hHeld => ?_)
      clear hK K
      try simp only [Act.put, List.getElem_toArray, List.getElem_cons_zero, List.getElem_cons_succ, List.setIfInBounds_toArray, List.set_cons_zero, List.set_cons_succ]
      have HVy := Lib.hid y4
      have HBv := Lib.hid (Nat.le_trans hA.by_.size hgv)
      have hA := hA.grown y4
      have HV := Lib.hid (And.intro hgv bV)
      clear hgv bV y4
      have c4 := hA.b1.cell 4
      refine wpAnyH_ready (rs := [6]) (by kernel_rfl) (by simp) ?_
      refine AllReadyH.cons (o := _) rfl (fun K hK => ?_) AllReadyH.nil
      go_simp
      refine hK.out _ _ trivial (fun hHeld => ?_)
      clear hK K
      try simp only [Act.put, List.getElem_toArray, List.getElem_cons_zero, List.getElem_cons_succ, List.setIfInBounds_toArray, List.set_cons_zero, List.set_cons_succ]
      clear c4
      refine wpAnyH_take (i := 8) (oi := _) (v := _) rfl (by kernel_rfl) (by kernel_rfl) (by kernel_rfl) (fun _ _ _ h => h) (Or.inl ⟨by rfl, fun _ _ => by go_simp; try rfl⟩) hHeld ?_
      try simp only [Act.put, List.getElem_toArray, List.getElem_cons_zero, List.getElem_cons_succ, List.setIfInBounds_toArray, List.set_cons_zero, List.set_cons_succ]
      refine wpAnyH_take (i := 9) (oi := _) (v := _) rfl (by kernel_rfl) (by kernel_rfl) (by kernel_rfl) (fun _ _ _ h => h) (Or.inl ⟨by rfl, fun _ _ => by go_simp; try rfl⟩) hHeld ?_
      try simp only [Act.put, List.getElem_toArray, List.getElem_cons_zero, List.getElem_cons_succ, List.setIfInBounds_toArray, List.set_cons_zero, List.set_cons_succ]
      refine wpAnyH_ready (rs := [7]) (by kernel_rfl) (by simp) ?_
      refine AllReadyH.cons (o := _) rfl (fun K hK => ?_) AllReadyH.nil
      go_simp
      refine (ownExport_any _ t1 k t3 _ (H.out.srcT hA.by_) Hn.out.2.2).mono ?_
      rintro e w5 ⟨gt, rfl, hgt, bT, y5⟩
      dsimp only
      refine hK.out _ _ trivial (fun hHeld => ?_)
      clear hK K
      try simp only [Act.put, List.getElem_toArray, List.getElem_cons_zero, List.getElem_cons_succ, List.setIfInBounds_toArray, List.set_cons_zero, List.set_cons_succ]
      have hA := hA.grown y5
      have bD := (HD.out.2.drew.grown HVy.out (by simp)).grown y5 (by simp)
      have bV := HV.out.2.grown y5 (by simp)
      have hvt : gv < gt := Nat.lt_of_lt_of_le HV.out.2.lt hgt
      have z0 := hA.b1.frozen 3
      have z1 := hA.b1.frozen 4
      have c3 := hA.b1.cell 3
      have c4 := hA.b1.cell 4
      have hA6 := (hA.set_ (by omega) (Nat.le_of_eq Hr1.out) 3 (.slice (some ⟨gv, 0, none⟩) k k)).set_ (by omega) (Nat.le_of_eq Hr1.out) 4 (.slice (some ⟨gt, 0, none⟩) k k)
      have bD6 := (bD.far (p := ⟨r1, 3, none⟩) (u := .slice (some ⟨gv, 0, none⟩) k k) (bD.ne_ hA.b1 (by decide))).far (p := ⟨r1, 4, none⟩) (u := .slice (some ⟨gt, 0, none⟩) k k) (bD.ne_ hA.b1 (by decide))
      have bV6 := (bV.far (p := ⟨r1, 3, none⟩) (u := .slice (some ⟨gv, 0, none⟩) k k) (bV.ne_ hA.b1 (by decide))).far (p := ⟨r1, 4, none⟩) (u := .slice (some ⟨gt, 0, none⟩) k k) (bV.ne_ hA.b1 (by decide))
      have bT6 := (bT.far (p := ⟨r1, 3, none⟩) (u := .slice (some ⟨gv, 0, none⟩) k k) (bT.ne_ hA.b1 (by decide))).far (p := ⟨r1, 4, none⟩) (u := .slice (some ⟨gt, 0, none⟩) k k) (bT.ne_ hA.b1 (by decide))
      have hlast := fin_apart H.out (Nat.le_of_eq Hr1.out) HK.out hA6 bD6 bV6 bT6 (Nat.le_trans HA.out.by_.size HD.out.1) hvt (HBv.out) (by have := Hr1.out; omega)
      have HL := Lib.hid hlast
      have HA6 := Lib.hid hA6
      clear hlast hA6 bD6 bV6 bT6 bD bV bT hA hvt hgt y5
      refine wpAnyH_ready (rs := [10]) (by kernel_rfl) (by simp) ?_
      refine AllReadyH.cons (o := _) rfl (fun K hK => ?_) AllReadyH.nil
      rw [if_pos (by rfl)]
      go_simp
      refine hK.out _ _ trivial (fun hHeld => ?_)
      clear hK K
      try simp only [Act.put, List.getElem_toArray, List.getElem_cons_zero, List.getElem_cons_succ, List.setIfInBounds_toArray, List.set_cons_zero, List.set_cons_succ]
      refine wpAnyH_take (i := 11) (oi := _) (v := _) rfl (by kernel_rfl) (by kernel_rfl) (by kernel_rfl) (fun _ _ _ h => h) (Or.inl ⟨by rfl, fun _ _ => by go_simp; try rfl⟩) hHeld ?_
      try simp only [Act.put, List.getElem_toArray, List.getElem_cons_zero, List.getElem_cons_succ, List.setIfInBounds_toArray, List.set_cons_zero, List.set_cons_succ]
      refine wpAnyH_take (i := 12) (oi := _) (v := _) rfl (by kernel_rfl) (by kernel_rfl) (by kernel_rfl) (fun _ _ _ h => h) (Or.inl ⟨by rfl, fun _ _ => by go_simp; try rfl⟩) hHeld ?_
      try simp only [Act.put, List.getElem_toArray, List.getElem_cons_zero, List.getElem_cons_succ, List.setIfInBounds_toArray, List.set_cons_zero, List.set_cons_succ]
      refine wpAnyH_ready (rs := [13]) (by kernel_rfl) (by simp) ?_
      refine AllReadyH.cons (o := _) rfl (fun K hK => ?_) AllReadyH.nil
      rw [if_pos (by rfl)]
      go_simp
      refine hK.out _ _ trivial (fun hHeld => ?_)
      clear hK K
      try simp only [Act.put, List.getElem_toArray, List.getElem_cons_zero, List.getElem_cons_succ, List.setIfInBounds_toArray, List.set_cons_zero, List.set_cons_succ]
      refine wpAnyH_done (by kernel_rfl) (NoPanic.normal ?_) _
      have HA6 := Lib.hid (show AW w r1 (r1 + 1) #[.slice (some ⟨gd, 0, none⟩) k k, .string p, .bool b, .slice (some ⟨gv, 0, none⟩) k k, .slice (some ⟨gt, 0, none⟩) k k, .int .u64 c] _ from HA6.out)
      clear z0 z1 c3
      generalize (w5.setCell ⟨r1, 3, none⟩ (.slice (some ⟨gv, 0, none⟩) k k)).setCell ⟨r1, 4, none⟩ (.slice (some ⟨gt, 0, none⟩) k k) = W at *
      have a0 := HA6.out.b1.cell 0
      have a1 := HA6.out.b1.cell 1
      have a2 := HA6.out.b1.cell 2
      have a3 := HA6.out.b1.cell 3
      have a4 := HA6.out.b1.cell 4
      have a5 := HA6.out.b1.cell 5
      have b0 := HA6.out.b2.cell 0
      have b1 := HA6.out.b2.cell 1
      have b2 := HA6.out.b2.cell 2
      have b3 := HA6.out.b2.cell 3
      have b4 := HA6.out.b2.cell 4
      have b5 := HA6.out.b2.cell 5
      have z0 := HA6.out.b2.frozen 0
      have z1 := HA6.out.b2.frozen 1
      have z2 := HA6.out.b2.frozen 2
      have z3 := HA6.out.b2.frozen 3
      have z4 := HA6.out.b2.frozen 4
      have z5 := HA6.out.b2.frozen 5
      simp only [List.getElem?_toArray, List.getElem?_cons_zero, List.getElem?_cons_succ] at a0 a1 a2 a3 a4 a5 b0 b1 b2 b3 b4 b5
      have hB := (((((HA6.out.b2.set_ 0 (.slice (some ⟨gd, 0, none⟩) k k)).set_ 1 (.string p)).set_ 2 (.bool b)).set_ 3 (.slice (some ⟨gv, 0, none⟩) k k)).set_ 4 (.slice (some ⟨gt, 0, none⟩) k k)).set_ 5 (.int .u64 c)
      have HB := Lib.hid hB
      have HF := Lib.hid (HL.out _ ((((((((Chg.refl W (fun b => b = r1 + 1)).set_ (p := ⟨r1 + 1, 0, none⟩) (.inl rfl) (.slice (some ⟨gd, 0, none⟩) k k)).set_ (p := ⟨r1 + 1, 1, none⟩) (.inl rfl) (.string p)).set_ (p := ⟨r1 + 1, 2, none⟩) (.inl rfl) (.bool b)).set_ (p := ⟨r1 + 1, 3, none⟩) (.inl rfl) (.slice (some ⟨gv, 0, none⟩) k k)).set_ (p := ⟨r1 + 1, 4, none⟩) (.inl rfl) (.slice (some ⟨gt, 0, none⟩) k k)).set_ (p := ⟨r1 + 1, 5, none⟩) (.inl rfl) (.int .u64 c))))
      clear hB
      go_wp2
      (try simp only [Exit.inBlock, Exit.then])
      refine bodyPost_ret (results_cell_row rfl _ _ (r1 + 1) 38 _ (0, 0) _ rfl HB.out Try.underlying38 rfl (by kernel_rfl)) rfl ?_
      exact HF.out
    · go_simp
      refine hK.out _ _ trivial (fun hHeld => ?_)
      clear hK K
      try simp only [Act.put, List.getElem_toArray, List.getElem_cons_zero, List.getElem_cons_succ, List.setIfInBounds_toArray, List.set_cons_zero, List.set_cons_succ]
      refine wpAnyH_ready (rs := [3]) (by kernel_rfl) (by simp) ?_
      refine AllReadyH.cons (o := _) rfl (fun K hK => ?_) AllReadyH.nil
      go_simp
      refine (ownExport_any _ v1 k v3 _ (H.out.srcV hA.by_) Hn.out.2.1).mono ?_
      rintro e w4 ⟨gv, rfl, hgv, bV, y4⟩
      dsimp only
      refine hK.out _ _ trivial (fun hHeld => ?_)
      clear hK K
      try simp only [Act.put, List.getElem_toArray, List.getElem_cons_zero, List.getElem_cons_succ, List.setIfInBounds_toArray, List.set_cons_zero, List.set_cons_succ]
      have HVy := Lib.hid y4
      have HBv := Lib.hid (Nat.le_trans hA.by_.size hgv)
      have hA := hA.grown y4
      have HV := Lib.hid (And.intro hgv bV)
      clear hgv bV y4
      refine wpAnyH_take (i := 8) (oi := _) (v := _) rfl (by kernel_rfl) (by kernel_rfl) (by kernel_rfl) (fun _ _ _ h => h) (Or.inl ⟨by rfl, fun _ _ => by go_simp; try rfl⟩) hHeld ?_
      try simp only [Act.put, List.getElem_toArray, List.getElem_cons_zero, List.getElem_cons_succ, List.setIfInBounds_toArray, List.set_cons_zero, List.set_cons_succ]
      refine wpAnyH_take (i := 9) (oi := _) (v := _) rfl (by kernel_rfl) (by kernel_rfl) (by kernel_rfl) (fun _ _ _ h => h) (Or.inl ⟨by rfl, fun _ _ => by go_simp; try rfl⟩) hHeld ?_
      try simp only [Act.put, List.getElem_toArray, List.getElem_cons_zero, List.getElem_cons_succ, List.setIfInBounds_toArray, List.set_cons_zero, List.set_cons_succ]
      refine wpAnyH_ready (rs := [7]) (by kernel_rfl) (by simp) ?_
      refine AllReadyH.cons (o := _) rfl (fun K hK => ?_) AllReadyH.nil
      go_simp
      refine (ownExport_any _ t1 k t3 _ (H.out.srcT hA.by_) Hn.out.2.2).mono ?_
      rintro e w5 ⟨gt, rfl, hgt, bT, y5⟩
      dsimp only
      refine hK.out _ _ trivial (fun hHeld => ?_)
      clear hK K
      try simp only [Act.put, List.getElem_toArray, List.getElem_cons_zero, List.getElem_cons_succ, List.setIfInBounds_toArray, List.set_cons_zero, List.set_cons_succ]
      have hA := hA.grown y5
      have bD := (HD.out.2.drew.grown HVy.out (by simp)).grown y5 (by simp)
      have bV := HV.out.2.grown y5 (by simp)
      have hvt : gv < gt := Nat.lt_of_lt_of_le HV.out.2.lt hgt
      have z0 := hA.b1.frozen 3
      have z1 := hA.b1.frozen 4
      have c3 := hA.b1.cell 3
      have c4 := hA.b1.cell 4
      have hA6 := (hA.set_ (by omega) (Nat.le_of_eq Hr1.out) 3 (.slice (some ⟨gv, 0, none⟩) k k)).set_ (by omega) (Nat.le_of_eq Hr1.out) 4 (.slice (some ⟨gt, 0, none⟩) k k)
      have bD6 := (bD.far (p := ⟨r1, 3, none⟩) (u := .slice (some ⟨gv, 0, none⟩) k k) (bD.ne_ hA.b1 (by decide))).far (p := ⟨r1, 4, none⟩) (u := .slice (some ⟨gt, 0, none⟩) k k) (bD.ne_ hA.b1 (by decide))
      have bV6 := (bV.far (p := ⟨r1, 3, none⟩) (u := .slice (some ⟨gv, 0, none⟩) k k) (bV.ne_ hA.b1 (by decide))).far (p := ⟨r1, 4, none⟩) (u := .slice (some ⟨gt, 0, none⟩) k k) (bV.ne_ hA.b1 (by decide))
      have bT6 := (bT.far (p := ⟨r1, 3, none⟩) (u := .slice (some ⟨gv, 0, none⟩) k k) (bT.ne_ hA.b1 (by decide))).far (p := ⟨r1, 4, none⟩) (u := .slice (some ⟨gt, 0, none⟩) k k) (bT.ne_ hA.b1 (by decide))
      have hlast := fin_apart H.out (Nat.le_of_eq Hr1.out) HK.out hA6 bD6 bV6 bT6 (Nat.le_trans HA.out.by_.size HD.out.1) hvt (HBv.out) (by have := Hr1.out; omega)
      have HL := Lib.hid hlast
      have HA6 := Lib.hid hA6
      clear hlast hA6 bD6 bV6 bT6 bD bV bT hA hvt hgt y5
      refine wpAnyH_ready (rs := [10]) (by kernel_rfl) (by simp) ?_
      refine AllReadyH.cons (o := _) rfl (fun K hK => ?_) AllReadyH.nil
      rw [if_pos (by rfl)]
      go_simp
      refine hK.out _ _ trivial (fun hHeld => ?_)
      clear hK K
      try simp only [Act.put, List.getElem_toArray, List.getElem_cons_zero, List.getElem_cons_succ, List.setIfInBounds_toArray, List.set_cons_zero, List.set_cons_succ]
      refine wpAnyH_take (i := 11) (oi := _) (v := _) rfl (by kernel_rfl) (by kernel_rfl) (by kernel_rfl) (fun _ _ _ h => h) (Or.inl ⟨by rfl, fun _ _ => by go_simp; try rfl⟩) hHeld ?_
      try simp only [Act.put, List.getElem_toArray, List.getElem_cons_zero, List.getElem_cons_succ, List.setIfInBounds_toArray, List.set_cons_zero, List.set_cons_succ]
      refine wpAnyH_take (i := 12) (oi := _) (v := _) rfl (by kernel_rfl) (by kernel_rfl) (by kernel_rfl) (fun _ _ _ h => h) (Or.inl ⟨by rfl, fun _ _ => by go_simp; try rfl⟩) hHeld ?_
      try simp only [Act.put, List.getElem_toArray, List.getElem_cons_zero, List.getElem_cons_succ, List.setIfInBounds_toArray, List.set_cons_zero, List.set_cons_succ]
      refine wpAnyH_ready (rs := [13]) (by kernel_rfl) (by simp) ?_
      refine AllReadyH.cons (o := _) rfl (fun K hK => ?_) AllReadyH.nil
      rw [if_pos (by rfl)]
      go_simp
      refine hK.out _ _ trivial (fun hHeld => ?_)
      clear hK K
      try simp only [Act.put, List.getElem_toArray, List.getElem_cons_zero, List.getElem_cons_succ, List.setIfInBounds_toArray, List.set_cons_zero, List.set_cons_succ]
      refine wpAnyH_done (by kernel_rfl) (NoPanic.normal ?_) _
      have HA6 := Lib.hid (show AW w r1 (r1 + 1) #[.slice (some ⟨gd, 0, none⟩) k k, .string p, .bool b, .slice (some ⟨gv, 0, none⟩) k k, .slice (some ⟨gt, 0, none⟩) k k, .int .u64 c] _ from HA6.out)
      clear z0 z1 c3
      generalize (w5.setCell ⟨r1, 3, none⟩ (.slice (some ⟨gv, 0, none⟩) k k)).setCell ⟨r1, 4, none⟩ (.slice (some ⟨gt, 0, none⟩) k k) = W at *
      have a0 := HA6.out.b1.cell 0
      have a1 := HA6.out.b1.cell 1
      have a2 := HA6.out.b1.cell 2
      have a3 := HA6.out.b1.cell 3
      have a4 := HA6.out.b1.cell 4
      have a5 := HA6.out.b1.cell 5
      have b0 := HA6.out.b2.cell 0
      have b1 := HA6.out.b2.cell 1
      have b2 := HA6.out.b2.cell 2
      have b3 := HA6.out.b2.cell 3
      have b4 := HA6.out.b2.cell 4
      have b5 := HA6.out.b2.cell 5
      have z0 := HA6.out.b2.frozen 0
      have z1 := HA6.out.b2.frozen 1
      have z2 := HA6.out.b2.frozen 2
      have z3 := HA6.out.b2.frozen 3
      have z4 := HA6.out.b2.frozen 4
      have z5 := HA6.out.b2.frozen 5
      simp only [List.getElem?_toArray, List.getElem?_cons_zero, List.getElem?_cons_succ] at a0 a1 a2 a3 a4 a5 b0 b1 b2 b3 b4 b5
      have hB := (((((HA6.out.b2.set_ 0 (.slice (some ⟨gd, 0, none⟩) k k)).set_ 1 (.string p)).set_ 2 (.bool b)).set_ 3 (.slice (some ⟨gv, 0, none⟩) k k)).set_ 4 (.slice (some ⟨gt, 0, none⟩) k k)).set_ 5 (.int .u64 c)
      have HB := Lib.hid hB
      have HF := Lib.hid (HL.out _ ((((((((Chg.refl W (fun b => b = r1 + 1)).set_ (p := ⟨r1 + 1, 0, none⟩) (.inl rfl) (.slice (some ⟨gd, 0, none⟩) k k)).set_ (p := ⟨r1 + 1, 1, none⟩) (.inl rfl) (.string p)).set_ (p := ⟨r1 + 1, 2, none⟩) (.inl rfl) (.bool b)).set_ (p := ⟨r1 + 1, 3, none⟩) (.inl rfl) (.slice (some ⟨gv, 0, none⟩) k k)).set_ (p := ⟨r1 + 1, 4, none⟩) (.inl rfl) (.slice (some ⟨gt, 0, none⟩) k k)).set_ (p := ⟨r1 + 1, 5, none⟩) (.inl rfl) (.int .u64 c))))
      clear hB
      go_wp2
      (try simp only [Exit.inBlock, Exit.then])
      refine bodyPost_ret (results_cell_row rfl _ _ (r1 + 1) 38 _ (0, 0) _ rfl HB.out Try.underlying38 rfl (by kernel_rfl)) rfl ?_
      exact HF.out
  · go_simp
    refine hK.out _ _ trivial (fun hHeld => ?_)
    clear hK K
    try simp only [Act.put, List.getElem_toArray, List.getElem_cons_zero, List.getElem_cons_succ, List.setIfInBounds_toArray, List.set_cons_zero, List.set_cons_succ]
    refine wpAnyH_ready (rs := [2]) (by kernel_rfl) (by simp) ?_
    refine AllReadyH.cons (o := _) rfl (fun K hK => ?_) AllReadyH.nil
    go_simp
    refine hK.out _ _ trivial (fun hHeld => ?_)
    clear hK K
    try simp only [Act.put, List.getElem_toArray, List.getElem_cons_zero, List.getElem_cons_succ, List.setIfInBounds_toArray, List.set_cons_zero, List.set_cons_succ]
    refine wpAnyH_ready (rs := [3]) (by kernel_rfl) (by simp) ?_
    refine AllReadyH.cons (o := _) rfl (fun K hK => ?_) AllReadyH.nil
    go_simp
    refine (ownExport_any _ v1 k v3 _ (H.out.srcV hA.by_) Hn.out.2.1).mono ?_
    rintro e w4 ⟨gv, rfl, hgv, bV, y4⟩
    dsimp only
    refine hK.out _ _ trivial (fun hHeld => ?_)
    clear hK K
    try simp only [Act.put, List.getElem_toArray, List.getElem_cons_zero, List.getElem_cons_succ, List.setIfInBounds_toArray, List.set_cons_zero, List.set_cons_succ]
    have HVy := Lib.hid y4
    have HBv := Lib.hid (Nat.le_trans hA.by_.size hgv)
    have hA := hA.grown y4
    have HV := Lib.hid (And.intro hgv bV)
    clear hgv bV y4
    refine wpAnyH_take (i := 8) (oi := _) (v := _) rfl (by kernel_rfl) (by kernel_rfl) (by kernel_rfl) (fun _ _ _ h => h) (Or.inl ⟨by rfl, fun _ _ => by go_simp; try rfl⟩) hHeld ?_
    try simp only [Act.put, List.getElem_toArray, List.getElem_cons_zero, List.getElem_cons_succ, List.setIfInBounds_toArray, List.set_cons_zero, List.set_cons_succ]
    refine wpAnyH_take (i := 9) (oi := _) (v := _) rfl (by kernel_rfl) (by kernel_rfl) (by kernel_rfl) (fun _ _ _ h => h) (Or.inl ⟨by rfl, fun _ _ => by go_simp; try rfl⟩) hHeld ?_
    try simp only [Act.put, List.getElem_toArray, List.getElem_cons_zero, List.getElem_cons_succ, List.setIfInBounds_toArray, List.set_cons_zero, List.set_cons_succ]
    refine wpAnyH_ready (rs := [7]) (by kernel_rfl) (by simp) ?_
    refine AllReadyH.cons (o := _) rfl (fun K hK => ?_) AllReadyH.nil
    go_simp
    refine (ownExport_any _ t1 k t3 _ (H.out.srcT hA.by_) Hn.out.2.2).mono ?_
    rintro e w5 ⟨gt, rfl, hgt, bT, y5⟩
    dsimp only
    refine hK.out _ _ trivial (fun hHeld => ?_)
    clear hK K
    try simp only [Act.put, List.getElem_toArray, List.getElem_cons_zero, List.getElem_cons_succ, List.setIfInBounds_toArray, List.set_cons_zero, List.set_cons_succ]
    have hA := hA.grown y5
    have bD := (HD.out.2.drew.grown HVy.out (by simp)).grown y5 (by simp)
    have bV := HV.out.2.grown y5 (by simp)
    have hvt : gv < gt := Nat.lt_of_lt_of_le HV.out.2.lt hgt
    have z0 := hA.b1.frozen 3
    have z1 := hA.b1.frozen 4
    have c3 := hA.b1.cell 3
    have c4 := hA.b1.cell 4
    have hA6 := (hA.set_ (by omega) (Nat.le_of_eq Hr1.out) 3 (.slice (some ⟨gv, 0, none⟩) k k)).set_ (by omega) (Nat.le_of_eq Hr1.out) 4 (.slice (some ⟨gt, 0, none⟩) k k)
    have bD6 := (bD.far (p := ⟨r1, 3, none⟩) (u := .slice (some ⟨gv, 0, none⟩) k k) (bD.ne_ hA.b1 (by decide))).far (p := ⟨r1, 4, none⟩) (u := .slice (some ⟨gt, 0, none⟩) k k) (bD.ne_ hA.b1 (by decide))
    have bV6 := (bV.far (p := ⟨r1, 3, none⟩) (u := .slice (some ⟨gv, 0, none⟩) k k) (bV.ne_ hA.b1 (by decide))).far (p := ⟨r1, 4, none⟩) (u := .slice (some ⟨gt, 0, none⟩) k k) (bV.ne_ hA.b1 (by decide))
    have bT6 := (bT.far (p := ⟨r1, 3, none⟩) (u := .slice (some ⟨gv, 0, none⟩) k k) (bT.ne_ hA.b1 (by decide))).far (p := ⟨r1, 4, none⟩) (u := .slice (some ⟨gt, 0, none⟩) k k) (bT.ne_ hA.b1 (by decide))
    have hlast := fin_apart H.out (Nat.le_of_eq Hr1.out) HK.out hA6 bD6 bV6 bT6 (Nat.le_trans HA.out.by_.size HD.out.1) hvt (HBv.out) (by have := Hr1.out; omega)
    have HL := Lib.hid hlast
    have HA6 := Lib.hid hA6
    clear hlast hA6 bD6 bV6 bT6 bD bV bT hA hvt hgt y5
    refine wpAnyH_ready (rs := [10]) (by kernel_rfl) (by simp) ?_
    refine AllReadyH.cons (o := _) rfl (fun K hK => ?_) AllReadyH.nil
    rw [if_pos (by rfl)]
    go_simp
    refine hK.out _ _ trivial (fun hHeld => ?_)
    clear hK K
    try simp only [Act.put, List.getElem_toArray, List.getElem_cons_zero, List.getElem_cons_succ, List.setIfInBounds_toArray, List.set_cons_zero, List.set_cons_succ]
    refine wpAnyH_take (i := 11) (oi := _) (v := _) rfl (by kernel_rfl) (by kernel_rfl) (by kernel_rfl) (fun _ _ _ h => h) (Or.inl ⟨by rfl, fun _ _ => by go_simp; try rfl⟩) hHeld ?_
    try simp only [Act.put, List.getElem_toArray, List.getElem_cons_zero, List.getElem_cons_succ, List.setIfInBounds_toArray, List.set_cons_zero, List.set_cons_succ]
    refine wpAnyH_take (i := 12) (oi := _) (v := _) rfl (by kernel_rfl) (by kernel_rfl) (by kernel_rfl) (fun _ _ _ h => h) (Or.inl ⟨by rfl, fun _ _ => by go_simp; try rfl⟩) hHeld ?_
    try simp only [Act.put, List.getElem_toArray, List.getElem_cons_zero, List.getElem_cons_succ, List.setIfInBounds_toArray, List.set_cons_zero, List.set_cons_succ]
    refine wpAnyH_ready (rs := [13]) (by kernel_rfl) (by simp) ?_
    refine AllReadyH.cons (o := _) rfl (fun K hK => ?_) AllReadyH.nil
    rw [if_pos (by rfl)]
    go_simp
    refine hK.out _ _ trivial (fun hHeld => ?_)
    clear hK K
    try simp only [Act.put, List.getElem_toArray, List.getElem_cons_zero, List.getElem_cons_succ, List.setIfInBounds_toArray, List.set_cons_zero, List.set_cons_succ]
    refine wpAnyH_done (by kernel_rfl) (NoPanic.normal ?_) _
    have HA6 := Lib.hid (show AW w r1 (r1 + 1) #[.slice (some ⟨gd, 0, none⟩) k k, .string p, .bool b, .slice (some ⟨gv, 0, none⟩) k k, .slice (some ⟨gt, 0, none⟩) k k, .int .u64 c] _ from HA6.out)
    clear z0 z1 c3
    generalize (w5.setCell ⟨r1, 3, none⟩ (.slice (some ⟨gv, 0, none⟩) k k)).setCell ⟨r1, 4, none⟩ (.slice (some ⟨gt, 0, none⟩) k k) = W at *
    have a0 := HA6.out.b1.cell 0
    have a1 := HA6.out.b1.cell 1
    have a2 := HA6.out.b1.cell 2
    have a3 := HA6.out.b1.cell 3
    have a4 := HA6.out.b1.cell 4
    have a5 := HA6.out.b1.cell 5
    have b0 := HA6.out.b2.cell 0
    have b1 := HA6.out.b2.cell 1
    have b2 := HA6.out.b2.cell 2
    have b3 := HA6.out.b2.cell 3
    have b4 := HA6.out.b2.cell 4
    have b5 := HA6.out.b2.cell 5
    have z0 := HA6.out.b2.frozen 0
    have z1 := HA6.out.b2.frozen 1
    have z2 := HA6.out.b2.frozen 2
    have z3 := HA6.out.b2.frozen 3
    have z4 := HA6.out.b2.frozen 4
    have z5 := HA6.out.b2.frozen 5
    simp only [List.getElem?_toArray, List.getElem?_cons_zero, List.getElem?_cons_succ] at a0 a1 a2 a3 a4 a5 b0 b1 b2 b3 b4 b5
    have hB := (((((HA6.out.b2.set_ 0 (.slice (some ⟨gd, 0, none⟩) k k)).set_ 1 (.string p)).set_ 2 (.bool b)).set_ 3 (.slice (some ⟨gv, 0, none⟩) k k)).set_ 4 (.slice (some ⟨gt, 0, none⟩) k k)).set_ 5 (.int .u64 c)
    have HB := Lib.hid hB
    have HF := Lib.hid (HL.out _ ((((((((Chg.refl W (fun b => b = r1 + 1)).set_ (p := ⟨r1 + 1, 0, none⟩) (.inl rfl) (.slice (some ⟨gd, 0, none⟩) k k)).set_ (p := ⟨r1 + 1, 1, none⟩) (.inl rfl) (.string p)).set_ (p := ⟨r1 + 1, 2, none⟩) (.inl rfl) (.bool b)).set_ (p := ⟨r1 + 1, 3, none⟩) (.inl rfl) (.slice (some ⟨gv, 0, none⟩) k k)).set_ (p := ⟨r1 + 1, 4, none⟩) (.inl rfl) (.slice (some ⟨gt, 0, none⟩) k k)).set_ (p := ⟨r1 + 1, 5, none⟩) (.inl rfl) (.int .u64 c))))
    clear hB
    go_wp2
    (try simp only [Exit.inBlock, Exit.then])
    refine bodyPost_ret (results_cell_row rfl _ _ (r1 + 1) 38 _ (0, 0) _ rfl HB.out Try.underlying38 rfl (by kernel_rfl)) rfl ?_
    exact HF.out
end Go.Proofs.Ytndmnnapjhjkmaa
