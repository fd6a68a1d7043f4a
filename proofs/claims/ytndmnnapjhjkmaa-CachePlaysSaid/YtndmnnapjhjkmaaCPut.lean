/-
  cache.Put.
-/
import Derived.Test.YtndmnnapjhjkmaaGet
namespace Go.Proofs.Ytndmnnapjhjkmaa
open Go.RowKit iStrRes

def PutQ (w : World) (c : Nat) (M K : Nat → Prop) (cap : Int) (ps : List (ByteArray × Nat)) (k : ByteArray) (n : Nat) (G : VG) (e : Ending) (w' : World) : Prop :=
  e = .returned (.tuple #[]) ∧ Chg w w' M ∧ ∃ M' K', CacheAt w' c M' K' cap (gput cap ps k n) ∧ (∀ b, M' b → M b ∨ w.heap.size ≤ b) ∧ (∀ b, K' b → K b ∨ w.heap.size ≤ b ∨ G.inT n b)

theorem put_done {w w3 w4 : World} {c l n : Nat} {M M' K : Nat → Prop} {cap : Int} {qs : List (ByteArray × Ent)} {k : ByteArray} {rv : RV} {G H : VG} (y : w.grownBy w3 none)
    (h1 : Blk w c 58 #[.pointer (some ⟨l, 0, none⟩)]) (h2 : Lru w l M cap (gmap Ent.rv qs)) (h4 : ∀ q ∈ qs, Val w q.2.rv q.2.n q.2.G) (h5 : ∀ b, K b ↔ KOf c qs b)
    (hv : Val w3 rv n H) (hP : H.P = G.P) (hQ : H.Q = G.Q) (hL : w.heap.size ≤ H.d ∧ w.heap.size ≤ H.v ∧ w.heap.size ≤ H.t)
    (hC : Chg w3 w4 M) (hL4 : Lru w4 l M' cap (iStrRes.putted cap (gmap Ent.rv qs) k rv)) (hM : ∀ b, M' b → M b ∨ w3.heap.size ≤ b) :
    PutQ w c M K cap (gmap Ent.n qs) k n G (.returned (.tuple #[])) w4 := by
  have h13 := h1.grown y (by simp)
  have h23 := h2.by_none y
  refine ⟨rfl, (Chg.of_none (S := M) y).trans hC (fun _ h => .inl h), M', KOf c (gput cap qs k ⟨rv, n, H⟩), ?_, fun b hb => (hM b hb).imp id (fun h => Nat.le_trans y.size h), ?_⟩
  · have e : gput cap (gmap Ent.n qs) k n = gmap Ent.n (gput cap qs k ⟨rv, n, H⟩) := gput_map Ent.n cap qs k ⟨rv, n, H⟩
    rw [e]
    refine cache_at (h13.chg hC (h23.apart h13 (by decide) (by decide))) (by rw [← gput_map Ent.rv cap qs k ⟨rv, n, H⟩, ← putted_is]; exact hL4) fun q hq => ?_
    rcases mem_gput hq with rfl | hq
    · exact hv.chg hC (hv.apartL h23) (hv.apartT h23)
    · have hv := (h4 q hq).grown y
      exact hv.chg hC (hv.apartL h23) (hv.apartT h23)
  · rintro b (rfl | ⟨q, hq, hb⟩)
    · exact .inl ((h5 _).2 (.inl rfl))
    · rcases mem_gput hq with rfl | hq
      · rcases hb with ⟨_, hb⟩ | ⟨i, hi, hb⟩
        · exact .inr (.inl (by rcases hb with rfl | rfl | rfl <;> simp only [hL]))
        · exact .inr (.inr ⟨i, hi, by simpa [hP, hQ] using hb⟩)
      · exact .inl ((h5 _).2 (.inr ⟨q, hq, hb⟩))

theorem Blk.range {w : World} {g : Nat} {t : TypeId} {cs : List Value} (h : Blk w g t cs.toArray) : w.rangeAt g 0 cs := fun j v hv => by
  rw [Nat.zero_add, h.cell j]
  simpa using hv
theorem putAt {w : World} {c kb : Nat} {cs : Array Value} {l : Nat} (h : Blk w c 58 #[.pointer (some ⟨l, 0, none⟩)] ∧ Blk w kb 38 cs) : w.cell? ⟨c, 0, none⟩ = some (.pointer (some ⟨l, 0, none⟩)) := h.1.cell 0

set_option maxRecDepth 100000 in
set_option maxHeartbeats 400000 in
theorem cput_any (w : World) (c : Nat) (M K : Nat → Prop) (cap : Int) (ps : List (ByteArray × Nat)) (k : ByteArray) (rv : RV) (n : Nat) (G : VG) (h : CacheAt w c M K cap ps) (hk : WfI k) (hn : ps.length < 1000000) (hv : Val w rv n G) :
    Calls Try.prog 8 #[.pointer (some ⟨c, 0, none⟩), .string k, .agg #[.slice rv.d.1 rv.d.2.1 rv.d.2.2, .string rv.p, .bool rv.b, .slice rv.vs.1 rv.vs.2.1 rv.vs.2.2, .slice rv.ts.1 rv.ts.2.1 rv.ts.2.2, .int .u64 rv.c]] w (PutQ w c M K cap ps k n G) := by
  obtain ⟨wb, kb, hW⟩ := valIn w #[.slice rv.d.1 rv.d.2.1 rv.d.2.2, .string rv.p, .bool rv.b, .slice rv.vs.1 rv.vs.2.1 rv.vs.2.2, .slice rv.ts.1 rv.ts.2.1 rv.ts.2.2, .int .u64 rv.c]
  have hb := h.grown hW.2.2.2
  have hvb := hv.grown hW.2.2.2
  obtain ⟨l, qs, h1, h2, rfl, h4, h5⟩ := hb
  rw [gmap_len] at hn
  have hn2 : (gmap Ent.rv qs).length < 1000000 := by rw [gmap_len]; exact hn
  have hput : ∀ (w3 : World) (rv' : RV), wb.grownBy w3 none → Calls Try.prog 18 #[.pointer (some ⟨l, 0, none⟩), .string k, .agg #[.slice rv'.d.1 rv'.d.2.1 rv'.d.2.2, .string rv'.p, .bool rv'.b, .slice rv'.vs.1 rv'.vs.2.1 rv'.vs.2.2, .slice rv'.ts.1 rv'.ts.2.1 rv'.ts.2.2, .int .u64 rv'.c]] w3 (Did w3 l M cap (iStrRes.putted cap (gmap Ent.rv qs) k rv') (.tuple #[])) :=
    fun w3 rv' y => put_any w3 l M cap k rv' _ (h2.by_none y) hk hn2
  have hS : Blk wb c 58 #[.pointer (some ⟨l, 0, none⟩)] ∧ Blk wb kb 38 #[.slice rv.d.1 rv.d.2.1 rv.d.2.2, .string rv.p, .bool rv.b, .slice rv.vs.1 rv.vs.2.1 rv.vs.2.2, .slice rv.ts.1 rv.ts.2.1 rv.ts.2.2, .int .u64 rv.c] := ⟨h1, hW.2.2.1⟩
  have HS := Lib.hid hS
  have hMn := (cache_at h1 h2 h4).notRes hW.2.2.1
  have hMc := h2.apart h1 (by decide) (by decide)
  have H := Lib.hid (And.intro hput (And.intro h1 (And.intro h2 (And.intro h4 (And.intro h5 (And.intro hvb (And.intro hMn.1 hMc)))))))
  have HW := Lib.hid hW
  have hs : (Try.prog.info? 38).map (·.size) = some ([.slice rv.d.1 rv.d.2.1 rv.d.2.2, .string rv.p, .bool rv.b, .slice rv.vs.1 rv.vs.2.1 rv.vs.2.2, .slice rv.ts.1 rv.ts.2.1 rv.ts.2.2, .int .u64 rv.c] : List Value).length := by
    show _ = some 6
    kernel_rfl
  have Hs := Lib.hid hs
  clear hs h hk hn hv hW hvb h1 h2 h4 h5 hn2 hput hS hMn hMc
  go_enter Try.func8, Try.ntmps8
  go_wp2_with fail
  rw [HW.out.1, HW.out.2.1]
  refine wp_region_noPanic ?_
  refine wp_region_held_drew (S := fun W => Blk W c 58 #[.pointer (some ⟨l, 0, none⟩)] ∧ Blk W kb 38 #[.slice rv.d.1 rv.d.2.1 rv.d.2.2, .string rv.p, .bool rv.b, .slice rv.vs.1 rv.vs.2.1 rv.vs.2.2, .slice rv.ts.1 rv.ts.2.1 rv.ts.2.2, .int .u64 rv.c]) (by kernel_rfl) (HS.out) (fun hHeld => ?_)
  refine wpAnyH_take (i := 0) (oi := _) (v := _) rfl (by kernel_rfl) (by kernel_rfl) (by kernel_rfl) (fun _ _ _ h => h) (Or.inl ⟨by rfl, fun _ _ => by go_simp; try rfl⟩) hHeld ?_
  try simp only [Act.put, List.getElem_toArray, List.getElem_cons_zero, List.getElem_cons_succ, List.setIfInBounds_toArray, List.set_cons_zero, List.set_cons_succ]
  refine wpAnyH_take (i := 1) (oi := _) (v := _) rfl (by kernel_rfl) (by kernel_rfl) (by kernel_rfl) (fun _ _ _ h => h) (Or.inl ⟨by rfl, fun _ _ => by go_simp; try rfl⟩) hHeld ?_
  try simp only [Act.put, List.getElem_toArray, List.getElem_cons_zero, List.getElem_cons_succ, List.setIfInBounds_toArray, List.set_cons_zero, List.set_cons_succ]
  refine wpAnyH_take (i := 2) (oi := _) (v := _) rfl (by kernel_rfl) (by kernel_rfl) (by kernel_rfl) (fun _ _ _ h => h) (Or.inl ⟨by rfl, fun _ _ => by go_simp; try rfl⟩) hHeld ?_
  try simp only [Act.put, List.getElem_toArray, List.getElem_cons_zero, List.getElem_cons_succ, List.setIfInBounds_toArray, List.set_cons_zero, List.set_cons_succ]
  refine wpAnyH_take (i := 3) (oi := _) (v := _) rfl (by kernel_rfl) (by kernel_rfl) (by kernel_rfl) (fun _ _ _ h => h) (Or.inl ⟨by rfl, fun _ h => by have hx := putAt h; (try simp only [List.getElem_toArray, List.getElem_cons_zero, List.getElem_cons_succ]); go_simp; try rfl⟩) hHeld ?_
  try simp only [Act.put, List.getElem_toArray, List.getElem_cons_zero, List.getElem_cons_succ, List.setIfInBounds_toArray, List.set_cons_zero, List.set_cons_succ]
  refine wpAnyH_take (i := 4) (oi := _) (v := _) rfl (by kernel_rfl) (by kernel_rfl) (by kernel_rfl) (fun _ _ _ h => h) (Or.inl ⟨by rfl, fun _ _ => by go_simp; try rfl⟩) hHeld ?_
  try simp only [Act.put, List.getElem_toArray, List.getElem_cons_zero, List.getElem_cons_succ, List.setIfInBounds_toArray, List.set_cons_zero, List.set_cons_succ]
  refine wpAnyH_take (i := 5) (oi := _) (v := _) rfl (by kernel_rfl) (by kernel_rfl) (by kernel_rfl) (fun _ _ _ h => h) (yieldsIf_load_mid (by rfl) _ _ rfl _ _ rfl ([.slice rv.d.1 rv.d.2.1 rv.d.2.2, .string rv.p, .bool rv.b, .slice rv.vs.1 rv.vs.2.1 rv.vs.2.2, .slice rv.ts.1 rv.ts.2.1 rv.ts.2.2, .int .u64 rv.c] : List Value) _ (fun _ h => Blk.range h.2) Try.underlying38 rfl Hs.out) hHeld ?_
  try simp only [Act.put, List.getElem_toArray, List.getElem_cons_zero, List.getElem_cons_succ, List.setIfInBounds_toArray, List.set_cons_zero, List.set_cons_succ]
  have hd : wb.grownBy wb.drew none := by_drew (by_refl _ _)
  refine wpAnyH_ready (rs := [6]) (by kernel_rfl) (by simp) ?_
  refine AllReadyH.cons (o := _) rfl (fun K hK => ?_) AllReadyH.nil
  go_simp
  refine (apart_any _ rv n G (H.out.2.2.2.2.2.1.grown hd)).mono ?_
  rintro e w3 ⟨rv3, G3, rfl, hv3, y3, hP, hQ, hL3⟩
  dsimp only
  refine hK.out _ _ (⟨hHeld.1.grown y3 (by simp), hHeld.2.grown y3 (by simp)⟩) (fun hHeld => ?_)
  clear hK K
  try simp only [Act.put, List.getElem_toArray, List.getElem_cons_zero, List.getElem_cons_succ, List.setIfInBounds_toArray, List.set_cons_zero, List.set_cons_succ]
  have y03 := by_trans hd y3 (by simp)
  have Hp := Lib.hid (And.intro hv3 (And.intro y03 (And.intro hP (And.intro hQ hL3))))
  clear hv3 y3 hP hQ hL3 y03 hd
  refine wpAnyH_ready (rs := [7]) (by kernel_rfl) (by simp) ?_
  refine AllReadyH.cons (o := _) rfl (fun K hK => ?_) AllReadyH.nil
  go_simp
  refine (H.out.1 _ rv3 Hp.out.2.1).mono ?_
  rintro e w4 ⟨rfl, hC, M', hL, hM⟩
  dsimp only
  refine hK.out _ _ (⟨hHeld.1.chg hC H.out.2.2.2.2.2.2.2, hHeld.2.chg hC H.out.2.2.2.2.2.2.1⟩) (fun hHeld => ?_)
  clear hK K
  try simp only [Act.put, List.getElem_toArray, List.getElem_cons_zero, List.getElem_cons_succ, List.setIfInBounds_toArray, List.set_cons_zero, List.set_cons_succ]
  have hfin := put_done Hp.out.2.1 H.out.2.1 H.out.2.2.1 H.out.2.2.2.1 H.out.2.2.2.2.1 Hp.out.1 Hp.out.2.2.1 Hp.out.2.2.2.1 Hp.out.2.2.2.2 hC hL hM
  have HF := Lib.hid hfin
  clear hfin hC hL hM
  refine wpAnyH_done (by kernel_rfl) (NoPanic.normal ?_) _
  go_end0
  obtain ⟨_, hC, M', K', h6, h7, h8⟩ := HF.out
  have hy := HW.out.2.2.2
  exact ⟨rfl, (Chg.of_none (S := M) hy).trans hC (fun _ h => .inl h), M', K', h6, fun b hb => (h7 b hb).imp id (fun h => Nat.le_trans hy.size h), fun b hb => (h8 b hb).imp id (fun h => h.imp (fun h => Nat.le_trans hy.size h) id)⟩
set_option maxHeartbeats 400000 in
theorem cput_nil (w : World) (k : ByteArray) (rv : RV) :
    Calls Try.prog 8 #[.pointer none, .string k, .agg #[.slice rv.d.1 rv.d.2.1 rv.d.2.2, .string rv.p, .bool rv.b, .slice rv.vs.1 rv.vs.2.1 rv.vs.2.2, .slice rv.ts.1 rv.ts.2.1 rv.ts.2.2, .int .u64 rv.c]] w fun e w' => e = .returned (.tuple #[]) ∧ w.grownBy w' none := by
  go_enter Try.func8, Try.ntmps8
  go_wp2
  go_end0
  exact ⟨rfl, by_alloc (by_refl _ _) _⟩
theorem cclen_any (w : World) (c : Nat) (M K : Nat → Prop) (cap : Int) (ps : List (ByteArray × Nat)) (h : CacheAt w c M K cap ps) :
    Calls Try.prog 14 #[.pointer (some ⟨c, 0, none⟩)] w fun e w' => e = .returned (.int .i64 (ps.length : Nat)) ∧ w = w' := by
  obtain ⟨l, qs, h1, h2, rfl, h4, h5⟩ := h
  have := clen_any w c l M cap _ h1 h2
  rw [gmap_len] at this ⊢
  exact this
def CNewQ (w : World) (cap : Int) (e : Ending) (w' : World) : Prop :=
  ∃ c M K, e = .returned (.pointer (some ⟨c, 0, none⟩)) ∧ CacheAt w' c M K cap [] ∧ w.grownBy w' none ∧ (∀ b, M b → w.heap.size ≤ b) ∧ (∀ b, K b → w.heap.size ≤ b)
theorem ccnew_any (w : World) (cap : Int) : Calls Try.prog 7 #[.int .i64 cap] w (CNewQ w (max cap 0)) := by
  refine (cnew_any w cap).mono ?_
  rintro e w' ⟨w1, l, ⟨l', own, he, h2, y, ho⟩, rfl, rfl⟩
  injection he with he
  injection he with he
  injection he with he
  injection he with he
  subst he
  refine ⟨w1.heap.size, own, KOf w1.heap.size [], rfl, cache_at (qs := []) (Blk.new _ _ _) (h2.by_none (by_alloc (by_refl _ _) _)) (by simp), by_alloc y _, ho, ?_⟩
  rintro b (rfl | ⟨q, hq, _⟩)
  · exact y.size
  · simp at hq
end Go.Proofs.Ytndmnnapjhjkmaa
