/-
  A result's lists may be changed by whoever has them: what such a change leaves; plain laws.
-/
import Derived.Test.YtndmnnapjhjkmaaWorks
namespace Go.Proofs.Ytndmnnapjhjkmaa
open Go.RowKit iStrRes

structure Sp (W wr : World) (n : Nat) (rv : RV) (G : VG) : Prop where
  chg : Chg W wr (fun b => G.inL n b)
  d : 0 < n % 4 → ∃ cur : Array Value, rv.d.1 = some ⟨G.d, 0, none⟩ ∧ Blk wr G.d 50 cur ∧ n % 4 * 3 ≤ cur.size
  v : 0 < n % 4 → ∃ cur : Array Value, rv.vs.1 = some ⟨G.v, 0, none⟩ ∧ Blk wr G.v 53 cur ∧ n % 4 * 2 ≤ cur.size
  t : 0 < n % 4 → ∃ cur : Array Value, rv.ts.1 = some ⟨G.t, 0, none⟩ ∧ Blk wr G.t 53 cur ∧ n % 4 * 2 ≤ cur.size
  ne : 0 < n % 4 → G.d ≠ G.v ∧ G.d ≠ G.t ∧ G.v ≠ G.t

theorem room {cs : List Value} {cur : Array Value} (h : ∀ (j : Nat) (u : Value), cs[j]? = some u → cur[j]? = some u) : cs.length ≤ cur.size := by
  rcases Nat.lt_or_ge cur.size cs.length with h1 | h1
  · have := h cur.size _ (List.getElem?_eq_getElem h1)
    simp at this
  · exact h1
theorem Sp.start {W : World} {n : Nat} {rv : RV} {G : VG} (h : Val W rv n G) : Sp W W n rv G where
  chg := Chg.refl _ _
  d := fun hn => by
    obtain ⟨cur, e, hb, hx⟩ := h.d.at_ hn
    exact ⟨cur, e, hb, by rw [← rows_len (f := dcell n) (k := 3) (fun _ => rfl) (n % 4)]; exact room hx⟩
  v := fun hn => by
    obtain ⟨cur, e, hb, hx⟩ := h.v.at_ hn
    exact ⟨cur, e, hb, by rw [← rows_len (f := vcell G.P) (k := 2) (fun _ => rfl) (n % 4)]; exact room hx⟩
  t := fun hn => by
    obtain ⟨cur, e, hb, hx⟩ := h.t.at_ hn
    exact ⟨cur, e, hb, by rw [← rows_len (f := tcell G.Q) (k := 2) (fun _ => rfl) (n % 4)]; exact room hx⟩
  ne := h.ne

theorem cell_some {w : World} {g : Nat} {t : TypeId} {cs : Array Value} (h : Blk w g t cs) {i : Nat} (hi : i < cs.size) : ∃ u, w.cell? ⟨g, i, none⟩ = some u := ⟨cs[i], by rw [h.cell i]; exact Array.getElem?_eq_getElem hi⟩

theorem Sp.turn {W wr : World} {n j b4 : Nat} {rv : RV} {G : VG} {cs : Array Value} (h : Sp W wr n rv G) (hj : j < n % 4) (hb : Blk wr b4 38 cs) (x y z : Value) :
    rv.d.1 = some ⟨G.d, 0, none⟩ ∧ rv.vs.1 = some ⟨G.v, 0, none⟩ ∧ rv.ts.1 = some ⟨G.t, 0, none⟩ ∧
    (∃ u, wr.cell? ⟨G.d, j * 3 + 1, none⟩ = some u) ∧ wr.frozen? ⟨G.d, j * 3 + 1, none⟩ = false ∧
    Blk (wr.setCell ⟨G.d, j * 3 + 1, none⟩ x) b4 38 cs ∧
    (∃ u, (wr.setCell ⟨G.d, j * 3 + 1, none⟩ x).cell? ⟨G.v, j * 2, none⟩ = some u) ∧ (wr.setCell ⟨G.d, j * 3 + 1, none⟩ x).frozen? ⟨G.v, j * 2, none⟩ = false ∧
    Blk ((wr.setCell ⟨G.d, j * 3 + 1, none⟩ x).setCell ⟨G.v, j * 2, none⟩ y) b4 38 cs ∧
    (∃ u, ((wr.setCell ⟨G.d, j * 3 + 1, none⟩ x).setCell ⟨G.v, j * 2, none⟩ y).cell? ⟨G.t, j * 2, none⟩ = some u) ∧ ((wr.setCell ⟨G.d, j * 3 + 1, none⟩ x).setCell ⟨G.v, j * 2, none⟩ y).frozen? ⟨G.t, j * 2, none⟩ = false ∧
    Sp W (((wr.setCell ⟨G.d, j * 3 + 1, none⟩ x).setCell ⟨G.v, j * 2, none⟩ y).setCell ⟨G.t, j * 2, none⟩ z) n rv G := by
  have hn : 0 < n % 4 := by omega
  obtain ⟨cd, ed, bd, sd⟩ := h.d hn
  obtain ⟨cv, ev, bv, sv⟩ := h.v hn
  obtain ⟨ct, et, bt, st⟩ := h.t hn
  obtain ⟨n1, n2, n3⟩ := h.ne hn
  have bd1 := bd.set_ (j * 3 + 1) x
  have bv1 := bv.far (p := ⟨G.d, j * 3 + 1, none⟩) (Ne.symm n1) x
  have bt1 := bt.far (p := ⟨G.d, j * 3 + 1, none⟩) (Ne.symm n2) x
  have bb1 := hb.far (p := ⟨G.d, j * 3 + 1, none⟩) (hb.ne_ bd (by decide)) x
  have bd2 := bd1.far (p := ⟨G.v, j * 2, none⟩) n1 y
  have bv2 := bv1.set_ (j * 2) y
  have bt2 := bt1.far (p := ⟨G.v, j * 2, none⟩) (Ne.symm n3) y
  have bb2 := bb1.far (p := ⟨G.v, j * 2, none⟩) (bb1.ne_ bv1 (by decide)) y
  have bd3 := bd2.far (p := ⟨G.t, j * 2, none⟩) n2 z
  have bv3 := bv2.far (p := ⟨G.t, j * 2, none⟩) n3 z
  have bt3 := bt2.set_ (j * 2) z
  refine ⟨ed, ev, et, cell_some bd (by omega), bd.frozen _, bb1, cell_some bv1 (by omega), bv1.frozen _, bb2, cell_some bt2 (by omega), bt2.frozen _, ?_, ?_, ?_, ?_, h.ne⟩
  · exact ((h.chg.set_ (p := ⟨G.d, j * 3 + 1, none⟩) (.inl ⟨hn, .inl rfl⟩) x).set_ (p := ⟨G.v, j * 2, none⟩) (.inl ⟨hn, .inr (.inl rfl)⟩) y).set_ (p := ⟨G.t, j * 2, none⟩) (.inl ⟨hn, .inr (.inr rfl)⟩) z
  · exact fun _ => ⟨_, ed, bd3, by simpa using sd⟩
  · exact fun _ => ⟨_, ev, bv3, by simpa using sv⟩
  · exact fun _ => ⟨_, et, bt3, by simpa using st⟩

theorem Val.notT {W : World} {n : Nat} {rv : RV} {G : VG} (h : Val W rv n G) (b : Nat) (hL : G.inL n b) : ¬ G.inT n b := by
  obtain ⟨hn, hb⟩ := hL
  rintro ⟨i, hi, ht⟩
  obtain ⟨_, _, bd, _⟩ := h.d.at_ hn
  obtain ⟨_, _, bv, _⟩ := h.v.at_ hn
  obtain ⟨_, _, bt, _⟩ := h.t.at_ hn
  rcases hb with rfl | rfl | rfl <;> rcases ht with ht | ht
  · exact bd.ne_ (h.tp i hi) (by decide) ht
  · exact bd.ne_ (h.tq i hi) (by decide) ht
  · exact bv.ne_ (h.tp i hi) (by decide) ht
  · exact bv.ne_ (h.tq i hi) (by decide) ht
  · exact bt.ne_ (h.tp i hi) (by decide) ht
  · exact bt.ne_ (h.tq i hi) (by decide) ht
theorem CacheAt.emptyApart {W : World} {c n : Nat} {M K : Nat → Prop} {cap : Int} {rv : RV} {G : VG} (h : CacheAt W c M K cap []) (hv : Val W rv n G) (b : Nat) (hL : G.inL n b) : ¬ K b := by
  obtain ⟨l, qs, h1, h2, h3, h4, h5⟩ := h
  have hq : qs = [] := by
    cases qs with
    | nil => rfl
    | cons q qs => simp [gmap] at h3
  subst hq
  intro hk
  rcases (h5 b).1 hk with rfl | ⟨q, hq, _⟩
  · obtain ⟨hn, hb⟩ := hL
    obtain ⟨_, _, bd, _⟩ := hv.d.at_ hn
    obtain ⟨_, _, bv, _⟩ := hv.v.at_ hn
    obtain ⟨_, _, bt, _⟩ := hv.t.at_ hn
    rcases hb with hb | hb | hb
    · exact h1.ne_ bd (by decide) hb
    · exact h1.ne_ bv (by decide) hb
    · exact h1.ne_ bt (by decide) hb
  · cases hq
theorem CacheAt.apartV {W : World} {c n : Nat} {M K : Nat → Prop} {cap : Int} {rv : RV} {G : VG} {ps : List (ByteArray × Nat)} (h : CacheAt W c M K cap ps) (hv : Val W rv n G) (b : Nat) (hL : G.inL n b) : ¬ M b := by
  obtain ⟨l, qs, h1, h2, h3, h4, h5⟩ := h
  exact hv.apartL h2 b hL

/-- a cache of one pair, and a result whose lists are none of what it keeps -/
structure Own1 (B : Nat) (w W : World) (c : Nat) (k : ByteArray) (n : Nat) (rv : RV) (G : VG) : Prop where
  val : Val W rv n G
  at_ : ∃ M K, CacheAt W c M K 3 [(k, n)] ∧ Chg w W (fun b => B ≤ b) ∧ (∀ b, M b → B ≤ b) ∧ ∀ b, G.inL n b → ¬ K b ∧ B ≤ b
section
variable {B : Nat} {w W : World} {c n : Nat} {k : ByteArray} {rv : RV} {G : VG}
theorem own1_put {M K : Nat → Prop} (h : CacheAt W c M K 3 []) (hC : Chg w W (fun b => B ≤ b)) (hM : ∀ b, M b → B ≤ b) (hB : B ≤ W.heap.size) (hk : WfI k) (hv : Val W rv n G) (hL : ∀ b, G.inL n b → B ≤ b) :
    Calls Try.prog 8 #[.pointer (some ⟨c, 0, none⟩), .string k, .agg #[.slice rv.d.1 rv.d.2.1 rv.d.2.2, .string rv.p, .bool rv.b, .slice rv.vs.1 rv.vs.2.1 rv.vs.2.2, .slice rv.ts.1 rv.ts.2.1 rv.ts.2.2, .int .u64 rv.c]] W fun e W' => e = .returned (.tuple #[]) ∧ Own1 B w W' c k n rv G ∧ Tr W W' := by
  refine (cput_any W c M K 3 [] k rv n G h hk (by decide) hv).mono ?_
  rintro e W' ⟨rfl, hC2, M', K', h4, h5, h6⟩
  have hp : gput 3 [] k n = [(k, n)] := by simp [gput, glook]
  rw [hp] at h4
  refine ⟨rfl, ⟨hv.over h hC2, M', K', h4, hC.trans hC2 (fun b hb => .inl (hM b hb)), fun b hb => ?_, fun b hb => ⟨fun hk => ?_, hL b hb⟩⟩, Tr.cache h hC2⟩
  · rcases h5 b hb with h | h
    · exact hM b h
    · exact Nat.le_trans hB h
  · rcases h6 b hk with h7 | h7 | h7
    · exact h.emptyApart hv b hb h7
    · have := hv.ltL b hb; omega
    · exact hv.notT b hb h7
theorem Own1.spoil {wr : World} {rv2 : RV} (h : Own1 B w W c k n rv G) (hs : Sp W wr n rv2 G) : ∃ M K, CacheAt wr c M K 3 [(k, n)] ∧ Chg w wr (fun b => B ≤ b) ∧ ∀ b, M b → B ≤ b := by
  obtain ⟨hv, M, K, h1, h2, h3, h4⟩ := h
  exact ⟨M, K, h1.chg hs.chg (fun b hb hL => h1.apartV hv b hL hb) (fun b hb hL => (h4 b hL).1 hb), h2.trans hs.chg (fun b hb => .inl (h4 b hb).2), h3⟩
theorem own1_get {M K : Nat → Prop} (h : CacheAt W c M K 3 [(k, n)]) (hC : Chg w W (fun b => B ≤ b)) (hM : ∀ b, M b → B ≤ b) (hB : B ≤ W.heap.size) (hk : WfI k) :
    Calls Try.prog 11 #[.pointer (some ⟨c, 0, none⟩), .string k] W fun e W' => ∃ (rv : RV) (G : VG), e = .returned (.tuple #[.agg #[.slice rv.d.1 rv.d.2.1 rv.d.2.2, .string rv.p, .bool rv.b, .slice rv.vs.1 rv.vs.2.1 rv.vs.2.2, .slice rv.ts.1 rv.ts.2.1 rv.ts.2.2, .int .u64 rv.c], .bool true]) ∧ Own1 B w W' c k n rv G ∧ Tr W W' := by
  refine (cget_any W c M K 3 [(k, n)] k h hk).mono ?_
  rintro e W' ⟨hC2, M', K', h4, h5, h6, h7⟩
  have hl : glook [(k, n)] k = some n := by simp [glook]
  have hg : ggot [(k, n)] k = [(k, n)] := by simp [ggot, glook, gless]
  rw [hg] at h4
  rcases h7 with ⟨n', rv, G, h8, rfl, h9, h10⟩ | ⟨h8, _⟩
  · rw [hl] at h8
    cases h8
    refine ⟨rv, G, rfl, ⟨h9, M', K', h4, hC.trans hC2 (fun b hb => .inl (hM b hb)), fun b hb => ?_, fun b hb => ⟨(h10 b hb).2, Nat.le_trans hB (h10 b hb).1⟩⟩, Tr.cache h hC2⟩
    rcases h5 b hb with h | h
    · exact hM b h
    · exact Nat.le_trans hB h
  · rw [hl] at h8; cases h8
theorem Own1.grown {W' : World} (h : Own1 B w W c k n rv G) (y : W.grownBy W' none) : Own1 B w W' c k n rv G := by
  obtain ⟨hv, M, K, h1, h2, h3, h4⟩ := h
  exact ⟨hv.grown y, M, K, h1.grown y, h2.trans (Chg.of_none (S := fun _ => False) y) (fun _ h => h.elim), h3, h4⟩
theorem Own1.size (h : Own1 B w W c k n rv G) : w.heap.size ≤ W.heap.size := by
  obtain ⟨hv, M, K, h1, h2, h3, h4⟩ := h
  exact h2.size
end
end Go.Proofs.Ytndmnnapjhjkmaa
