/-
  A byte buffer that may have begun as '[]byte(s)': what it holds, and append of one byte onto it.
-/
import Derived.Test.YtdloapfifhelbaaNext
import Derived.ArgAppend
namespace Go.Proofs.Ytdloapfifhelbaa
open Go.RowKit

/-- v is a slice over a block of the call's own: its n cells hold xs, its spare cells are there, none is frozen -/
structure Buf (W : World) (base g : Nat) (v : Value) (xs : List Value) (cap : Nat) : Prop where
  val : v = .slice (some ⟨g, 0, none⟩) xs.length cap
  le : xs.length ≤ cap
  base_ : base ≤ g
  lt : g < W.heap.size
  cells : ∀ j u, xs[j]? = some u → W.cell? ⟨g, j, none⟩ = some u
  there : ∀ j, j < cap → (W.cell? ⟨g, j, none⟩).isSome = true
  free : ∀ j, j < cap → W.frozen? ⟨g, j, none⟩ = false
section
variable {W W' : World} {base g cap : Nat} {v : Value} {xs : List Value}
theorem Buf.drew (h : Buf W base g v xs cap) : Buf W.drew base g v xs cap := ⟨h.val, h.le, h.base_, h.lt, h.cells, h.there, h.free⟩
theorem Buf.of_block (h : Buf W base g v xs cap) (hs : W.heap.size ≤ W'.heap.size) (e : W'.heap[g]? = W.heap[g]?) : Buf W' base g v xs cap := by
  have hc : ∀ j, W'.cell? ⟨g, j, none⟩ = W.cell? ⟨g, j, none⟩ := fun j => World.cell?_of_block e
  have hf : ∀ j, W'.frozen? ⟨g, j, none⟩ = W.frozen? ⟨g, j, none⟩ := fun j => by unfold World.frozen?; simp only [e]
  exact ⟨h.val, h.le, h.base_, Nat.lt_of_lt_of_le h.lt hs, fun j u hj => (hc j).trans (h.cells j u hj), fun j hj => by rw [hc]; exact h.there j hj, fun j hj => by rw [hf]; exact h.free j hj⟩
theorem Buf.grown {row : Option Nat} (h : Buf W base g v xs cap) (hg : W.grownBy W' row) (hr : some g ≠ row) : Buf W' base g v xs cap := h.of_block hg.size (hg.block g h.lt hr)
theorem Buf.alloc (h : Buf W base g v xs cap) (o : Obj) : Buf (W.alloc o) base g v xs cap := h.grown (World.grownBy_alloc W o none) (by simp)
theorem Buf.of_own {n : Nat} {e : TypeId} (h : W.ownsRow base e 1 v n xs) (hn : 0 < n) : ∃ g cap, Buf W base g v xs cap := by
  have h1 := h.1
  rcases h.2 with ⟨_, h0⟩ | ⟨g, cap, cur, rfl, h3, h4, h5, h6, h7, h8⟩
  · omega
  · have hx : xs.length = n := by omega
    refine ⟨g, cap, by rw [hx], by omega, h3, Blk.lt (t := e) (cs := cur) h4, fun j u hj => ?_, fun j hj => ?_, fun j hj => Blk.frozen (t := e) (cs := cur) h4 j⟩
    · rw [Blk.cell (t := e) (cs := cur) h4, ← Array.getElem?_toList]
      rw [← h8, List.getElem?_take] at hj
      split at hj
      · exact hj
      · cases hj
    · rw [Blk.cell (t := e) (cs := cur) h4]
      simp; omega
end
/-- the cells of a list of bytes -/
def u8s (l : List UInt8) : List Value := l.map fun b => .int .u8 (b.toNat : Int)
theorem u8s_one (l : List UInt8) : ∀ u ∈ u8s l, u.oneCell' = true := fun u hu => by
  obtain ⟨b, _, rfl⟩ := List.mem_map.1 hu; rfl
theorem Buf.of_bytes (w : World) (e : TypeId) (s : ByteArray) : Buf (Lib.bytesWorld w e s) w.heap.size w.heap.size (.slice (some ⟨w.heap.size, 0, none⟩) s.size (grownCap w s.size 0 e)) (u8s s.data.toList) (grownCap w s.size 0 e) := by
  have hl : (u8s s.data.toList).length = s.size := by simp [u8s]
  have hsz : (Lib.bytesCells w e s).size = grownCap w s.size 0 e := by
    have := grownCap_ge w s.size 0 e
    simp [Lib.bytesCells]
    show s.size + _ = _
    omega
  have hn := Lib.bytesWorld_at_new w e s
  have hc : ∀ j, (Lib.bytesWorld w e s).cell? ⟨w.heap.size, j, none⟩ = (Lib.bytesCells w e s)[j]? := fun j => cell_of_row _ _ j _ e _ hn
  refine ⟨by rw [hl], by rw [hl]; exact grownCap_ge _ _ _ _, Nat.le_refl _, by rw [Lib.bytesWorld_size]; omega, fun j u hj => ?_, fun j hj => ?_, fun j hj => ?_⟩
  · rw [hc]
    have hj2 : j < s.size := by rw [← hl]; exact (List.getElem?_eq_some_iff.1 hj).1
    rw [← hj]
    simp [Lib.bytesCells, u8s, Array.getElem?_append]
    intro h; omega
  · rw [hc]; simp; omega
  · simp [World.frozen?, hn]
    omega

theorem Buf.down {W : World} {base base' g cap : Nat} {v : Value} {xs : List Value} (h : Buf W base g v xs cap) (hb : base' ≤ base) : Buf W base' g v xs cap := ⟨h.val, h.le, Nat.le_trans hb h.base_, h.lt, h.cells, h.there, h.free⟩
theorem Buf.of_conv (W : World) (s : ByteArray) (base g : Nat) (hg : W.heap.size = g) (hb : base ≤ g) (o : Obj) : Buf ((Lib.bytesWorld W 5 s).alloc o) base g (.slice (some ⟨g, 0, none⟩) s.size (grownCap W s.size 0 5)) (u8s s.data.toList) (grownCap W s.size 0 5) := by
  subst hg
  exact ((Buf.of_bytes W 5 s).alloc o).down hb

theorem wpList_append_buf {P : Program} {w : World} {ops : Array Oper} {rest : List Oper} {o : Oper} {a : Act} {Q : Exit → Act → World → Prop}
    (hg : o.guard = none) (s x : Operand) (t : TypeId) (hop : o.op = Op.call { callee := Callee.builtin Builtin.append, args := #[s, x], argTypes := #[t, t] })
    (e : TypeId) (i : TypeInfo) (z : Value) (h1 : P.underlying t = some (.slice e)) (h2 : P.info? e = some i) (h3 : i.zero = some z) (h4 : i.size = 1) (h5 : i.bytes = 1) (h6 : z.cells.size = 1)
    (base g cap : Nat) (v : Value) (xs : List Value) (hs : a.eval s = v) (hb : Buf w base g v xs cap) (hbase : base ≤ w.heap.size)
    (ad : Addr) (c : Nat) (u : Value) (hx : a.eval x = .slice (some ad) 1 c) (hc : w.cell? ad = some u) (h1c : u.oneCell' = true) (hlen : xs.length < 1073741824)
    (h : ∀ g' cap' v' w', Buf w' base g' v' (xs ++ [u]) cap' → w.grownBy w' (some g) → (g' = g ∨ w.heap.size ≤ g') → wpList P ops Q rest (a.put o.dst v') w') :
    wpList P ops Q (o :: rest) a w := by
  have hv := hb.val
  refine wpList_append_arg w hg s x t hop e i z 1 1 h1 h2 h3 h4 h5 h6 (by omega) g 0 xs.length cap xs (hs.trans hv) (by omega) (fun j u hj => by rw [Nat.zero_add]; exact hb.cells j u hj) ad 1 c [u] hx rfl (fun j u' hj => ?_) (fun u' hu => by
    rw [List.mem_singleton.1 hu]; exact h1c) (fun hr j hj => ?_) (by simp only [maxLen]; omega) (by omega) (fun hr => ?_) (fun hr v' w' r1 r2 => ?_)
  · have hj0 : j = 0 := by have := (List.getElem?_eq_some_iff.1 hj).1; simpa using this
    subst hj0
    have : ad.add 0 = ad := by simp [Addr.add]
    rw [this, hc]
    exact hj
  · have hj0 : j = 0 := by simpa using hj
    subst hj0
    exact ⟨hb.there _ (by omega), hb.free _ (by omega)⟩
  · refine h g cap _ _ ⟨by simp, by simp; omega, hb.base_, ?_, fun j u' hj => ?_, fun j hj => ?_, fun j hj => ?_⟩ ?_ (.inl rfl)
    · rw [setCells_size]; exact hb.lt
    · show (w.setCell ⟨g, 0 + xs.length * 1, none⟩ u).cell? ⟨g, j, none⟩ = some u'
      by_cases hjl : j < xs.length
      · rw [World.cell?_setCell_other _ _ _ _ (by intro e; injection e; omega)]
        rw [List.getElem?_append_left hjl] at hj
        exact hb.cells j u' hj
      · have hj0 : j = xs.length := by have := (List.getElem?_eq_some_iff.1 hj).1; simp at this; omega
        subst hj0
        rw [List.getElem?_append_right (Nat.le_refl _)] at hj
        simp at hj
        subst hj
        rw [show 0 + xs.length * 1 = xs.length by omega]
        exact World.cell?_setCell_same' w _ _ (hb.there xs.length (by omega))
    · exact World.isSome_setCells g _ _ _ _ (hb.there j hj)
    · rw [World.frozen?_setCells]; exact hb.free j hj
    · exact by_setAll (.inl rfl) _ _ _ (by_refl _ _)
  · obtain ⟨g', cap', hb'⟩ := Buf.of_own r1 (by omega)
    refine h g' cap' v' w' ⟨hb'.val, hb'.le, Nat.le_trans hbase hb'.base_, hb'.lt, hb'.cells, hb'.there, hb'.free⟩ (by_of_none r2 _) (.inr hb'.base_)
end Go.Proofs.Ytdloapfifhelbaa
