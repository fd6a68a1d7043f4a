/-
  Small lemmas on memory that all walks of this seat share: a block that is known whole, a byte slice that reads as a string, the world behind a conversion. No function of the program is named here.
-/
import Derived.Test.YtdloapfifhelbaaRows
import Derived.WalkKit
import Derived.WalkSpells
import Derived.WalkLawsBesides
import Derived.Lib.SlBytesRow
import Derived.Lib.ConvBytes
import Derived.Lib.Hide
import Derived.Deep.Draws
namespace Go.Proofs.Ytdloapfifhelbaa
open Go.RowKit

/-- Block g is just the cells cs of element type t, none frozen. -/
def Blk (w : World) (g : Nat) (t : TypeId) (cs : Array Value) : Prop := w.heap[g]? = some (.cells cs t (0, 0))

section
variable {w w' : World} {g : Nat} {t : TypeId} {cs : Array Value}
theorem Blk.lt (h : Blk w g t cs) : g < w.heap.size := by
  rcases Nat.lt_or_ge g w.heap.size with hlt | hge
  · exact hlt
  · unfold Blk at h; rw [Array.getElem?_eq_none hge] at h; cases h
theorem Blk.cell (h : Blk w g t cs) (i : Nat) : w.cell? ⟨g, i, none⟩ = cs[i]? := cell_of_row w g i cs t (0, 0) h
theorem Blk.frozen (h : Blk w g t cs) (i : Nat) : w.frozen? ⟨g, i, none⟩ = false := by
  unfold Blk at h
  simp [World.frozen?, h]
theorem Blk.new (w : World) (t : TypeId) (cs : Array Value) : Blk (w.alloc (.cells cs t)) w.heap.size t cs := heap_alloc_new w _
theorem Blk.drew (h : Blk w g t cs) : Blk w.drew g t cs := h
theorem Blk.drewN (h : Blk w g t cs) (n : Nat) : Blk (w.drewN n) g t cs := h
theorem Blk.alloc (h : Blk w g t cs) (o : Obj) : Blk (w.alloc o) g t cs := (Below.heap_alloc w o g h.lt).trans h
theorem Blk.set_ (h : Blk w g t cs) (i : Nat) (u : Value) : Blk (w.setCell ⟨g, i, none⟩ u) g t (cs.setIfInBounds i u) := by
  unfold Blk at h ⊢
  simp [World.setCell, Array.getElem?_modify, h]
theorem Blk.far (h : Blk w g t cs) {p : Addr} (hp : g ≠ p.block) (u : Value) : Blk (w.setCell p u) g t cs := (Below.heap_setCell w p u g hp).trans h
theorem Blk.below {B : Nat} (h : Blk w g t cs) (hb : Below B w w') (hg : g < B) : Blk w' g t cs := (hb.block g hg).trans h
theorem Blk.grown {row : Option Nat} (h : Blk w g t cs) (hb : w.grownBy w' row) (hg : some g ≠ row) : Blk w' g t cs := (hb.block g h.lt hg).trans h
theorem Blk.ne_ {g' : Nat} {t' : TypeId} {cs' : Array Value} (h : Blk w g t cs) (h' : Blk w g' t' cs') (hne : t ≠ t') : g ≠ g' := by
  rintro rfl
  unfold Blk at h h'
  rw [h] at h'
  injection h' with h'
  injection h' with _ ht
  exact hne ht
theorem own_blk_ne {base : Nat} {e : TypeId} {size n : Nat} {v : Value} {xs : List Value} (h : w.ownsRow base e size v n xs) (hg : Blk w g t cs) (hne : e ≠ t) : v.ownBlock ≠ some g := by
  rcases h.2 with ⟨rfl, _⟩ | ⟨g', cap, cur, rfl, _, hh, _⟩
  · simp [Value.ownBlock]
  · intro he
    have : g' = g := by simpa [Value.ownBlock] using he
    subst this
    exact Blk.ne_ (t := e) hh hg hne rfl
end

/-- 'only the block row, and what is new, has turned': two steps, a draw, a new block, a store -/
theorem by_drew {a w : World} {row : Option Nat} (h : a.grownBy w row) : a.grownBy w.drew row := ⟨h.os, h.tape, h.output, h.size, h.block⟩
theorem by_drewN {a w : World} {row : Option Nat} (h : a.grownBy w row) (n : Nat) : a.grownBy (w.drewN n) row := ⟨h.os, h.tape, h.output, h.size, h.block⟩
theorem by_alloc {a w : World} {row : Option Nat} (h : a.grownBy w row) (o : Obj) : a.grownBy (w.alloc o) row :=
  ⟨h.os, h.tape, h.output, Nat.le_trans h.size (by simp), fun i hi hne => (Below.heap_alloc w o i (Nat.lt_of_lt_of_le hi h.size)).trans (h.block i hi hne)⟩
theorem by_set {a w : World} {row : Option Nat} (h : a.grownBy w row) {p : Addr} (hp : some p.block = row ∨ a.heap.size ≤ p.block) (u : Value) : a.grownBy (w.setCell p u) row :=
  ⟨h.os, h.tape, h.output, by simpa [World.setCell] using h.size, fun i hi hne => (Below.heap_setCell w p u i (by
    rintro rfl
    rcases hp with hp | hp
    · exact hne hp
    · omega)).trans (h.block i hi hne)⟩
theorem by_trans {a b c : World} {row row' : Option Nat} (h : a.grownBy b row) (k : b.grownBy c row') (hr : ∀ g, row' = some g → some g = row ∨ a.heap.size ≤ g) : a.grownBy c row :=
  ⟨k.os.trans h.os, k.tape.trans h.tape, k.output.trans h.output, Nat.le_trans h.size k.size, fun i hi hne =>
    (k.block i (Nat.lt_of_lt_of_le hi h.size) (fun e => by
      rcases hr i e.symm with h1 | h1
      · exact hne h1
      · omega)).trans (h.block i hi hne)⟩
theorem by_of_none {a w : World} (h : a.grownBy w none) (row : Option Nat) : a.grownBy w row := ⟨h.os, h.tape, h.output, h.size, fun i hi _ => h.block i hi (by simp)⟩
theorem by_refl (a : World) (row : Option Nat) : a.grownBy a row := World.grownBy.refl a row
theorem below_of_by {a w : World} (h : a.grownBy w none) : Below a.heap.size a w := ⟨h.os, h.tape, h.output, h.size, fun k hk => h.block k hk (by simp)⟩
theorem by_of_below {a w : World} (h : Below a.heap.size a w) : a.grownBy w none := ⟨h.os, h.tape, h.output, h.size, fun k hk _ => h.block k hk⟩

theorem own_drewN {w : World} {base : Nat} {e : TypeId} {size : Nat} {v : Value} {n : Nat} {xs : List Value} (h : w.ownsRow base e size v n xs) (q : Nat) : (w.drewN q).ownsRow base e size v n xs := h

/-- A byte slice's n places read as the string s. -/
def StrAt (W : World) (A : Option Addr) (n : Nat) (s : ByteArray) : Prop :=
  s.size = n ∧ (0 < n → ∃ b off, A = some ⟨b, off, none⟩ ∧ b < W.heap.size ∧ ∀ j (h : j < s.size), W.cell? ⟨b, off + j, none⟩ = some (.int .u8 (s[j].toNat : Int)))

theorem conv_str {P : Program} (W : World) (src e dst : TypeId) (hs : P.underlying src = some (.slice e)) (he : P.underlying e = some (.int .u8)) (hd : P.underlying dst = some .string)
    (A : Option Addr) (n c : Nat) (s : ByteArray) (h : StrAt W A n s) : (convert src dst (.slice A n c)).run P W = .ok (.string s) W := by
  obtain ⟨h1, h2⟩ := h
  subst h1
  rcases Nat.eq_zero_or_pos s.size with h0 | h0
  · have hs0 : s = ⟨([] : List UInt8).toArray⟩ := by
      apply ByteArray.ext
      exact Array.eq_empty_of_size_eq_zero h0
    cases A with
    | none =>
      rw [run_convert_bytes_string W src dst e _ _ c hs he hd]
      simp [Conv.bytesToString, hs0]
      rfl
    | some a =>
      have := run_convert_bytes_back (P := P) W src dst e a c [] hs he hd (fun j hj => by simp at hj)
      rw [h0, hs0]
      exact this
  · obtain ⟨b, off, rfl, _, hc⟩ := h2 h0
    exact Lib.run_convert_whole W src e dst hs he hd b off s hc c

section
variable {W W' : World} {A : Option Addr} {n : Nat} {s : ByteArray}
theorem StrAt.drew (h : StrAt W A n s) : StrAt W.drew A n s := h
theorem StrAt.drewN (h : StrAt W A n s) (q : Nat) : StrAt (W.drewN q) A n s := h
theorem StrAt.same (h : StrAt W A n s) (hs : W.heap.size ≤ W'.heap.size) (hk : ∀ p : Addr, A.map (·.block) = some p.block → W'.cell? p = W.cell? p) : StrAt W' A n s :=
  ⟨h.1, fun hn => by
    obtain ⟨b, off, rfl, hb, hc⟩ := h.2 hn
    exact ⟨b, off, rfl, by omega, fun j hj => (hk ⟨b, off + j, none⟩ rfl).trans (hc j hj)⟩⟩
theorem StrAt.set_ (h : StrAt W A n s) {p : Addr} (hp : A.map (·.block) ≠ some p.block) (v : Value) : StrAt (W.setCell p v) A n s :=
  h.same (by simp [World.setCell]) fun q hq => World.cell?_setCell_other W p q v (fun e => hp (by rw [hq, e]))
theorem StrAt.alloc (h : StrAt W A n s) (o : Obj) : StrAt (W.alloc o) A n s :=
  ⟨h.1, fun hn => by
    obtain ⟨b, off, rfl, hb, hc⟩ := h.2 hn
    exact ⟨b, off, rfl, by simp; omega, fun j hj => (World.cell?_alloc_lt W o _ hb).trans (hc j hj)⟩⟩
end

/-- A slice value that reads as a list of strings. -/
def Strs (w : World) (v : Value) (l : List ByteArray) : Prop :=
  ∃ A cap, v = .slice A l.length cap ∧ l.length ≤ cap ∧ (0 < l.length → ∃ b off, A = some ⟨b, off, none⟩ ∧ b < w.heap.size ∧ ∀ i (h : i < l.length), w.cell? ⟨b, off + i, none⟩ = some (.string l[i]))

section
variable {w w' : World} {v : Value} {l : List ByteArray}
theorem Strs.nil_ (w : World) : Strs w (.slice none 0 0) [] := ⟨none, 0, rfl, by simp, fun h => by simp at h⟩
theorem Strs.drewN (h : Strs w v l) (n : Nat) : Strs (w.drewN n) v l := h
theorem Strs.drew (h : Strs w v l) : Strs w.drew v l := h
theorem Strs.of_own {base : Nat} {e : TypeId} (h : w.ownsRow base e 1 v l.length (l.map .string)) : Strs w v l := by
  have h2 := h.2
  rcases h2 with ⟨rfl, h0⟩ | ⟨g, cap, cur, rfl, h3, h4, h5, h6, h7, h8⟩
  · have : l = [] := List.eq_nil_of_length_eq_zero h0
    subst this
    exact Strs.nil_ w
  · refine ⟨_, cap, rfl, h5, fun hp => ⟨g, 0, rfl, ?_, fun i hi => ?_⟩⟩
    · exact (World.ownsRow.lt h g rfl).2
    · have := h.cells (g := g) rfl i (.string l[i]) (by simp [hi])
      rw [show (⟨g, 0, none⟩ : Addr).add i = ⟨g, 0 + i, none⟩ from by unfold Addr.add; split <;> simp_all] at this
      exact this
theorem Strs.grown {row : Option Nat} (h : Strs w v l) (hg : w.grownBy w' row) (hr : row = none ∨ v.ownBlock ≠ row) : Strs w' v l := by
  obtain ⟨A, cap, rfl, h1, h2⟩ := h
  refine ⟨A, cap, rfl, h1, fun hp => ?_⟩
  obtain ⟨b, off, rfl, hb, hc⟩ := h2 hp
  refine ⟨b, off, rfl, Nat.lt_of_lt_of_le hb hg.size, fun i hi => hg.cell (hc i hi) ?_⟩
  rcases hr with rfl | hr
  · simp
  · exact hr
theorem Strs.alloc (h : Strs w v l) (o : Obj) : Strs (w.alloc o) v l := h.grown (World.grownBy_alloc w o none) (.inl rfl)
theorem Strs.cut_ (h : Strs w v l) (k : Nat) (hk : k ≤ l.length) : ∃ A n cap, v = .slice A n cap ∧ n = l.length ∧ n ≤ cap ∧ Strs w (.slice (if cap = k then A else A.map (·.add k)) (n - k) (cap - k)) (l.drop k) := by
  obtain ⟨A, cap, rfl, h1, h2⟩ := h
  refine ⟨A, l.length, cap, rfl, rfl, h1, _, cap - k, by rw [List.length_drop], by rw [List.length_drop]; omega, fun hp => ?_⟩
  rw [List.length_drop] at hp
  obtain ⟨b, off, rfl, hb, hc⟩ := h2 (by omega)
  refine ⟨b, off + k, ?_, hb, fun i hi => ?_⟩
  · rw [if_neg (by omega)]
    simp only [Option.map_some, Addr.add]
    by_cases h0 : k = 0 <;> simp [h0]
  · rw [List.length_drop] at hi
    rw [Nat.add_assoc, hc (k + i) (by omega), List.getElem_drop]
end

/-- A slice value that reads as a list of integers of kind k. -/
def Nums (w : World) (k : IntKind) (v : Value) (l : List Int) : Prop :=
  ∃ A cap, v = .slice A l.length cap ∧ l.length ≤ cap ∧ (0 < l.length → ∃ b off, A = some ⟨b, off, none⟩ ∧ b < w.heap.size ∧ ∀ i (h : i < l.length), w.cell? ⟨b, off + i, none⟩ = some (.int k l[i]))
section
variable {w w' : World} {k : IntKind} {v : Value} {l : List Int}
theorem Nums.nil_ (w : World) (k : IntKind) : Nums w k (.slice none 0 0) [] := ⟨none, 0, rfl, by simp, fun h => by simp at h⟩
theorem Nums.drewN (h : Nums w k v l) (n : Nat) : Nums (w.drewN n) k v l := h
theorem Nums.grown {row : Option Nat} (h : Nums w k v l) (hg : w.grownBy w' row) (hr : row = none ∨ v.ownBlock ≠ row) : Nums w' k v l := by
  obtain ⟨A, cap, rfl, h1, h2⟩ := h
  refine ⟨A, cap, rfl, h1, fun hp => ?_⟩
  obtain ⟨b, off, rfl, hb, hc⟩ := h2 hp
  refine ⟨b, off, rfl, Nat.lt_of_lt_of_le hb hg.size, fun i hi => hg.cell (hc i hi) ?_⟩
  rcases hr with rfl | hr
  · simp
  · exact hr
end

/-- 's[a:b]' of a string, byte by byte -/
theorem ext_get (s : ByteArray) (a b j : Nat) (h : j < (s.extract a b).size) (h' : a + j < s.size) : (s.extract a b)[j] = s[a + j] := by
  rw [ByteArray.getElem_extract]

theorem ext_size (s : ByteArray) (a b : Nat) (h : b ≤ s.size) : (s.extract a b).size = b - a := by
  rw [ByteArray.size_extract]
  omega

/-- the world behind '[]byte(s)' -/
theorem bytesWorld_by (w : World) (e : TypeId) (s : ByteArray) (row : Option Nat) : w.grownBy (Lib.bytesWorld w e s) row := by
  refine ⟨?_, ?_, ?_, by rw [Lib.bytesWorld_size]; omega, fun k hk _ => Lib.bytesWorld_at_old w e s k hk⟩ <;>
    simp [Lib.bytesWorld, World.freeze, World.alloc, World.drew, -World.alloc_eq, -World.drew_eq]

theorem bytesWorld_cellAt (w : World) (e : TypeId) (s : ByteArray) (j : Nat) (hj : j < s.size) : (Lib.bytesWorld w e s).cell? ⟨w.heap.size, j, none⟩ = some (.int .u8 (s[j].toNat : Int)) := by
  rw [Lib.bytesWorld_cell w e s j hj]
  have : s.data.toList[j]? = some s[j] := by simp [hj]; rfl
  simp only [List.getD, this, Option.getD_some]

end Go.Proofs.Ytdloapfifhelbaa
