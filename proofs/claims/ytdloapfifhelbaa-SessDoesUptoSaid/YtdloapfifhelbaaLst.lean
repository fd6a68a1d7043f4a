/-
  A list of sessions in memory: cells, a store, a cut, a clear; plain laws.
-/
import Derived.Test.YtdloapfifhelbaaSameW
import Derived.Test.YtdloapfifhelbaaMac
import Derived.Deep.AppendLies
import Derived.Laws.OwnMore
import Derived.Laws.CopyRow
import Derived.Lib.Hide
namespace Go.Proofs.Ytdloapfifhelbaa
open Go.RowKit

def scell (q : ByteArray × Nat) : List Value := [.string q.1, .int .u64 (q.2 : Int)]
def scells (l : List (ByteArray × Nat)) : List Value := l.flatMap scell
theorem scells_app (a b : List (ByteArray × Nat)) : scells (a ++ b) = scells a ++ scells b := by simp [scells]
theorem scells_cons (q : ByteArray × Nat) (b : List (ByteArray × Nat)) : scells (q :: b) = scell q ++ scells b := by simp [scells]
theorem scells_len : ∀ (a : List (ByteArray × Nat)), (scells a).length = a.length * 2
  | [] => rfl
  | q :: a => by rw [scells_cons, List.length_append, scells_len a, List.length_cons, Nat.succ_mul, Nat.add_comm]; rfl
theorem scells_one (a : List (ByteArray × Nat)) : ∀ u ∈ scells a, u.oneCell' = true := by
  intro u hu
  simp only [scells, List.mem_flatMap] at hu
  obtain ⟨q, _, hu⟩ := hu
  simp [scell] at hu
  rcases hu with rfl | rfl <;> rfl
theorem scells_at (a : List (ByteArray × Nat)) (i j : Nat) (hi : i < a.length) (hj : j < 2) : (scells a)[i * 2 + j]? = (scell a[i])[j]? := by
  have h : a = a.take i ++ a[i] :: a.drop (i + 1) := by simp
  conv => lhs; rw [h]
  have hl : (scells (a.take i)).length = i * 2 := by rw [scells_len, List.length_take, Nat.min_eq_left (by omega)]
  rw [scells_app, scells_cons, List.getElem?_append_right (by rw [hl]; omega), hl, List.getElem?_append_left (by simp [scell]; omega)]
  congr 1
  omega
theorem scells_take (a : List (ByteArray × Nat)) (k : Nat) (hk : k ≤ a.length) : (scells a).take (k * 2) = scells (a.take k) := by
  have h : a = a.take k ++ a.drop k := by simp
  conv => lhs; rw [h]
  have hl : (scells (a.take k)).length = k * 2 := by rw [scells_len, List.length_take, Nat.min_eq_left hk]
  rw [scells_app, ← hl, List.take_left]
theorem scells_drop (a : List (ByteArray × Nat)) (k : Nat) (hk : k ≤ a.length) : (scells a).drop (k * 2) = scells (a.drop k) := by
  have h : a = a.take k ++ a.drop k := by simp
  conv => lhs; rw [h]
  have hl : (scells (a.take k)).length = k * 2 := by rw [scells_len, List.length_take, Nat.min_eq_left hk]
  rw [scells_app, ← hl, List.drop_left]

abbrev sT : TypeId := 56
/-- a list of sessions lies in a row of its own -/
def Lst (w : World) (v : Value) (l : List (ByteArray × Nat)) : Prop := w.ownsRow 0 56 2 v l.length (scells l)

/-- only the blocks of S, and what is new, have turned -/
structure Chg (w w' : World) (S : Nat → Prop) : Prop where
  os : w'.os = w.os
  tape : w'.tape = w.tape
  output : w'.output = w.output
  size : w.heap.size ≤ w'.heap.size
  block : ∀ k, k < w.heap.size → ¬ S k → w'.heap[k]? = w.heap[k]?
section
variable {w w' w'' : World} {S T : Nat → Prop} {g : Nat} {t : TypeId} {cs : Array Value}
theorem Chg.refl (w : World) (S : Nat → Prop) : Chg w w S := ⟨rfl, rfl, rfl, Nat.le_refl _, fun _ _ _ => rfl⟩
theorem Chg.of_by {row : Option Nat} (h : w.grownBy w' row) (hr : ∀ g, row = some g → S g) : Chg w w' S :=
  ⟨h.os, h.tape, h.output, h.size, fun k hk hS => h.block k hk (fun e => hS (hr k e.symm))⟩
theorem Chg.of_none (h : w.grownBy w' none) : Chg w w' S := Chg.of_by h (by simp)
theorem Chg.trans (h : Chg w w' S) (h2 : Chg w' w'' T) (hT : ∀ k, T k → S k ∨ w.heap.size ≤ k) : Chg w w'' S :=
  ⟨h2.os.trans h.os, h2.tape.trans h.tape, h2.output.trans h.output, Nat.le_trans h.size h2.size, fun k hk hS =>
    (h2.block k (Nat.lt_of_lt_of_le hk h.size) (fun e => by
      rcases hT k e with h1 | h1
      · exact hS h1
      · omega)).trans (h.block k hk hS)⟩
theorem Chg.drew (h : Chg w w' S) : Chg w w'.drew S := ⟨h.os, h.tape, h.output, h.size, h.block⟩
theorem Chg.set_ (h : Chg w w' S) {p : Addr} (hp : S p.block ∨ w.heap.size ≤ p.block) (u : Value) : Chg w (w'.setCell p u) S :=
  ⟨h.os, h.tape, h.output, by simpa [World.setCell] using h.size, fun i hi hne => (Below.heap_setCell w' p u i (by
    rintro rfl
    rcases hp with hp | hp
    · exact hne hp
    · omega)).trans (h.block i hi hne)⟩
theorem Chg.mono (h : Chg w w' S) (hT : ∀ k, k < w.heap.size → S k → T k) : Chg w w' T := ⟨h.os, h.tape, h.output, h.size, fun k hk hn => h.block k hk (fun e => hn (hT k hk e))⟩
theorem Chg.none_ (h : Chg w w' S) (hT : ∀ k, S k → w.heap.size ≤ k) : w.grownBy w' none :=
  ⟨h.os, h.tape, h.output, h.size, fun k hk _ => h.block k hk (fun e => by have := hT k e; omega)⟩
theorem Chg.by_ (h : Chg w w' S) {row : Option Nat} (hT : ∀ k, S k → row = some k ∨ w.heap.size ≤ k) : w.grownBy w' row :=
  ⟨h.os, h.tape, h.output, h.size, fun k hk hne => h.block k hk (fun e => by
    rcases hT k e with h1 | h1
    · exact hne h1.symm
    · omega)⟩
theorem Blk.chg (h : Blk w g t cs) (hc : Chg w w' S) (hg : ¬ S g) : Blk w' g t cs := (hc.block g h.lt hg).trans h
theorem own_chg {base : Nat} {e : TypeId} {size n : Nat} {v : Value} {xs : List Value} (h : w.ownsRow base e size v n xs) (hc : Chg w w' S) (hg : ∀ g, v.ownBlock = some g → ¬ S g) : w'.ownsRow base e size v n xs := by
  refine ⟨h.1, ?_⟩
  rcases h.2 with hn | ⟨g, cap, cur, rfl, hb, hgg, rest⟩
  · exact .inl hn
  · exact .inr ⟨g, cap, cur, rfl, hb, (hc.block g (Array.getElem?_eq_some_iff.1 hgg).1 (hg g rfl)).trans hgg, rest⟩
end
theorem addr_add (b off i : Nat) : (⟨b, off, none⟩ : Addr).add i = ⟨b, off + i, none⟩ := by unfold Addr.add; split <;> simp_all

section
variable {w w' : World} {v : Value} {l : List (ByteArray × Nat)}
theorem Lst.grown (h : Lst w v l) (y : w.grownBy w' none) : Lst w' v l := own_chg h (Chg.of_none (S := fun _ => False) y) fun _ _ h => h
theorem Lst.drewN (h : Lst w v l) (n : Nat) : Lst (w.drewN n) v l := h
theorem Lst.drew (h : Lst w v l) : Lst w.drew v l := h
theorem Lst.nil_ (w : World) : Lst w (.slice none 0 0) [] := World.ownsRow_nil _ _ _ _
theorem Lst.lt (h : Lst w v l) {g : Nat} (hg : v.ownBlock = some g) : g < w.heap.size := (World.ownsRow.lt h g hg).2
theorem Lst.at_ (h : Lst w v l) : ∃ A c, v = .slice A l.length c ∧ l.length ≤ c ∧ c ≤ maxLen ∧ (A = none → l = [] ∧ c = 0) ∧ (∀ g, A = some ⟨g, 0, none⟩ → v.ownBlock = some g) ∧
    (0 < l.length → ∃ g, A = some ⟨g, 0, none⟩) ∧ (∀ a, A = some a → ∃ g, a = ⟨g, 0, none⟩) := by
  rcases h.2 with ⟨rfl, h0⟩ | ⟨g, cap, cur, rfl, _, h3, h4, h5, h6, h7⟩
  · have : l = [] := List.eq_nil_of_length_eq_zero h0
    subst this
    exact ⟨none, 0, rfl, Nat.le_refl _, by unfold maxLen; omega, fun _ => ⟨rfl, rfl⟩, (fun g e => nomatch e), fun h => absurd h (by simp), (fun a e => nomatch e)⟩
  · exact ⟨some ⟨g, 0, none⟩, cap, rfl, h4, h5, (fun e => nomatch e), fun g' e => by cases e; rfl, fun _ => ⟨g, rfl⟩, fun a e => by cases e; exact ⟨g, rfl⟩⟩
theorem Lst.cellAt {g n c : Nat} (h : Lst w (.slice (some ⟨g, 0, none⟩) n c) l) (i : Nat) (hi : i < l.length) : w.cell? ⟨g, i * 2, none⟩ = some (.string l[i].1) ∧ w.cell? ⟨g, i * 2 + 1, none⟩ = some (.int .u64 (l[i].2 : Int)) := by
  have h0 := scells_at l i 0 hi (by omega)
  have h1 := scells_at l i 1 hi (by omega)
  have c0 := h.cells (g := g) rfl _ _ h0
  have c1 := h.cells (g := g) rfl _ _ h1
  rw [addr_add, Nat.zero_add] at c0 c1
  exact ⟨c0, c1⟩
theorem Lst.blk {g n c : Nat} (h : Lst w (.slice (some ⟨g, 0, none⟩) n c) l) : ∃ cur, Blk w g 56 cur ∧ cur.size = c * 2 ∧ cur.toList.take (n * 2) = scells l ∧ n = l.length ∧ n ≤ c ∧ c ≤ maxLen := by
  rcases h.2 with ⟨h1, _⟩ | ⟨g', cap, cur, h1, _, h3, h4, h5, h6, h7⟩
  · cases h1
  · cases h1
    exact ⟨cur, h3, h6, h7, rfl, h4, h5⟩
theorem Lst.of_blk {g n c : Nat} {cur : Array Value} (hb : Blk w g 56 cur) (hs : cur.size = c * 2) (ht : cur.toList.take (n * 2) = scells l) (hn : n = l.length) (hc : n ≤ c) (hm : c ≤ maxLen) : Lst w (.slice (some ⟨g, 0, none⟩) n c) l := by
  subst hn
  exact ⟨scells_len l, .inr ⟨g, c, cur, rfl, Nat.zero_le _, hb, hc, hm, hs, ht⟩⟩
/-- an element is stored -/
theorem Lst.stored {g n c : Nat} (h : Lst w (.slice (some ⟨g, 0, none⟩) n c) l) (i : Nat) (hi : i < l.length) (q : ByteArray × Nat) :
    Lst ((w.setCell ⟨g, i * 2, none⟩ (.string q.1)).setCell ⟨g, i * 2 + 1, none⟩ (.int .u64 (q.2 : Int))) (.slice (some ⟨g, 0, none⟩) n c) (l.set i q) := by
  obtain ⟨cur, hb, hs, ht, hn, hc, hm⟩ := h.blk
  have hb2 := (hb.set_ (i * 2) (.string q.1)).set_ (i * 2 + 1) (.int .u64 (q.2 : Int))
  refine Lst.of_blk hb2 (by simpa using hs) ?_ (by simpa using hn) hc hm
  have e : l.set i q = l.take i ++ q :: l.drop (i + 1) := List.set_eq_take_append_cons_drop.trans (if_pos hi)
  apply List.ext_getElem?
  intro j
  rw [List.getElem?_take]
  by_cases hj : j < n * 2
  · rw [if_pos hj]
    obtain ⟨a, b, hb2, rfl⟩ : ∃ a b, b < 2 ∧ j = a * 2 + b := ⟨j / 2, j % 2, Nat.mod_lt _ (by omega), by omega⟩
    rw [scells_at _ a b (by simp; omega) hb2]
    have hold : cur[a * 2 + b]? = (scell (l[a]'(by omega)))[b]? := by
      rw [← scells_at l a b (by omega) hb2, ← ht, List.getElem?_take, if_pos hj]
      simp
    have hsz : a * 2 + b < cur.size := by rw [hs]; omega
    rw [List.getElem_set]
    by_cases ha : i = a
    · subst ha
      rw [if_pos rfl]
      have : b = 0 ∨ b = 1 := by omega
      rcases this with rfl | rfl
      · simp only [Array.getElem?_toList, Array.getElem?_setIfInBounds, Nat.add_zero, scell, List.getElem?_cons_zero]
        rw [if_neg (by omega)]
        rw [if_pos trivial, if_pos (by omega)]
      · simp only [Array.getElem?_toList, Array.getElem?_setIfInBounds, scell, List.getElem?_cons_zero, List.getElem?_cons_succ]
        rw [if_pos trivial, if_pos (by simp; omega)]
    · rw [if_neg ha, ← hold]
      simp only [Array.getElem?_toList, Array.getElem?_setIfInBounds]
      rw [if_neg (by omega), if_neg (by omega)]
  · rw [if_neg hj]
    symm
    apply List.getElem?_eq_none
    rw [scells_len, List.length_set]
    omega
theorem Lst.cut {g n c k : Nat} (h : Lst w (.slice (some ⟨g, 0, none⟩) n c) l) (hk : k ≤ l.length) : Lst w (.slice (some ⟨g, 0, none⟩) k c) (l.take k) := by
  obtain ⟨cur, hb, hs, ht, hn, hc, hm⟩ := h.blk
  refine Lst.of_blk hb hs ?_ (by simp; omega) (by omega) hm
  rw [← scells_take l k hk, ← ht, List.take_take, Nat.min_eq_left (by omega)]
end
end Go.Proofs.Ytdloapfifhelbaa
