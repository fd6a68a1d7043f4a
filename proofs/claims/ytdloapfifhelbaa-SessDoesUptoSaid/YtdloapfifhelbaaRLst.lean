/-
  The reference's list of sessions in memory (printed by rlst.py out of XLst).
-/
import Derived.Test.YtdloapfifhelbaaKeep
import Derived.Test.YtdloapfifhelbaaRefMac2
namespace Go.Proofs.Ytdloapfifhelbaa
open Go.RowKit
def RLst (w : World) (v : Value) (l : List (ByteArray × Nat)) : Prop := w.ownsRow 0 62 2 v l.length (scells l)
section
variable {w w' : World} {v : Value} {l : List (ByteArray × Nat)}
theorem RLst.grown (h : RLst w v l) (y : w.grownBy w' none) : RLst w' v l := own_chg h (Chg.of_none (S := fun _ => False) y) fun _ _ h => h
theorem RLst.drewN (h : RLst w v l) (n : Nat) : RLst (w.drewN n) v l := h
theorem RLst.drew (h : RLst w v l) : RLst w.drew v l := h
theorem RLst.nil_ (w : World) : RLst w (.slice none 0 0) [] := World.ownsRow_nil _ _ _ _
theorem RLst.lt (h : RLst w v l) {g : Nat} (hg : v.ownBlock = some g) : g < w.heap.size := (World.ownsRow.lt h g hg).2
theorem RLst.at_ (h : RLst w v l) : ∃ A c, v = .slice A l.length c ∧ l.length ≤ c ∧ c ≤ maxLen ∧ (A = none → l = [] ∧ c = 0) ∧ (∀ g, A = some ⟨g, 0, none⟩ → v.ownBlock = some g) ∧
    (0 < l.length → ∃ g, A = some ⟨g, 0, none⟩) ∧ (∀ a, A = some a → ∃ g, a = ⟨g, 0, none⟩) := by
  rcases h.2 with ⟨rfl, h0⟩ | ⟨g, cap, cur, rfl, _, h3, h4, h5, h6, h7⟩
  · have : l = [] := List.eq_nil_of_length_eq_zero h0
    subst this
    exact ⟨none, 0, rfl, Nat.le_refl _, by unfold maxLen; omega, fun _ => ⟨rfl, rfl⟩, (fun g e => nomatch e), fun h => absurd h (by simp), (fun a e => nomatch e)⟩
  · exact ⟨some ⟨g, 0, none⟩, cap, rfl, h4, h5, (fun e => nomatch e), fun g' e => by cases e; rfl, fun _ => ⟨g, rfl⟩, fun a e => by cases e; exact ⟨g, rfl⟩⟩
theorem RLst.cellAt {g n c : Nat} (h : RLst w (.slice (some ⟨g, 0, none⟩) n c) l) (i : Nat) (hi : i < l.length) : w.cell? ⟨g, i * 2, none⟩ = some (.string l[i].1) ∧ w.cell? ⟨g, i * 2 + 1, none⟩ = some (.int .u64 (l[i].2 : Int)) := by
  have h0 := scells_at l i 0 hi (by omega)
  have h1 := scells_at l i 1 hi (by omega)
  have c0 := h.cells (g := g) rfl _ _ h0
  have c1 := h.cells (g := g) rfl _ _ h1
  rw [addr_add, Nat.zero_add] at c0 c1
  exact ⟨c0, c1⟩
theorem RLst.blk {g n c : Nat} (h : RLst w (.slice (some ⟨g, 0, none⟩) n c) l) : ∃ cur, Blk w g 62 cur ∧ cur.size = c * 2 ∧ cur.toList.take (n * 2) = scells l ∧ n = l.length ∧ n ≤ c ∧ c ≤ maxLen := by
  rcases h.2 with ⟨h1, _⟩ | ⟨g', cap, cur, h1, _, h3, h4, h5, h6, h7⟩
  · cases h1
  · cases h1
    exact ⟨cur, h3, h6, h7, rfl, h4, h5⟩
theorem RLst.of_blk {g n c : Nat} {cur : Array Value} (hb : Blk w g 62 cur) (hs : cur.size = c * 2) (ht : cur.toList.take (n * 2) = scells l) (hn : n = l.length) (hc : n ≤ c) (hm : c ≤ maxLen) : RLst w (.slice (some ⟨g, 0, none⟩) n c) l := by
  subst hn
  exact ⟨scells_len l, .inr ⟨g, c, cur, rfl, Nat.zero_le _, hb, hc, hm, hs, ht⟩⟩
/-- an element is stored -/
theorem RLst.stored {g n c : Nat} (h : RLst w (.slice (some ⟨g, 0, none⟩) n c) l) (i : Nat) (hi : i < l.length) (q : ByteArray × Nat) :
    RLst ((w.setCell ⟨g, i * 2, none⟩ (.string q.1)).setCell ⟨g, i * 2 + 1, none⟩ (.int .u64 (q.2 : Int))) (.slice (some ⟨g, 0, none⟩) n c) (l.set i q) := by
  obtain ⟨cur, hb, hs, ht, hn, hc, hm⟩ := h.blk
  have hb2 := (hb.set_ (i * 2) (.string q.1)).set_ (i * 2 + 1) (.int .u64 (q.2 : Int))
  refine RLst.of_blk hb2 (by simpa using hs) ?_ (by simpa using hn) hc hm
  have e : l.set i q = l.take i ++ q :: l.drop (i + 1) := List.set_eq_take_append_cons_drop.trans (if_pos hi)
  apply List.ext_getElem?
  intro j
  rw [List.getElem?_take]
  by_cases hj : j < n * 2
  · rw [if_pos hj]
    obtain ⟨a, b, hb2, rfl⟩ : ∃ a b, b < 2 ∧ j = a * 2 + b := ⟨j / 2, j % 2, Nat.mod_lt _ (by omega), by omega⟩
    rw [scells_at _ a b (by simp; omega) hb2]
    have hold : cur[a * 2 + b]? = (scell (l[a]'(by omega)))[b]? := by
      rw [← scells_at l a b (by omega) hb2, ← ht, List.getElem?_take, if_pos hj]
      simp
    have hsz : a * 2 + b < cur.size := by rw [hs]; omega
    rw [List.getElem_set]
    by_cases ha : i = a
    · subst ha
      rw [if_pos rfl]
      have : b = 0 ∨ b = 1 := by omega
      rcases this with rfl | rfl
      · simp only [Array.getElem?_toList, Array.getElem?_setIfInBounds, Nat.add_zero, scell, List.getElem?_cons_zero]
        rw [if_neg (by omega)]
        rw [if_pos trivial, if_pos (by omega)]
      · simp only [Array.getElem?_toList, Array.getElem?_setIfInBounds, scell, List.getElem?_cons_zero, List.getElem?_cons_succ]
        rw [if_pos trivial, if_pos (by simp; omega)]
    · rw [if_neg ha, ← hold]
      simp only [Array.getElem?_toList, Array.getElem?_setIfInBounds]
      rw [if_neg (by omega), if_neg (by omega)]
  · rw [if_neg hj]
    symm
    apply List.getElem?_eq_none
    rw [scells_len, List.length_set]
    omega
theorem RLst.cut {g n c k : Nat} (h : RLst w (.slice (some ⟨g, 0, none⟩) n c) l) (hk : k ≤ l.length) : RLst w (.slice (some ⟨g, 0, none⟩) k c) (l.take k) := by
  obtain ⟨cur, hb, hs, ht, hn, hc, hm⟩ := h.blk
  refine RLst.of_blk hb hs ?_ (by simp; omega) (by omega) hm
  rw [← scells_take l k hk, ← ht, List.take_take, Nat.min_eq_left (by omega)]
end
end Go.Proofs.Ytdloapfifhelbaa
