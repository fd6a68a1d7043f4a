/-
  Nodes of a ring in memory, and what changes them: plain laws, no function of the program.
-/
import Derived.Test.YtndmnnapjhjkmaaBase
import Derived.BigRegion
import Derived.Maps.OwnSet
namespace Go.Proofs.Ytndmnnapjhjkmaa
open Go.RowKit

/-- Only the blocks of S, and what is new, have turned. -/
structure Chg (w w' : World) (S : Nat → Prop) : Prop where
  os : w'.os = w.os
  tape : w'.tape = w.tape
  output : w'.output = w.output
  size : w.heap.size ≤ w'.heap.size
  block : ∀ k, k < w.heap.size → ¬ S k → w'.heap[k]? = w.heap[k]?

section
variable {w w' w'' : World} {S T : Nat → Prop} {g : Nat} {t : TypeId} {cs : Array Value}
theorem Chg.refl (w : World) (S : Nat → Prop) : Chg w w S := ⟨rfl, rfl, rfl, Nat.le_refl _, fun _ _ _ => rfl⟩
theorem Chg.of_by {row : Option Nat} (h : w.grownBy w' row) (hr : ∀ g, row = some g → S g) : Chg w w' S :=
  ⟨h.os, h.tape, h.output, h.size, fun k hk hS => h.block k hk (fun e => hS (hr k e.symm))⟩
theorem Chg.of_none (h : w.grownBy w' none) : Chg w w' S := Chg.of_by h (by simp)
theorem Chg.trans (h : Chg w w' S) (h2 : Chg w' w'' T) (hT : ∀ k, T k → S k ∨ w.heap.size ≤ k) : Chg w w'' S :=
  ⟨h2.os.trans h.os, h2.tape.trans h.tape, h2.output.trans h.output, Nat.le_trans h.size h2.size, fun k hk hS =>
    (h2.block k (Nat.lt_of_lt_of_le hk h.size) (fun e => by
      rcases hT k e with h1 | h1
      · exact hS h1
      · omega)).trans (h.block k hk hS)⟩
theorem Chg.drew (h : Chg w w' S) : Chg w w'.drew S := ⟨h.os, h.tape, h.output, h.size, h.block⟩
theorem Chg.drewN (h : Chg w w' S) (n : Nat) : Chg w (w'.drewN n) S := ⟨h.os, h.tape, h.output, h.size, h.block⟩
theorem Chg.set_ (h : Chg w w' S) {p : Addr} (hp : S p.block ∨ w.heap.size ≤ p.block) (u : Value) : Chg w (w'.setCell p u) S :=
  ⟨h.os, h.tape, h.output, by simpa [World.setCell] using h.size, fun i hi hne => (Below.heap_setCell w' p u i (by
    rintro rfl
    rcases hp with hp | hp
    · exact hne hp
    · omega)).trans (h.block i hi hne)⟩
theorem Chg.alloc (h : Chg w w' S) (o : Obj) : Chg w (w'.alloc o) S :=
  ⟨h.os, h.tape, h.output, Nat.le_trans h.size (by simp), fun i hi hne => (Below.heap_alloc w' o i (Nat.lt_of_lt_of_le hi h.size)).trans (h.block i hi hne)⟩
theorem Chg.mono (h : Chg w w' S) (hT : ∀ k, k < w.heap.size → S k → T k) : Chg w w' T := ⟨h.os, h.tape, h.output, h.size, fun k hk hn => h.block k hk (fun e => hn (hT k hk e))⟩
theorem Chg.none_ (h : Chg w w' S) (hT : ∀ k, S k → w.heap.size ≤ k) : w.grownBy w' none :=
  ⟨h.os, h.tape, h.output, h.size, fun k hk _ => h.block k hk (fun e => by have := hT k e; omega)⟩
theorem Blk.chg (h : Blk w g t cs) (hc : Chg w w' S) (hg : ¬ S g) : Blk w' g t cs := (hc.block g h.lt hg).trans h
theorem own_chg {base : Nat} {e : TypeId} {size n : Nat} {v : Value} {xs : List Value} (h : w.ownsRow base e size v n xs) (hc : Chg w w' S) (hg : ∀ g, v.ownBlock = some g → ¬ S g) : w'.ownsRow base e size v n xs := by
  refine ⟨h.1, ?_⟩
  rcases h.2 with hn | ⟨g, cap, cur, rfl, hb, hgg, rest⟩
  · exact .inl hn
  · exact .inr ⟨g, cap, cur, rfl, hb, (hc.block g (Array.getElem?_eq_some_iff.1 hgg).1 (hg g rfl)).trans hgg, rest⟩
end

def upd {α : Type} (f : Nat → α) (i : Nat) (x : α) : Nat → α := fun j => if j = i then x else f j
theorem upd_same {α : Type} (f : Nat → α) (i : Nat) (x : α) : upd f i x i = x := by simp [upd]
theorem upd_ne {α : Type} (f : Nat → α) {i j : Nat} (x : α) (h : j ≠ i) : upd f i x j = f j := by simp [upd, h]

/-! ### a ring, as two functions on places -/
def Linked (nx pv : Nat → Nat) : List Nat → Prop
  | x :: y :: l => nx x = y ∧ pv y = x ∧ Linked nx pv (y :: l)
  | _ => True

theorem linked_congr {nx pv nx' pv' : Nat → Nat} : ∀ (l : List Nat), (∀ x ∈ l.dropLast, nx' x = nx x) → (∀ x ∈ l.tail, pv' x = pv x) → Linked nx pv l → Linked nx' pv' l
  | [], _, _, _ => trivial
  | [x], _, _, _ => trivial
  | x :: y :: l, h1, h2, h => by
    obtain ⟨a, b, c⟩ := h
    refine ⟨(h1 x (by simp)).trans a, (h2 y (by simp)).trans b, linked_congr (y :: l) (fun z hz => h1 z (by simp [hz])) (fun z hz => h2 z ?_) c⟩
    simp at hz ⊢
    exact .inr hz

theorem linked_split {nx pv : Nat → Nat} (b : Nat) (l2 : List Nat) : ∀ (l1 : List Nat), Linked nx pv (l1 ++ b :: l2) ↔ Linked nx pv (l1 ++ [b]) ∧ Linked nx pv (b :: l2)
  | [] => by simp [Linked]
  | [x] => by cases l2 <;> simp [Linked, and_assoc]
  | x :: y :: l => by
    have ih := linked_split (nx := nx) (pv := pv) b l2 (y :: l)
    simp only [List.cons_append] at ih ⊢
    simp only [Linked, ih, and_assoc]

/-- a place cut out of the ring -/
theorem ring_cut {nx pv : Nat → Nat} {r p : Nat} {l1 l2 : List Nat} (h : Linked nx pv (r :: (l1 ++ p :: l2) ++ [r])) (hd : (r :: (l1 ++ p :: l2)).Nodup) :
    Linked (upd nx (pv p) (nx p)) (upd pv (nx p) (pv p)) (r :: (l1 ++ l2) ++ [r]) ∧ (pv p = r ∨ pv p ∈ l1) ∧ (nx p = r ∨ nx p ∈ l2) := by
  obtain ⟨A, a, hA⟩ : ∃ A a, r :: l1 = A ++ [a] := ⟨(r :: l1).dropLast, (r :: l1).getLast (by simp), (List.dropLast_concat_getLast (by simp)).symm⟩
  obtain ⟨c, C, hC⟩ : ∃ c C, l2 ++ [r] = c :: C := by
    cases l2 with
    | nil => exact ⟨r, [], rfl⟩
    | cons x l => exact ⟨x, l ++ [r], rfl⟩
  have e1 : r :: (l1 ++ p :: l2) ++ [r] = A ++ a :: p :: c :: C := by
    have : r :: (l1 ++ p :: l2) ++ [r] = (r :: l1) ++ p :: (l2 ++ [r]) := by simp
    rw [this, hA, hC]; simp
  have e2 : r :: (l1 ++ l2) ++ [r] = A ++ a :: c :: C := by
    have : r :: (l1 ++ l2) ++ [r] = (r :: l1) ++ (l2 ++ [r]) := by simp
    rw [this, hA, hC]; simp
  rw [e1, linked_split] at h
  obtain ⟨h1, h2, h3, h4, h5, h6⟩ := h
  have ha : a ∈ r :: l1 := by rw [hA]; simp
  have hc : c ∈ l2 ++ [r] := by rw [hC]; simp
  simp only [List.nodup_cons, List.nodup_append, List.mem_append, List.mem_cons, not_or] at hd
  obtain ⟨⟨hd1, hd2, hd3⟩, hd4, ⟨hd5, hd6⟩, hd7⟩ := hd
  rw [h3, h4, e2, linked_split]
  have hAn : a ∉ A := by
    have : (A ++ [a]).Nodup := by rw [← hA]; exact List.nodup_cons.2 ⟨hd1, hd4⟩
    rw [List.nodup_append] at this
    intro hm
    exact this.2.2 a hm a (by simp) rfl
  have hac : Linked (upd nx a c) (upd pv c a) (A ++ [a]) := by
    refine linked_congr _ (fun x hx => upd_ne _ _ ?_) (fun x hx => upd_ne _ _ ?_) h1
    · rintro rfl
      simp at hx
      exact hAn hx
    · rintro rfl
      rw [← hA] at hx
      simp at hx
      simp at hc
      rcases hc with hc | hc
      · exact hd7 _ hx _ (.inr hc) rfl
      · exact hd1 (hc ▸ hx)
  refine ⟨⟨hac, ?_⟩, by simpa using ha, by
    simp at hc
    exact hc.symm⟩
  refine ⟨upd_same _ _ _, upd_same _ _ _, linked_congr _ (fun x hx => upd_ne _ _ ?_) (fun x hx => upd_ne _ _ ?_) h6⟩
  · rintro rfl
    rw [← hC] at hx
    simp at hx
    simp at ha
    rcases ha with ha | ha
    · exact hd3 (ha ▸ hx)
    · exact hd7 _ ha _ (.inr hx) rfl
  · rintro rfl
    simp at hx
    cases l2 with
    | nil => simp at hC; simp [hC.2] at hx
    | cons y l =>
      simp at hC
      obtain ⟨rfl, rfl⟩ := hC
      simp at hx
      rcases hx with hx | hx
      · exact (List.nodup_cons.1 hd6).1 hx
      · exact hd3 (by simp [hx])

/-- a place made the ring's first one -/
theorem ring_first {nx pv : Nat → Nat} {r p : Nat} {l : List Nat} (h : Linked nx pv (r :: l ++ [r])) (hd : (r :: p :: l).Nodup) :
    Linked (upd (upd nx p (nx r)) r p) (upd (upd pv p r) (nx r) p) (r :: (p :: l) ++ [r]) ∧ (nx r = r ∨ nx r ∈ l) := by
  obtain ⟨c, C, hC⟩ : ∃ c C, l ++ [r] = c :: C := by
    cases l with
    | nil => exact ⟨r, [], rfl⟩
    | cons x l => exact ⟨x, l ++ [r], rfl⟩
  simp only [List.nodup_cons, List.mem_cons, not_or] at hd
  obtain ⟨⟨hd1, hd2⟩, hd3, hd4⟩ := hd
  simp only [List.cons_append] at h ⊢
  rw [hC] at h ⊢
  obtain ⟨h1, h2, h3⟩ := h
  have hc : c ∈ l ++ [r] := by rw [hC]; simp
  simp at hc
  have hcp : c ≠ p := by
    rintro rfl
    rcases hc with hc | hc
    · exact hd3 hc
    · exact hd1 hc.symm
  rw [h1]
  refine ⟨⟨upd_same _ _ _, ?_, ?_, upd_same _ _ _, linked_congr _ (fun x hx => ?_) (fun x hx => ?_) h3⟩, hc.symm⟩
  · rw [upd_ne _ _ (Ne.symm hcp), upd_same]
  · rw [upd_ne _ _ (Ne.symm hd1), upd_same]
  · rw [← hC] at hx
    simp at hx
    rw [upd_ne, upd_ne]
    · rintro rfl; exact hd3 hx
    · rintro rfl; exact hd2 hx
  · simp at hx
    have hx' : x ≠ c := by
      rintro rfl
      cases l with
      | nil => simp at hC; simp [hC.2] at hx
      | cons y l' =>
        simp at hC
        obtain ⟨rfl, rfl⟩ := hC
        simp at hx
        rcases hx with hx | hx
        · exact (List.nodup_cons.1 hd4).1 hx
        · exact hd2 (by simp [hx])
    have hx2 : x ∈ l ++ [r] := by rw [hC]; simp [hx]
    simp at hx2
    rw [upd_ne _ _ hx', upd_ne]
    rintro rfl
    rcases hx2 with hx2 | hx2
    · exact hd3 hx2
    · exact hd1 hx2.symm

end Go.Proofs.Ytndmnnapjhjkmaa
