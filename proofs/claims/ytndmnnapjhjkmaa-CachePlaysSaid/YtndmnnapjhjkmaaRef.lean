/-
  The document's cache: its list of pairs, take, first.
-/
import Derived.Test.YtndmnnapjhjkmaaLastP
import Derived.Test.YtndmnnapjhjkmaaAppend
namespace Go.Proofs.Ytndmnnapjhjkmaa
open Go.RowKit iStrRes

def pcell (q : ByteArray × RV) : List Value := [.string q.1, .slice q.2.d.1 q.2.d.2.1 q.2.d.2.2, .string q.2.p, .bool q.2.b, .slice q.2.vs.1 q.2.vs.2.1 q.2.vs.2.2, .slice q.2.ts.1 q.2.ts.2.1 q.2.ts.2.2, .int .u64 q.2.c]
def pcells (ps : List (ByteArray × RV)) : List Value := ps.flatMap pcell
theorem pcells_app (a b : List (ByteArray × RV)) : pcells (a ++ b) = pcells a ++ pcells b := by simp [pcells]
theorem pcells_cons (q : ByteArray × RV) (b : List (ByteArray × RV)) : pcells (q :: b) = pcell q ++ pcells b := by simp [pcells]
theorem pcells_len : ∀ (a : List (ByteArray × RV)), (pcells a).length = a.length * 7
  | [] => rfl
  | q :: a => by rw [pcells_cons, List.length_append, pcells_len a, List.length_cons, Nat.succ_mul, Nat.add_comm]; rfl
theorem pcells_one (a : List (ByteArray × RV)) : ∀ u ∈ pcells a, u.oneCell' = true := by
  intro u hu
  simp only [pcells, List.mem_flatMap] at hu
  obtain ⟨q, _, hu⟩ := hu
  simp [pcell] at hu
  rcases hu with rfl | rfl | rfl | rfl | rfl | rfl | rfl <;> rfl
theorem pcells_at (l1 : List (ByteArray × RV)) (q : ByteArray × RV) (l2 : List (ByteArray × RV)) (j : Nat) (hj : j < 7) : (pcells (l1 ++ q :: l2))[l1.length * 7 + j]? = (pcell q)[j]? := by
  rw [pcells_app, pcells_cons, List.getElem?_append_right (by rw [pcells_len]; omega), pcells_len, List.getElem?_append_left (by simp [pcell]; omega)]
  congr 1
  omega
theorem pcells_drop (l1 l2 : List (ByteArray × RV)) : (pcells (l1 ++ l2)).drop (l1.length * 7) = pcells l2 := by
  rw [pcells_app, ← pcells_len, List.drop_left]
theorem pcells_take (l1 l2 : List (ByteArray × RV)) : (pcells (l1 ++ l2)).take (l1.length * 7) = pcells l1 := by
  rw [pcells_app, ← pcells_len, List.take_left]

structure RefAt (w : World) (r : Nat) (cap : Int) (ps : List (ByteArray × RV)) : Prop where
  ex : ∃ v, Blk w r 28 #[.int .i64 cap, v] ∧ w.ownsRow 0 66 7 v ps.length (pcells ps)
theorem RefAt.chg {w w' : World} {r : Nat} {cap : Int} {ps : List (ByteArray × RV)} {S : Nat → Prop} (h : RefAt w r cap ps) (hc : Chg w w' S) (hS : ∀ g t cs, Blk w g t cs → (t = 28 ∨ t = 66) → ¬ S g) : RefAt w' r cap ps := by
  obtain ⟨v, hb, ho⟩ := h
  refine ⟨v, hb.chg hc (hS _ _ _ hb (.inl rfl)), own_chg ho hc fun g hg => ?_⟩
  rcases ho.2 with ⟨h1, _⟩ | ⟨g', cap', cur, h1, _, h3, _⟩
  · rw [h1] at hg; cases hg
  · rw [h1] at hg
    have e : g' = g := by simpa [Value.ownBlock] using hg
    subst e
    exact hS _ _ _ h3 (.inr rfl)
theorem RefAt.grown {w w' : World} {r : Nat} {cap : Int} {ps : List (ByteArray × RV)} (h : RefAt w r cap ps) (y : w.grownBy w' none) : RefAt w' r cap ps :=
  h.chg (Chg.of_none (S := fun _ => False) y) fun _ _ _ _ _ h => h
theorem own_at {w : World} {n : Nat} {v : Value} {xs : List Value} (h : w.ownsRow 0 66 7 v n xs) : ∃ A c, v = .slice A n c ∧ n ≤ c ∧ c ≤ maxLen ∧ (A = none → n = 0 ∧ c = 0) ∧ (0 < n → ∃ g, A = some ⟨g, 0, none⟩ ∧ g < w.heap.size ∧ ∀ j u, xs[j]? = some u → w.cell? ⟨g, j, none⟩ = some u) := by
  rcases h.2 with ⟨rfl, rfl⟩ | ⟨g, cap, cur, rfl, _, h3, h4, h5, h6, h7⟩
  · exact ⟨none, 0, rfl, Nat.le_refl _, by unfold maxLen; omega, fun _ => ⟨rfl, rfl⟩, fun h => absurd h (by omega)⟩
  · refine ⟨some ⟨g, 0, none⟩, cap, rfl, h4, h5, (fun e => nomatch e), fun _ => ⟨g, rfl, Blk.lt h3, fun j u hu => ?_⟩⟩
    have := h.cells (g := g) rfl j u hu
    rw [addr_add, Nat.zero_add] at this
    exact this
theorem infoPair : (Try.prog.info? 66).map (fun i => (i.zero, i.size, i.bytes)) = some (some (.agg #[.string ⟨#[]⟩, .slice none 0 0, .string ⟨#[]⟩, .bool false, .slice none 0 0, .slice none 0 0, .int .u64 0]), 7, 120) := by kernel_rfl
theorem sz7 (k p : ByteArray) (d v t : Option Addr × Nat × Nat) (b : Bool) (c : Int) : (Try.prog.info? 66).map (·.size) = some (#[.string k, .slice d.1 d.2.1 d.2.2, .string p, .bool b, .slice v.1 v.2.1 v.2.2, .slice t.1 t.2.1 t.2.2, .int .u64 c] : Array Value).size := by
  show _ = some 7
  kernel_rfl
theorem one7 (k p : ByteArray) (d v t : Option Addr × Nat × Nat) (b : Bool) (c : Int) : (#[.string k, .slice d.1 d.2.1 d.2.2, .string p, .bool b, .slice v.1 v.2.1 v.2.2, .slice t.1 t.2.1 t.2.2, .int .u64 c] : Array Value).all (·.oneCell') = true := by
  simp [Value.oneCell']
theorem tl_ne {a b : ByteArray} (h : a ≠ b) : (a.toList == b.toList) = false := by
  rw [ByteArray.toList_eq, ByteArray.toList_eq]
  refine beq_eq_false_iff_ne.2 fun e => h (ByteArray.ext (Array.toList_inj.1 e))
theorem tl_eq (a : ByteArray) : (a.toList == a.toList) = true := by simp
end Go.Proofs.Ytndmnnapjhjkmaa
