/-
  cache.own: a list that shares nothing, for both kinds of elements (own.py).
-/
import Derived.Test.YtndmnnapjhjkmaaOwnP
namespace Go.Proofs.Ytndmnnapjhjkmaa
open Go.RowKit
/-- a slice of n elements of k cells each reads as those cells -/
structure Src (w : World) (A : Option Addr) (n k : Nat) (cs : List Value) : Prop where
  len : cs.length = n * k
  at_ : 0 < n → ∃ b off, A = some ⟨b, off, none⟩ ∧ ∀ j v, cs[j]? = some v → w.cell? ⟨b, off + j, none⟩ = some v
  one : ∀ v ∈ cs, v.oneCell' = true
  few : n ≤ 1000
theorem addr_add (b off i : Nat) : (⟨b, off, none⟩ : Addr).add i = ⟨b, off + i, none⟩ := by unfold Addr.add; split <;> simp_all
theorem info_some {P : Program} {t : TypeId} {z : Value} {a b : Nat} (h : (P.info? t).map (fun i => (i.zero, i.size, i.bytes)) = some (some z, a, b)) : ∃ i, P.info? t = some i ∧ i.zero = some z ∧ i.size = a ∧ i.bytes = b := by
  cases hq : P.info? t with
  | none => simp [hq] at h
  | some i => simp [hq] at h; exact ⟨i, rfl, h.1, h.2.1, h.2.2⟩

def OwnQDiag (w : World) (n : Nat) (cs : List Value) (e : Ending) (w' : World) : Prop :=
  ∃ g, e = .returned (.slice (some ⟨g, 0, none⟩) n n) ∧ w.heap.size ≤ g ∧ Blk w' g 50 cs.toArray ∧ w.grownBy w' none
theorem infoDiag : (Try.prog.info? 50).map (fun i => (i.zero, i.size, i.bytes)) = some (some (.agg #[.string ⟨#[]⟩, .int .i64 0, .int .i64 0]), 3, 32) := by kernel_rfl
set_option maxHeartbeats 400000 in
theorem ownDiag_any (w : World) (A : Option Addr) (n c : Nat) (cs : List Value) (h : Src w A n 3 cs) (hA : A = none → n = 0 ∧ c = 0) :
    Calls Try.prog 28 #[.slice A n c] w (OwnQDiag w n cs) := by
  obtain ⟨i0, hi, hz0, hz1, hz2⟩ := info_some infoDiag
  have hfew := h.few
  have hmk := run_makeSlice (P := Try.prog) (w := w) 32 50 i0 _ Try.underlying32 hi hz0 .i64 .i64 (n : Int) (n : Int) (by omega) (Int.le_refl _) (by rw [hz1]; simp only [Int.toNat_natCast]; omega) (by rw [hz2]; omega) (by omega)
  simp only [Int.toNat_natCast, hz1] at hmk
  obtain ⟨cur, hcur⟩ : ∃ cur, madeCells (Value.agg #[.string ⟨#[]⟩, .int .i64 0, .int .i64 0]).cells (n * 3) = cur := ⟨_, rfl⟩
  have hsz : cur.size = n * 3 := by rw [← hcur]; simp [madeCells]
  rw [hcur] at hmk
  have hB : Blk (w.alloc (.cells cur 50)) w.heap.size 50 cur := Blk.new w _ _
  have hby : w.grownBy (w.alloc (.cells cur 50)) none := by_alloc (by_refl _ _) _
  generalize w.alloc (.cells cur 50) = w1 at *
  obtain ⟨w2, hcp, hB2, hby2⟩ : ∃ w2, (∀ ty, (Builtin.copy_ #[32, 32] ty #[.slice (some ⟨w.heap.size, 0, none⟩) n n, .slice A n c]).run Try.prog w1 = .ok (.int .i64 (n : Int)) w2) ∧ Blk w2 w.heap.size 50 cs.toArray ∧ w.grownBy w2 none := by
    cases A with
    | none =>
      obtain ⟨rfl, rfl⟩ := hA rfl
      have hcs : cs = [] := List.eq_nil_of_length_eq_zero (by have := h.len; omega)
      have hc0 : cur = #[] := Array.eq_empty_of_size_eq_zero (by omega)
      have hS : ((Try.prog.info? 50).map (·.size)).isSome = true := by rw [hi]; rfl
      refine ⟨w1, fun ty => ?_, by rw [hcs, ← hc0]; exact hB, hby⟩
      have := run_copy_nil (P := Try.prog) w1 32 32 ty 50 ⟨w.heap.size, 0, none⟩ 0 0 Try.underlying32 hS
      simpa [goInt] using this
    | some a =>
      have hS : (Try.prog.info? 50).map (·.size) = some 3 := by rw [hi, ← hz1]; rfl
      have hmin : Nat.min n n = n := Nat.min_self n
      refine ⟨w1.setRow w.heap.size (cs ++ cur.toList.drop cs.length).toArray, fun ty => ?_, ?_, ?_⟩
      · have := run_copy_many (P := Try.prog) w1 32 32 ty 50 w.heap.size 3 n n a n c cur _ cs Try.underlying32 hS hB (by rw [hmin]; exact h.len) (fun j v hv => by
          have hj := (List.getElem?_eq_some_iff.1 hv).1
          have hl := h.len
          obtain ⟨b, off, e, hc⟩ := h.at_ (by omega)
          injection e with e
          subst e
          rw [addr_add]
          exact hby.cell (hc j v hv) (by simp)) (by rw [hsz]; exact Nat.le_of_eq h.len) h.one
        rw [hmin] at this
        exact this
      · have e : (cs ++ cur.toList.drop cs.length).toArray = cs.toArray := by
          rw [List.drop_of_length_le (by rw [Array.length_toList, hsz, h.len]; exact Nat.le_refl _), List.append_nil]
        rw [e]
        exact setRow_heap w1 _ _ _ _ _ hB
      · exact ⟨hby.os, hby.tape, hby.output, by simpa using hby.size, fun k hk hne => by rw [setRow_other _ _ _ _ (by omega)]; exact hby.block k hk hne⟩
  have Hf := Lib.hid (And.intro hB2 hby2)
  clear hB hby hB2 hby2 hcur hsz hi hz0 hz1 hz2 h hA
  go_enter Try.func28, Try.ntmps28
  go_wp2
  go_ret
  exact ⟨w.heap.size, rfl, Nat.le_refl _, Hf.out.1, Hf.out.2⟩

def OwnQExport (w : World) (n : Nat) (cs : List Value) (e : Ending) (w' : World) : Prop :=
  ∃ g, e = .returned (.slice (some ⟨g, 0, none⟩) n n) ∧ w.heap.size ≤ g ∧ Blk w' g 53 cs.toArray ∧ w.grownBy w' none
theorem infoExport : (Try.prog.info? 53).map (fun i => (i.zero, i.size, i.bytes)) = some (some (.agg #[.string ⟨#[]⟩, .pointer none]), 2, 24) := by kernel_rfl
set_option maxHeartbeats 400000 in
theorem ownExport_any (w : World) (A : Option Addr) (n c : Nat) (cs : List Value) (h : Src w A n 2 cs) (hA : A = none → n = 0 ∧ c = 0) :
    Calls Try.prog 29 #[.slice A n c] w (OwnQExport w n cs) := by
  obtain ⟨i0, hi, hz0, hz1, hz2⟩ := info_some infoExport
  have hfew := h.few
  have hmk := run_makeSlice (P := Try.prog) (w := w) 33 53 i0 _ Try.underlying33 hi hz0 .i64 .i64 (n : Int) (n : Int) (by omega) (Int.le_refl _) (by rw [hz1]; simp only [Int.toNat_natCast]; omega) (by rw [hz2]; omega) (by omega)
  simp only [Int.toNat_natCast, hz1] at hmk
  obtain ⟨cur, hcur⟩ : ∃ cur, madeCells (Value.agg #[.string ⟨#[]⟩, .pointer none]).cells (n * 2) = cur := ⟨_, rfl⟩
  have hsz : cur.size = n * 2 := by rw [← hcur]; simp [madeCells]
  rw [hcur] at hmk
  have hB : Blk (w.alloc (.cells cur 53)) w.heap.size 53 cur := Blk.new w _ _
  have hby : w.grownBy (w.alloc (.cells cur 53)) none := by_alloc (by_refl _ _) _
  generalize w.alloc (.cells cur 53) = w1 at *
  obtain ⟨w2, hcp, hB2, hby2⟩ : ∃ w2, (∀ ty, (Builtin.copy_ #[33, 33] ty #[.slice (some ⟨w.heap.size, 0, none⟩) n n, .slice A n c]).run Try.prog w1 = .ok (.int .i64 (n : Int)) w2) ∧ Blk w2 w.heap.size 53 cs.toArray ∧ w.grownBy w2 none := by
    cases A with
    | none =>
      obtain ⟨rfl, rfl⟩ := hA rfl
      have hcs : cs = [] := List.eq_nil_of_length_eq_zero (by have := h.len; omega)
      have hc0 : cur = #[] := Array.eq_empty_of_size_eq_zero (by omega)
      have hS : ((Try.prog.info? 53).map (·.size)).isSome = true := by rw [hi]; rfl
      refine ⟨w1, fun ty => ?_, by rw [hcs, ← hc0]; exact hB, hby⟩
      have := run_copy_nil (P := Try.prog) w1 33 33 ty 53 ⟨w.heap.size, 0, none⟩ 0 0 Try.underlying33 hS
      simpa [goInt] using this
    | some a =>
      have hS : (Try.prog.info? 53).map (·.size) = some 2 := by rw [hi, ← hz1]; rfl
      have hmin : Nat.min n n = n := Nat.min_self n
      refine ⟨w1.setRow w.heap.size (cs ++ cur.toList.drop cs.length).toArray, fun ty => ?_, ?_, ?_⟩
      · have := run_copy_many (P := Try.prog) w1 33 33 ty 53 w.heap.size 2 n n a n c cur _ cs Try.underlying33 hS hB (by rw [hmin]; exact h.len) (fun j v hv => by
          have hj := (List.getElem?_eq_some_iff.1 hv).1
          have hl := h.len
          obtain ⟨b, off, e, hc⟩ := h.at_ (by omega)
          injection e with e
          subst e
          rw [addr_add]
          exact hby.cell (hc j v hv) (by simp)) (by rw [hsz]; exact Nat.le_of_eq h.len) h.one
        rw [hmin] at this
        exact this
      · have e : (cs ++ cur.toList.drop cs.length).toArray = cs.toArray := by
          rw [List.drop_of_length_le (by rw [Array.length_toList, hsz, h.len]; exact Nat.le_refl _), List.append_nil]
        rw [e]
        exact setRow_heap w1 _ _ _ _ _ hB
      · exact ⟨hby.os, hby.tape, hby.output, by simpa using hby.size, fun k hk hne => by rw [setRow_other _ _ _ _ (by omega)]; exact hby.block k hk hne⟩
  have Hf := Lib.hid (And.intro hB2 hby2)
  clear hB hby hB2 hby2 hcur hsz hi hz0 hz1 hz2 h hA
  go_enter Try.func29, Try.ntmps29
  go_wp2
  go_ret
  exact ⟨w.heap.size, rfl, Nat.le_refl _, Hf.out.1, Hf.out.2⟩
end Go.Proofs.Ytndmnnapjhjkmaa
