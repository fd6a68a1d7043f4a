/-
  '==' between two arrays of 32 bytes.
-/
import Derived.Test.YtdloapfifhelbaaWorks
import Derived.ChangeKeysEq
namespace Go.Proofs.Ytdloapfifhelbaa
open Go.RowKit

theorem u8s_get (l : List UInt8) (j : Nat) (h : j < l.length) : (u8s l)[j]? = some (.int .u8 ((l.getD j 0).toNat : Int)) := by
  simp [u8s, List.getD, List.getElem?_eq_getElem h]
theorem part_byte (l : List UInt8) (j : Nat) (h : j < l.length) (W : World) : (part 5 (u8s l).toArray (j * 1)).run Try.prog W = .ok (.int .u8 ((l.getD j 0).toNat : Int)) W := by
  have hz : ∀ w, (Go.sizeOf 5).run Try.prog w = .ok 1 w := fun _ => by kernel_rfl
  have hc := u8s_get l j h
  simp [part, hz, hc]
theorem items_eq (xs ys : List UInt8) (W : World) : ∀ is : List Nat, (∀ i ∈ is, i < xs.length ∧ i < ys.length) →
    (Op.eqItems 9999 5 1 (u8s xs).toArray (u8s ys).toArray is).run Try.prog W = .ok (is.all fun i => xs.getD i 0 == ys.getD i 0) W
  | [], _ => by simp [Op.eqItems]
  | i :: is, h => by
    have h1 := h i (List.mem_cons_self ..)
    have ih := items_eq xs ys W is fun j hj => h j (List.mem_cons_of_mem _ hj)
    have he : ∀ a b : UInt8, (Op.equalIn 9999 5 (.int .u8 (a.toNat : Int)) (.int .u8 (b.toNat : Int))).run Try.prog W = .ok (a == b) W := fun a b => by
      rw [run_equalIn_int W 9998 5 .u8 .u8 _ _ Try.underlying5]
      congr 1
      rw [Bool.eq_iff_iff]
      simp [← UInt8.toNat_inj]
      omega
    simp only [Op.eqItems, Sem.run_bind, part_byte xs i h1.1, part_byte ys i h1.2, Result.andThen_ok, he]
    by_cases hh : xs.getD i 0 == ys.getD i 0
    · rw [List.all_cons, hh]; simpa using ih
    · rw [List.all_cons, Bool.eq_false_iff.2 hh]; simp
theorem eq_row (xs ys : List UInt8) (hx : xs.length = 32) (hy : ys.length = 32) (W : World) :
    (Op.equalIn 10000 44 (.agg (u8s xs).toArray) (.agg (u8s ys).toArray)).run Try.prog W = .ok (decide (xs = ys)) W := by
  obtain ⟨i5, h5⟩ : ∃ i, Try.prog.info? 5 = some i := ⟨_, rfl⟩
  have hu : Try.prog.underlying 44 = some (.array 32 5) := by kernel_rfl
  have hc : Try.prog.cellsOf 5 = 1 := by kernel_rfl
  rw [run_equalIn_array W 9999 _ _ hu h5, hc, items_eq xs ys W _ (fun i hi => by have := List.mem_range.1 hi; omega)]
  congr 1
  rw [Bool.eq_iff_iff]
  simp only [List.all_eq_true, List.mem_range, beq_iff_eq, decide_eq_true_eq]
  constructor
  · intro h
    apply List.ext_getElem (by omega)
    intro i h1 h2
    have := h i (by omega)
    simpa [List.getD, List.getElem?_eq_getElem h1, List.getElem?_eq_getElem h2] using this
  · intro h i _; rw [h]
end Go.Proofs.Ytdloapfifhelbaa
