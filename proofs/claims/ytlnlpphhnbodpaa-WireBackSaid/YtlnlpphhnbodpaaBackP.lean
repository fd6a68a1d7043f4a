/-
  Lists cut short, and rows of texts: lemmas for WireBack.
-/
import Derived.Test.YtlnlpphhnbodpaaPutsLaw
namespace Go.Proofs.Ytlnlpphhnbodpaa
open Go.RowKit

theorem nums_cut {w : World} {A : Option Addr} {l : List Int} {c m : Nat} (h : Nums w .u64 (.slice A l.length c) l) (hm : m ≤ l.length) : ∃ A1,
    (∀ W, (Instr.slice 22 (.slice A l.length c) none (some (.int .i64 (m : Int))) none).run Try.prog W = .ok (.slice A1 m c) W) ∧ Nums w .u64 (.slice A1 (l.take m).length c) (l.take m) := by
  obtain ⟨A', cap, e, h1, h2⟩ := h
  injection e with e1 e2 e3
  subst e1; subst e3
  have hz : ∀ w, (Go.sizeOf 25).run Try.prog w = .ok 1 w := fun _ => by kernel_rfl
  have he : Try.prog.elem 22 = 25 := by kernel_rfl
  have hlen : (l.take m).length = m := by rw [List.length_take]; omega
  refine ⟨if c = 0 then A else A.map (·.add 0), fun W => ?_, _, c, rfl, by rw [hlen]; omega, fun hp => ?_⟩
  · rw [run_slice_h W 22 _ _ _ rfl .i64 _ (by omega) (by omega), he, hz]
    simp [Result.andThen, sliced]
  · rw [hlen] at hp
    obtain ⟨b, off, rfl, hb, hc⟩ := h2 (by omega)
    refine ⟨b, off, ?_, hb, fun i hi => ?_⟩
    · rw [if_neg (by omega), Option.map_some, addr_add]; rfl
    · rw [hlen] at hi
      rw [hc i (by omega), List.getElem_take]
theorem strs_cut {w : World} {A : Option Addr} {l : List ByteArray} {c m : Nat} (h : Strs w (.slice A l.length c) l) (hm : m ≤ l.length) : ∃ A1,
    (∀ W, (Instr.slice 23 (.slice A l.length c) none (some (.int .i64 (m : Int))) none).run Try.prog W = .ok (.slice A1 m c) W) ∧ Strs w (.slice A1 (l.take m).length c) (l.take m) := by
  obtain ⟨A', cap, e, h1, h2⟩ := h
  injection e with e1 e2 e3
  subst e1; subst e3
  have hz : ∀ w, (Go.sizeOf 9).run Try.prog w = .ok 1 w := fun _ => by kernel_rfl
  have he : Try.prog.elem 23 = 9 := by kernel_rfl
  have hlen : (l.take m).length = m := by rw [List.length_take]; omega
  refine ⟨if c = 0 then A else A.map (·.add 0), fun W => ?_, _, c, rfl, by rw [hlen]; omega, fun hp => ?_⟩
  · rw [run_slice_h W 23 _ _ _ rfl .i64 _ (by omega) (by omega), he, hz]
    simp [Result.andThen, sliced]
  · rw [hlen] at hp
    obtain ⟨b, off, rfl, hb, hc⟩ := h2 (by omega)
    refine ⟨b, off, ?_, hb, fun i hi => ?_⟩
    · rw [if_neg (by omega), Option.map_some, addr_add]; rfl
    · rw [hlen] at hi
      rw [hc i (by omega), List.getElem_take]

/-- integers that are no less than nought, as such -/
def nats (l : List Int) : List Nat := l.map Int.toNat
theorem nats_at {l : List Int} {j : Nat} (hw : ∀ z ∈ l, (Lit.int .u64 z).wf = true) (h : j < l.length) : ∃ n : Nat, l[j] = (n : Int) ∧ n ≤ 18446744073709551615 ∧ (nats l)[j]? = some n := by
  obtain ⟨n, hn, hn2⟩ := bounds_u64 (hw l[j] (List.getElem_mem h))
  refine ⟨n, hn, hn2, ?_⟩
  unfold nats
  rw [List.getElem?_map, List.getElem?_eq_getElem h, hn]
  rfl
theorem nats_ok {l : List Int} (hw : ∀ z ∈ l, (Lit.int .u64 z).wf = true) : ∀ n ∈ nats l, n ≤ 18446744073709551615 := by
  intro n hn
  obtain ⟨z, hz, rfl⟩ := List.mem_map.1 hn
  obtain ⟨m, rfl, hm⟩ := bounds_u64 (hw z hz)
  simpa using hm
theorem nats_len (l : List Int) : (nats l).length = l.length := by simp [nats]

/-- texts of 3000 bytes at most, as lists; their rows -/
def cuts (ts : List ByteArray) : List (List UInt8) := ts.map fun t => cutL t 3000
def txtL (l : List (List UInt8)) : List UInt8 := l.flatMap fun x => rowL x.length ++ x
theorem txtL_snoc (l : List (List UInt8)) (x : List UInt8) : txtL (l ++ [x]) = txtL l ++ (rowL x.length ++ x) := by simp [txtL]
theorem txtL_cons (x : List UInt8) (l : List (List UInt8)) : txtL (x :: l) = rowL x.length ++ (x ++ txtL l) := by simp [txtL]
theorem cuts_at {ts : List ByteArray} {j : Nat} (h : j < ts.length) : (cuts ts)[j]? = some (cutL ts[j] 3000) := by
  unfold cuts
  rw [List.getElem?_map, List.getElem?_eq_getElem h]
  rfl
theorem cuts_ok {ts : List ByteArray} : ∀ x ∈ cuts ts, x.length ≤ 3000 := by
  intro x hx
  obtain ⟨t, _, rfl⟩ := List.mem_map.1 hx
  exact cutL_len t 3000
theorem cuts_len (ts : List ByteArray) : (cuts ts).length = ts.length := by simp [cuts]
theorem txtL_le : ∀ (l : List (List UInt8)), (∀ x ∈ l, x.length ≤ 3000) → (txtL l).length ≤ 3009 * l.length
  | [], _ => by simp [txtL]
  | x :: l, h => by
    rw [txtL_cons, List.length_append, List.length_append, List.length_cons]
    have h0 := h x (by simp)
    have h1 := rowL_le x.length (by omega)
    have h2 := txtL_le l fun y hy => h y (by simp [hy])
    omega
theorem take_at' {α : Type} {l : List α} {j : Nat} {n : α} (h : l[j]? = some n) : l.take (j + 1) = l.take j ++ [n] := by rw [List.take_add_one, h]; rfl
theorem drop_at' {α : Type} {l : List α} {j : Nat} {n : α} (h : l[j]? = some n) : l.drop j = n :: l.drop (j + 1) := by
  obtain ⟨h1, h2⟩ := List.getElem?_eq_some_iff.1 h
  rw [List.drop_eq_getElem_cons h1, h2]
end Go.Proofs.Ytlnlpphhnbodpaa
