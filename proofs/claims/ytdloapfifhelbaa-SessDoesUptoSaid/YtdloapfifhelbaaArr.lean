/-
  An array of numbers that came in.
-/
import Derived.Test.YtdloapfifhelbaaSWorks
import Derived.Test.YtdloapfifhelbaaRow
import Derived.OpenShut
namespace Go.Proofs.Ytdloapfifhelbaa
open Go.ChangeShapes Go.WideShapes Go.ChangeAt Go.RowKit

def nums64 (l : List Nat) : List Value := l.map fun x : Nat => .int .u64 (x : Int)
section
variable {H : Type} {enc : TypeId × Value → H} {P : Program} {w : World} {base : Nat} {spare : Nat → Bool} {held : Bool}
theorem okWide_arr {r : Reach} {b0 : Nat} {t e : TypeId} {n : Nat} {v : Value} (ht : P.underlying t = some (.array n e)) (h : Value.okWide P w r b0 t v) : ∃ cs, v = .agg cs ∧ cs.size = P.cellsOf t := by
  simp only [Value.okWide, ht] at h
  obtain ⟨cs, h1, h2, _⟩ := h
  exact ⟨cs, h1, h2⟩
theorem arg_u64s {r : Reach} {b0 : Nat} {t e : TypeId} {n : Nat} {v : Value} {d : DataW H} {p : List MemPlace} (ht : P.underlying t = some (.array n e)) (he : P.underlying e = some (.int .u64)) (hc : P.cellsOf e = 1) (hC : P.cellsOf t = n)
    (hv : Value.okWide P w r b0 t v) (h : DataW.Trod enc P w base spare held t v d p) : ∃ l : List Nat, l.length = n ∧ (∀ x ∈ l, x < 18446744073709551616) ∧ v = .agg (nums64 l).toArray := by
  obtain ⟨cs, rfl, hsz⟩ := okWide_arr ht hv
  obtain ⟨fuel, hf⟩ := h
  obtain ⟨xs, m, _, _, _, hlen, hg⟩ := DataW.trod_array ht hf
  have hn : cs.toList.length = n := by simp [hsz, hC]
  have hcs : (Value.agg cs).cells = cs := rfl
  rw [hcs] at hg
  have hz : ∀ i (hi : i < cs.toList.length), ∃ z : Int, cs.toList[i] = .int .u64 z ∧ 0 ≤ z ∧ z ≤ 18446744073709551615 := fun i hi => by
    have h1 := hg i (by omega)
    rw [hc, Nat.mul_one, List.drop_eq_getElem_cons hi, List.getElem?_eq_getElem (by omega)] at h1
    obtain ⟨z, e1, e2, e3⟩ := DataW.trod_int he h1
    simp at e1
    have e4 := e3
    simp only [Lit.wf, Bool.and_eq_true, decide_eq_true_eq] at e4
    exact ⟨z, by simpa using e1, e4.1, e4.2⟩
  refine ⟨cs.toList.map fun v => match v with | .int _ z => z.toNat | _ => 0, by simpa using hn, fun x hx => ?_, ?_⟩
  · obtain ⟨u, hu, rfl⟩ := List.mem_map.1 hx
    obtain ⟨i, hi, rfl⟩ := List.mem_iff_getElem.1 hu
    obtain ⟨z, e, z0, z1⟩ := hz i hi
    rw [e]
    show z.toNat < _
    omega
  congr 1
  apply Array.ext'
  apply List.ext_getElem (by simp [nums64])
  intro i h1 h2
  obtain ⟨z, e, z0, z1⟩ := hz i h1
  simp only [nums64, List.map_map, List.getElem_map, e, Function.comp]
  congr 1
  omega
end
end Go.Proofs.Ytdloapfifhelbaa
