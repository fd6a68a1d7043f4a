/-
  An array of bytes that came in.
-/
import Derived.Test.YtgpafmkhkepjbaaWorks
import Derived.Test.YtgpafmkhkepjbaaRow
import Derived.OpenShut
namespace Go.Proofs.Ytgpafmkhkepjbaa
open Go.ChangeShapes Go.WideShapes Go.ChangeAt Go.RowKit

section
variable {H : Type} {enc : TypeId × Value → H} {P : Program} {w : World} {base : Nat} {spare : Nat → Bool} {held : Bool}
theorem okWide_arr {r : Reach} {b0 : Nat} {t e : TypeId} {n : Nat} {v : Value} (ht : P.underlying t = some (.array n e)) (h : Value.okWide P w r b0 t v) : ∃ cs, v = .agg cs ∧ cs.size = P.cellsOf t := by
  simp only [Value.okWide, ht] at h
  obtain ⟨cs, h1, h2, _⟩ := h
  exact ⟨cs, h1, h2⟩
theorem arg_bytes {r : Reach} {b0 : Nat} {t e : TypeId} {n : Nat} {v : Value} {d : DataW H} {p : List MemPlace} (ht : P.underlying t = some (.array n e)) (he : P.underlying e = some (.int .u8)) (hc : P.cellsOf e = 1) (hC : P.cellsOf t = n)
    (hv : Value.okWide P w r b0 t v) (h : DataW.Trod enc P w base spare held t v d p) : ∃ l : List UInt8, l.length = n ∧ v = .agg (u8s l).toArray := by
  obtain ⟨cs, rfl, hsz⟩ := okWide_arr ht hv
  obtain ⟨fuel, hf⟩ := h
  obtain ⟨xs, m, _, _, _, hlen, hg⟩ := DataW.trod_array ht hf
  have hn : cs.toList.length = n := by simp [hsz, hC]
  have hcs : (Value.agg cs).cells = cs := rfl
  rw [hcs] at hg
  have hz : ∀ i (hi : i < cs.toList.length), ∃ z : Int, cs.toList[i] = .int .u8 z ∧ 0 ≤ z ∧ z ≤ 255 := fun i hi => by
    have h1 := hg i (by omega)
    rw [hc, Nat.mul_one, List.drop_eq_getElem_cons hi, List.getElem?_eq_getElem (by omega)] at h1
    obtain ⟨z, e1, e2, e3⟩ := DataW.trod_int he h1
    simp at e1
    have e4 := e3
    simp only [Lit.wf, Bool.and_eq_true, decide_eq_true_eq] at e4
    exact ⟨z, by simpa using e1, e4.1, e4.2⟩
  refine ⟨cs.toList.map fun v => match v with | .int _ z => UInt8.ofNat z.toNat | _ => 0, by simpa using hn, ?_⟩
  congr 1
  apply Array.ext'
  apply List.ext_getElem (by simp [u8s])
  intro i h1 h2
  obtain ⟨z, e, z0, z1⟩ := hz i h1
  simp only [u8s, List.map_map, List.getElem_map, e, Function.comp]
  rw [UInt8.toNat_ofNat']
  congr 1
  omega
end
/-- a whole array read by a guarded operation that is wanted -/
theorem wpList_load_row_g {P : Program} {ops : Array Oper} {rest : List Oper} {o : Oper} {a : Act} {w : World} {Q : Exit → Act → World → Prop} (hw : Region.wanted o (yielded ops a.tmps) = true) (ty : TypeId) (x : Operand) (ho : o.op = .load ty x)
    (g : Nat) (hx : a.eval x = .pointer (some ⟨g, 0, none⟩)) (t : TypeId) (cs : Array Value) (fr : Nat × Nat) (d : TypeDesc) (hg : w.heap[g]? = some (.cells cs t fr))
    (hu : P.underlying ty = some d) (hd : (match d with | .struct _ | .array _ _ => true | _ => false) = true) (hi : (P.info? ty).map (·.size) = some cs.size)
    (h : wpList P ops Q rest (a.put o.dst (.agg cs)) w) : wpList P ops Q (o :: rest) a w := by
  unfold wpList
  rw [if_pos hw]
  exact .inl (wp_load_row ty x ho g hx t cs fr d hg hu hd hi h)
end Go.Proofs.Ytgpafmkhkepjbaa
