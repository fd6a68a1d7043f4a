/-
  A list of acts that came in.
-/
import Derived.Test.YtndmnnapjhjkmaaWorks
import Derived.Test.YtndmnnapjhjkmaaStructs
namespace Go.Proofs.Ytndmnnapjhjkmaa
open Go.RowKit Go.ChangeShapes Go.WideShapes Go.ChangeAt

/-- An act: is it a put, its key, its number. -/
abbrev Act3 := Bool × ByteArray × Int
def Acts (w : World) (v : Value) (l : List Act3) : Prop :=
  ∃ A cap, v = .slice A l.length cap ∧ l.length ≤ cap ∧ (0 < l.length → ∃ b off, A = some ⟨b, off, none⟩ ∧ b < w.heap.size ∧ ∀ i (h : i < l.length),
    w.cell? ⟨b, off + i * 3, none⟩ = some (.bool l[i].1) ∧ w.cell? ⟨b, off + i * 3 + 1, none⟩ = some (.string l[i].2.1) ∧ w.cell? ⟨b, off + i * 3 + 2, none⟩ = some (.int .u8 l[i].2.2))
theorem Acts.grown {w w' : World} {v : Value} {l : List Act3} (h : Acts w v l) (hg : w.grownBy w' none) : Acts w' v l := by
  obtain ⟨A, cap, rfl, h1, h2⟩ := h
  refine ⟨A, cap, rfl, h1, fun hp => ?_⟩
  obtain ⟨b, off, rfl, hb, hc⟩ := h2 hp
  refine ⟨b, off, rfl, Nat.lt_of_lt_of_le hb hg.size, fun i hi => ?_⟩
  obtain ⟨a, b, c⟩ := hc i hi
  exact ⟨hg.cell a (by simp), hg.cell b (by simp), hg.cell c (by simp)⟩

set_option maxRecDepth 20000 in
theorem arg_acts {H : Type} {enc : TypeId × Value → H} {W : World} {base : Nat} {v : Value} {d : DataW H} {p : List MemPlace}
    (hv : Value.okWide Try.prog W .any base 22 v) (h : DataW.Trod enc Try.prog W 0 (fun _ => true) true 22 v d p) :
    ∃ l : List Act3, Acts W v l ∧ (∀ x ∈ l, x.2.1.size ≤ maxLen ∧ (Lit.int .u8 x.2.2).wf = true) ∧ l.length ≤ maxLen := by
  obtain ⟨a0, len, cap, rfl⟩ := okWide_slice Try.underlying22 hv
  obtain ⟨fuel, hf⟩ := h
  rcases open_slice_fields Try.underlying22 Try.underlying30 (by kernel_rfl) (by kernel_rfl) hf with ⟨hcs, _⟩ | ⟨a, len', cap', m, D, Pl, hcs, _, hl, hm, hmm, hx, hi⟩
  · simp [Value.cells] at hcs
    obtain ⟨rfl, rfl, rfl⟩ := hcs
    exact ⟨[], ⟨none, 0, rfl, by simp, by simp⟩, by simp, by simp⟩
  · simp [Value.cells] at hcs
    obtain ⟨rfl, rfl, rfl⟩ := hcs
    simp at hmm
    subst hmm
    have key : ∀ i, i < m → ∃ x : Act3, (∀ j u, [Value.bool x.1, .string x.2.1, .int .u8 x.2.2][j]? = some u → W.cell? (a.add (i * 3 + j)) = some u) ∧ x.2.1.size ≤ maxLen ∧ (Lit.int .u8 x.2.2).wf = true := by
      intro i him
      obtain ⟨ys, n, _, _, _, hf⟩ := hi i him
      obtain ⟨v0, y0, c0, _, t0⟩ := hf 0 _ rfl
      obtain ⟨v1, y1, c1, _, t1⟩ := hf 1 _ rfl
      obtain ⟨v2, y2, c2, _, t2⟩ := hf 2 _ rfl
      obtain ⟨b0, e0, _⟩ := DataW.trod_bool Try.underlying4 t0
      obtain ⟨b1, e1, _, w1⟩ := DataW.trod_string Try.underlying9 t1
      obtain ⟨b2, e2, _, w2⟩ := DataW.trod_int Try.underlying5 t2
      obtain rfl : v0 = .bool b0 := by simpa using e0
      obtain rfl : v1 = .string b1 := by simpa using e1
      obtain rfl : v2 = .int .u8 b2 := by simpa using e2
      refine ⟨(b0, b1, b2), fun j u hu => ?_, w1, w2⟩
      rcases j with _ | _ | _ | j
      · simp at hu; subst hu; exact c0
      · simp at hu; subst hu; exact c1
      · simp at hu; subst hu; exact c2
      · simp at hu
    have hex : ∃ l : List Act3, l.length = len ∧ ∀ i (h : i < l.length), (∀ j u, [Value.bool l[i].1, .string l[i].2.1, .int .u8 l[i].2.2][j]? = some u → W.cell? (a.add (i * 3 + j)) = some u) ∧ l[i].2.1.size ≤ maxLen ∧ (Lit.int .u8 l[i].2.2).wf = true := by
      have : ∀ n, n ≤ len → ∃ l : List Act3, l.length = n ∧ ∀ i (h : i < l.length), (∀ j u, [Value.bool l[i].1, .string l[i].2.1, .int .u8 l[i].2.2][j]? = some u → W.cell? (a.add (i * 3 + j)) = some u) ∧ l[i].2.1.size ≤ maxLen ∧ (Lit.int .u8 l[i].2.2).wf = true := by
        intro n
        induction n with
        | zero => exact fun _ => ⟨[], rfl, by simp⟩
        | succ n ih =>
          intro hn
          obtain ⟨l, hl, hc⟩ := ih (by omega)
          obtain ⟨x, hx⟩ := key n (by omega)
          refine ⟨l ++ [x], by simp [hl], fun i hi => ?_⟩
          by_cases hin : i < l.length
          · rw [List.getElem_append_left hin]; exact hc i hin
          · have : i = n := by simp at hi; omega
            subst this
            rw [List.getElem_append_right (by omega)]
            simpa [hl] using hx
      exact this len (Nat.le_refl _)
    obtain ⟨l, hl', hc⟩ := hex
    refine ⟨l, ⟨some a, m, by rw [hl'], by rw [hl']; exact hl, fun hp => ?_⟩, fun x hx => ?_, by omega⟩
    · obtain ⟨b, off, spot⟩ := a
      have h0 := (hc 0 hp).1 0 _ rfl
      have hspot : spot = none := by simpa [Addr.add] using World.cell?_spot h0
      subst hspot
      have hadd : ∀ i, (⟨b, off, none⟩ : Addr).add i = ⟨b, off + i, none⟩ := fun i => by unfold Addr.add; split <;> simp_all
      refine ⟨b, off, rfl, World.block_lt_of_cell? W _ (by rw [hadd] at h0; exact h0), fun i hi => ?_⟩
      have h3 := (hc i hi).1
      simp only [hadd] at h3
      exact ⟨h3 0 _ rfl, h3 1 _ rfl, h3 2 _ rfl⟩
    · obtain ⟨i, hi, rfl⟩ := List.getElem_of_mem hx
      exact (hc i hi).2

end Go.Proofs.Ytndmnnapjhjkmaa
