/-
  A list of acts that came in; their texts are of no more bulk than the whole.
-/
import Derived.Test.YtdloapfifhelbaaArr
import Derived.Test.YtdloapfifhelbaaStructs
namespace Go.Proofs.Ytdloapfifhelbaa
open Go.RowKit Go.ChangeShapes Go.WideShapes Go.ChangeAt

/-- An act: what, the token's number, its text, the time. -/
structure Act4 where
  what : Int
  n : Int
  text : ByteArray
  now : Int
def Act4.cells (x : Act4) : List Value := [.int .i64 x.what, .int .i64 x.n, .string x.text, .int .u64 x.now]
structure Act4.Ok (x : Act4) (m : Nat) : Prop where
  w : (Lit.int .i64 x.what).wf = true
  n : (Lit.int .i64 x.n).wf = true
  t : x.text.size ≤ m
  now : (Lit.int .u64 x.now).wf = true
def Acts (w : World) (v : Value) (l : List Act4) : Prop :=
  ∃ A cap, v = .slice A l.length cap ∧ l.length ≤ cap ∧ (0 < l.length → ∃ b off, A = some ⟨b, off, none⟩ ∧ b < w.heap.size ∧ ∀ i (h : i < l.length),
    w.cell? ⟨b, off + i * 4, none⟩ = some (.int .i64 l[i].what) ∧ w.cell? ⟨b, off + i * 4 + 1, none⟩ = some (.int .i64 l[i].n) ∧ w.cell? ⟨b, off + i * 4 + 2, none⟩ = some (.string l[i].text) ∧ w.cell? ⟨b, off + i * 4 + 3, none⟩ = some (.int .u64 l[i].now))
theorem Acts.grown {w w' : World} {v : Value} {l : List Act4} (h : Acts w v l) (hg : w.grownBy w' none) : Acts w' v l := by
  obtain ⟨A, cap, rfl, h1, h2⟩ := h
  refine ⟨A, cap, rfl, h1, fun hp => ?_⟩
  obtain ⟨b, off, rfl, hb, hc⟩ := h2 hp
  refine ⟨b, off, rfl, Nat.lt_of_lt_of_le hb hg.size, fun i hi => ?_⟩
  obtain ⟨a, b, c, d⟩ := hc i hi
  exact ⟨hg.cell a (by simp), hg.cell b (by simp), hg.cell c (by simp), hg.cell d (by simp)⟩
theorem bulk_mem {H : Type} {d : DataW H} : ∀ {l : List (DataW H)}, d ∈ l → Rows.uptoBulk d ≤ Rows.uptoBulkAll l
  | [], h => nomatch h
  | x :: l, h => by
    simp only [Rows.uptoBulkAll]
    rcases List.mem_cons.1 h with rfl | h
    · omega
    · have := bulk_mem h
      omega

set_option maxRecDepth 20000 in
theorem arg_acts {H : Type} {enc : TypeId × Value → H} {W : World} {base : Nat} {v : Value} {d : DataW H} {p : List MemPlace}
    (hv : Value.okWide Try.prog W .any base 22 v) (h : DataW.Trod enc Try.prog W 0 (fun _ => true) true 22 v d p) :
    ∃ l : List Act4, Acts W v l ∧ (∀ x ∈ l, x.Ok (Rows.uptoBulk d)) ∧ l.length ≤ maxLen := by
  obtain ⟨a0, len, cap, rfl⟩ := okWide_slice Try.underlying22 hv
  obtain ⟨fuel, hf⟩ := h
  rcases open_slice_fields Try.underlying22 Try.underlying33 (by kernel_rfl) (by kernel_rfl) hf with ⟨hcs, _⟩ | ⟨a, len', cap', m, D, Pl, hcs, _, hl, hm, hmm, hx, hi⟩
  · simp [Value.cells] at hcs
    obtain ⟨rfl, rfl, rfl⟩ := hcs
    exact ⟨[], ⟨none, 0, rfl, by simp, by simp⟩, by simp, by simp⟩
  · simp [Value.cells] at hcs
    obtain ⟨rfl, rfl, rfl⟩ := hcs
    simp at hmm
    subst hmm
    have hd := (Prod.mk.inj hx).1
    have key : ∀ i, i < len → ∃ x : Act4, (∀ j u, x.cells[j]? = some u → W.cell? (a.add (i * 4 + j)) = some u) ∧ x.Ok (Rows.uptoBulk d) := by
      intro i him
      obtain ⟨ys, n, hD, _, hyl, hf⟩ := hi i (by omega)
      obtain ⟨v0, y0, c0, z0, t0⟩ := hf 0 _ rfl
      obtain ⟨v1, y1, c1, z1, t1⟩ := hf 1 _ rfl
      obtain ⟨v2, y2, c2, z2, t2⟩ := hf 2 _ rfl
      obtain ⟨v3, y3, c3, z3, t3⟩ := hf 3 _ rfl
      obtain ⟨b0, e0, _, w0⟩ := DataW.trod_int Try.underlying3 t0
      obtain ⟨b1, e1, _, w1⟩ := DataW.trod_int Try.underlying3 t1
      obtain ⟨b2, e2, f2, w2⟩ := DataW.trod_string Try.underlying9 t2
      obtain ⟨b3, e3, _, w3⟩ := DataW.trod_int Try.underlying23 t3
      obtain rfl : v0 = .int .i64 b0 := by simpa using e0
      obtain rfl : v1 = .int .i64 b1 := by simpa using e1
      obtain rfl : v2 = .string b2 := by simpa using e2
      obtain rfl : v3 = .int .u64 b3 := by simpa using e3
      have hsz : b2.size ≤ Rows.uptoBulk d := by
        have h1 : Rows.uptoBulk (D i) ≤ Rows.uptoBulk d := by
          rw [hd]
          have := bulk_mem (l := (List.range len).map D) (List.mem_map.2 ⟨i, List.mem_range.2 him, rfl⟩)
          simp only [Rows.uptoBulk]
          omega
        have h2 : Rows.uptoBulk y2.1 ≤ Rows.uptoBulk (D i) := by
          rw [hD]
          have := bulk_mem (l := ys.map (·.1)) (List.mem_map.2 ⟨y2, List.mem_of_getElem? z2, rfl⟩)
          simp only [Rows.uptoBulk]
          omega
        have h3 : b2.size ≤ Rows.uptoBulk y2.1 := by
          rw [f2]
          simp only [Rows.uptoBulk, Array.length_toList]
          have : b2.size = b2.data.size := rfl
          omega
        omega
      refine ⟨⟨b0, b1, b2, b3⟩, fun j u hu => ?_, ⟨w0, w1, hsz, w3⟩⟩
      unfold Act4.cells at hu
      rcases j with _ | _ | _ | _ | j
      · simp at hu; subst hu; exact c0
      · simp at hu; subst hu; exact c1
      · simp at hu; subst hu; exact c2
      · simp at hu; subst hu; exact c3
      · simp at hu
    have hex : ∃ l : List Act4, l.length = len ∧ ∀ i (h : i < l.length), (∀ j u, l[i].cells[j]? = some u → W.cell? (a.add (i * 4 + j)) = some u) ∧ l[i].Ok (Rows.uptoBulk d) := by
      have : ∀ n, n ≤ len → ∃ l : List Act4, l.length = n ∧ ∀ i (h : i < l.length), (∀ j u, l[i].cells[j]? = some u → W.cell? (a.add (i * 4 + j)) = some u) ∧ l[i].Ok (Rows.uptoBulk d) := by
        intro n
        induction n with
        | zero => exact fun _ => ⟨[], rfl, by simp⟩
        | succ n ih =>
          intro hn
          obtain ⟨l, hl, hc⟩ := ih (by omega)
          obtain ⟨x, hx⟩ := key n (by omega)
          refine ⟨l ++ [x], by simp [hl], fun i hi => ?_⟩
          by_cases hin : i < l.length
          · rw [List.getElem_append_left hin]; exact hc i hin
          · have : i = n := by simp at hi; omega
            subst this
            rw [List.getElem_append_right (by omega)]
            simpa [hl] using hx
      exact this len (Nat.le_refl _)
    obtain ⟨l, hl', hc⟩ := hex
    refine ⟨l, ⟨some a, m, by rw [hl'], by rw [hl']; exact hl, fun hp => ?_⟩, fun x hx => ?_, by omega⟩
    · obtain ⟨b, off, spot⟩ := a
      have h0 := (hc 0 hp).1 0 _ rfl
      have hspot : spot = none := by simpa [Addr.add] using World.cell?_spot h0
      subst hspot
      have hadd : ∀ i, (⟨b, off, none⟩ : Addr).add i = ⟨b, off + i, none⟩ := fun i => by unfold Addr.add; split <;> simp_all
      refine ⟨b, off, rfl, World.block_lt_of_cell? W _ (by rw [hadd] at h0; exact h0), fun i hi => ?_⟩
      have h3 := (hc i hi).1
      simp only [hadd] at h3
      exact ⟨h3 0 _ rfl, h3 1 _ rfl, h3 2 _ rfl, h3 3 _ rfl⟩
    · obtain ⟨i, hi, rfl⟩ := List.getElem_of_mem hx
      exact (hc i hi).2
end Go.Proofs.Ytdloapfifhelbaa
