/-
  A list of acts that came in; the walks of the law's ints (two lists that are one) and has.
-/
import Derived.Test.YtgjklppmimhgnaaKeys
import Derived.Test.YtgjklppmimhgnaaStructs
namespace Go.Proofs.Ytgjklppmimhgnaa
open Go.RowKit Go.ChangeShapes Go.WideShapes Go.ChangeAt

/-- An act: is it a look, its key, its value. -/
abbrev Act3 := Bool × Int × Int
def Acts (w : World) (v : Value) (l : List Act3) : Prop :=
  ∃ A cap, v = .slice A l.length cap ∧ l.length ≤ cap ∧ (0 < l.length → ∃ b off, A = some ⟨b, off, none⟩ ∧ b < w.heap.size ∧ ∀ i (h : i < l.length),
    w.cell? ⟨b, off + i * 3, none⟩ = some (.bool l[i].1) ∧ w.cell? ⟨b, off + i * 3 + 1, none⟩ = some (.int .i64 l[i].2.1) ∧ w.cell? ⟨b, off + i * 3 + 2, none⟩ = some (.int .i64 l[i].2.2))
theorem Acts.grown {w w' : World} {v : Value} {l : List Act3} (h : Acts w v l) (hg : w.grownBy w' none) : Acts w' v l := by
  obtain ⟨A, cap, rfl, h1, h2⟩ := h
  refine ⟨A, cap, rfl, h1, fun hp => ?_⟩
  obtain ⟨b, off, rfl, hb, hc⟩ := h2 hp
  refine ⟨b, off, rfl, Nat.lt_of_lt_of_le hb hg.size, fun i hi => ?_⟩
  obtain ⟨a, b, c⟩ := hc i hi
  exact ⟨hg.cell a (by simp), hg.cell b (by simp), hg.cell c (by simp)⟩

set_option maxRecDepth 20000 in
theorem arg_acts {H : Type} {enc : TypeId × Value → H} {W : World} {base : Nat} {v : Value} {d : DataW H} {p : List MemPlace}
    (hv : Value.okWide Try.prog W .any base 22 v) (h : DataW.Trod enc Try.prog W 0 (fun _ => true) true 22 v d p) :
    ∃ l : List Act3, Acts W v l ∧ (∀ x ∈ l, (Lit.int .i64 x.2.1).wf = true ∧ (Lit.int .i64 x.2.2).wf = true) ∧ l.length ≤ maxLen := by
  obtain ⟨a0, len, cap, rfl⟩ := okWide_slice Try.underlying22 hv
  obtain ⟨fuel, hf⟩ := h
  rcases open_slice_fields Try.underlying22 Try.underlying28 (by kernel_rfl) (by kernel_rfl) hf with ⟨hcs, _⟩ | ⟨a, len', cap', m, D, Pl, hcs, _, hl, hm, hmm, hx, hi⟩
  · simp [Value.cells] at hcs
    obtain ⟨rfl, rfl, rfl⟩ := hcs
    exact ⟨[], ⟨none, 0, rfl, by simp, by simp⟩, by simp, by simp⟩
  · simp [Value.cells] at hcs
    obtain ⟨rfl, rfl, rfl⟩ := hcs
    simp at hmm
    subst hmm
    have key : ∀ i, i < m → ∃ x : Act3, (∀ j u, [Value.bool x.1, .int .i64 x.2.1, .int .i64 x.2.2][j]? = some u → W.cell? (a.add (i * 3 + j)) = some u) ∧ (Lit.int .i64 x.2.1).wf = true ∧ (Lit.int .i64 x.2.2).wf = true := by
      intro i him
      obtain ⟨ys, n, _, _, _, hf⟩ := hi i him
      obtain ⟨v0, y0, c0, _, t0⟩ := hf 0 _ rfl
      obtain ⟨v1, y1, c1, _, t1⟩ := hf 1 _ rfl
      obtain ⟨v2, y2, c2, _, t2⟩ := hf 2 _ rfl
      obtain ⟨b0, e0, _⟩ := DataW.trod_bool Try.underlying4 t0
      obtain ⟨b1, e1, _, w1⟩ := DataW.trod_int Try.underlying3 t1
      obtain ⟨b2, e2, _, w2⟩ := DataW.trod_int Try.underlying3 t2
      obtain rfl : v0 = .bool b0 := by simpa using e0
      obtain rfl : v1 = .int .i64 b1 := by simpa using e1
      obtain rfl : v2 = .int .i64 b2 := by simpa using e2
      refine ⟨(b0, b1, b2), fun j u hu => ?_, w1, w2⟩
      rcases j with _ | _ | _ | j
      · simp at hu; subst hu; exact c0
      · simp at hu; subst hu; exact c1
      · simp at hu; subst hu; exact c2
      · simp at hu
    have hex : ∃ l : List Act3, l.length = len ∧ ∀ i (h : i < l.length), (∀ j u, [Value.bool l[i].1, .int .i64 l[i].2.1, .int .i64 l[i].2.2][j]? = some u → W.cell? (a.add (i * 3 + j)) = some u) ∧ (Lit.int .i64 l[i].2.1).wf = true ∧ (Lit.int .i64 l[i].2.2).wf = true := by
      have : ∀ n, n ≤ len → ∃ l : List Act3, l.length = n ∧ ∀ i (h : i < l.length), (∀ j u, [Value.bool l[i].1, .int .i64 l[i].2.1, .int .i64 l[i].2.2][j]? = some u → W.cell? (a.add (i * 3 + j)) = some u) ∧ (Lit.int .i64 l[i].2.1).wf = true ∧ (Lit.int .i64 l[i].2.2).wf = true := by
        intro n
        induction n with
        | zero => exact fun _ => ⟨[], rfl, by simp⟩
        | succ n ih =>
          intro hn
          obtain ⟨l, hl, hc⟩ := ih (by omega)
          obtain ⟨x, hx⟩ := key n (by omega)
          refine ⟨l ++ [x], by simp [hl], fun i hi => ?_⟩
          by_cases hin : i < l.length
          · rw [List.getElem_append_left hin]; exact hc i hin
          · have : i = n := by simp at hi; omega
            subst this
            rw [List.getElem_append_right (by omega)]
            simpa [hl] using hx
      exact this len (Nat.le_refl _)
    obtain ⟨l, hl', hc⟩ := hex
    refine ⟨l, ⟨some a, m, by rw [hl'], by rw [hl']; exact hl, fun hp => ?_⟩, fun x hx => ?_, by omega⟩
    · obtain ⟨b, off, spot⟩ := a
      have h0 := (hc 0 hp).1 0 _ rfl
      have hspot : spot = none := by simpa [Addr.add] using World.cell?_spot h0
      subst hspot
      have hadd : ∀ i, (⟨b, off, none⟩ : Addr).add i = ⟨b, off + i, none⟩ := fun i => by unfold Addr.add; split <;> simp_all
      refine ⟨b, off, rfl, World.block_lt_of_cell? W _ (by rw [hadd] at h0; exact h0), fun i hi => ?_⟩
      have h3 := (hc i hi).1
      simp only [hadd] at h3
      exact ⟨h3 0 _ rfl, h3 1 _ rfl, h3 2 _ rfl⟩
    · obtain ⟨i, hi, rfl⟩ := List.getElem_of_mem hx
      exact (hc i hi).2

theorem Nums.of_own {w : World} {base : Nat} {e : TypeId} {k : IntKind} {v : Value} {l : List Int} (h : w.ownsRow base e 1 v l.length (l.map (.int k))) : Nums w k v l := by
  have h2 := h.2
  rcases h2 with ⟨rfl, h0⟩ | ⟨g, cap, cur, rfl, h3, h4, h5, h6, h7, h8⟩
  · have : l = [] := List.eq_nil_of_length_eq_zero h0
    subst this
    exact Nums.nil_ w k
  · refine ⟨_, cap, rfl, h5, fun hp => ⟨g, 0, rfl, ?_, fun i hi => ?_⟩⟩
    · exact (World.ownsRow.lt h g rfl).2
    · have := h.cells (g := g) rfl i (.int k l[i]) (by simp [hi])
      rw [show (⟨g, 0, none⟩ : Addr).add i = ⟨g, 0 + i, none⟩ from by unfold Addr.add; split <;> simp_all] at this
      exact this
theorem Nums.chg {w w' : World} {k : IntKind} {v : Value} {l : List Int} {S : Nat → Prop} (h : Nums w k v l) (hc : Chg w w' S) (hS : ∀ g, v.ownBlock = some g → ¬ S g) : Nums w' k v l := by
  obtain ⟨A, cap, rfl, h1, h2⟩ := h
  refine ⟨A, cap, rfl, h1, fun hp => ?_⟩
  obtain ⟨b, off, rfl, hb, hcell⟩ := h2 hp
  exact ⟨b, off, rfl, Nat.lt_of_lt_of_le hb hc.size, fun i hi => (World.cell?_of_block (hc.block b hb (hS b rfl))).trans (hcell i hi)⟩

set_option maxHeartbeats 400000 in
theorem ints_same (va vb : Value) (l : List Int) (w : World) (ha : Nums w .i64 va l) (hb : Nums w .i64 vb l) (hl : l.length ≤ 1000000000) :
    Calls Try.prog 15 #[va, vb] w fun e w' => e = .returned (.bool true) ∧ ∃ n, w.drewN n = w' := by
  obtain ⟨A, ca, rfl, ha1, ha2⟩ := ha
  obtain ⟨B, cb, rfl, hb1, hb2⟩ := hb
  go_enter Try.func15, Try.ntmps15
  go_wp2
  go_loopg [5] l.length (fun k i wr => ∃ (j n : Nat), i = .int .i64 j ∧ j ≤ l.length ∧ k = l.length - j ∧ wr = w.drewN n)
  case atStart => exact ⟨0, 0, rfl, by omega, by omega, rfl⟩
  case round =>
    obtain ⟨j, n, rfl, hj, hk, rfl⟩ := hrel
    by_cases hlt : j < l.length
    · obtain ⟨b, off, rfl, _, hc⟩ := ha2 (by omega)
      obtain ⟨b', off', rfl, _, hc'⟩ := hb2 (by omega)
      have c1 : (w.drewN n).cell? ⟨b, off + j, none⟩ = some (.int .i64 l[j]) := hc j hlt
      have c2 : (w.drewN n).cell? ⟨b', off' + j, none⟩ = some (.int .i64 l[j]) := hc' j hlt
      have hz : (0 : Int) ≤ (j : Int) := by omega
      have hlt' : (j : Int) < (l.length : Int) := by omega
      generalize l[j] = x at *
      generalize hw1 : w.drewN n = w1 at *
      have Hw := Lib.hid hw1
      have Hk := Lib.hid hk
      clear ha1 ha2 hb1 hb2 hc hc' hw1 hk
      go_wp2
      go_quiet (fail)
      go_wp2
      go_roundg (l.length - (j + 1))
      case measure => have := Hk.out; omega
      case rel => exact ⟨j + 1, n + nq, by go_num, by omega, rfl, by rw [← Hw.out, World.drewN_drewN]⟩
    · go_wp2
      go_ret
      exact ⟨rfl, n, rfl⟩

set_option maxHeartbeats 400000 in
theorem has_any (va : Value) (l : List Int) (x : Int) (w : World) (ha : Nums w .i64 va l) (hl : l.length ≤ 1000000000) :
    Calls Try.prog 28 #[va, .int .i64 x] w fun e w' => e = .returned (.bool (decide (x ∈ l))) ∧ w = w' := by
  obtain ⟨A, ca, rfl, ha1, ha2⟩ := ha
  go_enter Try.func28, Try.ntmps28
  go_wp2
  go_loopg [5] l.length (fun k i wr => ∃ (j : Nat), i = .int .i64 j ∧ j ≤ l.length ∧ k = l.length - j ∧ wr = w ∧ x ∉ l.take j)
  case atStart => exact ⟨0, rfl, by omega, by omega, rfl, by simp⟩
  case round =>
    obtain ⟨j, rfl, hj, hk, rfl, hno⟩ := hrel
    by_cases hlt : j < l.length
    · obtain ⟨b, off, rfl, _, hc⟩ := ha2 (by omega)
      have c1 : wr.cell? ⟨b, off + j, none⟩ = some (.int .i64 l[j]) := hc j hlt
      have hz : (0 : Int) ≤ (j : Int) := by omega
      have hlt' : (j : Int) < (l.length : Int) := by omega
      have hmem : l[j] ∈ l := List.getElem_mem hlt
      have htk : l.take (j + 1) = l.take j ++ [l[j]] := by rw [List.take_succ_eq_append_getElem hlt]
      generalize l[j] = y at *
      have Hk := Lib.hid (And.intro hk (And.intro hno (And.intro htk hmem)))
      clear ha1 ha2 hc hk hno htk hmem
      by_cases hxy : y = x
      · have hd : decide (x ∈ l) = true := by simpa using hxy ▸ Hk.out.2.2.2
        have Hd := Lib.hid hd
        clear hd
        go_wp2
        go_ret
        exact ⟨by rw [Hd.out]; rfl, rfl⟩
      · go_wp2
        go_roundg (l.length - (j + 1))
        case measure => have := Hk.out.1; omega
        case rel => exact ⟨j + 1, by go_num, by omega, rfl, rfl, by rw [Hk.out.2.2.1]; simp [Hk.out.2.1, Ne.symm hxy]⟩
    · have hall : l.take j = l := List.take_of_length_le (by omega)
      have hd : decide (x ∈ l) = false := by rw [hall] at hno; simpa using hno
      have Hd := Lib.hid hd
      clear hd hno hall
      go_wp2
      go_ret
      exact ⟨by rw [Hd.out]; rfl, rfl⟩

end Go.Proofs.Ytgjklppmimhgnaa
