/-
  The reference: a list of pairs; the walks of its New, take, first, Get, Put, Keys.
-/
import Derived.Test.YtgjklppmimhgnaaActs
namespace Go.Proofs.Ytgjklppmimhgnaa
open Go.RowKit

def enc2 (q : Int × Int) : List Value := [.int .i64 q.1, .int .i64 q.2]
def flat (ps : List (Int × Int)) : List Value := ps.flatMap enc2
theorem flat_len (ps : List (Int × Int)) : (flat ps).length = ps.length * 2 := by
  induction ps with
  | nil => rfl
  | cons q l ih => simp only [flat, List.flatMap_cons, List.length_append] at ih ⊢; rw [ih]; simp [enc2]; omega
theorem flat_app (a b : List (Int × Int)) : flat (a ++ b) = flat a ++ flat b := by simp [flat]
theorem flat_at (a : List (Int × Int)) (q : Int × Int) (b : List (Int × Int)) : (flat (a ++ q :: b))[a.length * 2]? = some (.int .i64 q.1) ∧ (flat (a ++ q :: b))[a.length * 2 + 1]? = some (.int .i64 q.2) := by
  rw [flat_app]
  have h := flat_len a
  rw [List.getElem?_append_right (by omega), List.getElem?_append_right (by omega)]
  rw [show a.length * 2 - (flat a).length = 0 by omega, show a.length * 2 + 1 - (flat a).length = 1 by omega]
  exact ⟨rfl, rfl⟩

/-- the reference's Lru at g: its pairs are ps -/
def RefAt (w : World) (g : Nat) (cap : Int) (ps : List (Int × Int)) : Prop :=
  ∃ v, Blk w g 38 #[.int .i64 cap, v] ∧ w.ownsRow 0 79 2 v ps.length (flat ps)

section
variable {w w' : World} {g : Nat} {cap : Int} {ps : List (Int × Int)}
theorem RefAt.chg {S : Nat → Prop} (h : RefAt w g cap ps) (hc : Chg w w' S) (hS : ∀ b t cs, S b → w.heap[b]? = some (.cells cs t (0, 0)) → t ≠ 38 ∧ t ≠ 79) : RefAt w' g cap ps := by
  obtain ⟨v, hb, ho⟩ := h
  refine ⟨v, hb.chg hc fun e => (hS _ _ _ e hb).1 rfl, own_chg ho hc fun b hv e => ?_⟩
  rcases ho.2 with ⟨rfl, _⟩ | ⟨b', cap', cur, rfl, _, hh, _⟩
  · cases hv
  · obtain rfl : b' = b := by simpa [Value.ownBlock] using hv
    exact (hS _ _ _ e hh).2 rfl
theorem RefAt.by_none (h : RefAt w g cap ps) (hc : w.grownBy w' none) : RefAt w' g cap ps := h.chg (S := fun _ => False) (Chg.of_none hc) (fun _ _ _ e => e.elim)
end

theorem own_slice {w : World} {base : Nat} {e : TypeId} {size n : Nat} {v : Value} {xs : List Value} (h : w.ownsRow base e size v n xs) : ∃ A c, v = .slice A n c ∧ n ≤ c := by
  rcases h.2 with ⟨rfl, h0⟩ | ⟨b, c, cur, rfl, _, _, h5, _⟩
  · exact ⟨none, 0, by rw [h0], by omega⟩
  · exact ⟨_, c, rfl, h5⟩
theorem by_set2 (w : World) (b : Nat) (x y : Value) : w.grownBy ((w.setCell ⟨b, 0, none⟩ x).setCell ⟨b, 1, none⟩ y) (some b) :=
  by_set (p := ⟨b, 1, none⟩) (by_set (p := ⟨b, 0, none⟩) (by_refl _ _) (.inl rfl) _) (.inl rfl) _

/-- what 'take' answers -/
def lastM (ps : List (Int × Int)) (k : Int) : (Int × Int) × Bool := ps.foldl (fun a q => if q.1 = k then (q, true) else a) ((0, 0), false)
theorem lastM_snoc (ps : List (Int × Int)) (q : Int × Int) (k : Int) : lastM (ps ++ [q]) k = if q.1 = k then (q, true) else lastM ps k := by simp [lastM]
theorem less_snoc (ps : List (Int × Int)) (q : Int × Int) (k : Int) : less (ps ++ [q]) k = if q.1 = k then less ps k else less ps k ++ [q] := by
  unfold less
  rw [List.filter_append]
  by_cases h : q.1 = k <;> simp [h]

theorem infoP : (Try.prog.info? 79).map (fun i => (i.zero, i.size, i.bytes)) = some (some (.agg #[.int .i64 0, .int .i64 0]), 2, 16) := by kernel_rfl

def TakeQ (w : World) (g : Nat) (cap : Int) (ps : List (Int × Int)) (k : Int) (e : Ending) (w2 : World) : Prop :=
  e = .returned (.tuple #[.agg #[.int .i64 (lastM ps k).1.1, .int .i64 (lastM ps k).1.2], .bool (lastM ps k).2]) ∧ RefAt w2 g cap (less ps k) ∧ w.grownBy w2 (some g)

structure TakeRel (w0 : World) (ps : List (Int × Int)) (k : Int) (n : Nat) (v is i : Value) (wr : World) (done rest : List (Int × Int)) : Prop where
  eq : ps = done ++ rest
  i_ : i = .int .i64 (done.length : Nat)
  is_ : is = .bool (lastM done k).2
  n_ : n = rest.length
  own : wr.ownsRow (w0.heap.size + 2) 79 2 v (less done k).length (flat (less done k))
  b4 : Blk wr w0.heap.size 79 #[.int .i64 0, .int .i64 0]
  b7 : Blk wr (w0.heap.size + 1) 79 #[.int .i64 (lastM done k).1.1, .int .i64 (lastM done k).1.2]
  by_ : w0.grownBy wr none

set_option maxHeartbeats 1000000 in
set_option maxRecDepth 20000 in
theorem take_any (w : World) (g : Nat) (cap k : Int) (ps : List (Int × Int)) (h : RefAt w g cap ps) (hn : ps.length < 1000000) :
    Calls Try.prog 40 #[.pointer (some ⟨g, 0, none⟩), .int .i64 k] w (TakeQ w g cap ps k) := by
  obtain ⟨pv, hb, ho⟩ := h
  have H := Lib.hid (And.intro hb (And.intro ho hn))
  obtain ⟨A, c, rfl, hAc⟩ := own_slice ho
  clear hb ho hn
  go_enter Try.func40, Try.ntmps40
  go_wp2
  go_loopg [6, 8, 9] ps.length (fun n v is i wr => ∃ done rest, TakeRel w ps k n v is i wr done rest)
  case atStart =>
    refine ⟨[], ps, ⟨rfl, rfl, rfl, rfl, World.ownsRow_nil _ _ _ _, ?_, ?_, by_alloc (by_alloc (by_refl _ _) _) _⟩⟩
    · exact (Blk.new w _ _).alloc _
    · have := Blk.new (w.alloc (.cells #[.int .i64 0, .int .i64 0] 79)) 79 #[.int .i64 0, .int .i64 0]
      change Blk _ _ _ #[.int .i64 0, .int .i64 0]
      simpa using this
  case round =>
    obtain ⟨done, rest, hr⟩ := hrel
    obtain rfl := hr.i_
    obtain rfl := hr.is_
    have c1 : wr.cell? ⟨g, 1, none⟩ = some (.slice A ps.length c) := (H.out.1.grown hr.by_ (by simp)).cell 1
    cases rest with
    | nil =>
      obtain ⟨A6, c6, rfl, hA6⟩ := own_slice hr.own
      have hg := H.out.1.lt
      have hgw := (H.out.1.grown hr.by_ (by simp))
      have f1 : wr.frozen? ⟨g, 1, none⟩ = false := hgw.frozen 1
      obtain ⟨w1, hw1⟩ : ∃ w1, wr.setCell ⟨g, 1, none⟩ (.slice A6 (less done k).length c6) = w1 := ⟨_, rfl⟩
      have b4 : Blk w1 w.heap.size 79 #[.int .i64 0, .int .i64 0] := by rw [← hw1]; exact hr.b4.far (by simp; omega) _
      have b7 : Blk w1 (w.heap.size + 1) 79 #[.int .i64 (lastM done k).1.1, .int .i64 (lastM done k).1.2] := by rw [← hw1]; exact hr.b7.far (by simp; omega) _
      have hgb : Blk w1 g 38 #[.int .i64 cap, (.slice A6 (less done k).length c6)] := by rw [← hw1]; exact hgw.set_ 1 (.slice A6 (less done k).length c6)
      have y1 : w.grownBy w1 (some g) := by rw [← hw1]; exact by_set (by_of_none hr.by_ _) (.inl rfl) _
      have o1 : w1.ownsRow (w.heap.size + 2) 79 2 (.slice A6 (less done k).length c6) (less done k).length (flat (less done k)) := by
        rw [← hw1]
        refine hr.own.kept (row := some g) (by_set (by_refl _ _) (.inl rfl) _) (.inr fun e => ?_)
        have := (World.ownsRow.lt hr.own g e).1
        omega
      have x0 : w1.cell? ⟨w.heap.size, 0, none⟩ = some (.int .i64 0) := b4.cell 0
      have x1 : w1.cell? ⟨w.heap.size, 1, none⟩ = some (.int .i64 0) := b4.cell 1
      have fx0 : w1.frozen? ⟨w.heap.size, 0, none⟩ = false := b4.frozen 0
      have fx1 : w1.frozen? ⟨w.heap.size, 1, none⟩ = false := b4.frozen 1
      have z0 : w1.cell? ⟨w.heap.size + 1, 0, none⟩ = some (.int .i64 (lastM done k).1.1) := b7.cell 0
      have z1 : w1.cell? ⟨w.heap.size + 1, 1, none⟩ = some (.int .i64 (lastM done k).1.2) := b7.cell 1
      have he := hr.eq
      rw [List.append_nil] at he
      have hfin : TakeQ w g cap ps k (.returned (.tuple #[.agg #[.int .i64 (lastM done k).1.1, .int .i64 (lastM done k).1.2], .bool (lastM done k).2])) ((w1.setCell ⟨w.heap.size, 0, none⟩ (.int .i64 (lastM done k).1.1)).setCell ⟨w.heap.size, 1, none⟩ (.int .i64 (lastM done k).1.2)) := by
        rw [he]
        have y2 : w1.grownBy ((w1.setCell ⟨w.heap.size, 0, none⟩ (.int .i64 (lastM done k).1.1)).setCell ⟨w.heap.size, 1, none⟩ (.int .i64 (lastM done k).1.2)) (some w.heap.size) := by_set2 _ _ _ _
        refine ⟨rfl, ⟨(.slice A6 (less done k).length c6), hgb.grown y2 (by simp; omega), ?_⟩, by_trans y1 y2 (fun x hx => .inr (by cases hx; exact Nat.le_refl _))⟩
        have o2 := o1.kept y2 (.inr fun e => by have := (World.ownsRow.lt o1 _ e).1; omega)
        refine ⟨o2.1, o2.2.imp id fun ⟨b, c, cur, e1, e2, e3⟩ => ⟨b, c, cur, e1, by omega, e3⟩⟩
      have r0 : (w1.setCell ⟨w.heap.size, 0, none⟩ (.int .i64 (lastM done k).1.1)).cell? ⟨w.heap.size, 0, none⟩ = some (.int .i64 (lastM done k).1.1) := (b4.set_ 0 _).cell 0
      have r1 : ((w1.setCell ⟨w.heap.size, 0, none⟩ (.int .i64 (lastM done k).1.1)).setCell ⟨w.heap.size, 1, none⟩ (.int .i64 (lastM done k).1.2)).cell? ⟨w.heap.size, 1, none⟩ = some (.int .i64 (lastM done k).1.2) := ((b4.set_ 0 _).set_ 1 _).cell 1
      have hlen : done.length = ps.length := by rw [he]
      have Hfin := Lib.hid hfin
      clear hfin y1 o1 b4 b7 hgb hgw hr he
      generalize (less done k).length = q6 at *
      generalize (lastM done k).1.1 = p1 at *
      generalize (lastM done k).1.2 = p2 at *
      generalize (lastM done k).2 = pb at *
      have hge1 : ¬ ((done.length : Int) < (ps.length : Int)) := by omega
      have hge : decide (done.length < ps.length) = false := by simp; omega
      clear hlen
      have hne1 : w.heap.size + 1 ≠ g := by omega
      go_wp2
      exact bodyPost_ret (v := .tuple #[.agg #[.int .i64 p1, .int .i64 p2], .bool pb]) (by simp [results, Try.results40, go_sem, r0, r1]) rfl Hfin.out
    | cons q rest =>
      obtain ⟨qk, qv⟩ := q
      have hlt : (done.length : Int) < (ps.length : Int) := by rw [hr.eq]; simp; omega
      have hlt2 : (0 : Int) ≤ (done.length : Int) := by omega
      have hlt3 : (done.length : Int) ≤ 1000000 := by have := H.out.2.2; omega
      have hA : ∃ b, A = some ⟨b, 0, none⟩ ∧ wr.cell? ⟨b, done.length * 2, none⟩ = some (.int .i64 qk) ∧ wr.cell? ⟨b, done.length * 2 + 1, none⟩ = some (.int .i64 qv) := by
        rcases H.out.2.1.2 with ⟨e, h0⟩ | ⟨b, c', cur, e, _, _, h5, _⟩
        · rw [h0] at hlt; omega
        · injection e with e1 e2 e3
          subst e1
          have hg := (flat_at done (qk, qv) rest)
          rw [← hr.eq] at hg
          have hadd : ∀ i, (⟨b, 0, none⟩ : Addr).add i = ⟨b, i, none⟩ := fun i => by unfold Addr.add; split <;> simp_all
          have k1 := H.out.2.1.cells (g := b) rfl _ _ hg.1
          have k2 := H.out.2.1.cells (g := b) rfl _ _ hg.2
          rw [hadd] at k1 k2
          exact ⟨b, rfl, hr.by_.cell k1 (by simp), hr.by_.cell k2 (by simp)⟩
      obtain ⟨b, rfl, d1, d2⟩ := hA
      have b7 := hr.b7
      have hsm : (less done k).length + 1 ≤ 1000000 := by
        have h1 : (less done k).length ≤ done.length := List.length_filter_le _ _
        have h2 := H.out.2.2
        rw [hr.eq] at h2
        simp at h2
        omega
      have Hr := Lib.hid (And.intro hr hsm)
      clear hr hsm
      by_cases hq : qk = k
      · have e0 : wr.cell? ⟨w.heap.size + 1, 0, none⟩ = some (.int .i64 (lastM done k).1.1) := b7.cell 0
        have e1 : wr.cell? ⟨w.heap.size + 1, 1, none⟩ = some (.int .i64 (lastM done k).1.2) := b7.cell 1
        have fe0 : wr.frozen? ⟨w.heap.size + 1, 0, none⟩ = false := b7.frozen 0
        have fe1 : wr.frozen? ⟨w.heap.size + 1, 1, none⟩ = false := b7.frozen 1
        clear b7
        go_wp2
        go_roundg (rest.length)
        case measure => have := Hr.out.1.n_; simp at this; omega
        case rel =>
          have hr := Hr.out.1
          have y2 : wr.grownBy ((wr.setCell ⟨w.heap.size + 1, 0, none⟩ (.int .i64 k)).setCell ⟨w.heap.size + 1, 1, none⟩ (.int .i64 qv)) (some (w.heap.size + 1)) := by_set2 _ _ _ _
          have hl : lastM (done ++ [(qk, qv)]) k = ((qk, qv), true) := by rw [lastM_snoc, if_pos hq]
          have hs : less (done ++ [(qk, qv)]) k = less done k := by rw [less_snoc, if_pos hq]
          refine ⟨done ++ [(qk, qv)], rest, ⟨by rw [hr.eq]; simp, by rw [List.length_append]; go_num, by rw [hl], rfl, ?_, hr.b4.grown y2 (by simp), ?_, ?_⟩⟩
          · rw [hs]
            exact hr.own.kept y2 (.inr fun e => by have := (World.ownsRow.lt hr.own _ e).1; omega)
          · rw [hl]
            have := (hr.b7.set_ 0 (.int .i64 k)).set_ 1 (.int .i64 qv)
            simpa [hq] using this
          · exact by_trans hr.by_ y2 (fun x hx => .inr (by cases hx; omega))
      · have hown2 := Hr.out.1.own
        obtain ⟨i0, hi, hz0, hz1, hz2⟩ := info_parts infoP
        have hcell := (Blk.new wr 79 #[.int .i64 qk, .int .i64 qv]).cell
        have Hcell := Lib.hid hcell
        clear hcell b7
        go_wp2_with (at_builtin; refine wpList_append_own _ rfl _ _ 36 rfl (w.heap.size + 2) 79 i0 (.agg #[.int .i64 0, .int .i64 0]) 2 16 Try.underlying36 hi hz0 hz1 hz2 rfl (by decide) _ _ _ rfl (hown2.alloc _) ⟨wr.heap.size, 0, none⟩ 1 1 [.int .i64 qk, .int .i64 qv] rfl rfl ?c1 ?c2 ?c3 ?c4 ?c5 ?_)
        case c1 =>
          intro j u hu
          have h0 := Hcell.out 0
          have h1 := Hcell.out 1
          rcases j with _ | _ | j
          · simp at hu; subst hu; exact h0
          · simp at hu; subst hu; exact h1
          · simp at hu
        case c2 => simp [Value.oneCell']
        case c3 => have := Hr.out.2; unfold maxLen; omega
        case c4 => have := Hr.out.2; omega
        case c5 => have h1 := (World.ownsRow.lt hown2); have h2 := Hr.out.1.b7.lt; simp; omega
        intro v' w3 hown3 hby3 _
        have H3 := Lib.hid (And.intro hown3 hby3)
        clear hown3 hby3
        go_wp2
        go_roundg (rest.length)
        case measure => have := Hr.out.1.n_; simp at this; omega
        case rel =>
          obtain ⟨hown3, hby3⟩ := H3.out
          have hr := Hr.out.1
          have h5 := World.ownsRow.lt hown2
          have hl : lastM (done ++ [(qk, qv)]) k = lastM done k := by rw [lastM_snoc, if_neg hq]
          have hs : less (done ++ [(qk, qv)]) k = less done k ++ [(qk, qv)] := by rw [less_snoc, if_neg hq]
          have hx : ∀ x, u6.ownBlock = some x → w.heap.size + 2 ≤ x := fun x hx => (h5 x hx).1
          refine ⟨done ++ [(qk, qv)], rest, ⟨by rw [hr.eq]; simp, by rw [List.length_append]; go_num, by rw [hl], rfl, ?_, (hr.b4.alloc _).grown hby3 fun e => by have := hx _ e.symm; omega, ?_, ?_⟩⟩
          · rw [hs, flat_app, List.length_append]
            exact hown3
          · rw [hl]
            exact (hr.b7.alloc _).grown hby3 fun e => by have := hx _ e.symm; omega
          · exact by_trans (by_alloc hr.by_ _) hby3 (fun x hx' => .inr (by have := hx _ hx'; omega))

end Go.Proofs.Ytgjklppmimhgnaa
