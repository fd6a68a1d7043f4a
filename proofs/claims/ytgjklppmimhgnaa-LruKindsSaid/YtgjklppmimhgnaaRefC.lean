/-
  The reference: its Put, Keys.
-/
import Derived.Test.YtgjklppmimhgnaaRefB
namespace Go.Proofs.Ytgjklppmimhgnaa
open Go.RowKit

theorem own_cut {w : World} {base : Nat} {e : TypeId} {size n m c : Nat} {A : Option Addr} {xs : List Value} (h : w.ownsRow base e size (.slice A n c) n xs) (hm : m ≤ n) : w.ownsRow base e size (.slice A m c) m (xs.take (m * size)) := by
  have hs : m * size ≤ n * size := Nat.mul_le_mul_right _ hm
  refine ⟨by rw [List.length_take, h.1]; omega, ?_⟩
  rcases h.2 with ⟨e1, h0⟩ | ⟨g, cap, cur, e1, h3, h4, h5, h6, h7, h8⟩
  · have hm0 : m = 0 := by omega
    subst hm0; subst h0
    exact .inl ⟨e1, rfl⟩
  · injection e1 with e1 e2 e3
    subst e1; subst e3
    refine .inr ⟨g, c, cur, rfl, h3, h4, by omega, h6, h7, ?_⟩
    rw [← h8, List.take_take]
    congr 1
    omega
theorem flat_take (ms : List (Int × Int)) (p : Int × Int) : (flat (ms ++ [p])).take (ms.length * 2) = flat ms := by
  rw [flat_app, List.take_append, flat_len]
  simp [List.take_of_length_le, flat_len]

theorem cut_ref {w : World} {g : Nat} {cap : Int} {ms : List (Int × Int)} {p : Int × Int} {A : Option Addr} {c : Nat} (hb : Blk w g 38 #[.int .i64 cap, .slice A (ms ++ [p]).length c]) (ho : w.ownsRow 0 79 2 (.slice A (ms ++ [p]).length c) (ms ++ [p]).length (flat (ms ++ [p]))) :
    RefAt (w.setCell ⟨g, 1, none⟩ (.slice A ms.length c)) g cap ms := by
  have h1 := own_cut ho (m := ms.length) (by simp)
  rw [flat_take] at h1
  exact ⟨_, hb.set_ 1 _, ownsRow_setCell_other h1 (a := ⟨g, 1, none⟩) (own_blk_ne h1 hb (by decide)) _⟩

set_option maxHeartbeats 400000 in
theorem rput_hit (w : World) (g : Nat) (cap k v u : Int) (l1 l2 : List (Int × Int)) (h : RefAt w g cap (l1 ++ (k, u) :: l2)) (hd : ((l1 ++ (k, u) :: l2).map (·.1)).Nodup) (hn : (l1 ++ (k, u) :: l2).length < 1000000) :
    Calls Try.prog 13 #[.pointer (some ⟨g, 0, none⟩), .int .i64 k, .int .i64 v] w (RDid w g cap ((k, v) :: (l1 ++ l2)) (.tuple #[])) := by
  have hn2 : (l1 ++ l2).length < 1000000 := by simp at hn ⊢; omega
  have H := Lib.hid (And.intro h (And.intro hn (And.intro hd hn2)))
  clear h hn hd hn2
  go_enter Try.func13, Try.ntmps13
  go_wp2_with fail
  refine (take_any w g cap k _ H.out.1 H.out.2.1).mono ?_
  intro e w1 hq
  obtain ⟨rfl, r1, y1⟩ := hq.hit H.out.2.2.1
  have R1 := Lib.hid (And.intro r1 y1)
  clear hq r1 y1
  go_wp2_with fail
  go_quiet (fail)
  go_wp2_with fail
  refine (rfirst_any _ g cap k v (l1 ++ l2) (R1.out.1.by_none (by_drewN (by_alloc (by_refl _ _) _) _)) H.out.2.2.2).mono ?_
  rintro e w2 ⟨rfl, r2, y2⟩
  have hfin : RDid w g cap ((k, v) :: (l1 ++ l2)) (.tuple #[]) (.returned (.tuple #[])) w2 :=
    ⟨rfl, r2, by_trans (by_drewN (by_alloc R1.out.2 _) _) y2 (fun x hx => .inl hx.symm)⟩
  have Hfin := Lib.hid hfin
  clear hfin r2 y2
  go_wp2
  go_end0
  exact Hfin.out

set_option maxHeartbeats 400000 in
theorem rput_shut (w : World) (g : Nat) (k v : Int) (ps : List (Int × Int)) (h : RefAt w g 0 ps) (hk : ∀ q ∈ ps, q.1 ≠ k) (hn : ps.length < 1000000) :
    Calls Try.prog 13 #[.pointer (some ⟨g, 0, none⟩), .int .i64 k, .int .i64 v] w (RDid w g 0 ps (.tuple #[])) := by
  have H := Lib.hid (And.intro h (And.intro hn hk))
  clear h hn hk
  go_enter Try.func13, Try.ntmps13
  go_wp2_with fail
  refine (take_any w g 0 k _ H.out.1 H.out.2.1).mono ?_
  intro e w1 hq
  obtain ⟨rfl, r1, y1⟩ := hq.miss H.out.2.2
  obtain ⟨pv, hb, ho⟩ := r1
  have c0 : w1.cell? ⟨g, 0, none⟩ = some (.int .i64 0) := hb.cell 0
  have hgl := hb.lt
  have hne : g ≠ w1.heap.size := by omega
  have hfin : RDid w g 0 ps (.tuple #[]) (.returned (.tuple #[])) (w1.alloc (.cells #[.int .i64 0, .int .i64 0] 79)) :=
    ⟨rfl, RefAt.by_none ⟨pv, hb, ho⟩ (by_alloc (by_refl _ _) _), by_alloc y1 _⟩
  have Hfin := Lib.hid hfin
  clear hfin hb ho y1 hq
  go_wp2
  go_end0
  exact Hfin.out

set_option maxHeartbeats 400000 in
theorem rput_room (w : World) (g : Nat) (cap k v : Int) (ps : List (Int × Int)) (h : RefAt w g cap ps) (hk : ∀ q ∈ ps, q.1 ≠ k) (hn : ps.length < 1000000) (_hc : cap ≠ 0) (hl : (ps.length : Int) < cap) :
    Calls Try.prog 13 #[.pointer (some ⟨g, 0, none⟩), .int .i64 k, .int .i64 v] w (RDid w g cap ((k, v) :: ps) (.tuple #[])) := by
  have H := Lib.hid (And.intro h (And.intro hn hk))
  clear h hn hk
  go_enter Try.func13, Try.ntmps13
  go_wp2_with fail
  refine (take_any w g cap k _ H.out.1 H.out.2.1).mono ?_
  intro e w1 hq
  obtain ⟨rfl, r1, y1⟩ := hq.miss H.out.2.2
  have R1 := Lib.hid (And.intro r1 y1)
  obtain ⟨pv, hb, ho⟩ := r1
  obtain ⟨A, c, rfl, hAc⟩ := own_slice ho
  have c0 : w1.cell? ⟨g, 0, none⟩ = some (.int .i64 cap) := hb.cell 0
  have c1 : w1.cell? ⟨g, 1, none⟩ = some (.slice A ps.length c) := hb.cell 1
  have hgl := hb.lt
  have hne : g ≠ w1.heap.size := by omega
  have hd : decide (cap ≤ (ps.length : Int)) = false := by simpa using hl
  clear hb ho y1 hq
  go_wp2_with fail
  go_quiet (fail)
  go_wp2_with fail
  refine (rfirst_any _ g cap k v ps (R1.out.1.by_none (by_drewN (by_alloc (by_refl _ _) _) _)) H.out.2.1).mono ?_
  rintro e w2 ⟨rfl, r2, y2⟩
  have hfin : RDid w g cap ((k, v) :: ps) (.tuple #[]) (.returned (.tuple #[])) w2 :=
    ⟨rfl, r2, by_trans (by_drewN (by_alloc R1.out.2 _) _) y2 (fun x hx => .inl hx.symm)⟩
  have Hfin := Lib.hid hfin
  clear hfin r2 y2 c0 c1 hne hgl hd
  go_wp2
  go_end0
  exact Hfin.out

set_option maxHeartbeats 400000 in
theorem rput_full (w : World) (g : Nat) (k v : Int) (ms : List (Int × Int)) (p : Int × Int) (h : RefAt w g ((ms.length : Int) + 1) (ms ++ [p])) (hk : ∀ q ∈ ms ++ [p], q.1 ≠ k) (hn : (ms ++ [p]).length < 1000000) :
    Calls Try.prog 13 #[.pointer (some ⟨g, 0, none⟩), .int .i64 k, .int .i64 v] w (RDid w g ((ms.length : Int) + 1) ((k, v) :: ms) (.tuple #[])) := by
  have hn2 : ms.length < 1000000 := by simp at hn; omega
  have H := Lib.hid (And.intro h (And.intro hn (And.intro hk hn2)))
  clear h hn hk
  go_enter Try.func13, Try.ntmps13
  go_wp2_with fail
  refine (take_any w g _ k _ H.out.1 H.out.2.1).mono ?_
  intro e w1 hq
  obtain ⟨rfl, r1, y1⟩ := hq.miss H.out.2.2.1
  obtain ⟨pv, hb, ho⟩ := r1
  obtain ⟨A, c, rfl, hAc⟩ := own_slice ho
  have hgl := hb.lt
  have hne : g ≠ w1.heap.size := by omega
  have hr := fun q => cut_ref ((hb.alloc (.cells #[.int .i64 0, .int .i64 0] 79)).drewN q) (own_drewN (ho.alloc (.cells #[.int .i64 0, .int .i64 0] 79)) q)
  have c0 : w1.cell? ⟨g, 0, none⟩ = some (.int .i64 ((ms.length : Int) + 1)) := hb.cell 0
  have c1 : w1.cell? ⟨g, 1, none⟩ = some (.slice A (ms.length + 1) c) := by have := hb.cell 1; simpa using this
  have f1 : w1.frozen? ⟨g, 1, none⟩ = false := hb.frozen 1
  have hc0 : (ms.length : Int) + 1 ≠ 0 := by omega
  have hcz : ms.length + 1 ≤ c := by simpa using hAc
  have hR := Lib.hid (And.intro hr y1)
  generalize hnn : ms.length = n at *
  have Hnn := Lib.hid hnn
  clear hnn
  clear hb ho hr y1 hq hAc
  go_wp2_with fail
  go_quiet (fail)
  go_wp2_with fail
  go_region
  clear c0 c1 f1 hc0 hcz hgl hne
  go_wp2_with fail
  refine (rfirst_any _ g _ k v ms (hR.out.1 _) (by rw [Hnn.out]; exact H.out.2.2.2)).mono ?_
  rintro e w2 ⟨rfl, r2, y2⟩
  have hfin : RDid w g ((n : Int) + 1) ((k, v) :: ms) (.tuple #[]) (.returned (.tuple #[])) w2 :=
    ⟨rfl, r2, by_trans (by_set (by_drewN (by_alloc hR.out.2 _) _) (.inl rfl) _) y2 (fun x hx => .inl hx.symm)⟩
  have Hfin := Lib.hid hfin
  clear hfin r2 y2
  go_wp2
  go_end0
  exact Hfin.out

theorem rput_any (w : World) (g : Nat) (cap k v : Int) (ps : List (Int × Int)) (h : RefAt w g cap ps) (hd : (ps.map (·.1)).Nodup) (hn : ps.length < 1000000) (hcap : (ps.length : Int) ≤ cap) :
    Calls Try.prog 13 #[.pointer (some ⟨g, 0, none⟩), .int .i64 k, .int .i64 v] w (RDid w g cap (putted cap ps k v) (.tuple #[])) := by
  rcases split_ps ps k with ⟨l1, u, l2, rfl⟩ | ⟨h1, h2, h3⟩
  · rw [putted_at hd]
    exact rput_hit w g cap k v u l1 l2 h hd hn
  · rw [putted_none h1]
    by_cases hc : cap = 0
    · subst hc
      rw [if_pos rfl]
      exact rput_shut w g k v ps h h3 hn
    · rw [if_neg hc]
      by_cases hl : (ps.length : Int) = cap
      · rw [if_pos hl]
        rcases List.eq_nil_or_concat ps with rfl | ⟨ms, p, rfl⟩
        · simp at hl; exact absurd hl.symm hc
        · simp only [List.concat_eq_append] at *
          rw [List.dropLast_concat]
          obtain rfl : cap = (ms.length : Int) + 1 := by rw [← hl]; simp
          exact rput_full w g k v ms p h h3 hn
      · rw [if_neg hl]
        exact rput_room w g cap k v ps h h3 hn hc (by omega)

/-! ### Keys -/
structure RKeysRel (w0 : World) (ps : List (Int × Int)) (n : Nat) (v i : Value) (wr : World) (done rest : List (Int × Int)) : Prop where
  eq : ps = done ++ rest
  i_ : i = .int .i64 (done.length : Nat)
  n_ : n = rest.length
  own : wr.ownsRow w0.heap.size 3 1 v done.length (done.map fun q => .int .i64 q.1)
  by_ : w0.grownBy wr none

set_option maxHeartbeats 1000000 in
set_option maxRecDepth 20000 in
theorem rkeys_any (w : World) (g : Nat) (cap : Int) (ps : List (Int × Int)) (h : RefAt w g cap ps) (hn : ps.length < 1000000) :
    Calls Try.prog 16 #[.pointer (some ⟨g, 0, none⟩)] w (KeysQ w ps) := by
  obtain ⟨pv, hb, ho⟩ := h
  have H := Lib.hid (And.intro hb (And.intro ho hn))
  obtain ⟨A, c, rfl, hAc⟩ := own_slice ho
  clear hb ho hn
  go_enter Try.func16, Try.ntmps16
  go_wp2
  go_loopg [3, 4] ps.length (fun n v i wr => ∃ done rest, RKeysRel w ps n v i wr done rest)
  case atStart => exact ⟨[], ps, ⟨rfl, rfl, rfl, World.ownsRow_nil _ _ _ _, by_refl _ _⟩⟩
  case round =>
    obtain ⟨done, rest, hr⟩ := hrel
    obtain rfl := hr.i_
    have c1 : wr.cell? ⟨g, 1, none⟩ = some (.slice A ps.length c) := (H.out.1.grown hr.by_ (by simp)).cell 1
    cases rest with
    | nil =>
      have he := hr.eq
      rw [List.append_nil] at he
      have hfin : KeysQ w ps (.returned u3) wr := by
        refine ⟨u3, rfl, ?_, hr.by_⟩
        rw [he]
        exact hr.own
      have hge1 : ¬ ((done.length : Int) < (ps.length : Int)) := by rw [he]; omega
      have hge : decide (done.length < ps.length) = false := by rw [he]; simp
      have Hfin := Lib.hid hfin
      clear hfin hr he
      go_wp2
      go_ret
      exact Hfin.out
    | cons q rest =>
      obtain ⟨qk, qv⟩ := q
      have hlt : (done.length : Int) < (ps.length : Int) := by rw [hr.eq]; simp; omega
      have hlt2 : (0 : Int) ≤ (done.length : Int) := by omega
      have hlt3 : (done.length : Int) ≤ 1000000 := by have := H.out.2.2; omega
      have hA : ∃ b, A = some ⟨b, 0, none⟩ ∧ wr.cell? ⟨b, done.length * 2, none⟩ = some (.int .i64 qk) := by
        rcases H.out.2.1.2 with ⟨e, h0⟩ | ⟨b, c', cur, e, _, _, h5, _⟩
        · rw [h0] at hlt; omega
        · injection e with e1 e2 e3
          subst e1
          have hg := (flat_at done (qk, qv) rest)
          rw [← hr.eq] at hg
          have hadd : ∀ i, (⟨b, 0, none⟩ : Addr).add i = ⟨b, i, none⟩ := fun i => by unfold Addr.add; split <;> simp_all
          have k1 := H.out.2.1.cells (g := b) rfl _ _ hg.1
          rw [hadd] at k1
          exact ⟨b, rfl, hr.by_.cell k1 (by simp)⟩
      obtain ⟨b, rfl, d1⟩ := hA
      have hsm : done.length + 1 ≤ 1000000 := by have h1 := hr.eq; have h2 := H.out.2.2; rw [h1] at h2; simp at h2; omega
      have hown2 := hr.own
      obtain ⟨i0, hi, hz0, hz1, hz2⟩ := info_parts infoI
      have Hr := Lib.hid (And.intro hr hsm)
      clear hr hsm
      go_wp2_with (at_builtin; refine wpList_append_own _ rfl _ _ 32 rfl (w.heap.size) 3 i0 (.int .i64 0) 1 8 Try.underlying32 hi hz0 hz1 hz2 rfl (by decide) _ _ _ rfl (hown2.alloc _) ⟨wr.heap.size, 0, none⟩ 1 1 [.int .i64 qk] rfl rfl ?c1 ?c2 ?c3 ?c4 ?c5 ?_)
      case c1 => exact cell_one_new _ _ _
      case c2 => simp [Value.oneCell']
      case c3 => have := Hr.out.2; unfold maxLen; omega
      case c4 => have := Hr.out.2; omega
      case c5 => have h1 := Hr.out.1.by_.size; simp; omega
      intro v' w3 hown3 hby3 _
      have H3 := Lib.hid (And.intro hown3 hby3)
      clear hown3 hby3
      go_wp2
      go_roundg (rest.length)
      case measure => have := Hr.out.1.n_; simp at this; omega
      case rel =>
        obtain ⟨hown3, hby3⟩ := H3.out
        have h5 := World.ownsRow.lt hown2
        refine ⟨done ++ [(qk, qv)], rest, ⟨by rw [Hr.out.1.eq]; simp, by rw [List.length_append]; go_num, rfl, by simpa using hown3, ?_⟩⟩
        exact by_trans (by_alloc Hr.out.1.by_ _) hby3 (fun x hx => .inr (h5 x hx).1)

end Go.Proofs.Ytgjklppmimhgnaa
