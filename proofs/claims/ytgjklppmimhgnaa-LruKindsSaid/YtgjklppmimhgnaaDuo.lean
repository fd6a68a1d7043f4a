/-
  An Lru beside the reference; two Lrus side by side; the law's works.
-/
import Derived.Test.YtgjklppmimhgnaaRefC
namespace Go.Proofs.Ytgjklppmimhgnaa
open Go.RowKit

/-- one Lru, all of it new -/
def One (w0 w : World) (l : Nat) (cap : Int) (ps : PL) : Prop :=
  ∃ own, Lru w l own cap ps ∧ w0.grownBy w none ∧ ∀ b, own b → w0.heap.size ≤ b
/-- a block of another type than those of an Lru of ints and of the reference -/
def Other (w : World) (b : Nat) : Prop := ∃ t cs, w.heap[b]? = some (.cells cs t (0, 0)) ∧ t ≠ 75 ∧ t ≠ 73 ∧ t ≠ 38 ∧ t ≠ 79
theorem Lru.other {w : World} {l g : Nat} {own : Nat → Prop} {cap : Int} {ps : PL} (h : Lru w l own cap ps) (hg : Other w g) : ¬ own g := by
  obtain ⟨t, cs, h1, h2, h3, _⟩ := hg
  exact h.apart h1 h2 h3
theorem RefAt.lt {w : World} {g : Nat} {cap : Int} {ps : PL} (h : RefAt w g cap ps) : g < w.heap.size := by
  obtain ⟨v, hb, _⟩ := h
  exact hb.lt
theorem Lru.not_ref {w : World} {l g : Nat} {own : Nat → Prop} {cap c : Int} {ps qs : PL} (h : Lru w l own cap ps) (hr : RefAt w g c qs) : ¬ own g := by
  obtain ⟨v, hb, _⟩ := hr
  exact h.apart hb (by decide) (by decide)
theorem RefAt.own_chg {w w' : World} {l g : Nat} {own : Nat → Prop} {cap c : Int} {ps qs : PL} (h : Lru w l own cap ps) (hr : RefAt w g c qs) (hc : Chg w w' own) : RefAt w' g c qs := by
  refine hr.chg hc fun b t cs hb hh => ⟨?_, ?_⟩
  · rintro rfl; exact h.apart hh (by decide) (by decide) hb
  · rintro rfl; exact h.apart hh (by decide) (by decide) hb

section
variable {w0 w w' : World} {l : Nat} {cap : Int} {ps : PL}
theorem One.by_none (h : One w0 w l cap ps) (hg : w.grownBy w' none) : One w0 w' l cap ps := by
  obtain ⟨own, h1, h2, h3⟩ := h
  exact ⟨own, h1.by_none hg, by_trans h2 hg (by simp), h3⟩
theorem One.by_ (h : One w0 w l cap ps) : w0.grownBy w none := by obtain ⟨_, _, h2, _⟩ := h; exact h2
theorem One.did {ps' : PL} {v : Value} {e : Ending} {own : Nat → Prop} (hby : w0.grownBy w none) (ho : ∀ b, own b → w0.heap.size ≤ b) (hd : Did w l own cap ps' v e w') : e = .returned v ∧ One w0 w' l cap ps' := by
  obtain ⟨rfl, hc, own', h', hsub⟩ := hd
  refine ⟨rfl, own', h', ?_, fun b hb => ?_⟩
  · have : Chg w0 w' own := (Chg.of_none (S := own) hby).trans hc fun k hk => .inl hk
    exact this.none_ ho
  · rcases hsub b hb with h | h
    · exact ho b h
    · have := hby.size; omega
theorem One.put {k v : Int} (h : One w0 w l cap ps) (hk : WfI k) (hn : ps.length < 1000000) :
    Calls Try.prog 12 #[.pointer (some ⟨l, 0, none⟩), .int .i64 k, .int .i64 v] w fun e w' => e = .returned (.tuple #[]) ∧ One w0 w' l cap (putted cap ps k v) := by
  obtain ⟨own, h1, h2, h3⟩ := h
  exact (put_any w l own cap k v ps h1 hk hn).mono fun e w' hd => One.did h2 h3 hd
theorem One.get {k : Int} (h : One w0 w l cap ps) (hk : WfI k) :
    Calls Try.prog 10 #[.pointer (some ⟨l, 0, none⟩), .int .i64 k] w fun e w' => e = .returned (GetV ps k) ∧ One w0 w' l cap (got ps k) := by
  obtain ⟨own, h1, h2, h3⟩ := h
  exact (get_any w l own cap k ps h1 hk).mono fun e w' hd => One.did h2 h3 hd
theorem One.len (h : One w0 w l cap ps) :
    Calls Try.prog 17 #[.pointer (some ⟨l, 0, none⟩)] w fun e w' => e = .returned (.int .i64 (ps.length : Nat)) ∧ w = w' := by
  obtain ⟨own, h1, h2, h3⟩ := h
  exact len_any w l own cap ps h1
theorem KeysQ.nums {ps : PL} {e : Ending} (h : KeysQ w ps e w') : ∃ v, e = .returned v ∧ Nums w' .i64 v (ps.map (·.1)) ∧ w.grownBy w' none ∧ w'.ownsRow w.heap.size 3 1 v ps.length (ps.map fun q => .int .i64 q.1) := by
  obtain ⟨v, rfl, h1, h2⟩ := h
  refine ⟨v, rfl, Nums.of_own (base := w.heap.size) (e := 3) ?_, h2, h1⟩
  simpa [Function.comp_def] using h1
theorem One.keys (h : One w0 w l cap ps) (hn : ps.length < 1000000) :
    Calls Try.prog 14 #[.pointer (some ⟨l, 0, none⟩)] w fun e w' => ∃ v, e = .returned v ∧ Nums w' .i64 v (ps.map (·.1)) ∧ One w0 w' l cap ps ∧ w.grownBy w' none := by
  have hh := h
  obtain ⟨own, h1, h2, h3⟩ := hh
  refine (keys_any w l own cap ps h1 hn).mono fun e w' hd => ?_
  obtain ⟨v, e1, e2, e3, _⟩ := hd.nums
  exact ⟨v, e1, e2, h.by_none e3, e3⟩
end
theorem new_one (w0 w : World) (cap : Int) (hby : w0.grownBy w none) :
    Calls Try.prog 8 #[.int .i64 cap] w fun e w' => ∃ l, e = .returned (.pointer (some ⟨l, 0, none⟩)) ∧ One w0 w' l (max cap 0) [] := by
  refine (new_any w cap).mono fun e w' ⟨l, own, he, h1, h2, h3⟩ => ⟨l, he, own, h1, by_trans hby h2 (by simp), fun b hb => Nat.le_trans hby.size (h3 b hb)⟩

set_option maxHeartbeats 1000000 in
set_option maxRecDepth 20000 in
theorem works_any (w : World) : Calls Try.prog 18 #[] w fun e w' => e = .returned (.bool true) ∧ w.grownBy w' none := by
  go_enter Try.func18, Try.ntmps18
  go_wp2_with fail
  refine (new_one w w 2 (by_refl _ _)).mono ?_
  rintro e w1 ⟨l, rfl, S1⟩
  go_wp2_with fail
  refine (S1.put (k := 1) (v := 10) (by unfold WfI; decide) (by decide)).mono ?_
  rintro e w2 ⟨rfl, S2⟩
  replace S2 : One w w2 l 2 [(1, 10)] := S2
  go_wp2_with fail
  refine (S2.put (k := 2) (v := 20) (by unfold WfI; decide) (by decide)).mono ?_
  rintro e w3 ⟨rfl, S3⟩
  replace S3 : One w w3 l 2 [(2, 20), (1, 10)] := S3
  go_wp2_with fail
  refine (S3.get (k := 1) (by unfold WfI; decide)).mono ?_
  rintro e w4 ⟨rfl, S4⟩
  replace S4 : One w w4 l 2 [(1, 10), (2, 20)] := S4
  have e4 : GetV [(2, 20), (1, 10)] 1 = .tuple #[.int .i64 10, .bool true] := rfl
  rw [e4]
  clear e4
  go_wp2_with fail
  refine (S4.put (k := 3) (v := 30) (by unfold WfI; decide) (by decide)).mono ?_
  rintro e w5 ⟨rfl, S5⟩
  replace S5 : One w w5 l 2 [(3, 30), (1, 10)] := S5
  go_wp2_with fail
  refine (S5.get (k := 2) (by unfold WfI; decide)).mono ?_
  rintro e w6 ⟨rfl, S6⟩
  replace S6 : One w w6 l 2 [(3, 30), (1, 10)] := S6
  have e6 : GetV [(3, 30), (1, 10)] 2 = .tuple #[.int .i64 0, .bool false] := rfl
  rw [e6]
  clear e6
  go_wp2_with fail
  refine (S6.keys (by decide)).mono ?_
  rintro e w7 ⟨v, rfl, n7, S7, y7⟩
  have H7 := Lib.hid (And.intro n7 S7)
  clear n7 S7 y7
  go_wp2_with fail
  have n8 : Nums (w7.alloc (.cells #[.int .i64 3, .int .i64 1] 3)) .i64 (.slice (some ⟨w7.heap.size, 0, none⟩) 2 2) [3, 1] :=
    Nums.of_own (base := 0) (e := 3) (World.ownsRow_lit (base := 0) (e := 3) (size := 1) w7 #[.int .i64 3, .int .i64 1] 2 (Nat.zero_le _) (by decide) rfl)
  refine (ints_same v (.slice (some ⟨w7.heap.size, 0, none⟩) 2 2) [3, 1] _ (H7.out.1.grown (by_alloc (by_refl _ _) _) (.inl rfl)) n8 (by decide)).mono ?_
  rintro e w8 ⟨rfl, n, rfl⟩
  have S8 := H7.out.2.by_none (by_drewN (by_alloc (by_refl _ _) (.cells #[.int .i64 3, .int .i64 1] 3)) n)
  have H8 := Lib.hid S8
  clear S8 n8
  go_wp2_with fail
  refine (H8.out.len).mono ?_
  rintro e w9 ⟨rfl, rfl⟩
  go_wp2
  go_ret
  exact ⟨rfl, H8.out.by_⟩

/-! ### an Lru beside the reference -/
def Two (w0 w : World) (l g : Nat) (cap : Int) (pa pb : PL) : Prop :=
  ∃ own, Lru w l own cap pa ∧ RefAt w g cap pb ∧ w0.grownBy w none ∧ (∀ b, own b → w0.heap.size ≤ b) ∧ w0.heap.size ≤ g
section
variable {w0 w w' : World} {l g : Nat} {cap : Int} {pa pb : PL}
theorem Two.by_none (h : Two w0 w l g cap pa pb) (hg : w.grownBy w' none) : Two w0 w' l g cap pa pb := by
  obtain ⟨own, h1, h2, h3, h4, h5⟩ := h
  exact ⟨own, h1.by_none hg, h2.by_none hg, by_trans h3 hg (by simp), h4, h5⟩
theorem Two.by_ (h : Two w0 w l g cap pa pb) : w0.grownBy w none := by obtain ⟨_, _, _, h3, _⟩ := h; exact h3
theorem Two.one (h : Two w0 w l g cap pa pb) : One w0 w l cap pa := by obtain ⟨own, h1, _, h3, h4, _⟩ := h; exact ⟨own, h1, h3, h4⟩
theorem Two.keys_ok (h : Two w0 w l g cap pa pb) : (pa.map (·.1)).Nodup := by obtain ⟨own, h1, _⟩ := h; exact h1.wf.2
theorem Two.ref (h : Two w0 w l g cap pa pb) : RefAt w g cap pb := by obtain ⟨_, _, h2, _⟩ := h; exact h2
/-- a block of the call's own, of another type, has turned -/
theorem Two.turn (h : Two w0 w l g cap pa pb) {x : Nat} (hc : w.grownBy w' (some x)) (ho : Other w x) (hx : w0.heap.size ≤ x) : Two w0 w' l g cap pa pb := by
  obtain ⟨own, h1, h2, h3, h4, h5⟩ := h
  refine ⟨own, h1.chg (S := fun b => b = x) (Chg.of_by hc (by simp)) (fun b hb e => h1.other ho (e ▸ hb)), h2.chg (S := fun b => b = x) (Chg.of_by hc (by simp)) ?_, by_trans h3 hc (fun y hy => .inr (by cases hy; exact hx)), h4, h5⟩
  rintro b t cs rfl hh
  obtain ⟨t', cs', k1, k2, k3, k4, k5⟩ := ho
  rw [k1] at hh
  injection hh with hh
  injection hh with _ ht
  exact ht ▸ ⟨k4, k5⟩
theorem Two.did {pa' : PL} {v : Value} {e : Ending} {own : Nat → Prop} (h1 : Lru w l own cap pa) (h2 : RefAt w g cap pb) (h3 : w0.grownBy w none) (h4 : ∀ b, own b → w0.heap.size ≤ b) (h5 : w0.heap.size ≤ g) (hd : Did w l own cap pa' v e w') :
    e = .returned v ∧ Two w0 w' l g cap pa' pb := by
  have h6 : RefAt w' g cap pb := RefAt.own_chg h1 h2 hd.2.1
  obtain ⟨he, own', k1, k2, k3⟩ := One.did h3 h4 hd
  exact ⟨he, own', k1, h6, k2, k3, h5⟩
theorem Two.rdid {pb' : PL} {v : Value} {e : Ending} (h : Two w0 w l g cap pa pb) (hd : RDid w g cap pb' v e w') : e = .returned v ∧ Two w0 w' l g cap pa pb' := by
  obtain ⟨own, h1, h2, h3, h4, h5⟩ := h
  obtain ⟨rfl, k1, k2⟩ := hd
  refine ⟨rfl, own, h1.chg (S := fun b => b = g) (Chg.of_by k2 (by simp)) (fun b hb e => h1.not_ref h2 (e ▸ hb)), k1, by_trans h3 k2 (fun y hy => .inr (by cases hy; exact h5)), h4, h5⟩
theorem Two.put {k v : Int} (h : Two w0 w l g cap pa pb) (hk : WfI k) (hn : pa.length < 1000000) :
    Calls Try.prog 12 #[.pointer (some ⟨l, 0, none⟩), .int .i64 k, .int .i64 v] w fun e w' => e = .returned (.tuple #[]) ∧ Two w0 w' l g cap (putted cap pa k v) pb := by
  obtain ⟨own, h1, h2, h3, h4, h5⟩ := h
  exact (put_any w l own cap k v pa h1 hk hn).mono fun e w' hd => Two.did h1 h2 h3 h4 h5 hd
theorem Two.get {k : Int} (h : Two w0 w l g cap pa pb) (hk : WfI k) :
    Calls Try.prog 10 #[.pointer (some ⟨l, 0, none⟩), .int .i64 k] w fun e w' => e = .returned (GetV pa k) ∧ Two w0 w' l g cap (got pa k) pb := by
  obtain ⟨own, h1, h2, h3, h4, h5⟩ := h
  exact (get_any w l own cap k pa h1 hk).mono fun e w' hd => Two.did h1 h2 h3 h4 h5 hd
theorem Two.rput {k v : Int} (h : Two w0 w l g cap pa pb) (hd : (pb.map (·.1)).Nodup) (hn : pb.length < 1000000) (hcap : (pb.length : Int) ≤ cap) :
    Calls Try.prog 13 #[.pointer (some ⟨g, 0, none⟩), .int .i64 k, .int .i64 v] w fun e w' => e = .returned (.tuple #[]) ∧ Two w0 w' l g cap pa (putted cap pb k v) :=
  (rput_any w g cap k v pb h.ref hd hn hcap).mono fun _ _ hq => h.rdid hq
theorem Two.rget {k : Int} (h : Two w0 w l g cap pa pb) (hd : (pb.map (·.1)).Nodup) (hn : pb.length < 1000000) :
    Calls Try.prog 11 #[.pointer (some ⟨g, 0, none⟩), .int .i64 k] w fun e w' => e = .returned (GetV pb k) ∧ Two w0 w' l g cap pa (got pb k) :=
  (rget_any w g cap k pb h.ref hd hn).mono fun _ _ hq => h.rdid hq
theorem Two.keys (h : Two w0 w l g cap pa pb) (hn : pa.length < 1000000) :
    Calls Try.prog 14 #[.pointer (some ⟨l, 0, none⟩)] w fun e w' => ∃ v, e = .returned v ∧ Nums w' .i64 v (pa.map (·.1)) ∧ w'.ownsRow w.heap.size 3 1 v pa.length (pa.map fun q => .int .i64 q.1) ∧ Two w0 w' l g cap pa pb ∧ w.grownBy w' none := by
  have hh := h
  obtain ⟨own, h1, _⟩ := hh
  refine (keys_any w l own cap pa h1 hn).mono fun e w' hd => ?_
  obtain ⟨v, e1, e2, e3, e4⟩ := hd.nums
  exact ⟨v, e1, e2, e4, h.by_none e3, e3⟩
theorem Two.rkeys (h : Two w0 w l g cap pa pb) (hn : pb.length < 1000000) :
    Calls Try.prog 16 #[.pointer (some ⟨g, 0, none⟩)] w fun e w' => ∃ v, e = .returned v ∧ Nums w' .i64 v (pb.map (·.1)) ∧ Two w0 w' l g cap pa pb ∧ w.grownBy w' none := by
  refine (rkeys_any w g cap pb h.ref hn).mono fun e w' hd => ?_
  obtain ⟨v, e1, e2, e3, e4⟩ := hd.nums
  exact ⟨v, e1, e2, h.by_none e3, e3⟩
theorem Two.len (h : Two w0 w l g cap pa pb) :
    Calls Try.prog 17 #[.pointer (some ⟨l, 0, none⟩)] w fun e w' => e = .returned (.int .i64 (pa.length : Nat)) ∧ w = w' := h.one.len
theorem Two.works (h : Two w0 w l g cap pa pb) :
    Calls Try.prog 18 #[] w fun e w' => e = .returned (.bool true) ∧ Two w0 w' l g cap pa pb :=
  (works_any w).mono fun _ _ ⟨he, hy⟩ => ⟨he, h.by_none hy⟩
theorem Two.cell (h : Two w0 w l g cap pa pb) : ∃ A c, w.cell? ⟨g, 1, none⟩ = some (.slice A pb.length c) := by
  obtain ⟨v, hb, ho⟩ := h.ref
  obtain ⟨A, c, rfl, _⟩ := own_slice ho
  exact ⟨A, c, hb.cell 1⟩
end
theorem new_two (w0 w : World) (cap : Int) (l : Nat) (h : One w0 w l (max cap 0) []) :
    Calls Try.prog 9 #[.int .i64 cap] w fun e w' => ∃ g, e = .returned (.pointer (some ⟨g, 0, none⟩)) ∧ Two w0 w' l g (max cap 0) [] [] := by
  obtain ⟨own, h1, h2, h3⟩ := h
  refine (rnew_any w cap).mono fun e w' ⟨g, he, k1, k2, k3⟩ => ⟨g, he, own, h1.by_none k2, k1, by_trans h2 k2 (by simp), h3, Nat.le_trans h2.size k3⟩

end Go.Proofs.Ytgjklppmimhgnaa
