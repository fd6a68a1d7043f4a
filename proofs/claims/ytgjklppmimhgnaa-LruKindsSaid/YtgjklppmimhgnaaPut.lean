/-
  The walk of Put.
-/
import Derived.Test.YtgjklppmimhgnaaUse
namespace Go.Proofs.Ytgjklppmimhgnaa
open Go.RowKit
open Go.Maps (Keyed)

theorem lit_ne {a b : Int} (h : a ≠ b) : Lit.int .i64 a ≠ Lit.int .i64 b := by simpa using h

theorem MapOf.drop {w : World} {m p : Nat} {ns : List Nat} {kf : Nat → Int} {D : DataW Unit} (h : MapOf w m (ns ++ [p]) kf D) (hk : ((ns ++ [p]).map kf).Nodup) (hw : WfI (kf p)) :
    ∃ w', (∀ ty, (Builtin.delete_ #[68, 3] ty #[.map (some m), .int .i64 (kf p)]).run Try.prog w = .ok (.tuple #[]) w') ∧ (∃ D', MapOf w' m ns kf D') ∧ w.grownBy w' (some m) := by
  have hne : ∀ b ∈ ns, kf b ≠ kf p := by
    intro b hb e
    rw [List.map_append, List.nodup_append] at hk
    exact hk.2.2 _ (List.mem_map_of_mem hb) (kf p) (by simp) e
  obtain ⟨w', hrun, hown, hturn⟩ := h.own.drop intKeys Try.underlying68 (Maps.keyOf_int_mk Try.underlying3 hw) 0
  refine ⟨w', fun ty => ?_, ⟨D.del (.int .i64 (kf p)), ?_⟩, hturn.grown⟩
  · rw [← hrun]; rfl
  · have hsz : Maps.size (D.del (.int .i64 (kf p))) = ns.length := by
      have := Maps.size_del (k := .int .i64 (kf p)) (h.own.tidy intKeys)
      rw [h.has p (by simp), if_pos rfl, h.size] at this
      simp at this
      exact this
    refine ⟨own_map_tight hown (by omega), fun k hk hh => ?_, fun b hb => ?_, fun b hb z => ?_, hsz⟩
    · by_cases e : k = kf p
      · rw [e, Maps.has_del_same] at hh; cases hh
      · rw [Maps.has_del_other (lit_ne e)] at hh
        obtain ⟨b, hb, eb⟩ := h.all k hk hh
        refine ⟨b, ?_, eb⟩
        simp at hb
        rcases hb with hb | rfl
        · exact hb
        · exact absurd eb.symm e
    · rw [Maps.has_del_other (lit_ne (hne b hb))]; exact h.has b (by simp [hb])
    · rw [Maps.atKey_del_other (lit_ne (hne b hb))]; exact h.there b (by simp [hb]) z

theorem MapOf.add {w : World} {m p : Nat} {ns : List Nat} {kf : Nat → Int} {D : DataW Unit} (h : MapOf w m ns kf D) {k : Int} (hk : ∀ b ∈ ns, kf b ≠ k) (hw : WfI k) (hn : ns.length < maxLen) (hp : p ∉ ns) :
    ∃ w', (Instr.mapUpdate 68 (.map (some m)) (.int .i64 k) (.pointer (some ⟨p, 0, none⟩))).run Try.prog w = .ok () w' ∧ (∃ D', MapOf w' m (p :: ns) (upd kf p k) D') ∧ w.grownBy w' (some m) := by
  obtain ⟨w', hrun, hown, hturn⟩ := h.own.store intKeys Try.underlying68 hn (Maps.keyOf_int_mk Try.underlying3 hw) (ptrElem_mk p)
  have hno : Maps.has D (.int .i64 k) = false := by
    cases hh : Maps.has D (.int .i64 k) with
    | false => rfl
    | true =>
      obtain ⟨b, hb, e⟩ := h.all k hw hh
      exact absurd e (hk b hb)
  have hu : ∀ b ∈ ns, upd kf p k b = kf b := fun b hb => upd_ne _ _ fun e => hp (e ▸ hb)
  refine ⟨w', hrun, ⟨D.put (.int .i64 k) (.lit (.int .i64 (p : Int))), ?_⟩, hturn.grown⟩
  have hsz : Maps.size (D.put (.int .i64 k) (.lit (.int .i64 (p : Int)))) = (p :: ns).length := by
    rw [Maps.size_put (h.own.tidy intKeys), hno]
    simp [h.size]
  refine ⟨own_map_tight hown (by omega), fun k' hk' hh => ?_, fun b hb => ?_, fun b hb z => ?_, hsz⟩
  · by_cases e : k' = k
    · exact ⟨p, by simp, by rw [upd_same]; exact e.symm⟩
    · rw [Maps.has_put_other (lit_ne e)] at hh
      obtain ⟨b, hb, eb⟩ := h.all k' hk' hh
      exact ⟨b, by simp [hb], by rw [hu b hb]; exact eb⟩
  · rcases List.mem_cons.1 hb with rfl | hb
    · rw [upd_same]; exact Maps.has_put_same h.own.isMap (show WideAt.IsKeyLit (.int .i64 k) from trivial) _
    · rw [hu b hb, Maps.has_put_other (lit_ne (hk b hb))]; exact h.has b hb
  · rcases List.mem_cons.1 hb with rfl | hb
    · rw [upd_same]; exact Maps.atKey_put_same h.own.isMap (show WideAt.IsKeyLit (.int .i64 k) from trivial) _ _
    · rw [hu b hb, Maps.atKey_put_other (lit_ne (hk b hb))]; exact h.there b hb z

def putG (G : Gh) (p : Nat) (k v : Int) : Gh := { G with kf := upd G.kf p k, vf := upd G.vf p v }
theorem Nodes.put {w : World} {G : Gh} {S : Nat → Prop} (h : Nodes w G S) {p : Nat} (hp : ¬ S p) (k v : Int) : Nodes w (putG G p k v) S := by
  intro b hb
  have hbp : b ≠ p := fun e => hp (e ▸ hb)
  have := h b hb
  simpa [putG, upd, hbp] using this

theorem LruAt.drew {w : World} {l m r : Nat} {ns : List Nat} {G : Gh} {cap : Int} (h : LruAt w l m r ns G cap) : LruAt w.drew l m r ns G cap :=
  ⟨h.head, h.nodes, h.nodup, h.ring, h.keys, h.wf, h.map.elim fun D hD => ⟨D, hD.chg (S := fun _ => False) ((Chg.refl w _).drew) id⟩⟩

/-- a new node has come first -/
theorem LruAt.added {w w2 w3 : World} {l m r p : Nat} {ns : List Nat} {G : Gh} {cap k v : Int} (h : LruAt w l m r ns G cap) (hp : p ∉ r :: ns) (hk : ∀ b ∈ ns, G.kf b ≠ k) (hw : WfI k)
    (hM : ∃ D', MapOf w2 m (p :: ns) (upd G.kf p k) D') (hh : Blk w2 l 75 #[.int .i64 cap, .map (some m), .pointer (some ⟨r, 0, none⟩)])
    (hN : Nodes w3 (FirstG (putG G p k v) r p) (fun b => b ∈ r :: ns ∨ b = p)) (hC : Chg w2 w3 (fun b => b ∈ r :: ns ∨ b = p)) (hlp : l ≠ p) (hmp : m ≠ p) (hmn : m ∉ r :: ns) : LruAt w3 l m r (p :: ns) (FirstG (putG G p k v) r p) cap := by
  have hnd : (r :: p :: ns).Nodup := by
    have := h.nodup
    simp only [List.mem_cons, not_or, List.nodup_cons] at *
    exact ⟨⟨fun e => hp.1 e.symm, this.1⟩, hp.2, this.2⟩
  obtain ⟨hr, hf⟩ := ring_first h.ring hnd
  have hkf : ∀ b ∈ ns, upd G.kf p k b = G.kf b := fun b hb => upd_ne _ _ fun e => hp (by simp [← e, hb])
  have hmap : ns.map (upd G.kf p k) = ns.map G.kf := List.map_congr_left hkf
  obtain ⟨D', hD'⟩ := hM
  refine ⟨hh.chg hC ?_, hN.mono fun b hb => ?_, hnd, hr, ?_, fun b hb => ?_, D', hD'.chg hC ?_⟩
  · rintro (hm | hm)
    · exact h.head.ne_ (h.nodes l hm) (by decide) rfl
    · exact hlp hm
  · simp only [List.mem_cons] at hb ⊢
    rcases hb with hb | hb | hb <;> simp [hb]
  · show ((p :: ns).map (upd G.kf p k)).Nodup
    rw [List.map_cons, hmap, upd_same, List.nodup_cons]
    refine ⟨fun hm => ?_, h.keys⟩
    obtain ⟨b, hb, e⟩ := List.mem_map.1 hm
    exact hk b hb e
  · show WfI (upd G.kf p k b)
    rcases List.mem_cons.1 hb with rfl | hb
    · rw [upd_same]; exact hw
    · rw [hkf b hb]; exact h.wf b hb
  · rintro (hm | hm)
    · exact hmn hm
    · exact hmp hm

/-- the last node has gone -/
def LastG (G : Gh) (p : Nat) : Gh := { G with nx := upd G.nx (G.pv p) (G.nx p), pv := upd G.pv (G.nx p) (G.pv p) }
theorem LruAt.last {w w2 : World} {l m r p : Nat} {ns : List Nat} {G : Gh} {cap : Int} (h : LruAt w l m r (ns ++ [p]) G cap) (hM : ∃ D', MapOf w2 m ns G.kf D')
    (hN : Nodes w2 (LastG G p) (fun b => b ∈ r :: (ns ++ [p]))) (hh : Blk w2 l 75 #[.int .i64 cap, .map (some m), .pointer (some ⟨r, 0, none⟩)]) : LruAt w2 l m r ns (LastG G p) cap := by
  obtain ⟨hr, _, _⟩ := ring_cut (l2 := []) h.ring h.nodup
  have hnd := h.nodup
  have hk := h.keys
  rw [List.append_nil] at hr
  refine ⟨hh, hN.mono fun b hb => ?_, ?_, hr, ?_, fun b hb => h.wf b (by simp [hb]), hM⟩
  · simp only [List.mem_cons, List.mem_append] at hb ⊢
    rcases hb with hb | hb <;> simp [hb]
  · rw [← List.cons_append, List.nodup_append] at hnd
    exact hnd.1
  · rw [List.map_append, List.nodup_append] at hk
    exact hk.1
theorem ring_last {nx pv : Nat → Nat} {r p : Nat} {ns : List Nat} (h : Linked nx pv (r :: (ns ++ [p]) ++ [r])) : pv r = p := by
  have e : r :: (ns ++ [p]) ++ [r] = (r :: ns) ++ p :: [r] := by simp
  rw [e, linked_split] at h
  exact h.2.2.1

/-- 'm[k] = v' whose run is known -/
theorem wpList_mapUpdate_run {P : Program} {w w' : World} {ops : Array Oper} {rest : List Oper} {o : Oper} {a : Act} {Q : Exit → Act → World → Prop} (hg : o.guard = none) (m x v : Operand) (t : TypeId) (hop : o.op = Op.mapUpdate t m x v)
    {mv key val : Value} (hm : a.eval m = mv) (hx : a.eval x = key) (hv : a.eval v = val) (hrun : (Instr.mapUpdate t mv key val).run P w = .ok () w')
    (hK : wpList P ops Q rest (a.put o.dst undef) w') : wpList P ops Q (o :: rest) a w := by
  refine wpList_plain hg fun K' hK' => ?_
  unfold Oper.wp
  simp [execOp, hop, hm, hx, hv, hrun, Result.andThen]
  exact hK' _ _ hK

/-- what a put does -/
def putted (cap : Int) (ps : List (Int × Int)) (k v : Int) : List (Int × Int) :=
  match look ps k with
  | some _ => (k, v) :: less ps k
  | none => if cap = 0 then ps else (k, v) :: (if (ps.length : Int) = cap then ps.dropLast else ps)

theorem pairs_put {ns : List Nat} {G : Gh} {p : Nat} {k v : Int} (hp : p ∉ ns) (r : Nat) : (p :: ns).map (fun b => ((FirstG (putG G p k v) r p).kf b, (FirstG (putG G p k v) r p).vf b)) = (k, v) :: ns.map (fun b => (G.kf b, G.vf b)) := by
  simp only [List.map_cons, FirstG, putG, upd_same]
  congr 1
  refine List.map_congr_left fun b hb => ?_
  have : b ≠ p := fun e => hp (e ▸ hb)
  rw [upd_ne _ _ this, upd_ne _ _ this]

set_option maxHeartbeats 400000 in
theorem put_hit (w : World) (l m r p : Nat) (l1 l2 : List Nat) (G : Gh) (own : Nat → Prop) (cap k v : Int) (h : LruAt w l m r (l1 ++ p :: l2) G cap) (hp : G.kf p = k) (ho : ∀ b, own b ↔ b = l ∨ b = m ∨ b ∈ r :: (l1 ++ p :: l2)) :
    Calls Try.prog 12 #[.pointer (some ⟨l, 0, none⟩), .int .i64 k, .int .i64 v] w (Did w l own cap ((k, v) :: (l1 ++ l2).map (fun b => (G.kf b, G.vf b))) (.tuple #[])) := by
  have H := Lib.hid (And.intro h (And.intro hp ho))
  clear h hp ho
  go_enter Try.func12, Try.ntmps12
  go_wp2_with fail
  refine (use_hit w l m r p l1 l2 G cap k H.out.1 H.out.2.1).mono ?_
  rintro e w1 ⟨rfl, h1, hC⟩
  have c3 : w1.cell? ⟨p, 3, none⟩ = some (.int .i64 (G.vf p)) := (h1.nodes p (by simp)).cell 3
  have f3 : w1.frozen? ⟨p, 3, none⟩ = false := (h1.nodes p (by simp)).frozen 3
  have hfin : Did w l own cap ((k, v) :: (l1 ++ l2).map (fun b => (G.kf b, G.vf b))) (.tuple #[]) (.returned (.tuple #[])) (w1.setCell ⟨p, 3, none⟩ (.int .i64 v)) := by
    have hS : Chg w (w1.setCell ⟨p, 3, none⟩ (.int .i64 v)) own := (hC.set_ (p := ⟨p, 3, none⟩) (.inl (by simp)) _).mono fun b _ hb => (H.out.2.2 b).2 (.inr (.inr hb))
    have hC1 : Chg w1 (w1.setCell ⟨p, 3, none⟩ (.int .i64 v)) (fun b => b = p) := (Chg.refl w1 (fun b => b = p)).set_ (p := ⟨p, 3, none⟩) (.inl rfl) _
    have hpn : p ∉ l1 ++ l2 := by
      have := h1.nodup
      simp only [List.nodup_cons] at this
      exact this.2.1
    refine ⟨rfl, hS, own, ⟨m, r, p :: (l1 ++ l2), { TurnG G r p with vf := upd G.vf p v }, ?_, ?_, fun b => ?_⟩, fun b hb => .inl hb⟩
    · obtain ⟨D, hD⟩ := h1.map
      refine ⟨h1.head.chg hC1 ?_, ?_, h1.nodup, h1.ring, h1.keys, h1.wf, D, hD.chg hC1 ?_⟩
      · rintro e
        exact h1.head.ne_ (h1.nodes p (by simp)) (by decide) e
      · exact h1.nodes.setV p v
      · rintro e
        exact own_map_ne hD.own (h1.nodes p (by simp)) e
    · simp only [List.map_cons, upd_same]
      rw [show (TurnG G r p).kf p = k from H.out.2.1]
      congr 1
      refine List.map_congr_left fun b hb => ?_
      have : b ≠ p := fun e => hpn (e ▸ hb)
      rw [upd_ne _ _ this]
      rfl
    · rw [H.out.2.2 b]
      simp only [List.mem_cons, List.mem_append]
      constructor <;> (rintro (h | h | h | h | h | h) <;> simp [h])
  have Hfin := Lib.hid hfin
  clear hfin h1 hC
  go_wp2
  go_end0
  exact Hfin.out

set_option maxHeartbeats 400000 in
theorem put_shut (w : World) (l : Nat) (m r : Nat) (ns : List Nat) (G : Gh) (k v : Int) (h : LruAt w l m r ns G 0) (hk : ∀ b ∈ ns, G.kf b ≠ k) (hw : WfI k) :
    Calls Try.prog 12 #[.pointer (some ⟨l, 0, none⟩), .int .i64 k, .int .i64 v] w fun e w2 => e = .returned (.tuple #[]) ∧ w = w2 := by
  have h0 : w.cell? ⟨l, 0, none⟩ = some (.int .i64 0) := h.head.cell 0
  have H := Lib.hid (And.intro h (And.intro hk hw))
  clear h hk hw
  go_enter Try.func12, Try.ntmps12
  go_wp2_with fail
  refine (use_miss w l m r ns G 0 k H.out.1 H.out.2.1 H.out.2.2).mono ?_
  rintro e w1 ⟨rfl, rfl⟩
  go_wp2
  refine bodyPost_ret (results_none rfl _ _ _) rfl ?_
  exact ⟨rfl, rfl⟩

/-- all that is to be known where a new node is made -/
theorem insert_facts (w : World) (l m r : Nat) (ns : List Nat) (G : Gh) (cap k v : Int) (h : LruAt w l m r ns G cap) (hk : ∀ b ∈ ns, G.kf b ≠ k) (hw : WfI k) (hn : ns.length < 1000000) :
    ∃ w2, (Instr.mapUpdate 68 (.map (some m)) (.int .i64 k) (.pointer (some ⟨w.heap.size, 0, none⟩))).run Try.prog (w.alloc (.cells #[.pointer none, .pointer none, .int .i64 k, .int .i64 v] 73)) = .ok () w2 ∧
      Blk w2 l 75 #[.int .i64 cap, .map (some m), .pointer (some ⟨r, 0, none⟩)] ∧ Nodes w2 (putG G w.heap.size k v) (fun b => b ∈ r :: ns) ∧ Blk w2 w.heap.size 73 #[.pointer none, .pointer none, .int .i64 k, .int .i64 v] ∧
      (∃ D', MapOf w2 m (w.heap.size :: ns) (upd G.kf w.heap.size k) D') ∧ Chg w w2 (fun b => b = m) ∧ w.heap.size ∉ r :: ns ∧ l ≠ w.heap.size ∧ m ≠ w.heap.size ∧ m ∉ r :: ns := by
  obtain ⟨D, hD⟩ := h.map
  have hp : w.heap.size ∉ r :: ns := fun hm => by have := (h.nodes w.heap.size hm).lt; omega
  have hm : m ∉ r :: ns := fun hm => own_map_ne hD.own (h.nodes m hm) rfl
  have hC1 : Chg w (w.alloc (.cells #[.pointer none, .pointer none, .int .i64 k, .int .i64 v] 73)) (fun b => b = m) := (Chg.refl w _).alloc _
  have hD1 : MapOf (w.alloc (.cells #[.pointer none, .pointer none, .int .i64 k, .int .i64 v] 73)) m ns G.kf D := hD.chg (S := fun _ => False) ((Chg.refl w _).alloc _) id
  obtain ⟨w2, hrun, hM, hg⟩ := hD1.add (p := w.heap.size) hk hw (by unfold maxLen; omega) (fun e => hp (List.mem_cons_of_mem _ e))
  have hlm : l ≠ m := fun e => own_map_ne hD.own h.head e.symm
  refine ⟨w2, hrun, ?_, ?_, ?_, hM, hC1.trans (Chg.of_by (S := fun b => b = m) hg (by simp)) fun b hb => .inl hb, hp, ?_, ?_, hm⟩
  · exact (h.head.alloc _).grown hg (by simpa using hlm)
  · exact Nodes.put (fun b hb => ((h.nodes b hb).alloc _).grown hg (by simp; rintro rfl; exact hm hb)) hp k v
  · exact (Blk.new w _ _).grown hg (by simp; have := hD.own.lt; omega)
  · have := h.head.lt; omega
  · have := hD.own.lt; omega

set_option maxHeartbeats 1000000 in
set_option maxRecDepth 20000 in
theorem put_room (w : World) (l m r : Nat) (ns : List Nat) (G : Gh) (own : Nat → Prop) (cap k v : Int) (h : LruAt w l m r ns G cap) (hk : ∀ b ∈ ns, G.kf b ≠ k) (hw : WfI k) (ho : ∀ b, own b ↔ b = l ∨ b = m ∨ b ∈ r :: ns)
    (hc0 : cap ≠ 0) (hcl : ((ns.length : Nat) : Int) ≠ cap) (hn : ns.length < 1000000) :
    Calls Try.prog 12 #[.pointer (some ⟨l, 0, none⟩), .int .i64 k, .int .i64 v] w (Did w l own cap ((k, v) :: ns.map (fun b => (G.kf b, G.vf b))) (.tuple #[])) := by
  obtain ⟨w2, hrun, hh2, hN2, hp2, hM2, hC2, hpn, hlp, hmp, hmn⟩ := insert_facts w.drew l m r ns G cap k v h.drew hk hw hn
  have h0 : w.cell? ⟨l, 0, none⟩ = some (.int .i64 cap) := h.head.cell 0
  have h1 : w.cell? ⟨l, 1, none⟩ = some (.map (some m)) := h.head.cell 1
  have hlen : ∀ ty, (Builtin.len_ #[68] ty #[.map (some m)]).run Try.prog w.drew = .ok (.int .i64 (ns.length : Nat)) w.drew := by
    intro ty
    obtain ⟨D, hD⟩ := h.drew.map
    have := hD.own.len Try.underlying68 ty
    rw [hD.size] at this
    exact this
  have H := Lib.hid (And.intro h (And.intro hk (And.intro hw (And.intro ho (And.intro hh2 (And.intro hN2 (And.intro hp2 (And.intro hM2 (And.intro hC2 (And.intro hpn (And.intro hlp (And.intro hmp hmn))))))))))))
  obtain ⟨q, hq⟩ : ∃ q, ns.length = q := ⟨_, rfl⟩
  rw [hq] at hlen hcl
  obtain ⟨wa, hwa⟩ : ∃ wa, (w.alloc (.cells #[.pointer none, .pointer none, .int .i64 k, .int .i64 v] 73)).drew = wa := ⟨_, rfl⟩
  have hrun' : (Instr.mapUpdate 68 (.map (some m)) (.int .i64 k) (.pointer (some ⟨w.heap.size, 0, none⟩))).run Try.prog wa = .ok () w2 := by
    rw [← hwa]; exact hrun
  have ha1 : wa.cell? ⟨l, 1, none⟩ = some (.map (some m)) := by rw [← hwa]; exact (h.head.alloc _).drew.cell 1
  have Hr := Lib.hid (And.intro hrun' (And.intro hcl (And.intro ha1 hwa)))
  have H1 := Lib.hid (And.intro h0 (And.intro h1 (And.intro hlen hc0)))
  clear h hk hw ho hh2 hN2 hp2 hM2 hC2 hpn hlp hmp hmn hn hq hrun hcl h0 h1 hlen hc0 hrun' ha1 hwa
  go_enter Try.func12, Try.ntmps12
  go_wp2_with fail
  refine (use_miss w l m r ns G cap k H.out.1 H.out.2.1 H.out.2.2.1).mono ?_
  rintro e w1 ⟨rfl, rfl⟩
  obtain ⟨h0, h1, hlen, hc0⟩ := H1.out
  clear H1
  go_wp2_with fail
  go_region
  obtain ⟨hrun0, hcl, ha1, hwa⟩ := Hr.out
  have hrun := Lib.hid hrun0
  clear hrun0
  go_wp2_with (at_mapUpdate; refine wpList_mapUpdate_run rfl _ _ _ _ rfl rfl rfl rfl hrun.out ?_)
  obtain ⟨h, hk, hw, ho, hh2, hN2, hp2, hM2, hC2, hpn, hlp, hmp, hmn⟩ := H.out
  clear h0 h1 hlen hc0 hrun hcl Hr H
  have hps : w.drew.heap.size = w.heap.size := rfl
  have HH := Lib.hid (And.intro h (And.intro hk (And.intro hw (And.intro ho (And.intro hM2 (And.intro hC2 (And.intro hpn (And.intro hlp (And.intro hmp (And.intro hmn hh2))))))))))
  have hr2 : LruAt w l m r ns G cap := h
  have hnr : G.nx r = r ∨ G.nx r ∈ ns := by
    have hnd : (r :: w.heap.size :: ns).Nodup := by
      have := h.nodup
      simp only [List.mem_cons, not_or, List.nodup_cons] at *
      exact ⟨⟨fun e => hpn.1 e.symm, this.1⟩, hpn.2, this.2⟩
    exact (ring_first h.ring hnd).2
  refine (first_any w2 (putG G w.heap.size k v) (fun b => b ∈ r :: ns) l r w.heap.size (G.nx r) cap m (.pointer none) (.pointer none) hh2 hN2 ?_ (by simp) rfl ?_ ?_ ?_).mono ?_
  · have := hp2
    simpa [putG, upd] using this
  · rcases hnr with e | e <;> simp [e]
  · exact fun e => hpn (by simp [← e])
  · intro e
    rcases hnr with e' | e'
    · exact hpn (by simp [← e, e'])
    · exact hpn (by simp [← e, e'])
  rintro e w3 ⟨rfl, hN3, hC3⟩
  have h3 := h.added (v := v) hpn hk hw hM2 hh2 hN3 hC3 hlp hmp hmn
  have hfin : Did w l own cap ((k, v) :: ns.map (fun b => (G.kf b, G.vf b))) (.tuple #[]) (.returned (.tuple #[])) w3 := by
    refine ⟨rfl, ?_, fun b => own b ∨ b = w.heap.size, ⟨m, r, w.heap.size :: ns, _, h3, (pairs_put (fun e => hpn (List.mem_cons_of_mem _ e)) r).symm, fun b => ?_⟩, fun b hb => hb.elim .inl fun e => .inr (Nat.le_of_eq e.symm)⟩
    · have hC2' : Chg w w2 own := (show Chg w w2 (fun b => b = m) from ⟨hC2.os, hC2.tape, hC2.output, hC2.size, hC2.block⟩).mono fun b _ hb => (ho b).2 (.inr (.inl hb))
      refine hC2'.trans hC3 fun b hb => hb.elim (fun e => .inl ((ho b).2 (.inr (.inr e)))) fun e => .inr (Nat.le_of_eq e.symm)
    · show (own b ∨ b = w.heap.size) ↔ _
      rw [ho b]
      simp only [List.mem_cons]
      constructor
      · rintro ((h | h | h | h) | h) <;> simp [h]
      · rintro (h | h | h | h | h) <;> simp [h]
  have Hfin := Lib.hid hfin
  clear hfin h hk hw ho hh2 hN2 hp2 hM2 hC2 hpn hlp hmp hmn hN3 hC3 h3 hnr hr2 hps
  go_wp2
  go_end0
  exact Hfin.out

/-- all that is to be known behind the last node's cut -/
theorem drop_facts (w w1 : World) (l m r p : Nat) (ns : List Nat) (G : Gh) (cap : Int) (h : LruAt w l m r (ns ++ [p]) G cap) (hN : Nodes w1 (LastG G p) (fun b => b ∈ r :: (ns ++ [p]))) (hC : Chg w w1 (fun b => b ∈ r :: (ns ++ [p]))) :
    ∃ w2, (∀ ty, (Builtin.delete_ #[68, 3] ty #[.map (some m), .int .i64 (G.kf p)]).run Try.prog w1.drew = .ok (.tuple #[]) w2) ∧ LruAt w2 l m r ns (LastG G p) cap ∧ Chg w w2 (fun b => b = m ∨ b ∈ r :: (ns ++ [p])) ∧
      w1.cell? ⟨l, 1, none⟩ = some (.map (some m)) ∧ w1.cell? ⟨p, 2, none⟩ = some (.int .i64 (G.kf p)) := by
  obtain ⟨D, hD⟩ := h.map
  have hm : m ∉ r :: (ns ++ [p]) := fun hm => own_map_ne hD.own (h.nodes m hm) rfl
  have hln : l ∉ r :: (ns ++ [p]) := fun hm => h.head.ne_ (h.nodes l hm) (by decide) rfl
  have hlm : l ≠ m := fun e => own_map_ne hD.own h.head e.symm
  obtain ⟨w2, hrun, hM, hg⟩ := (hD.chg hC.drew hm).drop h.keys (h.wf p (by simp))
  refine ⟨w2, hrun, h.last hM (fun b hb => ((hN b hb).drew).grown hg (by simp; rintro rfl; exact hm hb)) (((h.head.chg hC hln).drew).grown hg (by simpa using hlm)), ?_, (h.head.chg hC hln).cell 1, (hN p (by simp)).cell 2⟩
  exact (hC.mono (T := fun b => b = m ∨ b ∈ r :: (ns ++ [p])) fun b _ hb => .inr hb).drew.trans (Chg.of_by (S := fun b => b = m) hg (by simp)) fun b hb => .inl (.inl hb)

set_option maxHeartbeats 1000000 in
set_option maxRecDepth 20000 in
theorem put_full (w : World) (l m r p : Nat) (ns : List Nat) (G : Gh) (own : Nat → Prop) (cap k v : Int) (h : LruAt w l m r (ns ++ [p]) G cap) (hk : ∀ b ∈ ns ++ [p], G.kf b ≠ k) (hw : WfI k) (ho : ∀ b, own b ↔ b = l ∨ b = m ∨ b ∈ r :: (ns ++ [p]))
    (hc0 : cap ≠ 0) (hcl : (((ns ++ [p]).length : Nat) : Int) = cap) (hn : (ns ++ [p]).length < 1000000) :
    Calls Try.prog 12 #[.pointer (some ⟨l, 0, none⟩), .int .i64 k, .int .i64 v] w (Did w l own cap ((k, v) :: ns.map (fun b => (G.kf b, G.vf b))) (.tuple #[])) := by
  have h0 : w.cell? ⟨l, 0, none⟩ = some (.int .i64 cap) := h.head.cell 0
  have h1 : w.cell? ⟨l, 1, none⟩ = some (.map (some m)) := h.head.cell 1
  have h2 : w.cell? ⟨l, 2, none⟩ = some (.pointer (some ⟨r, 0, none⟩)) := h.head.cell 2
  have hr0 : w.cell? ⟨r, 0, none⟩ = some (.pointer (some ⟨p, 0, none⟩)) := by
    have := (h.nodes r (by simp)).cell 0
    rw [ring_last h.ring] at this
    exact this
  have hlen : ∀ ty, (Builtin.len_ #[68] ty #[.map (some m)]).run Try.prog w.drew = .ok (.int .i64 cap) w.drew := by
    intro ty
    obtain ⟨D, hD⟩ := h.drew.map
    have := hD.own.len Try.underlying68 ty
    rw [hD.size, hcl] at this
    exact this
  have H := Lib.hid (And.intro h (And.intro hk (And.intro hw (And.intro ho hn))))
  have H1 := Lib.hid (And.intro h0 (And.intro h1 (And.intro h2 (And.intro hr0 (And.intro hlen hc0)))))
  clear h hk hw ho hn h0 h1 h2 hr0 hlen hc0 hcl
  go_enter Try.func12, Try.ntmps12
  go_wp2_with fail
  refine (use_miss w l m r (ns ++ [p]) G cap k H.out.1 H.out.2.1 H.out.2.2.1).mono ?_
  rintro e w1 ⟨rfl, rfl⟩
  obtain ⟨h0, h1, h2, hr0, hlen, hc0⟩ := H1.out
  clear H1
  go_wp2_with fail
  go_region
  go_wp2_with fail
  clear h0 h1 h2 hr0 hlen hc0
  obtain ⟨h, hk, hw, ho, hn⟩ := H.out
  have hnd := h.nodup
  obtain ⟨_, hpv, hnx⟩ := ring_cut (l2 := []) h.ring hnd
  have hnx' : G.nx p = r := by simpa using hnx
  have hrp : r ≠ p := by rintro rfl; simp at hnd
  have hpv2 : G.pv p ≠ p := by
    rcases hpv with e | e
    · rw [e]; exact hrp
    · intro e'
      rw [e', ] at e
      rw [← List.cons_append, List.nodup_append] at hnd
      exact hnd.2.2 p (by simp [e]) p (by simp) rfl
  refine (cut_any w.drew G (fun b => b ∈ r :: (ns ++ [p])) p (G.pv p) (G.nx p) h.drew.nodes (by simp) rfl rfl ?_ ?_ hpv2 ?_).mono ?_
  · rcases hpv with e | e <;> simp [e]
  · simp [hnx']
  · rw [hnx']; exact hrp
  rintro e w1 ⟨rfl, hN1, hC1⟩
  obtain ⟨w2, hdel, h2, hC2, hl1, hp2⟩ := drop_facts w.drew w1 l m r p ns G cap h.drew hN1 hC1
  have hk2 : ∀ b ∈ ns, (LastG G p).kf b ≠ k := fun b hb => hk b (by simp [hb])
  have hn2 : ns.length < 1000000 := by simp at hn; omega
  obtain ⟨w4, hrun, hh4, hN4, hp4, hM4, hC4, hpn, hlp, hmp, hmn⟩ := insert_facts w2 l m r ns (LastG G p) cap k v h2 hk2 hw hn2
  obtain ⟨wa, hwa⟩ : ∃ wa, w2.alloc (.cells #[.pointer none, .pointer none, .int .i64 k, .int .i64 v] 73) = wa := ⟨_, rfl⟩
  rw [hwa] at hrun
  have ha1 : wa.cell? ⟨l, 1, none⟩ = some (.map (some m)) := by rw [← hwa]; exact (h2.head.alloc _).cell 1
  have Hrun := Lib.hid hrun
  have HH := Lib.hid (And.intro h2 (And.intro hk2 (And.intro hw (And.intro ho (And.intro hC2 (And.intro hh4 (And.intro hN4 (And.intro hp4 (And.intro hM4 (And.intro hC4 (And.intro hpn (And.intro hlp (And.intro hmp hmn)))))))))))))
  clear h hk hw ho hn hnd hpv hnx hnx' hrp hpv2 hN1 hC1 h2 hC2 hk2 hn2 hrun hh4 hN4 hp4 hM4 hC4 hpn hlp hmp hmn H
  have Ha := Lib.hid (And.intro hwa ha1)
  clear hwa ha1
  go_wp2_with fail
  go_region
  obtain ⟨hwa, ha1⟩ := Ha.out
  clear hdel hl1 hp2
  go_wp2_with (at_mapUpdate; refine wpList_mapUpdate_run rfl _ _ _ _ rfl rfl rfl rfl Hrun.out ?_)
  clear Hrun ha1 hwa Ha
  obtain ⟨h2, hk2, hw, ho, hC2, hh4, hN4, hp4, hM4, hC4, hpn, hlp, hmp, hmn⟩ := HH.out
  have hnr : (LastG G p).nx r = r ∨ (LastG G p).nx r ∈ ns := by
    have hnd : (r :: w2.heap.size :: ns).Nodup := by
      have := h2.nodup
      simp only [List.mem_cons, not_or, List.nodup_cons] at *
      exact ⟨⟨fun e => hpn.1 e.symm, this.1⟩, hpn.2, this.2⟩
    exact (ring_first h2.ring hnd).2
  refine (first_any w4 (putG (LastG G p) w2.heap.size k v) (fun b => b ∈ r :: ns) l r w2.heap.size ((LastG G p).nx r) cap m (.pointer none) (.pointer none) hh4 hN4 ?_ (by simp) rfl ?_ ?_ ?_).mono ?_
  · have := hp4
    simpa [putG, upd] using this
  · rcases hnr with e | e <;> simp [e]
  · exact fun e => hpn (by simp [← e])
  · intro e
    rcases hnr with e' | e'
    · exact hpn (by simp [← e, e'])
    · exact hpn (by simp [← e, e'])
  rintro e w5 ⟨rfl, hN5, hC5⟩
  have h5 := h2.added (v := v) hpn hk2 hw hM4 hh4 hN5 hC5 hlp hmp hmn
  have hsz : w.heap.size ≤ w2.heap.size := hC2.size
  have hfin : Did w l own cap ((k, v) :: ns.map (fun b => (G.kf b, G.vf b))) (.tuple #[]) (.returned (.tuple #[])) w5 := by
    refine ⟨rfl, ?_, fun b => (b = l ∨ b = m ∨ b ∈ r :: ns) ∨ b = w2.heap.size, ⟨m, r, w2.heap.size :: ns, _, h5, (pairs_put (fun e => hpn (List.mem_cons_of_mem _ e)) r).symm, fun b => ?_⟩, fun b hb => ?_⟩
    · have hC2' : Chg w w2 own := (show Chg w w2 (fun b => b = m ∨ b ∈ r :: (ns ++ [p])) from ⟨hC2.os, hC2.tape, hC2.output, hC2.size, hC2.block⟩).mono fun b _ hb => (ho b).2 (.inr hb)
      have hC4' : Chg w w4 own := hC2'.trans hC4 fun b hb => .inl ((ho b).2 (.inr (.inl hb)))
      refine hC4'.trans hC5 fun b hb => hb.elim (fun e => .inl ((ho b).2 (.inr (.inr ?_)))) fun e => .inr (e ▸ hsz)
      simp only [List.mem_cons, List.mem_append] at e ⊢
      rcases e with e | e <;> simp [e]
    · simp only [List.mem_cons]
      constructor
      · rintro ((h | h | h | h) | h) <;> simp [h]
      · rintro (h | h | h | h | h) <;> simp [h]
    · rcases hb with hb | hb
      · refine .inl ((ho b).2 ?_)
        simp only [List.mem_cons, List.mem_append] at hb ⊢
        rcases hb with e | e | e | e <;> simp [e]
      · exact .inr (hb ▸ hsz)
  have Hfin := Lib.hid hfin
  clear hfin h2 hk2 hw ho hC2 hh4 hN4 hp4 hM4 hC4 hpn hlp hmp hmn hN5 hC5 h5 hnr hsz HH
  go_wp2
  go_end0
  exact Hfin.out

theorem put_any (w : World) (l : Nat) (own : Nat → Prop) (cap k v : Int) (ps : List (Int × Int)) (h : Lru w l own cap ps) (hk : WfI k) (hn : ps.length < 1000000) :
    Calls Try.prog 12 #[.pointer (some ⟨l, 0, none⟩), .int .i64 k, .int .i64 v] w (Did w l own cap (putted cap ps k v) (.tuple #[])) := by
  obtain ⟨m, r, ns, G, h, rfl, ho⟩ := h
  rw [List.length_map] at hn
  rcases split_key (ns := ns) (kf := G.kf) (k := k) with ⟨l1, p, l2, rfl, hp⟩ | hno
  · have hkeys : ((l1.map (fun b => (G.kf b, G.vf b)) ++ (G.kf p, G.vf p) :: l2.map (fun b => (G.kf b, G.vf b))).map (·.1)).Nodup := by simpa [Function.comp_def] using h.keys
    obtain ⟨e1, e2⟩ := look_mid hkeys
    have e3 : (l1 ++ p :: l2).map (fun b => (G.kf b, G.vf b)) = l1.map (fun b => (G.kf b, G.vf b)) ++ (G.kf p, G.vf p) :: l2.map (fun b => (G.kf b, G.vf b)) := by simp
    rw [← e3] at e1 e2
    simp only [hp] at e1 e2
    have hg : putted cap ((l1 ++ p :: l2).map (fun b => (G.kf b, G.vf b))) k v = (k, v) :: (l1 ++ l2).map (fun b => (G.kf b, G.vf b)) := by
      unfold putted; rw [e1, e2]; simp
    rw [hg]
    exact put_hit w l m r p l1 l2 G own cap k v h hp ho
  · obtain ⟨e1, e2⟩ := look_none (ps := ns.map (fun b => (G.kf b, G.vf b))) (k := k) (by simpa using hno)
    by_cases hc : cap = 0
    · subst hc
      have hg : putted 0 (ns.map (fun b => (G.kf b, G.vf b))) k v = ns.map (fun b => (G.kf b, G.vf b)) := by unfold putted; rw [e1]; simp
      rw [hg]
      refine (put_shut w l m r ns G k v h hno hk).mono ?_
      rintro e w1 ⟨rfl, rfl⟩
      exact ⟨rfl, Chg.refl _ _, own, ⟨m, r, ns, G, h, rfl, ho⟩, fun b hb => .inl hb⟩
    · by_cases hl : ((ns.length : Nat) : Int) = cap
      · rcases List.eq_nil_or_concat ns with rfl | ⟨ms, p, rfl⟩
        · simp at hl; exact absurd hl.symm hc
        · simp only [List.concat_eq_append] at h ho hn hno e1 e2 hl ⊢
          have hg : putted cap ((ms ++ [p]).map (fun b => (G.kf b, G.vf b))) k v = (k, v) :: ms.map (fun b => (G.kf b, G.vf b)) := by
            unfold putted; rw [e1]; simp only [if_neg hc, List.length_map, if_pos hl]; simp
          rw [hg]
          exact put_full w l m r p ms G own cap k v h hno hk ho hc hl hn
      · have hg : putted cap (ns.map (fun b => (G.kf b, G.vf b))) k v = (k, v) :: ns.map (fun b => (G.kf b, G.vf b)) := by
          unfold putted; rw [e1]; simp only [if_neg hc, List.length_map, if_neg hl]
        rw [hg]
        exact put_room w l m r ns G own cap k v h hno hk ho hc hl hn

end Go.Proofs.Ytgjklppmimhgnaa
