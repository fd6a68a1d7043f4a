/-
  The walks of use, Get, Len.
-/
import Derived.Test.YtgjklppmimhgnaaAt
namespace Go.Proofs.Ytgjklppmimhgnaa
open Go.RowKit

def TurnG (G : Gh) (r p : Nat) : Gh := FirstG { G with nx := upd G.nx (G.pv p) (G.nx p), pv := upd G.pv (G.nx p) (G.pv p) } r p

def UseHit (w : World) (l m r p : Nat) (l1 l2 : List Nat) (G : Gh) (cap : Int) (e : Ending) (w2 : World) : Prop :=
  e = .returned (.tuple #[.pointer (some ⟨p, 0, none⟩), .bool true]) ∧ LruAt w2 l m r (p :: (l1 ++ l2)) (TurnG G r p) cap ∧ Chg w w2 (fun b => b ∈ r :: (l1 ++ p :: l2))

set_option maxHeartbeats 1000000 in
theorem use_hit (w : World) (l m r p : Nat) (l1 l2 : List Nat) (G : Gh) (cap k : Int) (h : LruAt w l m r (l1 ++ p :: l2) G cap) (hk : G.kf p = k) :
    Calls Try.prog 39 #[.pointer (some ⟨l, 0, none⟩), .int .i64 k] w (UseHit w l m r p l1 l2 G cap) := by
  have hp : p ∈ l1 ++ p :: l2 := by simp
  have hrun : (Instr.lookup 68 (.map (some m)) (.int .i64 k) true).run Try.prog w = .ok (.tuple #[.pointer (some ⟨p, 0, none⟩), .bool true]) w := by
    obtain ⟨D, hD⟩ := h.map
    rw [← hk]
    exact look_hit hD hp (h.wf p hp)
  have h1 : w.cell? ⟨l, 1, none⟩ = some (.map (some m)) := h.head.cell 1
  have H := Lib.hid h
  clear h hk
  go_enter Try.func39, Try.ntmps39
  go_wp2_with fail
  obtain ⟨hr1, ha, hc⟩ := ring_cut H.out.ring H.out.nodup
  have hnd := H.out.nodup
  have hpr : r ≠ p := by
    rintro rfl
    simp at hnd
  have hnd2 := hnd
  simp only [List.nodup_cons, List.nodup_append, List.mem_append, List.mem_cons, not_or] at hnd2
  obtain ⟨⟨hd1, hd2, hd3⟩, hd4, ⟨hd5, hd6⟩, hd7⟩ := hnd2
  refine (cut_any w G _ p (G.pv p) (G.nx p) H.out.nodes (by simp) rfl rfl ?_ ?_ ?_ ?_).mono ?_
  · rcases ha with ha | ha <;> simp [ha]
  · rcases hc with hc | hc <;> simp [hc]
  · rcases ha with ha | ha
    · rw [ha]; exact hpr
    · exact fun e => hd7 _ ha p (.inl rfl) e
  · rcases hc with hc | hc
    · rw [hc]; exact hpr
    · exact fun e => hd5 (e ▸ hc)
  rintro e w1 ⟨rfl, hN1, hC1⟩
  have hhead : Blk w1 l 75 #[.int .i64 cap, .map (some m), .pointer (some ⟨r, 0, none⟩)] := H.out.head.chg hC1 fun hm => H.out.head.ne_ (H.out.nodes l hm) (by decide) rfl
  have hperm : List.Perm (p :: (l1 ++ l2)) (l1 ++ p :: l2) := (List.perm_middle).symm
  have hnd3 : (r :: p :: (l1 ++ l2)).Nodup := (hperm.cons r).nodup_iff.2 hnd
  obtain ⟨hr2, hf⟩ := ring_first hr1 hnd3
  have Hh := Lib.hid (And.intro hr1 (And.intro ha (And.intro hc (And.intro hN1 (And.intro hC1 (And.intro hhead (And.intro hnd3 hf)))))))
  clear hr1 ha hc hN1 hC1 hhead hperm hr2 hnd hnd3 hd1 hd2 hd3 hd4 hd5 hd6 hd7 hrun h1
  have Hf := Lib.hid hf
  have Hpr := Lib.hid hpr
  clear hf hpr hp
  go_wp2_with fail
  obtain ⟨hr1, ha, hc, hN1, hC1, hhead, hnd3, hf⟩ := Hh.out
  refine (first_any w1 _ _ l r p _ cap m _ _ hhead hN1 (hN1 p (by simp)) (by simp) rfl ?_ Hpr.out ?_).mono ?_
  · rcases hf with hf | hf
    · simp [hf]
    · simp at hf; rcases hf with hf | hf <;> simp [hf]
  · rcases hf with hf | hf
    · show upd G.nx (G.pv p) (G.nx p) r ≠ p
      rw [hf]; exact Hpr.out
    · intro e
      have e' : upd G.nx (G.pv p) (G.nx p) r = p := e
      rw [e'] at hf
      simp only [List.nodup_cons] at hnd3
      exact hnd3.2.1 hf
  rintro e w2 ⟨rfl, hN2, hC2⟩
  replace hN2 := hN2.mono fun b (hb : b ∈ r :: (l1 ++ p :: l2)) => .inl hb
  replace hC2 := hC2.mono (T := fun b => b ∈ r :: (l1 ++ p :: l2)) fun b _ hb => hb.elim id fun e => by simp [e]
  have hC : Chg w w2 (fun b => b ∈ r :: (l1 ++ p :: l2)) := hC1.trans hC2 fun k hk => .inl hk
  have hfin : UseHit w l m r p l1 l2 G cap (.returned (.tuple #[.pointer (some ⟨p, 0, none⟩), .bool true])) w2 := ⟨rfl, H.out.turned (vf := G.vf) hN2 hC, hC⟩
  have Hfin := Lib.hid hfin
  clear hfin hC hN2 hC2 hr1 ha hc hN1 hC1 hhead hnd3 hf
  go_wp2
  go_ret2
  exact Hfin.out

set_option maxHeartbeats 400000 in
theorem use_miss (w : World) (l m r : Nat) (ns : List Nat) (G : Gh) (cap k : Int) (h : LruAt w l m r ns G cap) (hk : ∀ b ∈ ns, G.kf b ≠ k) (hw : WfI k) :
    Calls Try.prog 39 #[.pointer (some ⟨l, 0, none⟩), .int .i64 k] w fun e w2 => e = .returned (.tuple #[.pointer none, .bool false]) ∧ w = w2 := by
  have hrun : (Instr.lookup 68 (.map (some m)) (.int .i64 k) true).run Try.prog w = .ok (.tuple #[.pointer none, .bool false]) w := by
    obtain ⟨D, hD⟩ := h.map
    exact look_miss hD hk hw
  have h1 : w.cell? ⟨l, 1, none⟩ = some (.map (some m)) := h.head.cell 1
  clear h hk hw
  go_enter Try.func39, Try.ntmps39
  go_wp2
  go_ret2
  exact ⟨rfl, rfl⟩

/-! ### what the law sees -/
/-- an Lru of ints at a place: its blocks, its capacity, its pairs, the one that was used lately first -/
def Lru (w : World) (l : Nat) (own : Nat → Prop) (cap : Int) (ps : List (Int × Int)) : Prop :=
  ∃ m r ns G, LruAt w l m r ns G cap ∧ ps = ns.map (fun b => (G.kf b, G.vf b)) ∧ ∀ b, own b ↔ b = l ∨ b = m ∨ b ∈ r :: ns

theorem Lru.chg {w w' : World} {l : Nat} {own S : Nat → Prop} {cap : Int} {ps : List (Int × Int)} (h : Lru w l own cap ps) (hc : Chg w w' S) (hS : ∀ b, own b → ¬ S b) : Lru w' l own cap ps := by
  obtain ⟨m, r, ns, G, h, hp, ho⟩ := h
  refine ⟨m, r, ns, G, ⟨h.head.chg hc (hS l ((ho l).2 (.inl rfl))), h.nodes.chg hc fun b hb => hS b ((ho b).2 (.inr (.inr hb))), h.nodup, h.ring, h.keys, h.wf, ?_⟩, hp, ho⟩
  obtain ⟨D, hD⟩ := h.map
  exact ⟨D, hD.chg hc (hS m ((ho m).2 (.inr (.inl rfl))))⟩
theorem Lru.by_none {w w' : World} {l : Nat} {own : Nat → Prop} {cap : Int} {ps : List (Int × Int)} (h : Lru w l own cap ps) (hc : w.grownBy w' none) : Lru w' l own cap ps :=
  h.chg (S := fun _ => False) (Chg.of_none hc) fun _ _ => id
theorem Lru.lt {w : World} {l : Nat} {own : Nat → Prop} {cap : Int} {ps : List (Int × Int)} (h : Lru w l own cap ps) : ∀ b, own b → b < w.heap.size := by
  obtain ⟨m, r, ns, G, h, hp, ho⟩ := h
  obtain ⟨D, hD⟩ := h.map
  intro b hb
  rcases (ho b).1 hb with rfl | rfl | hb
  · exact h.head.lt
  · exact hD.own.lt
  · exact (h.nodes b hb).lt
/-- a block of another type is none of its -/
theorem Lru.apart {w : World} {l g : Nat} {own : Nat → Prop} {cap : Int} {ps : List (Int × Int)} {t : TypeId} {cs : Array Value} (h : Lru w l own cap ps) (hg : w.heap[g]? = some (.cells cs t (0, 0))) (h1 : t ≠ 75) (h2 : t ≠ 73) : ¬ own g := by
  obtain ⟨m, r, ns, G, h, hp, ho⟩ := h
  obtain ⟨D, hD⟩ := h.map
  intro hb
  rcases (ho g).1 hb with rfl | rfl | hb
  · exact h.head.ne_ (show Blk w g t cs from hg) (Ne.symm h1) rfl
  · exact own_map_ne hD.own (show Blk w g t cs from hg) rfl
  · exact (h.nodes g hb).ne_ (show Blk w g t cs from hg) (Ne.symm h2) rfl
theorem Lru.wf {w : World} {l : Nat} {own : Nat → Prop} {cap : Int} {ps : List (Int × Int)} (h : Lru w l own cap ps) : (∀ q ∈ ps, WfI q.1) ∧ (ps.map (·.1)).Nodup := by
  obtain ⟨m, r, ns, G, h, rfl, ho⟩ := h
  refine ⟨fun q hq => ?_, by simpa [Function.comp_def] using h.keys⟩
  obtain ⟨b, hb, rfl⟩ := List.mem_map.1 hq
  exact h.wf b hb

/-- what a look does: the value, if there is one, and the pairs then -/
def look (ps : List (Int × Int)) (k : Int) : Option Int := (ps.find? (fun q => q.1 == k)).map (·.2)
def less (ps : List (Int × Int)) (k : Int) : List (Int × Int) := ps.filter (fun q => q.1 != k)
def got (ps : List (Int × Int)) (k : Int) : List (Int × Int) := match look ps k with | some v => (k, v) :: less ps k | none => ps
def GetV (ps : List (Int × Int)) (k : Int) : Value := match look ps k with | some v => .tuple #[.int .i64 v, .bool true] | none => .tuple #[.int .i64 0, .bool false]

theorem look_mid {l1 l2 : List (Int × Int)} {q : Int × Int} (h : ((l1 ++ q :: l2).map (·.1)).Nodup) : look (l1 ++ q :: l2) q.1 = some q.2 ∧ less (l1 ++ q :: l2) q.1 = l1 ++ l2 := by
  rw [List.map_append, List.map_cons, List.nodup_append] at h
  obtain ⟨h1, h2, h3⟩ := h
  have a1 : ∀ x ∈ l1, x.1 ≠ q.1 := fun x hx e => h3 x.1 (List.mem_map_of_mem hx) q.1 (by simp) e
  have a2 : ∀ x ∈ l2, x.1 ≠ q.1 := fun x hx e => (List.nodup_cons.1 h2).1 (by rw [← e]; exact List.mem_map_of_mem (f := (·.1)) hx)
  constructor
  · unfold look
    rw [List.find?_append, List.find?_eq_none.2 (by intro x hx; simpa using a1 x hx)]
    simp
  · unfold less
    rw [List.filter_append, List.filter_eq_self.2 (by intro x hx; simpa using a1 x hx), List.filter_cons_of_neg (by simp), List.filter_eq_self.2 (by intro x hx; simpa using a2 x hx)]
theorem look_none {ps : List (Int × Int)} {k : Int} (h : ∀ q ∈ ps, q.1 ≠ k) : look ps k = none ∧ less ps k = ps := by
  refine ⟨?_, List.filter_eq_self.2 (by intro x hx; simpa using h x hx)⟩
  unfold look
  rw [List.find?_eq_none.2 (by intro x hx; simpa using h x hx)]
  rfl

/-- what an act on an Lru comes to -/
def Did (w : World) (l : Nat) (own : Nat → Prop) (cap : Int) (ps' : List (Int × Int)) (v : Value) (e : Ending) (w2 : World) : Prop :=
  e = .returned v ∧ Chg w w2 own ∧ ∃ own', Lru w2 l own' cap ps' ∧ ∀ b, own' b → own b ∨ w.heap.size ≤ b

theorem split_key {ns : List Nat} {kf : Nat → Int} {k : Int} : (∃ l1 p l2, ns = l1 ++ p :: l2 ∧ kf p = k) ∨ ∀ b ∈ ns, kf b ≠ k := by
  by_cases h : ∃ b ∈ ns, kf b = k
  · obtain ⟨b, hb, e⟩ := h
    obtain ⟨l1, l2, h⟩ := List.append_of_mem hb
    exact .inl ⟨l1, b, l2, h, e⟩
  · exact .inr fun b hb e => h ⟨b, hb, e⟩

set_option maxHeartbeats 400000 in
theorem get_any (w : World) (l : Nat) (own : Nat → Prop) (cap k : Int) (ps : List (Int × Int)) (h : Lru w l own cap ps) (hk : WfI k) :
    Calls Try.prog 10 #[.pointer (some ⟨l, 0, none⟩), .int .i64 k] w (Did w l own cap (got ps k) (GetV ps k)) := by
  obtain ⟨m, r, ns, G, h, rfl, ho⟩ := h
  rcases split_key (ns := ns) (kf := G.kf) (k := k) with ⟨l1, p, l2, rfl, hp⟩ | hno
  · have hkeys : ((l1.map (fun b => (G.kf b, G.vf b)) ++ (G.kf p, G.vf p) :: l2.map (fun b => (G.kf b, G.vf b))).map (·.1)).Nodup := by simpa [Function.comp_def] using h.keys
    obtain ⟨e1, e2⟩ := look_mid hkeys
    have e3 : (l1 ++ p :: l2).map (fun b => (G.kf b, G.vf b)) = l1.map (fun b => (G.kf b, G.vf b)) ++ (G.kf p, G.vf p) :: l2.map (fun b => (G.kf b, G.vf b)) := by simp
    rw [← e3] at e1 e2
    simp only [hp] at e1 e2
    have hg : got ((l1 ++ p :: l2).map (fun b => (G.kf b, G.vf b))) k = (p :: (l1 ++ l2)).map (fun b => (G.kf b, G.vf b)) := by
      unfold got; rw [e1, e2]; simp [hp]
    have hv : GetV ((l1 ++ p :: l2).map (fun b => (G.kf b, G.vf b))) k = .tuple #[.int .i64 (G.vf p), .bool true] := by unfold GetV; rw [e1]
    rw [hg, hv]
    have H := Lib.hid (And.intro h (And.intro hp ho))
    clear h hp ho hkeys e1 e2 e3 hg hv
    go_enter Try.func10, Try.ntmps10
    go_wp2_with fail
    refine (use_hit w l m r p l1 l2 G cap k H.out.1 H.out.2.1).mono ?_
    rintro e w1 ⟨rfl, h1, hC⟩
    have c3 : w1.cell? ⟨p, 3, none⟩ = some (.int .i64 (G.vf p)) := (h1.nodes p (by simp)).cell 3
    have hfin : Did w l own cap ((p :: (l1 ++ l2)).map (fun b => (G.kf b, G.vf b))) (.tuple #[.int .i64 (G.vf p), .bool true]) (.returned (.tuple #[.int .i64 (G.vf p), .bool true])) w1 := by
      refine ⟨rfl, hC.mono fun b _ hb => (H.out.2.2 b).2 (.inr (.inr hb)), own, ⟨m, r, _, _, h1, rfl, fun b => ?_⟩, fun b hb => .inl hb⟩
      rw [H.out.2.2 b]
      simp only [List.mem_cons, List.mem_append]
      constructor <;> (rintro (h | h | h | h | h | h) <;> simp [h])
    have Hfin := Lib.hid hfin
    clear hfin h1 hC
    go_wp2
    go_ret2
    exact Hfin.out
  · obtain ⟨e1, e2⟩ := look_none (ps := ns.map (fun b => (G.kf b, G.vf b))) (k := k) (by simpa using hno)
    have hg : got (ns.map (fun b => (G.kf b, G.vf b))) k = ns.map (fun b => (G.kf b, G.vf b)) := by unfold got; rw [e1]
    have hv : GetV (ns.map (fun b => (G.kf b, G.vf b))) k = .tuple #[.int .i64 0, .bool false] := by unfold GetV; rw [e1]
    rw [hg, hv]
    have hfin : Did w l own cap (ns.map (fun b => (G.kf b, G.vf b))) (.tuple #[.int .i64 0, .bool false]) (.returned (.tuple #[.int .i64 0, .bool false])) w :=
      ⟨rfl, Chg.refl _ _, own, ⟨m, r, ns, G, h, rfl, ho⟩, fun b hb => .inl hb⟩
    have Hfin := Lib.hid hfin
    have H := Lib.hid (And.intro h (And.intro hno hk))
    clear h ho hno hfin e1 e2 hg hv hk
    go_enter Try.func10, Try.ntmps10
    go_wp2_with fail
    refine (use_miss w l m r ns G cap k H.out.1 H.out.2.1 H.out.2.2).mono ?_
    rintro e w1 ⟨rfl, rfl⟩
    go_wp2
    go_ret2
    exact Hfin.out

theorem len_own {w : World} {l : Nat} {own : Nat → Prop} {cap : Int} {ps : List (Int × Int)} (h : Lru w l own cap ps) : ∃ m r, Blk w l 75 #[.int .i64 cap, .map (some m), .pointer (some ⟨r, 0, none⟩)] ∧
    ∀ ty, (Builtin.len_ #[68] ty #[.map (some m)]).run Try.prog w = .ok (.int .i64 (ps.length : Nat)) w := by
  obtain ⟨m, r, ns, G, h, rfl, ho⟩ := h
  obtain ⟨D, hD⟩ := h.map
  refine ⟨m, r, h.head, fun ty => ?_⟩
  have := hD.own.len Try.underlying68 ty
  rw [hD.size] at this
  simpa using this
set_option maxHeartbeats 400000 in
theorem len_any (w : World) (l : Nat) (own : Nat → Prop) (cap : Int) (ps : List (Int × Int)) (h : Lru w l own cap ps) :
    Calls Try.prog 17 #[.pointer (some ⟨l, 0, none⟩)] w fun e w2 => e = .returned (.int .i64 (ps.length : Nat)) ∧ w = w2 := by
  obtain ⟨m, r, hb, hrun⟩ := len_own h
  have h1 : w.cell? ⟨l, 1, none⟩ = some (.map (some m)) := hb.cell 1
  generalize ps.length = n at *
  clear hb h
  go_enter Try.func17, Try.ntmps17
  go_wp2
  go_ret
  exact ⟨rfl, rfl⟩

end Go.Proofs.Ytgjklppmimhgnaa
