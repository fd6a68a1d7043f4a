/-
  The Lru of string and lodger/api.Result: the same texts as for ints, by program (inst.py).
-/
import Derived.Test.YtndmnnapjhjkmaaMem
import Derived.Deep.LoopGhost
import Derived.BigQuiet
import Derived.Laws.ResultCell
import Derived.LaidEqlPtr
import Derived.Deep.QuietTactic
namespace Go.Proofs.Ytndmnnapjhjkmaa.iStrRes
open Go.RowKit
open Go.Maps (Keyed)

/-- a result's six cells -/
structure RV where
  d : Option Addr × Nat × Nat
  p : ByteArray
  b : Bool
  vs : Option Addr × Nat × Nat
  ts : Option Addr × Nat × Nat
  c : Int

/-! from XCut -/


/-- a place to a block's begin -/
def ptr (b : Nat) : Value := .pointer (some ⟨b, 0, none⟩)
/-- what the nodes hold -/
structure Gh where
  nx : Nat → Nat
  pv : Nat → Nat
  kf : Nat → ByteArray
  vf : Nat → RV
def nodeT : TypeId := 75
def Nodes (w : World) (G : Gh) (S : Nat → Prop) : Prop :=
  ∀ b, S b → Blk w b 75 #[.pointer (some ⟨G.pv b, 0, none⟩), .pointer (some ⟨G.nx b, 0, none⟩), .string (G.kf b), .slice (G.vf b).d.1 (G.vf b).d.2.1 (G.vf b).d.2.2, .string (G.vf b).p, .bool (G.vf b).b, .slice (G.vf b).vs.1 (G.vf b).vs.2.1 (G.vf b).vs.2.2, .slice (G.vf b).ts.1 (G.vf b).ts.2.1 (G.vf b).ts.2.2, .int .u64 (G.vf b).c]

section
variable {w w' : World} {G : Gh} {S T : Nat → Prop}
theorem Nodes.setNx (h : Nodes w G S) (a c : Nat) : Nodes (w.setCell ⟨a, 1, none⟩ (.pointer (some ⟨c, 0, none⟩))) { G with nx := upd G.nx a c } S := by
  intro b hb
  by_cases hab : b = a
  · subst hab
    have := (h b hb).set_ 1 (.pointer (some ⟨c, 0, none⟩))
    simpa [upd] using this
  · have := (h b hb).far (p := ⟨a, 1, none⟩) hab (.pointer (some ⟨c, 0, none⟩))
    simpa [upd, hab] using this
theorem Nodes.setPv (h : Nodes w G S) (a c : Nat) : Nodes (w.setCell ⟨a, 0, none⟩ (.pointer (some ⟨c, 0, none⟩))) { G with pv := upd G.pv a c } S := by
  intro b hb
  by_cases hab : b = a
  · subst hab
    have := (h b hb).set_ 0 (.pointer (some ⟨c, 0, none⟩))
    simpa [upd] using this
  · have := (h b hb).far (p := ⟨a, 0, none⟩) hab (.pointer (some ⟨c, 0, none⟩))
    simpa [upd, hab] using this
theorem Nodes.setV (h : Nodes w G S) (a : Nat) (v : RV) : Nodes ((((((w.setCell ⟨a, 3, none⟩ (.slice v.d.1 v.d.2.1 v.d.2.2)).setCell ⟨a, 4, none⟩ (.string v.p)).setCell ⟨a, 5, none⟩ (.bool v.b)).setCell ⟨a, 6, none⟩ (.slice v.vs.1 v.vs.2.1 v.vs.2.2)).setCell ⟨a, 7, none⟩ (.slice v.ts.1 v.ts.2.1 v.ts.2.2)).setCell ⟨a, 8, none⟩ (.int .u64 v.c)) { G with vf := upd G.vf a v } S := by
  intro b hb
  by_cases hab : b = a
  · subst hab
    have := ((((((h b hb).set_ 3 (.slice v.d.1 v.d.2.1 v.d.2.2)).set_ 4 (.string v.p)).set_ 5 (.bool v.b)).set_ 6 (.slice v.vs.1 v.vs.2.1 v.vs.2.2)).set_ 7 (.slice v.ts.1 v.ts.2.1 v.ts.2.2)).set_ 8 (.int .u64 v.c)
    simpa [upd] using this
  · have := ((((((h b hb).far (p := ⟨a, 3, none⟩) hab (.slice v.d.1 v.d.2.1 v.d.2.2)).far (p := ⟨a, 4, none⟩) hab (.string v.p)).far (p := ⟨a, 5, none⟩) hab (.bool v.b)).far (p := ⟨a, 6, none⟩) hab (.slice v.vs.1 v.vs.2.1 v.vs.2.2)).far (p := ⟨a, 7, none⟩) hab (.slice v.ts.1 v.ts.2.1 v.ts.2.2)).far (p := ⟨a, 8, none⟩) hab (.int .u64 v.c)
    simpa [upd, hab] using this
theorem Nodes.mono (h : Nodes w G S) (hT : ∀ b, T b → S b) : Nodes w G T := fun b hb => h b (hT b hb)
theorem Nodes.chg (h : Nodes w G S) (hc : Chg w w' T) (hT : ∀ b, S b → ¬ T b) : Nodes w' G S := fun b hb => (h b hb).chg hc (hT b hb)
theorem Nodes.drew (h : Nodes w G S) : Nodes w.drew G S := h
end

def CutQ (w : World) (G : Gh) (S : Nat → Prop) (p : Nat) (e : Ending) (w2 : World) : Prop :=
  e = .returned (.tuple #[]) ∧ Nodes w2 { G with nx := upd G.nx (G.pv p) (G.nx p), pv := upd G.pv (G.nx p) (G.pv p) } S ∧ Chg w w2 S

set_option maxHeartbeats 1000000 in
theorem cut_any (w : World) (G : Gh) (S : Nat → Prop) (p a c : Nat) (hN : Nodes w G S) (hp : S p) (ha : G.pv p = a) (hc : G.nx p = c) (hSa : S a) (hSc : S c) (_hpa : a ≠ p) (_hpc : c ≠ p) :
    Calls Try.prog 26 #[.pointer (some ⟨p, 0, none⟩)] w (CutQ w G S p) := by
  have hfin : CutQ w G S p (.returned (.tuple #[])) ((w.setCell ⟨a, 1, none⟩ (.pointer (some ⟨c, 0, none⟩))).setCell ⟨c, 0, none⟩ (.pointer (some ⟨a, 0, none⟩))).drew := by
    refine ⟨rfl, ?_, ?_⟩
    · rw [ha, hc]
      exact ((hN.setNx a c).setPv c a).drew
    · exact (((Chg.refl w S).set_ (.inl hSa) _).set_ (.inl hSc) _).drew
  have Hfin := Lib.hid hfin
  have p0 : w.cell? ⟨p, 0, none⟩ = some (.pointer (some ⟨a, 0, none⟩)) := by rw [← ha]; exact (hN p hp).cell 0
  have p1 : w.cell? ⟨p, 1, none⟩ = some (.pointer (some ⟨c, 0, none⟩)) := by rw [← hc]; exact (hN p hp).cell 1
  have a1 : w.cell? ⟨a, 1, none⟩ = some (.pointer (some ⟨G.nx a, 0, none⟩)) := (hN a hSa).cell 1
  have c0 : w.cell? ⟨c, 0, none⟩ = some (.pointer (some ⟨G.pv c, 0, none⟩)) := (hN c hSc).cell 0
  have fa : w.frozen? ⟨a, 1, none⟩ = false := (hN a hSa).frozen 1
  have fc : w.frozen? ⟨c, 0, none⟩ = false := (hN c hSc).frozen 0
  clear hfin hN hp ha hc hSa hSc
  go_enter Try.func26, Try.ntmps26
  go_wp2_with fail
  go_region
  go_wp2
  go_end0
  exact Hfin.out

def FirstG (G : Gh) (r p : Nat) : Gh := { G with nx := upd (upd G.nx p (G.nx r)) r p, pv := upd (upd G.pv p r) (G.nx r) p }
def FirstQ (w : World) (G : Gh) (S : Nat → Prop) (r p : Nat) (e : Ending) (w2 : World) : Prop :=
  e = .returned (.tuple #[]) ∧ Nodes w2 (FirstG G r p) S ∧ Chg w w2 S

set_option maxHeartbeats 1000000 in
theorem first_any (w : World) (G : Gh) (S : Nat → Prop) (l r p f : Nat) (cap : Int) (m : Nat) (x y : Value) (hl : Blk w l 77 #[.int .i64 cap, .map (some m), .pointer (some ⟨r, 0, none⟩)]) (hN : Nodes w G S)
    (hp : Blk w p 75 #[x, y, .string (G.kf p), .slice (G.vf p).d.1 (G.vf p).d.2.1 (G.vf p).d.2.2, .string (G.vf p).p, .bool (G.vf p).b, .slice (G.vf p).vs.1 (G.vf p).vs.2.1 (G.vf p).vs.2.2, .slice (G.vf p).ts.1 (G.vf p).ts.2.1 (G.vf p).ts.2.2, .int .u64 (G.vf p).c]) (hr : S r) (hf : G.nx r = f) (hSf : S f) (hrp : r ≠ p) (hfp : f ≠ p) :
    Calls Try.prog 27 #[.pointer (some ⟨l, 0, none⟩), .pointer (some ⟨p, 0, none⟩)] w (FirstQ w G (fun b => S b ∨ b = p) r p) := by
  have hlp : l ≠ p := hl.ne_ hp (by decide)
  obtain ⟨w1, hw1⟩ : ∃ w1, ((w.setCell ⟨p, 0, none⟩ (.pointer (some ⟨r, 0, none⟩))).setCell ⟨p, 1, none⟩ (.pointer (some ⟨f, 0, none⟩))).drew = w1 := ⟨_, rfl⟩
  have hN1 : Nodes w1 { G with pv := upd G.pv p r, nx := upd G.nx p f } (fun b => S b ∨ b = p) := by
    intro b hb
    rw [← hw1]
    by_cases hbp : b = p
    · subst hbp
      have := ((hp.set_ 0 (.pointer (some ⟨r, 0, none⟩))).set_ 1 (.pointer (some ⟨f, 0, none⟩))).drew
      simpa [upd] using this
    · have hSb : S b := hb.resolve_right hbp
      have := (((hN b hSb).far (p := ⟨p, 0, none⟩) hbp (.pointer (some ⟨r, 0, none⟩))).far (p := ⟨p, 1, none⟩) hbp (.pointer (some ⟨f, 0, none⟩))).drew
      simpa [upd, hbp] using this
  have hC1 : Chg w w1 (fun b => S b ∨ b = p) := by rw [← hw1]; exact (((Chg.refl w _).set_ (.inl (.inr rfl)) _).set_ (.inl (.inr rfl)) _).drew
  have hfin : FirstQ w G (fun b => S b ∨ b = p) r p (.returned (.tuple #[])) ((w1.setCell ⟨r, 1, none⟩ (.pointer (some ⟨p, 0, none⟩))).setCell ⟨f, 0, none⟩ (.pointer (some ⟨p, 0, none⟩))).drew := by
    refine ⟨rfl, ?_, ?_⟩
    · unfold FirstG
      rw [hf]
      exact ((hN1.setNx r p).setPv f p).drew
    · exact ((hC1.set_ (.inl (.inl hr)) _).set_ (.inl (.inl hSf)) _).drew
  have Hfin := Lib.hid hfin
  have l2 : w.cell? ⟨l, 2, none⟩ = some (.pointer (some ⟨r, 0, none⟩)) := hl.cell 2
  have r1 : w.cell? ⟨r, 1, none⟩ = some (.pointer (some ⟨f, 0, none⟩)) := by rw [← hf]; exact (hN r hr).cell 1
  have p0 : w.cell? ⟨p, 0, none⟩ = some x := hp.cell 0
  have p1 : w.cell? ⟨p, 1, none⟩ = some y := hp.cell 1
  have fp0 : w.frozen? ⟨p, 0, none⟩ = false := hp.frozen 0
  have fp1 : w.frozen? ⟨p, 1, none⟩ = false := hp.frozen 1
  have q0 : w1.cell? ⟨p, 0, none⟩ = some (.pointer (some ⟨r, 0, none⟩)) := by have := (hN1 p (.inr rfl)).cell 0; simpa [upd] using this
  have q1 : w1.cell? ⟨p, 1, none⟩ = some (.pointer (some ⟨f, 0, none⟩)) := by have := (hN1 p (.inr rfl)).cell 1; simpa [upd] using this
  have qr : w1.cell? ⟨r, 1, none⟩ = some (.pointer (some ⟨f, 0, none⟩)) := by have := (hN1 r (.inl hr)).cell 1; simpa [upd, hrp, hf] using this
  have qf : w1.cell? ⟨f, 0, none⟩ = some (.pointer (some ⟨G.pv f, 0, none⟩)) := by have := (hN1 f (.inl hSf)).cell 0; simpa [upd, hfp] using this
  have fr : w1.frozen? ⟨r, 1, none⟩ = false := (hN1 r (.inl hr)).frozen 1
  have ff : w1.frozen? ⟨f, 0, none⟩ = false := (hN1 f (.inl hSf)).frozen 0
  have Hw := Lib.hid hw1
  clear hfin hN hp hf hSf hr hl hN1 hC1 hw1
  go_enter Try.func27, Try.ntmps27
  go_wp2_with fail
  go_region
  go_wp2_with fail
  rw [Hw.out]
  go_region
  go_wp2
  go_end0
  exact Hfin.out



/-! from XAt -/



abbrev mapT : TypeId := 70
abbrev ptrT : TypeId := 71
/-- a pointer as a map's element reads it -/
def ptrElem : Value → Option (DataW Unit × List MemPlace)
  | .pointer (some ⟨b, 0, none⟩) => some (.lit (.int .i64 (b : Int)), [])
  | .pointer none => some (.nil, [])
  | _ => none
theorem ptrElem_mk (b : Nat) : ptrElem (.pointer (some ⟨b, 0, none⟩)) = some (.lit (.int .i64 (b : Int)), []) := rfl
theorem ptrElem_inv {v : Value} {b : Nat} {ps : List MemPlace} (h : ptrElem v = some (.lit (.int .i64 (b : Int)), ps)) : v = .pointer (some ⟨b, 0, none⟩) := by
  unfold ptrElem at h
  split at h
  · rename_i c
    simp at h
    obtain ⟨h1, _⟩ := h; obtain rfl : c = b := by omega
    rfl
  · simp at h
  · simp at h
theorem ptrElem_nil {v : Value} {ps : List MemPlace} (h : ptrElem v = some (.nil, ps)) : v = .pointer none := by
  unfold ptrElem at h
  split at h
  · simp at h
  · rfl
  · simp at h
theorem zeroPtr (w : World) : (zeroValue 71).run Try.prog w = .ok (.pointer none) w := by kernel_rfl

def WfI (k : ByteArray) : Prop := k.size ≤ maxLen
def kl (x : ByteArray) : Lit := .string x.data.toList
theorem kl_of {x : ByteArray} (h : WfI x) : keyOf Try.prog 9 (.string x) = some (kl x) := WideMaps.keyOf_string_mk Try.underlying9 h
theorem kl_ne {a b : ByteArray} (_ha : WfI a) (_hb : WfI b) (h : a ≠ b) : kl a ≠ kl b := by
  intro e
  unfold kl at e
  injection e with e
  exact h (ByteArray.ext (Array.toList_inj.1 e))
theorem kl_key (x : ByteArray) : WideAt.IsKeyLit (kl x) := trivial
theorem intKeys : Keyed Try.prog 9 := Maps.string_keyed Try.underlying9

/-- the map of an Lru: under each node's key the node, and nothing else -/
structure MapOf (w : World) (m : Nat) (ns : List Nat) (kf : Nat → ByteArray) (D : DataW Unit) : Prop where
  own : w.ownsMap Try.prog 9 ptrElem m ns.length D
  all : ∀ k, WfI k → Maps.has D (kl k) = true → ∃ b ∈ ns, kf b = k
  has : ∀ b ∈ ns, Maps.has D (kl (kf b)) = true
  there : ∀ b ∈ ns, ∀ z, D.atKey (kl (kf b)) z = .lit (.int .i64 (b : Int))
  size : Maps.size D = ns.length

structure LruAt (w : World) (l m r : Nat) (ns : List Nat) (G : Gh) (cap : Int) : Prop where
  head : Blk w l 77 #[.int .i64 cap, .map (some m), .pointer (some ⟨r, 0, none⟩)]
  nodes : Nodes w G (fun b => b ∈ r :: ns)
  nodup : (r :: ns).Nodup
  ring : Linked G.nx G.pv (r :: ns ++ [r])
  keys : (ns.map G.kf).Nodup
  wf : ∀ b ∈ ns, WfI (G.kf b)
  map : ∃ D, MapOf w m ns G.kf D

section
variable {w w' : World} {m b n : Nat} {D : DataW Unit} {S : Nat → Prop}
theorem own_map_chg (h : w.ownsMap Try.prog 9 ptrElem m n D) (hc : Chg w w' S) (hm : ¬ S m) : w'.ownsMap Try.prog 9 ptrElem m n D := by
  have hlt := h.lt
  obtain ⟨es, clock, hb, F, hs, hD⟩ := h
  exact ⟨es, clock, (hc.block m hlt hm).trans hb, F, hs, hD⟩
theorem own_map_tight (h : w.ownsMap Try.prog 9 ptrElem m n D) {q : Nat} (hq : Maps.size D ≤ q) : w.ownsMap Try.prog 9 ptrElem m q D := by
  obtain ⟨es, clock, hb, F, hs, rfl⟩ := h
  refine ⟨es, clock, hb, F, ?_, rfl⟩
  simpa [Maps.size, length_sorted] using hq
theorem own_map_ne {cs : Array Value} {t g : TypeId} (h : w.ownsMap Try.prog 9 ptrElem m n D) (hb : Blk w g t cs) : m ≠ g := by
  obtain ⟨es, clock, h1, _⟩ := h
  rintro rfl
  unfold Blk at hb
  rw [h1] at hb
  simp at hb
theorem MapOf.chg {ns : List Nat} {kf : Nat → ByteArray} (h : MapOf w m ns kf D) (hc : Chg w w' S) (hm : ¬ S m) : MapOf w' m ns kf D := ⟨own_map_chg h.own hc hm, h.all, h.has, h.there, h.size⟩
theorem MapOf.perm {ns ns' : List Nat} {kf : Nat → ByteArray} (h : MapOf w m ns kf D) (hp : ∀ b, b ∈ ns' ↔ b ∈ ns) (hl : ns'.length = ns.length) : MapOf w m ns' kf D :=
  ⟨by rw [hl]; exact h.own, fun k hk hh => by obtain ⟨b, hb, e⟩ := h.all k hk hh; exact ⟨b, (hp b).2 hb, e⟩, fun b hb => h.has b ((hp b).1 hb), fun b hb => h.there b ((hp b).1 hb), by rw [hl]; exact h.size⟩
end

/-- what a look-up in the map finds -/
theorem look_hit {w : World} {m : Nat} {ns : List Nat} {kf : Nat → ByteArray} {D : DataW Unit} (h : MapOf w m ns kf D) {b : Nat} (hb : b ∈ ns) (hw : WfI (kf b)) :
    (Instr.lookup 70 (.map (some m)) (.string (kf b)) true).run Try.prog w = .ok (.tuple #[.pointer (some ⟨b, 0, none⟩), .bool true]) w := by
  obtain ⟨v, ps, hrun, hv⟩ := h.own.look_ok intKeys Try.underlying70 (zeroPtr w) (zd := .nil) (zp := []) rfl (kl_of hw)
  rw [h.there b hb] at hv
  obtain rfl := ptrElem_inv hv
  rw [h.has b hb] at hrun
  exact hrun
theorem look_miss {w : World} {m : Nat} {ns : List Nat} {kf : Nat → ByteArray} {D : DataW Unit} (h : MapOf w m ns kf D) {k : ByteArray} (hk : ∀ b ∈ ns, kf b ≠ k) (hw : WfI k) :
    (Instr.lookup 70 (.map (some m)) (.string k) true).run Try.prog w = .ok (.tuple #[.pointer none, .bool false]) w := by
  obtain ⟨v, ps, hrun, hv⟩ := h.own.look_ok intKeys Try.underlying70 (zeroPtr w) (zd := .nil) (zp := []) rfl (kl_of hw)
  have hf : Maps.has D (kl k) = false := by
    cases hh : Maps.has D (kl k) with
    | false => rfl
    | true =>
      obtain ⟨b, hb, e⟩ := h.all k hw hh
      exact absurd e (hk b hb)
  rw [Maps.atKey_of_not_has hf] at hv
  obtain rfl := ptrElem_nil hv
  rw [hf] at hrun
  exact hrun

/-- the node of the first pair under a key is taken out, and put first -/
theorem LruAt.turned {w w' : World} {l m r p : Nat} {l1 l2 : List Nat} {G : Gh} {cap : Int} (h : LruAt w l m r (l1 ++ p :: l2) G cap) {vf : Nat → RV}
    (hN : Nodes w' { FirstG { G with nx := upd G.nx (G.pv p) (G.nx p), pv := upd G.pv (G.nx p) (G.pv p) } r p with vf := vf } (fun b => b ∈ r :: (l1 ++ p :: l2))) (hC : Chg w w' (fun b => b ∈ r :: (l1 ++ p :: l2))) :
    LruAt w' l m r (p :: (l1 ++ l2)) { FirstG { G with nx := upd G.nx (G.pv p) (G.nx p), pv := upd G.pv (G.nx p) (G.pv p) } r p with vf := vf } cap := by
  have hpm : ∀ b, b ∈ r :: (p :: (l1 ++ l2)) ↔ b ∈ r :: (l1 ++ p :: l2) := by
    intro b
    simp only [List.mem_cons, List.mem_append]
    constructor <;> (rintro (h | h | h | h) <;> simp [h])
  have hpm' : ∀ b, b ∈ p :: (l1 ++ l2) ↔ b ∈ l1 ++ p :: l2 := by
    intro b
    simp only [List.mem_cons, List.mem_append]
    constructor <;> (rintro (h | h | h) <;> simp [h])
  have hperm : List.Perm (p :: (l1 ++ l2)) (l1 ++ p :: l2) := (List.perm_middle).symm
  obtain ⟨hr1, _, _⟩ := ring_cut h.ring h.nodup
  have hnd : (r :: p :: (l1 ++ l2)).Nodup := (hperm.cons r).nodup_iff.2 h.nodup
  obtain ⟨hr2, _⟩ := ring_first hr1 hnd
  obtain ⟨D, hD⟩ := h.map
  refine ⟨h.head.chg hC ?_, hN.mono fun b hb => (hpm b).1 hb, hnd, hr2, ?_, fun b hb => h.wf b ((hpm' b).1 hb), D, ?_⟩
  · intro hm
    exact h.head.ne_ (h.nodes l hm) (by decide) rfl
  · exact ((hperm.map G.kf).nodup_iff).2 h.keys
  · refine (hD.chg hC ?_).perm hpm' (by simp; omega)
    intro hm
    exact own_map_ne hD.own (h.nodes m hm) rfl



/-! from XUse -/


/-- what lies beside is as it was -/
theorem LruAt.still {w w' : World} {l m r : Nat} {ns : List Nat} {G : Gh} {cap : Int} (h : LruAt w l m r ns G cap) (hc : w.grownBy w' none) : LruAt w' l m r ns G cap := by
  have hC : Chg w w' (fun _ => False) := Chg.of_none hc
  obtain ⟨D, hD⟩ := h.map
  exact ⟨h.head.chg hC id, h.nodes.chg hC fun _ _ => id, h.nodup, h.ring, h.keys, h.wf, D, hD.chg hC id⟩
/-- another block, of results, is not the Lru's -/
theorem LruAt.beside {w w' : World} {l m r kb : Nat} {ns : List Nat} {G : Gh} {cap : Int} {cs : Array Value} (h : LruAt w l m r ns G cap) (hk : Blk w kb 38 cs) (hC : Chg w w' (fun b => b = kb)) : LruAt w' l m r ns G cap := by
  obtain ⟨D, hD⟩ := h.map
  exact ⟨h.head.chg hC (fun e => h.head.ne_ hk (by decide) e), h.nodes.chg hC (fun b hb e => (h.nodes b hb).ne_ hk (by decide) e), h.nodup, h.ring, h.keys, h.wf, D, hD.chg hC (fun e => own_map_ne hD.own hk e)⟩
theorem LruAt.kb_ne {w : World} {l m r kb : Nat} {ns : List Nat} {G : Gh} {cap : Int} {cs : Array Value} (h : LruAt w l m r ns G cap) (hk : Blk w kb 38 cs) : kb ∉ r :: ns := fun hb => (h.nodes kb hb).ne_ hk (by decide) rfl
theorem Chg.from_none {w wb w2 : World} {S : Nat → Prop} (hb : w.grownBy wb none) (h : Chg wb w2 S) : Chg w w2 S := (Chg.of_none (S := S) hb).trans h fun _ hk => .inl hk
/-- a result in a block of its own -/
def ValIn (w wb : World) (kb : Nat) (cs : Array Value) : Prop := w.alloc (.cells cs 38) = wb ∧ w.heap.size = kb ∧ Blk wb kb 38 cs ∧ w.grownBy wb none
theorem valIn (w : World) (cs : Array Value) : ∃ wb kb, ValIn w wb kb cs := ⟨_, _, rfl, rfl, Blk.new _ _ _, by_alloc (by_refl _ _) _⟩

def TurnG (G : Gh) (r p : Nat) : Gh := FirstG { G with nx := upd G.nx (G.pv p) (G.nx p), pv := upd G.pv (G.nx p) (G.pv p) } r p

def UseHit (w : World) (l m r p : Nat) (l1 l2 : List Nat) (G : Gh) (cap : Int) (e : Ending) (w2 : World) : Prop :=
  e = .returned (.tuple #[.pointer (some ⟨p, 0, none⟩), .bool true]) ∧ LruAt w2 l m r (p :: (l1 ++ l2)) (TurnG G r p) cap ∧ Chg w w2 (fun b => b ∈ r :: (l1 ++ p :: l2))

set_option maxHeartbeats 1000000 in
theorem use_hit (w : World) (l m r p : Nat) (l1 l2 : List Nat) (G : Gh) (cap : Int) (k : ByteArray) (h : LruAt w l m r (l1 ++ p :: l2) G cap) (hk : G.kf p = k) :
    Calls Try.prog 25 #[.pointer (some ⟨l, 0, none⟩), .string k] w (UseHit w l m r p l1 l2 G cap) := by
  have hp : p ∈ l1 ++ p :: l2 := by simp
  have hrun : (Instr.lookup 70 (.map (some m)) (.string k) true).run Try.prog w = .ok (.tuple #[.pointer (some ⟨p, 0, none⟩), .bool true]) w := by
    obtain ⟨D, hD⟩ := h.map
    rw [← hk]
    exact look_hit hD hp (h.wf p hp)
  have h1 : w.cell? ⟨l, 1, none⟩ = some (.map (some m)) := h.head.cell 1
  have H := Lib.hid h
  clear h hk
  go_enter Try.func25, Try.ntmps25
  go_wp2_with fail
  obtain ⟨hr1, ha, hc⟩ := ring_cut H.out.ring H.out.nodup
  have hnd := H.out.nodup
  have hpr : r ≠ p := by
    rintro rfl
    simp at hnd
  have hnd2 := hnd
  simp only [List.nodup_cons, List.nodup_append, List.mem_append, List.mem_cons, not_or] at hnd2
  obtain ⟨⟨hd1, hd2, hd3⟩, hd4, ⟨hd5, hd6⟩, hd7⟩ := hnd2
  refine (cut_any w G _ p (G.pv p) (G.nx p) H.out.nodes (by simp) rfl rfl ?_ ?_ ?_ ?_).mono ?_
  · rcases ha with ha | ha <;> simp [ha]
  · rcases hc with hc | hc <;> simp [hc]
  · rcases ha with ha | ha
    · rw [ha]; exact hpr
    · exact fun e => hd7 _ ha p (.inl rfl) e
  · rcases hc with hc | hc
    · rw [hc]; exact hpr
    · exact fun e => hd5 (e ▸ hc)
  rintro e w1 ⟨rfl, hN1, hC1⟩
  have hhead : Blk w1 l 77 #[.int .i64 cap, .map (some m), .pointer (some ⟨r, 0, none⟩)] := H.out.head.chg hC1 fun hm => H.out.head.ne_ (H.out.nodes l hm) (by decide) rfl
  have hperm : List.Perm (p :: (l1 ++ l2)) (l1 ++ p :: l2) := (List.perm_middle).symm
  have hnd3 : (r :: p :: (l1 ++ l2)).Nodup := (hperm.cons r).nodup_iff.2 hnd
  obtain ⟨hr2, hf⟩ := ring_first hr1 hnd3
  have Hh := Lib.hid (And.intro hr1 (And.intro ha (And.intro hc (And.intro hN1 (And.intro hC1 (And.intro hhead (And.intro hnd3 hf)))))))
  clear hr1 ha hc hN1 hC1 hhead hperm hr2 hnd hnd3 hd1 hd2 hd3 hd4 hd5 hd6 hd7 hrun h1
  have Hf := Lib.hid hf
  have Hpr := Lib.hid hpr
  clear hf hpr hp
  go_wp2_with fail
  obtain ⟨hr1, ha, hc, hN1, hC1, hhead, hnd3, hf⟩ := Hh.out
  refine (first_any w1 _ _ l r p _ cap m _ _ hhead hN1 (hN1 p (by simp)) (by simp) rfl ?_ Hpr.out ?_).mono ?_
  · rcases hf with hf | hf
    · simp [hf]
    · simp at hf; rcases hf with hf | hf <;> simp [hf]
  · rcases hf with hf | hf
    · show upd G.nx (G.pv p) (G.nx p) r ≠ p
      rw [hf]; exact Hpr.out
    · intro e
      have e' : upd G.nx (G.pv p) (G.nx p) r = p := e
      rw [e'] at hf
      simp only [List.nodup_cons] at hnd3
      exact hnd3.2.1 hf
  rintro e w2 ⟨rfl, hN2, hC2⟩
  replace hN2 := hN2.mono fun b (hb : b ∈ r :: (l1 ++ p :: l2)) => .inl hb
  replace hC2 := hC2.mono (T := fun b => b ∈ r :: (l1 ++ p :: l2)) fun b _ hb => hb.elim id fun e => by simp [e]
  have hC : Chg w w2 (fun b => b ∈ r :: (l1 ++ p :: l2)) := hC1.trans hC2 fun k hk => .inl hk
  have hfin : UseHit w l m r p l1 l2 G cap (.returned (.tuple #[.pointer (some ⟨p, 0, none⟩), .bool true])) w2 := ⟨rfl, H.out.turned (vf := G.vf) hN2 hC, hC⟩
  have Hfin := Lib.hid hfin
  clear hfin hC hN2 hC2 hr1 ha hc hN1 hC1 hhead hnd3 hf
  go_wp2
  go_ret2
  exact Hfin.out

set_option maxHeartbeats 400000 in
theorem use_miss (w : World) (l m r : Nat) (ns : List Nat) (G : Gh) (cap : Int) (k : ByteArray) (h : LruAt w l m r ns G cap) (hk : ∀ b ∈ ns, G.kf b ≠ k) (hw : WfI k) :
    Calls Try.prog 25 #[.pointer (some ⟨l, 0, none⟩), .string k] w fun e w2 => e = .returned (.tuple #[.pointer none, .bool false]) ∧ w = w2 := by
  have hrun : (Instr.lookup 70 (.map (some m)) (.string k) true).run Try.prog w = .ok (.tuple #[.pointer none, .bool false]) w := by
    obtain ⟨D, hD⟩ := h.map
    exact look_miss hD hk hw
  have h1 : w.cell? ⟨l, 1, none⟩ = some (.map (some m)) := h.head.cell 1
  clear h hk hw
  go_enter Try.func25, Try.ntmps25
  go_wp2
  go_ret2
  exact ⟨rfl, rfl⟩

/-! ### what the law sees -/
/-- an Lru of ints at a place: its blocks, its capacity, its pairs, the one that was used lately first -/
def Lru (w : World) (l : Nat) (own : Nat → Prop) (cap : Int) (ps : List (ByteArray × RV)) : Prop :=
  ∃ m r ns G, LruAt w l m r ns G cap ∧ ps = ns.map (fun b => (G.kf b, G.vf b)) ∧ ∀ b, own b ↔ b = l ∨ b = m ∨ b ∈ r :: ns

theorem Lru.chg {w w' : World} {l : Nat} {own S : Nat → Prop} {cap : Int} {ps : List (ByteArray × RV)} (h : Lru w l own cap ps) (hc : Chg w w' S) (hS : ∀ b, own b → ¬ S b) : Lru w' l own cap ps := by
  obtain ⟨m, r, ns, G, h, hp, ho⟩ := h
  refine ⟨m, r, ns, G, ⟨h.head.chg hc (hS l ((ho l).2 (.inl rfl))), h.nodes.chg hc fun b hb => hS b ((ho b).2 (.inr (.inr hb))), h.nodup, h.ring, h.keys, h.wf, ?_⟩, hp, ho⟩
  obtain ⟨D, hD⟩ := h.map
  exact ⟨D, hD.chg hc (hS m ((ho m).2 (.inr (.inl rfl))))⟩
theorem Lru.by_none {w w' : World} {l : Nat} {own : Nat → Prop} {cap : Int} {ps : List (ByteArray × RV)} (h : Lru w l own cap ps) (hc : w.grownBy w' none) : Lru w' l own cap ps :=
  h.chg (S := fun _ => False) (Chg.of_none hc) fun _ _ => id
theorem Lru.lt {w : World} {l : Nat} {own : Nat → Prop} {cap : Int} {ps : List (ByteArray × RV)} (h : Lru w l own cap ps) : ∀ b, own b → b < w.heap.size := by
  obtain ⟨m, r, ns, G, h, hp, ho⟩ := h
  obtain ⟨D, hD⟩ := h.map
  intro b hb
  rcases (ho b).1 hb with rfl | rfl | hb
  · exact h.head.lt
  · exact hD.own.lt
  · exact (h.nodes b hb).lt
/-- a block of another type is none of its -/
theorem Lru.apart {w : World} {l g : Nat} {own : Nat → Prop} {cap : Int} {ps : List (ByteArray × RV)} {t : TypeId} {cs : Array Value} (h : Lru w l own cap ps) (hg : w.heap[g]? = some (.cells cs t (0, 0))) (h1 : t ≠ 77) (h2 : t ≠ 75) : ¬ own g := by
  obtain ⟨m, r, ns, G, h, hp, ho⟩ := h
  obtain ⟨D, hD⟩ := h.map
  intro hb
  rcases (ho g).1 hb with rfl | rfl | hb
  · exact h.head.ne_ (show Blk w g t cs from hg) (Ne.symm h1) rfl
  · exact own_map_ne hD.own (show Blk w g t cs from hg) rfl
  · exact (h.nodes g hb).ne_ (show Blk w g t cs from hg) (Ne.symm h2) rfl
theorem Lru.wf {w : World} {l : Nat} {own : Nat → Prop} {cap : Int} {ps : List (ByteArray × RV)} (h : Lru w l own cap ps) : (∀ q ∈ ps, WfI q.1) ∧ (ps.map (·.1)).Nodup := by
  obtain ⟨m, r, ns, G, h, rfl, ho⟩ := h
  refine ⟨fun q hq => ?_, by simpa [Function.comp_def] using h.keys⟩
  obtain ⟨b, hb, rfl⟩ := List.mem_map.1 hq
  exact h.wf b hb

/-- what a look does: the value, if there is one, and the pairs then -/
def look (ps : List (ByteArray × RV)) (k : ByteArray) : Option RV := (ps.find? (fun q => decide (q.1 = k))).map (·.2)
def less (ps : List (ByteArray × RV)) (k : ByteArray) : List (ByteArray × RV) := ps.filter (fun q => !decide (q.1 = k))
def got (ps : List (ByteArray × RV)) (k : ByteArray) : List (ByteArray × RV) := match look ps k with | some v => (k, v) :: less ps k | none => ps
def GetV (ps : List (ByteArray × RV)) (k : ByteArray) : Value := match look ps k with | some v => .tuple #[.agg #[.slice v.d.1 v.d.2.1 v.d.2.2, .string v.p, .bool v.b, .slice v.vs.1 v.vs.2.1 v.vs.2.2, .slice v.ts.1 v.ts.2.1 v.ts.2.2, .int .u64 v.c], .bool true] | none => .tuple #[.agg #[.slice none 0 0, .string ⟨#[]⟩, .bool false, .slice none 0 0, .slice none 0 0, .int .u64 0], .bool false]

theorem look_mid {l1 l2 : List (ByteArray × RV)} {q : ByteArray × RV} (h : ((l1 ++ q :: l2).map (·.1)).Nodup) : look (l1 ++ q :: l2) q.1 = some q.2 ∧ less (l1 ++ q :: l2) q.1 = l1 ++ l2 := by
  rw [List.map_append, List.map_cons, List.nodup_append] at h
  obtain ⟨h1, h2, h3⟩ := h
  have a1 : ∀ x ∈ l1, x.1 ≠ q.1 := fun x hx e => h3 x.1 (List.mem_map_of_mem hx) q.1 (by simp) e
  have a2 : ∀ x ∈ l2, x.1 ≠ q.1 := fun x hx e => (List.nodup_cons.1 h2).1 (by rw [← e]; exact List.mem_map_of_mem (f := (·.1)) hx)
  constructor
  · unfold look
    rw [List.find?_append, List.find?_eq_none.2 (by intro x hx; simpa using a1 x hx)]
    simp
  · unfold less
    rw [List.filter_append, List.filter_eq_self.2 (by intro x hx; simpa using a1 x hx), List.filter_cons_of_neg (by simp), List.filter_eq_self.2 (by intro x hx; simpa using a2 x hx)]
theorem look_none {ps : List (ByteArray × RV)} {k : ByteArray} (h : ∀ q ∈ ps, q.1 ≠ k) : look ps k = none ∧ less ps k = ps := by
  refine ⟨?_, List.filter_eq_self.2 (by intro x hx; simpa using h x hx)⟩
  unfold look
  rw [List.find?_eq_none.2 (by intro x hx; simpa using h x hx)]
  rfl

/-- what an act on an Lru comes to -/
def Did (w : World) (l : Nat) (own : Nat → Prop) (cap : Int) (ps' : List (ByteArray × RV)) (v : Value) (e : Ending) (w2 : World) : Prop :=
  e = .returned v ∧ Chg w w2 own ∧ ∃ own', Lru w2 l own' cap ps' ∧ ∀ b, own' b → own b ∨ w.heap.size ≤ b

theorem Did.from_none {w wb w2 : World} {l : Nat} {own : Nat → Prop} {cap : Int} {ps' : List (ByteArray × RV)} {v : Value} {e : Ending} (hb : w.grownBy wb none) (h : Did wb l own cap ps' v e w2) : Did w l own cap ps' v e w2 := by
  obtain ⟨h1, h2, own', h3, h4⟩ := h
  exact ⟨h1, Chg.from_none hb h2, own', h3, fun b hb' => (h4 b hb').imp id fun h => Nat.le_trans hb.size h⟩
/-- a block beside that is new may turn -/
theorem Did.beside {w w2 w3 : World} {l kb : Nat} {own : Nat → Prop} {cap : Int} {ps' : List (ByteArray × RV)} {v : Value} {e : Ending} {cs : Array Value} (h : Did w l own cap ps' v e w2) (hk : Blk w2 kb 38 cs) (hn : w.heap.size ≤ kb) (hC : Chg w2 w3 (fun b => b = kb)) : Did w l own cap ps' v e w3 := by
  obtain ⟨h1, h2, own', ⟨m, r, ns, G, h3, h5, h6⟩, h4⟩ := h
  exact ⟨h1, h2.trans hC (fun b hb => .inr (by rw [hb]; exact hn)), own', ⟨m, r, ns, G, h3.beside hk hC, h5, h6⟩, h4⟩

theorem split_key {ns : List Nat} {kf : Nat → ByteArray} {k : ByteArray} : (∃ l1 p l2, ns = l1 ++ p :: l2 ∧ kf p = k) ∨ ∀ b ∈ ns, kf b ≠ k := by
  by_cases h : ∃ b ∈ ns, kf b = k
  · obtain ⟨b, hb, e⟩ := h
    obtain ⟨l1, l2, h⟩ := List.append_of_mem hb
    exact .inl ⟨l1, b, l2, h, e⟩
  · exact .inr fun b hb e => h ⟨b, hb, e⟩

set_option maxHeartbeats 400000 in
theorem get_any (w : World) (l : Nat) (own : Nat → Prop) (cap : Int) (k : ByteArray) (ps : List (ByteArray × RV)) (h : Lru w l own cap ps) (hk : WfI k) :
    Calls Try.prog 22 #[.pointer (some ⟨l, 0, none⟩), .string k] w (Did w l own cap (got ps k) (GetV ps k)) := by
  obtain ⟨m, r, ns, G, h, rfl, ho⟩ := h
  rcases split_key (ns := ns) (kf := G.kf) (k := k) with ⟨l1, p, l2, rfl, hp⟩ | hno
  · have hkeys : ((l1.map (fun b => (G.kf b, G.vf b)) ++ (G.kf p, G.vf p) :: l2.map (fun b => (G.kf b, G.vf b))).map (·.1)).Nodup := by simpa [Function.comp_def] using h.keys
    obtain ⟨e1, e2⟩ := look_mid hkeys
    have e3 : (l1 ++ p :: l2).map (fun b => (G.kf b, G.vf b)) = l1.map (fun b => (G.kf b, G.vf b)) ++ (G.kf p, G.vf p) :: l2.map (fun b => (G.kf b, G.vf b)) := by simp
    rw [← e3] at e1 e2
    simp only [hp] at e1 e2
    have hg : got ((l1 ++ p :: l2).map (fun b => (G.kf b, G.vf b))) k = (p :: (l1 ++ l2)).map (fun b => (G.kf b, G.vf b)) := by
      unfold got; rw [e1, e2]; simp [hp]
    have hv : GetV ((l1 ++ p :: l2).map (fun b => (G.kf b, G.vf b))) k = .tuple #[.agg #[.slice (G.vf p).d.1 (G.vf p).d.2.1 (G.vf p).d.2.2, .string (G.vf p).p, .bool (G.vf p).b, .slice (G.vf p).vs.1 (G.vf p).vs.2.1 (G.vf p).vs.2.2, .slice (G.vf p).ts.1 (G.vf p).ts.2.1 (G.vf p).ts.2.2, .int .u64 (G.vf p).c], .bool true] := by unfold GetV; rw [e1]
    rw [hg, hv]
    obtain ⟨wb, kb, hK⟩ := valIn w #[.slice none 0 0, .string ⟨#[]⟩, .bool false, .slice none 0 0, .slice none 0 0, .int .u64 0]
    have H := Lib.hid (And.intro (h.still hK.2.2.2) (And.intro hp ho))
    have HK := Lib.hid hK
    clear hK
    clear h hp ho hkeys e1 e2 e3 hg hv
    go_enter Try.func22, Try.ntmps22
    go_wp2_with fail
    rw [HK.out.1, HK.out.2.1]
    refine (use_hit wb l m r p l1 l2 G cap k H.out.1 H.out.2.1).mono ?_
    rintro e w1 ⟨rfl, h1, hC⟩
    have hkb := HK.out.2.2.1.chg hC (H.out.1.kb_ne HK.out.2.2.1)
    have b0 : w1.cell? ⟨kb, 0, none⟩ = some (.slice none 0 0) := hkb.cell 0
    have zb0 : w1.frozen? ⟨kb, 0, none⟩ = false := hkb.frozen 0
    have b1 : w1.cell? ⟨kb, 1, none⟩ = some (.string ⟨#[]⟩) := hkb.cell 1
    have zb1 : w1.frozen? ⟨kb, 1, none⟩ = false := hkb.frozen 1
    have b2 : w1.cell? ⟨kb, 2, none⟩ = some (.bool false) := hkb.cell 2
    have zb2 : w1.frozen? ⟨kb, 2, none⟩ = false := hkb.frozen 2
    have b3 : w1.cell? ⟨kb, 3, none⟩ = some (.slice none 0 0) := hkb.cell 3
    have zb3 : w1.frozen? ⟨kb, 3, none⟩ = false := hkb.frozen 3
    have b4 : w1.cell? ⟨kb, 4, none⟩ = some (.slice none 0 0) := hkb.cell 4
    have zb4 : w1.frozen? ⟨kb, 4, none⟩ = false := hkb.frozen 4
    have b5 : w1.cell? ⟨kb, 5, none⟩ = some (.int .u64 0) := hkb.cell 5
    have zb5 : w1.frozen? ⟨kb, 5, none⟩ = false := hkb.frozen 5
    have c3 : w1.cell? ⟨p, 3, none⟩ = some (.slice (G.vf p).d.1 (G.vf p).d.2.1 (G.vf p).d.2.2) := (h1.nodes p (by simp)).cell 3
    have c4 : w1.cell? ⟨p, 4, none⟩ = some (.string (G.vf p).p) := (h1.nodes p (by simp)).cell 4
    have c5 : w1.cell? ⟨p, 5, none⟩ = some (.bool (G.vf p).b) := (h1.nodes p (by simp)).cell 5
    have c6 : w1.cell? ⟨p, 6, none⟩ = some (.slice (G.vf p).vs.1 (G.vf p).vs.2.1 (G.vf p).vs.2.2) := (h1.nodes p (by simp)).cell 6
    have c7 : w1.cell? ⟨p, 7, none⟩ = some (.slice (G.vf p).ts.1 (G.vf p).ts.2.1 (G.vf p).ts.2.2) := (h1.nodes p (by simp)).cell 7
    have c8 : w1.cell? ⟨p, 8, none⟩ = some (.int .u64 (G.vf p).c) := (h1.nodes p (by simp)).cell 8
    have hfin : Did w l own cap ((p :: (l1 ++ l2)).map (fun b => (G.kf b, G.vf b))) (.tuple #[.agg #[.slice (G.vf p).d.1 (G.vf p).d.2.1 (G.vf p).d.2.2, .string (G.vf p).p, .bool (G.vf p).b, .slice (G.vf p).vs.1 (G.vf p).vs.2.1 (G.vf p).vs.2.2, .slice (G.vf p).ts.1 (G.vf p).ts.2.1 (G.vf p).ts.2.2, .int .u64 (G.vf p).c], .bool true]) (.returned (.tuple #[.agg #[.slice (G.vf p).d.1 (G.vf p).d.2.1 (G.vf p).d.2.2, .string (G.vf p).p, .bool (G.vf p).b, .slice (G.vf p).vs.1 (G.vf p).vs.2.1 (G.vf p).vs.2.2, .slice (G.vf p).ts.1 (G.vf p).ts.2.1 (G.vf p).ts.2.2, .int .u64 (G.vf p).c], .bool true])) w1 := by
      refine ⟨rfl, Chg.from_none HK.out.2.2.2 <| hC.mono fun b _ hb => (H.out.2.2 b).2 (.inr (.inr hb)), own, ⟨m, r, _, _, h1, rfl, fun b => ?_⟩, fun b hb => .inl hb⟩
      rw [H.out.2.2 b]
      simp only [List.mem_cons, List.mem_append]
      constructor <;> (rintro (h | h | h | h | h | h) <;> simp [h])
    have hfin2 := hfin.beside (w3 := ((((((w1.setCell ⟨kb, 0, none⟩ (.slice (G.vf p).d.1 (G.vf p).d.2.1 (G.vf p).d.2.2)).setCell ⟨kb, 1, none⟩ (.string (G.vf p).p)).setCell ⟨kb, 2, none⟩ (.bool (G.vf p).b)).setCell ⟨kb, 3, none⟩ (.slice (G.vf p).vs.1 (G.vf p).vs.2.1 (G.vf p).vs.2.2)).setCell ⟨kb, 4, none⟩ (.slice (G.vf p).ts.1 (G.vf p).ts.2.1 (G.vf p).ts.2.2)).setCell ⟨kb, 5, none⟩ (.int .u64 (G.vf p).c))) hkb (Nat.le_of_eq HK.out.2.1) (((((((Chg.refl w1 (fun b => b = kb)).set_ (p := ⟨kb, 0, none⟩) (.inl rfl) _).set_ (p := ⟨kb, 1, none⟩) (.inl rfl) _).set_ (p := ⟨kb, 2, none⟩) (.inl rfl) _).set_ (p := ⟨kb, 3, none⟩) (.inl rfl) _).set_ (p := ⟨kb, 4, none⟩) (.inl rfl) _).set_ (p := ⟨kb, 5, none⟩) (.inl rfl) _)
    have Hfin := Lib.hid hfin2
    clear hfin hfin2 h1 hC
    have hbb : Blk ((((((w1.setCell ⟨kb, 0, none⟩ (.slice (G.vf p).d.1 (G.vf p).d.2.1 (G.vf p).d.2.2)).setCell ⟨kb, 1, none⟩ (.string (G.vf p).p)).setCell ⟨kb, 2, none⟩ (.bool (G.vf p).b)).setCell ⟨kb, 3, none⟩ (.slice (G.vf p).vs.1 (G.vf p).vs.2.1 (G.vf p).vs.2.2)).setCell ⟨kb, 4, none⟩ (.slice (G.vf p).ts.1 (G.vf p).ts.2.1 (G.vf p).ts.2.2)).setCell ⟨kb, 5, none⟩ (.int .u64 (G.vf p).c)) kb 38 #[.slice (G.vf p).d.1 (G.vf p).d.2.1 (G.vf p).d.2.2, .string (G.vf p).p, .bool (G.vf p).b, .slice (G.vf p).vs.1 (G.vf p).vs.2.1 (G.vf p).vs.2.2, .slice (G.vf p).ts.1 (G.vf p).ts.2.1 (G.vf p).ts.2.2, .int .u64 (G.vf p).c] := ((((((hkb.set_ 0 (.slice (G.vf p).d.1 (G.vf p).d.2.1 (G.vf p).d.2.2)).set_ 1 (.string (G.vf p).p)).set_ 2 (.bool (G.vf p).b)).set_ 3 (.slice (G.vf p).vs.1 (G.vf p).vs.2.1 (G.vf p).vs.2.2)).set_ 4 (.slice (G.vf p).ts.1 (G.vf p).ts.2.1 (G.vf p).ts.2.2)).set_ 5 (.int .u64 (G.vf p).c))
    have HB := Lib.hid hbb
    clear hbb
    clear hkb
    go_wp2
    (try simp only [Exit.inBlock, Exit.then])
    refine bodyPost_ret (v := .tuple #[.agg #[.slice (G.vf p).d.1 (G.vf p).d.2.1 (G.vf p).d.2.2, .string (G.vf p).p, .bool (G.vf p).b, .slice (G.vf p).vs.1 (G.vf p).vs.2.1 (G.vf p).vs.2.2, .slice (G.vf p).ts.1 (G.vf p).ts.2.1 (G.vf p).ts.2.2, .int .u64 (G.vf p).c], .bool true]) ?_ rfl Hfin.out
    rw [results_cell_tmp rfl]
    have hl := run_loadVar_row (P := Try.prog) _ kb 38 38 _ _ _ HB.out Try.underlying38 rfl (by kernel_rfl)
    simp [asAddr, Result.andThen, hl]
  · obtain ⟨e1, e2⟩ := look_none (ps := ns.map (fun b => (G.kf b, G.vf b))) (k := k) (by simpa using hno)
    have hg : got (ns.map (fun b => (G.kf b, G.vf b))) k = ns.map (fun b => (G.kf b, G.vf b)) := by unfold got; rw [e1]
    have hv : GetV (ns.map (fun b => (G.kf b, G.vf b))) k = .tuple #[.agg #[.slice none 0 0, .string ⟨#[]⟩, .bool false, .slice none 0 0, .slice none 0 0, .int .u64 0], .bool false] := by unfold GetV; rw [e1]
    rw [hg, hv]
    have hfin : Did w l own cap (ns.map (fun b => (G.kf b, G.vf b))) (.tuple #[.agg #[.slice none 0 0, .string ⟨#[]⟩, .bool false, .slice none 0 0, .slice none 0 0, .int .u64 0], .bool false]) (.returned (.tuple #[.agg #[.slice none 0 0, .string ⟨#[]⟩, .bool false, .slice none 0 0, .slice none 0 0, .int .u64 0], .bool false])) w :=
      ⟨rfl, Chg.refl _ _, own, ⟨m, r, ns, G, h, rfl, ho⟩, fun b hb => .inl hb⟩
    obtain ⟨wb, kb, hK⟩ := valIn w #[.slice none 0 0, .string ⟨#[]⟩, .bool false, .slice none 0 0, .slice none 0 0, .int .u64 0]
    have HK := Lib.hid hK
    have hfin1 : Did w l own cap (ns.map (fun b => (G.kf b, G.vf b))) (.tuple #[.agg #[.slice none 0 0, .string ⟨#[]⟩, .bool false, .slice none 0 0, .slice none 0 0, .int .u64 0], .bool false]) (.returned (.tuple #[.agg #[.slice none 0 0, .string ⟨#[]⟩, .bool false, .slice none 0 0, .slice none 0 0, .int .u64 0], .bool false])) wb :=
      ⟨rfl, Chg.of_none hK.2.2.2, own, ⟨m, r, ns, G, h.still hK.2.2.2, rfl, ho⟩, fun b hb => .inl hb⟩
    have hfin2 := hfin1.beside (w3 := ((((((wb.setCell ⟨kb, 0, none⟩ (.slice none 0 0)).setCell ⟨kb, 1, none⟩ (.string ⟨#[]⟩)).setCell ⟨kb, 2, none⟩ (.bool false)).setCell ⟨kb, 3, none⟩ (.slice none 0 0)).setCell ⟨kb, 4, none⟩ (.slice none 0 0)).setCell ⟨kb, 5, none⟩ (.int .u64 0))) hK.2.2.1 (Nat.le_of_eq hK.2.1) (((((((Chg.refl wb (fun b => b = kb)).set_ (p := ⟨kb, 0, none⟩) (.inl rfl) _).set_ (p := ⟨kb, 1, none⟩) (.inl rfl) _).set_ (p := ⟨kb, 2, none⟩) (.inl rfl) _).set_ (p := ⟨kb, 3, none⟩) (.inl rfl) _).set_ (p := ⟨kb, 4, none⟩) (.inl rfl) _).set_ (p := ⟨kb, 5, none⟩) (.inl rfl) _)
    have Hfin := Lib.hid hfin2
    have hbb : Blk ((((((wb.setCell ⟨kb, 0, none⟩ (.slice none 0 0)).setCell ⟨kb, 1, none⟩ (.string ⟨#[]⟩)).setCell ⟨kb, 2, none⟩ (.bool false)).setCell ⟨kb, 3, none⟩ (.slice none 0 0)).setCell ⟨kb, 4, none⟩ (.slice none 0 0)).setCell ⟨kb, 5, none⟩ (.int .u64 0)) kb 38 #[.slice none 0 0, .string ⟨#[]⟩, .bool false, .slice none 0 0, .slice none 0 0, .int .u64 0] := ((((((hK.2.2.1.set_ 0 (.slice none 0 0)).set_ 1 (.string ⟨#[]⟩)).set_ 2 (.bool false)).set_ 3 (.slice none 0 0)).set_ 4 (.slice none 0 0)).set_ 5 (.int .u64 0))
    have HB := Lib.hid hbb
    clear hbb
    have b0 : wb.cell? ⟨kb, 0, none⟩ = some (.slice none 0 0) := hK.2.2.1.cell 0
    have zb0 : wb.frozen? ⟨kb, 0, none⟩ = false := hK.2.2.1.frozen 0
    have b1 : wb.cell? ⟨kb, 1, none⟩ = some (.string ⟨#[]⟩) := hK.2.2.1.cell 1
    have zb1 : wb.frozen? ⟨kb, 1, none⟩ = false := hK.2.2.1.frozen 1
    have b2 : wb.cell? ⟨kb, 2, none⟩ = some (.bool false) := hK.2.2.1.cell 2
    have zb2 : wb.frozen? ⟨kb, 2, none⟩ = false := hK.2.2.1.frozen 2
    have b3 : wb.cell? ⟨kb, 3, none⟩ = some (.slice none 0 0) := hK.2.2.1.cell 3
    have zb3 : wb.frozen? ⟨kb, 3, none⟩ = false := hK.2.2.1.frozen 3
    have b4 : wb.cell? ⟨kb, 4, none⟩ = some (.slice none 0 0) := hK.2.2.1.cell 4
    have zb4 : wb.frozen? ⟨kb, 4, none⟩ = false := hK.2.2.1.frozen 4
    have b5 : wb.cell? ⟨kb, 5, none⟩ = some (.int .u64 0) := hK.2.2.1.cell 5
    have zb5 : wb.frozen? ⟨kb, 5, none⟩ = false := hK.2.2.1.frozen 5
    have H := Lib.hid (And.intro (h.still hK.2.2.2) (And.intro hno hk))
    clear hK hfin1 hfin2
    clear h ho hno hfin e1 e2 hg hv hk
    go_enter Try.func22, Try.ntmps22
    go_wp2_with fail
    rw [HK.out.1, HK.out.2.1]
    refine (use_miss wb l m r ns G cap k H.out.1 H.out.2.1 H.out.2.2).mono ?_
    rintro e w1 ⟨rfl, rfl⟩
    go_wp2
    (try simp only [Exit.inBlock, Exit.then])
    refine bodyPost_ret (v := .tuple #[.agg #[.slice none 0 0, .string ⟨#[]⟩, .bool false, .slice none 0 0, .slice none 0 0, .int .u64 0], .bool false]) ?_ rfl Hfin.out
    rw [results_cell_tmp rfl]
    have hl := run_loadVar_row (P := Try.prog) _ kb 38 38 _ _ _ HB.out Try.underlying38 rfl (by kernel_rfl)
    simp [asAddr, Result.andThen, hl]

theorem len_own {w : World} {l : Nat} {own : Nat → Prop} {cap : Int} {ps : List (ByteArray × RV)} (h : Lru w l own cap ps) : ∃ m r, Blk w l 77 #[.int .i64 cap, .map (some m), .pointer (some ⟨r, 0, none⟩)] ∧
    ∀ ty, (Builtin.len_ #[70] ty #[.map (some m)]).run Try.prog w = .ok (.int .i64 (ps.length : Nat)) w := by
  obtain ⟨m, r, ns, G, h, rfl, ho⟩ := h
  obtain ⟨D, hD⟩ := h.map
  refine ⟨m, r, h.head, fun ty => ?_⟩
  have := hD.own.len Try.underlying70 ty
  rw [hD.size] at this
  simpa using this
set_option maxHeartbeats 400000 in
theorem len_any (w : World) (l : Nat) (own : Nat → Prop) (cap : Int) (ps : List (ByteArray × RV)) (h : Lru w l own cap ps) :
    Calls Try.prog 24 #[.pointer (some ⟨l, 0, none⟩)] w fun e w2 => e = .returned (.int .i64 (ps.length : Nat)) ∧ w = w2 := by
  obtain ⟨m, r, hb, hrun⟩ := len_own h
  have h1 : w.cell? ⟨l, 1, none⟩ = some (.map (some m)) := hb.cell 1
  generalize ps.length = n at *
  clear hb h
  go_enter Try.func24, Try.ntmps24
  go_wp2
  go_ret
  exact ⟨rfl, rfl⟩



/-! from XPut -/




theorem MapOf.drop {w : World} {m p : Nat} {ns : List Nat} {kf : Nat → ByteArray} {D : DataW Unit} (h : MapOf w m (ns ++ [p]) kf D) (hk : ((ns ++ [p]).map kf).Nodup) (hw : WfI (kf p)) (hwf : ∀ b ∈ ns, WfI (kf b)) :
    ∃ w', (∀ ty, (Builtin.delete_ #[70, 9] ty #[.map (some m), .string (kf p)]).run Try.prog w = .ok (.tuple #[]) w') ∧ (∃ D', MapOf w' m ns kf D') ∧ w.grownBy w' (some m) := by
  have hne : ∀ b ∈ ns, kf b ≠ kf p := by
    intro b hb e
    rw [List.map_append, List.nodup_append] at hk
    exact hk.2.2 _ (List.mem_map_of_mem hb) (kf p) (by simp) e
  obtain ⟨w', hrun, hown, hturn⟩ := h.own.drop intKeys Try.underlying70 (kl_of hw) 0
  refine ⟨w', fun ty => ?_, ⟨D.del (kl (kf p)), ?_⟩, hturn.grown⟩
  · rw [← hrun]; rfl
  · have hsz : Maps.size (D.del (kl (kf p))) = ns.length := by
      have := Maps.size_del (k := kl (kf p)) (h.own.tidy intKeys)
      rw [h.has p (by simp), if_pos rfl, h.size] at this
      simp at this
      exact this
    refine ⟨own_map_tight hown (by omega), fun k hk hh => ?_, fun b hb => ?_, fun b hb z => ?_, hsz⟩
    · by_cases e : k = kf p
      · rw [e, Maps.has_del_same] at hh; cases hh
      · rw [Maps.has_del_other (kl_ne hk hw e)] at hh
        obtain ⟨b, hb, eb⟩ := h.all k hk hh
        refine ⟨b, ?_, eb⟩
        simp at hb
        rcases hb with hb | rfl
        · exact hb
        · exact absurd eb.symm e
    · rw [Maps.has_del_other (kl_ne (hwf b hb) hw (hne b hb))]; exact h.has b (by simp [hb])
    · rw [Maps.atKey_del_other (kl_ne (hwf b hb) hw (hne b hb))]; exact h.there b (by simp [hb]) z

theorem MapOf.add {w : World} {m p : Nat} {ns : List Nat} {kf : Nat → ByteArray} {D : DataW Unit} (h : MapOf w m ns kf D) {k : ByteArray} (hk : ∀ b ∈ ns, kf b ≠ k) (hw : WfI k) (hwf : ∀ b ∈ ns, WfI (kf b)) (hn : ns.length < maxLen) (hp : p ∉ ns) :
    ∃ w', (Instr.mapUpdate 70 (.map (some m)) (.string k) (.pointer (some ⟨p, 0, none⟩))).run Try.prog w = .ok () w' ∧ (∃ D', MapOf w' m (p :: ns) (upd kf p k) D') ∧ w.grownBy w' (some m) := by
  obtain ⟨w', hrun, hown, hturn⟩ := h.own.store intKeys Try.underlying70 hn (kl_of hw) (ptrElem_mk p)
  have hno : Maps.has D (kl k) = false := by
    cases hh : Maps.has D (kl k) with
    | false => rfl
    | true =>
      obtain ⟨b, hb, e⟩ := h.all k hw hh
      exact absurd e (hk b hb)
  have hu : ∀ b ∈ ns, upd kf p k b = kf b := fun b hb => upd_ne _ _ fun e => hp (e ▸ hb)
  refine ⟨w', hrun, ⟨D.put (kl k) (.lit (.int .i64 (p : Int))), ?_⟩, hturn.grown⟩
  have hsz : Maps.size (D.put (kl k) (.lit (.int .i64 (p : Int)))) = (p :: ns).length := by
    rw [Maps.size_put (h.own.tidy intKeys), hno]
    simp [h.size]
  refine ⟨own_map_tight hown (by omega), fun k' hk' hh => ?_, fun b hb => ?_, fun b hb z => ?_, hsz⟩
  · by_cases e : k' = k
    · exact ⟨p, by simp, by rw [upd_same]; exact e.symm⟩
    · rw [Maps.has_put_other (kl_ne hk' hw e)] at hh
      obtain ⟨b, hb, eb⟩ := h.all k' hk' hh
      exact ⟨b, by simp [hb], by rw [hu b hb]; exact eb⟩
  · rcases List.mem_cons.1 hb with rfl | hb
    · rw [upd_same]; exact Maps.has_put_same h.own.isMap (kl_key k) _
    · rw [hu b hb, Maps.has_put_other (kl_ne (hwf b hb) hw (hk b hb))]; exact h.has b hb
  · rcases List.mem_cons.1 hb with rfl | hb
    · rw [upd_same]; exact Maps.atKey_put_same h.own.isMap (kl_key k) _ _
    · rw [hu b hb, Maps.atKey_put_other (kl_ne (hwf b hb) hw (hk b hb))]; exact h.there b hb z

def putG (G : Gh) (p : Nat) (k : ByteArray) (v : RV) : Gh := { G with kf := upd G.kf p k, vf := upd G.vf p v }
theorem Nodes.put {w : World} {G : Gh} {S : Nat → Prop} (h : Nodes w G S) {p : Nat} (hp : ¬ S p) (k : ByteArray) (v : RV) : Nodes w (putG G p k v) S := by
  intro b hb
  have hbp : b ≠ p := fun e => hp (e ▸ hb)
  have := h b hb
  simpa [putG, upd, hbp] using this

theorem LruAt.drew {w : World} {l m r : Nat} {ns : List Nat} {G : Gh} {cap : Int} (h : LruAt w l m r ns G cap) : LruAt w.drew l m r ns G cap :=
  ⟨h.head, h.nodes, h.nodup, h.ring, h.keys, h.wf, h.map.elim fun D hD => ⟨D, hD.chg (S := fun _ => False) ((Chg.refl w _).drew) id⟩⟩

/-- a new node has come first -/
theorem LruAt.added {w w2 w3 : World} {l m r p : Nat} {ns : List Nat} {G : Gh} {cap : Int} {k : ByteArray} {v : RV} (h : LruAt w l m r ns G cap) (hp : p ∉ r :: ns) (hk : ∀ b ∈ ns, G.kf b ≠ k) (hw : WfI k)
    (hM : ∃ D', MapOf w2 m (p :: ns) (upd G.kf p k) D') (hh : Blk w2 l 77 #[.int .i64 cap, .map (some m), .pointer (some ⟨r, 0, none⟩)])
    (hN : Nodes w3 (FirstG (putG G p k v) r p) (fun b => b ∈ r :: ns ∨ b = p)) (hC : Chg w2 w3 (fun b => b ∈ r :: ns ∨ b = p)) (hlp : l ≠ p) (hmp : m ≠ p) (hmn : m ∉ r :: ns) : LruAt w3 l m r (p :: ns) (FirstG (putG G p k v) r p) cap := by
  have hnd : (r :: p :: ns).Nodup := by
    have := h.nodup
    simp only [List.mem_cons, not_or, List.nodup_cons] at *
    exact ⟨⟨fun e => hp.1 e.symm, this.1⟩, hp.2, this.2⟩
  obtain ⟨hr, hf⟩ := ring_first h.ring hnd
  have hkf : ∀ b ∈ ns, upd G.kf p k b = G.kf b := fun b hb => upd_ne _ _ fun e => hp (by simp [← e, hb])
  have hmap : ns.map (upd G.kf p k) = ns.map G.kf := List.map_congr_left hkf
  obtain ⟨D', hD'⟩ := hM
  refine ⟨hh.chg hC ?_, hN.mono fun b hb => ?_, hnd, hr, ?_, fun b hb => ?_, D', hD'.chg hC ?_⟩
  · rintro (hm | hm)
    · exact h.head.ne_ (h.nodes l hm) (by decide) rfl
    · exact hlp hm
  · simp only [List.mem_cons] at hb ⊢
    rcases hb with hb | hb | hb <;> simp [hb]
  · show ((p :: ns).map (upd G.kf p k)).Nodup
    rw [List.map_cons, hmap, upd_same, List.nodup_cons]
    refine ⟨fun hm => ?_, h.keys⟩
    obtain ⟨b, hb, e⟩ := List.mem_map.1 hm
    exact hk b hb e
  · show WfI (upd G.kf p k b)
    rcases List.mem_cons.1 hb with rfl | hb
    · rw [upd_same]; exact hw
    · rw [hkf b hb]; exact h.wf b hb
  · rintro (hm | hm)
    · exact hmn hm
    · exact hmp hm

/-- the last node has gone -/
def LastG (G : Gh) (p : Nat) : Gh := { G with nx := upd G.nx (G.pv p) (G.nx p), pv := upd G.pv (G.nx p) (G.pv p) }
theorem LruAt.last {w w2 : World} {l m r p : Nat} {ns : List Nat} {G : Gh} {cap : Int} (h : LruAt w l m r (ns ++ [p]) G cap) (hM : ∃ D', MapOf w2 m ns G.kf D')
    (hN : Nodes w2 (LastG G p) (fun b => b ∈ r :: (ns ++ [p]))) (hh : Blk w2 l 77 #[.int .i64 cap, .map (some m), .pointer (some ⟨r, 0, none⟩)]) : LruAt w2 l m r ns (LastG G p) cap := by
  obtain ⟨hr, _, _⟩ := ring_cut (l2 := []) h.ring h.nodup
  have hnd := h.nodup
  have hk := h.keys
  rw [List.append_nil] at hr
  refine ⟨hh, hN.mono fun b hb => ?_, ?_, hr, ?_, fun b hb => h.wf b (by simp [hb]), hM⟩
  · simp only [List.mem_cons, List.mem_append] at hb ⊢
    rcases hb with hb | hb <;> simp [hb]
  · rw [← List.cons_append, List.nodup_append] at hnd
    exact hnd.1
  · rw [List.map_append, List.nodup_append] at hk
    exact hk.1
theorem ring_last {nx pv : Nat → Nat} {r p : Nat} {ns : List Nat} (h : Linked nx pv (r :: (ns ++ [p]) ++ [r])) : pv r = p := by
  have e : r :: (ns ++ [p]) ++ [r] = (r :: ns) ++ p :: [r] := by simp
  rw [e, linked_split] at h
  exact h.2.2.1

/-- 'm[k] = v' whose run is known -/
theorem wpList_mapUpdate_run {P : Program} {w w' : World} {ops : Array Oper} {rest : List Oper} {o : Oper} {a : Act} {Q : Exit → Act → World → Prop} (hg : o.guard = none) (m x v : Operand) (t : TypeId) (hop : o.op = Op.mapUpdate t m x v)
    {mv key val : Value} (hm : a.eval m = mv) (hx : a.eval x = key) (hv : a.eval v = val) (hrun : (Instr.mapUpdate t mv key val).run P w = .ok () w')
    (hK : wpList P ops Q rest (a.put o.dst undef) w') : wpList P ops Q (o :: rest) a w := by
  refine wpList_plain hg fun K' hK' => ?_
  unfold Oper.wp
  simp [execOp, hop, hm, hx, hv, hrun, Result.andThen]
  exact hK' _ _ hK

/-- what a put does -/
def putted (cap : Int) (ps : List (ByteArray × RV)) (k : ByteArray) (v : RV) : List (ByteArray × RV) :=
  match look ps k with
  | some _ => (k, v) :: less ps k
  | none => if cap = 0 then ps else (k, v) :: (if (ps.length : Int) = cap then ps.dropLast else ps)

theorem pairs_put {ns : List Nat} {G : Gh} {p : Nat} {k : ByteArray} {v : RV} (hp : p ∉ ns) (r : Nat) : (p :: ns).map (fun b => ((FirstG (putG G p k v) r p).kf b, (FirstG (putG G p k v) r p).vf b)) = (k, v) :: ns.map (fun b => (G.kf b, G.vf b)) := by
  simp only [List.map_cons, FirstG, putG, upd_same]
  congr 1
  refine List.map_congr_left fun b hb => ?_
  have : b ≠ p := fun e => hp (e ▸ hb)
  rw [upd_ne _ _ this, upd_ne _ _ this]

set_option maxHeartbeats 400000 in
theorem put_hit (w : World) (l m r p : Nat) (l1 l2 : List Nat) (G : Gh) (own : Nat → Prop) (cap : Int) (k : ByteArray) (v : RV) (h : LruAt w l m r (l1 ++ p :: l2) G cap) (hp : G.kf p = k) (ho : ∀ b, own b ↔ b = l ∨ b = m ∨ b ∈ r :: (l1 ++ p :: l2)) :
    Calls Try.prog 18 #[.pointer (some ⟨l, 0, none⟩), .string k, .agg #[.slice v.d.1 v.d.2.1 v.d.2.2, .string v.p, .bool v.b, .slice v.vs.1 v.vs.2.1 v.vs.2.2, .slice v.ts.1 v.ts.2.1 v.ts.2.2, .int .u64 v.c]] w (Did w l own cap ((k, v) :: (l1 ++ l2).map (fun b => (G.kf b, G.vf b))) (.tuple #[])) := by
  obtain ⟨wb, kb, hK⟩ := valIn w #[.slice v.d.1 v.d.2.1 v.d.2.2, .string v.p, .bool v.b, .slice v.vs.1 v.vs.2.1 v.vs.2.2, .slice v.ts.1 v.ts.2.1 v.ts.2.2, .int .u64 v.c]
  have H := Lib.hid (And.intro (h.still hK.2.2.2) (And.intro hp ho))
  have HK := Lib.hid hK
  clear h hp ho hK
  go_enter Try.func18, Try.ntmps18
  go_wp2_with fail
  rw [HK.out.1, HK.out.2.1]
  refine (use_hit wb l m r p l1 l2 G cap k H.out.1 H.out.2.1).mono ?_
  rintro e w1 ⟨rfl, h1, hC⟩
  have hkb := HK.out.2.2.1.chg hC (H.out.1.kb_ne HK.out.2.2.1)
  have b0 : w1.cell? ⟨kb, 0, none⟩ = some (.slice v.d.1 v.d.2.1 v.d.2.2) := hkb.cell 0
  have b1 : w1.cell? ⟨kb, 1, none⟩ = some (.string v.p) := hkb.cell 1
  have b2 : w1.cell? ⟨kb, 2, none⟩ = some (.bool v.b) := hkb.cell 2
  have b3 : w1.cell? ⟨kb, 3, none⟩ = some (.slice v.vs.1 v.vs.2.1 v.vs.2.2) := hkb.cell 3
  have b4 : w1.cell? ⟨kb, 4, none⟩ = some (.slice v.ts.1 v.ts.2.1 v.ts.2.2) := hkb.cell 4
  have b5 : w1.cell? ⟨kb, 5, none⟩ = some (.int .u64 v.c) := hkb.cell 5
  have c3 : w1.cell? ⟨p, 3, none⟩ = some (.slice (G.vf p).d.1 (G.vf p).d.2.1 (G.vf p).d.2.2) := (h1.nodes p (by simp)).cell 3
  have f3 : w1.frozen? ⟨p, 3, none⟩ = false := (h1.nodes p (by simp)).frozen 3
  have c4 : w1.cell? ⟨p, 4, none⟩ = some (.string (G.vf p).p) := (h1.nodes p (by simp)).cell 4
  have f4 : w1.frozen? ⟨p, 4, none⟩ = false := (h1.nodes p (by simp)).frozen 4
  have c5 : w1.cell? ⟨p, 5, none⟩ = some (.bool (G.vf p).b) := (h1.nodes p (by simp)).cell 5
  have f5 : w1.frozen? ⟨p, 5, none⟩ = false := (h1.nodes p (by simp)).frozen 5
  have c6 : w1.cell? ⟨p, 6, none⟩ = some (.slice (G.vf p).vs.1 (G.vf p).vs.2.1 (G.vf p).vs.2.2) := (h1.nodes p (by simp)).cell 6
  have f6 : w1.frozen? ⟨p, 6, none⟩ = false := (h1.nodes p (by simp)).frozen 6
  have c7 : w1.cell? ⟨p, 7, none⟩ = some (.slice (G.vf p).ts.1 (G.vf p).ts.2.1 (G.vf p).ts.2.2) := (h1.nodes p (by simp)).cell 7
  have f7 : w1.frozen? ⟨p, 7, none⟩ = false := (h1.nodes p (by simp)).frozen 7
  have c8 : w1.cell? ⟨p, 8, none⟩ = some (.int .u64 (G.vf p).c) := (h1.nodes p (by simp)).cell 8
  have f8 : w1.frozen? ⟨p, 8, none⟩ = false := (h1.nodes p (by simp)).frozen 8
  have hfin : Did w l own cap ((k, v) :: (l1 ++ l2).map (fun b => (G.kf b, G.vf b))) (.tuple #[]) (.returned (.tuple #[])) ((((((w1.setCell ⟨p, 3, none⟩ (.slice v.d.1 v.d.2.1 v.d.2.2)).setCell ⟨p, 4, none⟩ (.string v.p)).setCell ⟨p, 5, none⟩ (.bool v.b)).setCell ⟨p, 6, none⟩ (.slice v.vs.1 v.vs.2.1 v.vs.2.2)).setCell ⟨p, 7, none⟩ (.slice v.ts.1 v.ts.2.1 v.ts.2.2)).setCell ⟨p, 8, none⟩ (.int .u64 v.c)) := by
    have hS : Chg wb ((((((w1.setCell ⟨p, 3, none⟩ (.slice v.d.1 v.d.2.1 v.d.2.2)).setCell ⟨p, 4, none⟩ (.string v.p)).setCell ⟨p, 5, none⟩ (.bool v.b)).setCell ⟨p, 6, none⟩ (.slice v.vs.1 v.vs.2.1 v.vs.2.2)).setCell ⟨p, 7, none⟩ (.slice v.ts.1 v.ts.2.1 v.ts.2.2)).setCell ⟨p, 8, none⟩ (.int .u64 v.c)) own := ((((((hC.set_ (p := ⟨p, 3, none⟩) (.inl (by simp)) _).set_ (p := ⟨p, 4, none⟩) (.inl (by simp)) _).set_ (p := ⟨p, 5, none⟩) (.inl (by simp)) _).set_ (p := ⟨p, 6, none⟩) (.inl (by simp)) _).set_ (p := ⟨p, 7, none⟩) (.inl (by simp)) _).set_ (p := ⟨p, 8, none⟩) (.inl (by simp)) _).mono fun b _ hb => (H.out.2.2 b).2 (.inr (.inr hb))
    have hC1 : Chg w1 ((((((w1.setCell ⟨p, 3, none⟩ (.slice v.d.1 v.d.2.1 v.d.2.2)).setCell ⟨p, 4, none⟩ (.string v.p)).setCell ⟨p, 5, none⟩ (.bool v.b)).setCell ⟨p, 6, none⟩ (.slice v.vs.1 v.vs.2.1 v.vs.2.2)).setCell ⟨p, 7, none⟩ (.slice v.ts.1 v.ts.2.1 v.ts.2.2)).setCell ⟨p, 8, none⟩ (.int .u64 v.c)) (fun b => b = p) := ((((((Chg.refl w1 (fun b => b = p)).set_ (p := ⟨p, 3, none⟩) (.inl rfl) _).set_ (p := ⟨p, 4, none⟩) (.inl rfl) _).set_ (p := ⟨p, 5, none⟩) (.inl rfl) _).set_ (p := ⟨p, 6, none⟩) (.inl rfl) _).set_ (p := ⟨p, 7, none⟩) (.inl rfl) _).set_ (p := ⟨p, 8, none⟩) (.inl rfl) _
    have hpn : p ∉ l1 ++ l2 := by
      have := h1.nodup
      simp only [List.nodup_cons] at this
      exact this.2.1
    refine ⟨rfl, Chg.from_none HK.out.2.2.2 hS, own, ⟨m, r, p :: (l1 ++ l2), { TurnG G r p with vf := upd G.vf p v }, ?_, ?_, fun b => ?_⟩, fun b hb => .inl hb⟩
    · obtain ⟨D, hD⟩ := h1.map
      refine ⟨h1.head.chg hC1 ?_, ?_, h1.nodup, h1.ring, h1.keys, h1.wf, D, hD.chg hC1 ?_⟩
      · rintro e
        exact h1.head.ne_ (h1.nodes p (by simp)) (by decide) e
      · exact h1.nodes.setV p v
      · rintro e
        exact own_map_ne hD.own (h1.nodes p (by simp)) e
    · simp only [List.map_cons, upd_same]
      rw [show (TurnG G r p).kf p = k from H.out.2.1]
      congr 1
      refine List.map_congr_left fun b hb => ?_
      have : b ≠ p := fun e => hpn (e ▸ hb)
      rw [upd_ne _ _ this]
      rfl
    · rw [H.out.2.2 b]
      simp only [List.mem_cons, List.mem_append]
      constructor <;> (rintro (h | h | h | h | h | h) <;> simp [h])
  have Hfin := Lib.hid hfin
  clear hfin h1 hC hkb
  go_wp2
  go_end0
  exact Hfin.out

set_option maxHeartbeats 400000 in
theorem put_shut (w : World) (l : Nat) (m r : Nat) (ns : List Nat) (G : Gh) (k : ByteArray) (v : RV) (h : LruAt w l m r ns G 0) (hk : ∀ b ∈ ns, G.kf b ≠ k) (hw : WfI k) :
    Calls Try.prog 18 #[.pointer (some ⟨l, 0, none⟩), .string k, .agg #[.slice v.d.1 v.d.2.1 v.d.2.2, .string v.p, .bool v.b, .slice v.vs.1 v.vs.2.1 v.vs.2.2, .slice v.ts.1 v.ts.2.1 v.ts.2.2, .int .u64 v.c]] w fun e w2 => e = .returned (.tuple #[]) ∧ w.grownBy w2 none := by
  obtain ⟨wb, kb, hK⟩ := valIn w #[.slice v.d.1 v.d.2.1 v.d.2.2, .string v.p, .bool v.b, .slice v.vs.1 v.vs.2.1 v.vs.2.2, .slice v.ts.1 v.ts.2.1 v.ts.2.2, .int .u64 v.c]
  have HK := Lib.hid hK
  replace h := h.still hK.2.2.2
  clear hK
  have h0 : wb.cell? ⟨l, 0, none⟩ = some (.int .i64 0) := h.head.cell 0
  have H := Lib.hid (And.intro h (And.intro hk hw))
  clear h hk hw
  go_enter Try.func18, Try.ntmps18
  go_wp2_with fail
  rw [HK.out.1, HK.out.2.1]
  refine (use_miss wb l m r ns G 0 k H.out.1 H.out.2.1 H.out.2.2).mono ?_
  rintro e w1 ⟨rfl, rfl⟩
  go_wp2
  refine bodyPost_ret (results_none rfl _ _ _) rfl ?_
  exact ⟨rfl, HK.out.2.2.2⟩

/-- all that is to be known where a new node is made -/
theorem insert_facts (w : World) (l m r : Nat) (ns : List Nat) (G : Gh) (cap : Int) (k : ByteArray) (v : RV) (h : LruAt w l m r ns G cap) (hk : ∀ b ∈ ns, G.kf b ≠ k) (hw : WfI k) (hn : ns.length < 1000000) :
    ∃ w2, (Instr.mapUpdate 70 (.map (some m)) (.string k) (.pointer (some ⟨w.heap.size, 0, none⟩))).run Try.prog (w.alloc (.cells #[.pointer none, .pointer none, .string k, .slice v.d.1 v.d.2.1 v.d.2.2, .string v.p, .bool v.b, .slice v.vs.1 v.vs.2.1 v.vs.2.2, .slice v.ts.1 v.ts.2.1 v.ts.2.2, .int .u64 v.c] 75)) = .ok () w2 ∧
      Blk w2 l 77 #[.int .i64 cap, .map (some m), .pointer (some ⟨r, 0, none⟩)] ∧ Nodes w2 (putG G w.heap.size k v) (fun b => b ∈ r :: ns) ∧ Blk w2 w.heap.size 75 #[.pointer none, .pointer none, .string k, .slice v.d.1 v.d.2.1 v.d.2.2, .string v.p, .bool v.b, .slice v.vs.1 v.vs.2.1 v.vs.2.2, .slice v.ts.1 v.ts.2.1 v.ts.2.2, .int .u64 v.c] ∧
      (∃ D', MapOf w2 m (w.heap.size :: ns) (upd G.kf w.heap.size k) D') ∧ Chg w w2 (fun b => b = m) ∧ w.heap.size ∉ r :: ns ∧ l ≠ w.heap.size ∧ m ≠ w.heap.size ∧ m ∉ r :: ns := by
  obtain ⟨D, hD⟩ := h.map
  have hp : w.heap.size ∉ r :: ns := fun hm => by have := (h.nodes w.heap.size hm).lt; omega
  have hm : m ∉ r :: ns := fun hm => own_map_ne hD.own (h.nodes m hm) rfl
  have hC1 : Chg w (w.alloc (.cells #[.pointer none, .pointer none, .string k, .slice v.d.1 v.d.2.1 v.d.2.2, .string v.p, .bool v.b, .slice v.vs.1 v.vs.2.1 v.vs.2.2, .slice v.ts.1 v.ts.2.1 v.ts.2.2, .int .u64 v.c] 75)) (fun b => b = m) := (Chg.refl w _).alloc _
  have hD1 : MapOf (w.alloc (.cells #[.pointer none, .pointer none, .string k, .slice v.d.1 v.d.2.1 v.d.2.2, .string v.p, .bool v.b, .slice v.vs.1 v.vs.2.1 v.vs.2.2, .slice v.ts.1 v.ts.2.1 v.ts.2.2, .int .u64 v.c] 75)) m ns G.kf D := hD.chg (S := fun _ => False) ((Chg.refl w _).alloc _) id
  obtain ⟨w2, hrun, hM, hg⟩ := hD1.add (p := w.heap.size) hk hw h.wf (by unfold maxLen; omega) (fun e => hp (List.mem_cons_of_mem _ e))
  have hlm : l ≠ m := fun e => own_map_ne hD.own h.head e.symm
  refine ⟨w2, hrun, ?_, ?_, ?_, hM, hC1.trans (Chg.of_by (S := fun b => b = m) hg (by simp)) fun b hb => .inl hb, hp, ?_, ?_, hm⟩
  · exact (h.head.alloc _).grown hg (by simpa using hlm)
  · exact Nodes.put (fun b hb => ((h.nodes b hb).alloc _).grown hg (by simp; rintro rfl; exact hm hb)) hp k v
  · exact (Blk.new w _ _).grown hg (by simp; have := hD.own.lt; omega)
  · have := h.head.lt; omega
  · have := hD.own.lt; omega

set_option maxHeartbeats 1000000 in
set_option maxRecDepth 20000 in
theorem put_room (w : World) (l m r : Nat) (ns : List Nat) (G : Gh) (own : Nat → Prop) (cap : Int) (k : ByteArray) (v : RV) (h : LruAt w l m r ns G cap) (hk : ∀ b ∈ ns, G.kf b ≠ k) (hw : WfI k) (ho : ∀ b, own b ↔ b = l ∨ b = m ∨ b ∈ r :: ns)
    (hc0 : cap ≠ 0) (hcl : ((ns.length : Nat) : Int) ≠ cap) (hn : ns.length < 1000000) :
    Calls Try.prog 18 #[.pointer (some ⟨l, 0, none⟩), .string k, .agg #[.slice v.d.1 v.d.2.1 v.d.2.2, .string v.p, .bool v.b, .slice v.vs.1 v.vs.2.1 v.vs.2.2, .slice v.ts.1 v.ts.2.1 v.ts.2.2, .int .u64 v.c]] w (Did w l own cap ((k, v) :: ns.map (fun b => (G.kf b, G.vf b))) (.tuple #[])) := by
  obtain ⟨wb, kb, hK⟩ := valIn w #[.slice v.d.1 v.d.2.1 v.d.2.2, .string v.p, .bool v.b, .slice v.vs.1 v.vs.2.1 v.vs.2.2, .slice v.ts.1 v.ts.2.1 v.ts.2.2, .int .u64 v.c]
  have HK := Lib.hid hK
  replace h := h.still hK.2.2.2
  have b0 : wb.cell? ⟨kb, 0, none⟩ = some (.slice v.d.1 v.d.2.1 v.d.2.2) := hK.2.2.1.cell 0
  have b1 : wb.cell? ⟨kb, 1, none⟩ = some (.string v.p) := hK.2.2.1.cell 1
  have b2 : wb.cell? ⟨kb, 2, none⟩ = some (.bool v.b) := hK.2.2.1.cell 2
  have b3 : wb.cell? ⟨kb, 3, none⟩ = some (.slice v.vs.1 v.vs.2.1 v.vs.2.2) := hK.2.2.1.cell 3
  have b4 : wb.cell? ⟨kb, 4, none⟩ = some (.slice v.ts.1 v.ts.2.1 v.ts.2.2) := hK.2.2.1.cell 4
  have b5 : wb.cell? ⟨kb, 5, none⟩ = some (.int .u64 v.c) := hK.2.2.1.cell 5
  clear hK
  obtain ⟨w2, hrun, hh2, hN2, hp2, hM2, hC2, hpn, hlp, hmp, hmn⟩ := insert_facts wb.drew l m r ns G cap k v h.drew hk hw hn
  have h0 : wb.cell? ⟨l, 0, none⟩ = some (.int .i64 cap) := h.head.cell 0
  have h1 : wb.cell? ⟨l, 1, none⟩ = some (.map (some m)) := h.head.cell 1
  have hlen : ∀ ty, (Builtin.len_ #[70] ty #[.map (some m)]).run Try.prog wb.drew = .ok (.int .i64 (ns.length : Nat)) wb.drew := by
    intro ty
    obtain ⟨D, hD⟩ := h.drew.map
    have := hD.own.len Try.underlying70 ty
    rw [hD.size] at this
    exact this
  have H := Lib.hid (And.intro h (And.intro hk (And.intro hw (And.intro ho (And.intro hh2 (And.intro hN2 (And.intro hp2 (And.intro hM2 (And.intro hC2 (And.intro hpn (And.intro hlp (And.intro hmp hmn))))))))))))
  obtain ⟨q, hq⟩ : ∃ q, ns.length = q := ⟨_, rfl⟩
  rw [hq] at hlen hcl
  obtain ⟨wa, hwa⟩ : ∃ wa, (wb.alloc (.cells #[.pointer none, .pointer none, .string k, .slice v.d.1 v.d.2.1 v.d.2.2, .string v.p, .bool v.b, .slice v.vs.1 v.vs.2.1 v.vs.2.2, .slice v.ts.1 v.ts.2.1 v.ts.2.2, .int .u64 v.c] 75)).drew = wa := ⟨_, rfl⟩
  have hrun' : (Instr.mapUpdate 70 (.map (some m)) (.string k) (.pointer (some ⟨wb.heap.size, 0, none⟩))).run Try.prog wa = .ok () w2 := by
    rw [← hwa]; exact hrun
  have ha1 : wa.cell? ⟨l, 1, none⟩ = some (.map (some m)) := by rw [← hwa]; exact (h.head.alloc _).drew.cell 1
  have Hr := Lib.hid (And.intro hrun' (And.intro hcl (And.intro ha1 hwa)))
  have H1 := Lib.hid (And.intro h0 (And.intro h1 (And.intro hlen hc0)))
  clear h hk hw ho hh2 hN2 hp2 hM2 hC2 hpn hlp hmp hmn hn hq hrun hcl h0 h1 hlen hc0 hrun' ha1 hwa
  go_enter Try.func18, Try.ntmps18
  go_wp2_with fail
  rw [HK.out.1, HK.out.2.1]
  refine (use_miss wb l m r ns G cap k H.out.1 H.out.2.1 H.out.2.2.1).mono ?_
  rintro e w1 ⟨rfl, rfl⟩
  obtain ⟨h0, h1, hlen, hc0⟩ := H1.out
  clear H1
  go_wp2_with fail
  go_region
  obtain ⟨hrun0, hcl, ha1, hwa⟩ := Hr.out
  have hrun := Lib.hid hrun0
  clear hrun0
  go_wp2_with (at_mapUpdate; refine wpList_mapUpdate_run rfl _ _ _ _ rfl rfl rfl rfl hrun.out ?_)
  obtain ⟨h, hk, hw, ho, hh2, hN2, hp2, hM2, hC2, hpn, hlp, hmp, hmn⟩ := H.out
  clear h0 h1 hlen hc0 hrun hcl Hr H
  have hps : wb.drew.heap.size = wb.heap.size := rfl
  have HH := Lib.hid (And.intro h (And.intro hk (And.intro hw (And.intro ho (And.intro hM2 (And.intro hC2 (And.intro hpn (And.intro hlp (And.intro hmp (And.intro hmn hh2))))))))))
  have hr2 : LruAt wb l m r ns G cap := h
  have hnr : G.nx r = r ∨ G.nx r ∈ ns := by
    have hnd : (r :: wb.heap.size :: ns).Nodup := by
      have := h.nodup
      simp only [List.mem_cons, not_or, List.nodup_cons] at *
      exact ⟨⟨fun e => hpn.1 e.symm, this.1⟩, hpn.2, this.2⟩
    exact (ring_first h.ring hnd).2
  refine (first_any w2 (putG G wb.heap.size k v) (fun b => b ∈ r :: ns) l r wb.heap.size (G.nx r) cap m (.pointer none) (.pointer none) hh2 hN2 ?_ (by simp) rfl ?_ ?_ ?_).mono ?_
  · have := hp2
    simpa [putG, upd] using this
  · rcases hnr with e | e <;> simp [e]
  · exact fun e => hpn (by simp [← e])
  · intro e
    rcases hnr with e' | e'
    · exact hpn (by simp [← e, e'])
    · exact hpn (by simp [← e, e'])
  rintro e w3 ⟨rfl, hN3, hC3⟩
  have h3 := h.added (v := v) hpn hk hw hM2 hh2 hN3 hC3 hlp hmp hmn
  have hfin : Did wb l own cap ((k, v) :: ns.map (fun b => (G.kf b, G.vf b))) (.tuple #[]) (.returned (.tuple #[])) w3 := by
    refine ⟨rfl, ?_, fun b => own b ∨ b = wb.heap.size, ⟨m, r, wb.heap.size :: ns, _, h3, (pairs_put (fun e => hpn (List.mem_cons_of_mem _ e)) r).symm, fun b => ?_⟩, fun b hb => hb.elim .inl fun e => .inr (Nat.le_of_eq e.symm)⟩
    · have hC2' : Chg wb w2 own := (show Chg wb w2 (fun b => b = m) from ⟨hC2.os, hC2.tape, hC2.output, hC2.size, hC2.block⟩).mono fun b _ hb => (ho b).2 (.inr (.inl hb))
      refine hC2'.trans hC3 fun b hb => hb.elim (fun e => .inl ((ho b).2 (.inr (.inr e)))) fun e => .inr (Nat.le_of_eq e.symm)
    · show (own b ∨ b = wb.heap.size) ↔ _
      rw [ho b]
      simp only [List.mem_cons]
      constructor
      · rintro ((h | h | h | h) | h) <;> simp [h]
      · rintro (h | h | h | h | h) <;> simp [h]
  have Hfin := Lib.hid hfin
  clear hfin h hk hw ho hh2 hN2 hp2 hM2 hC2 hpn hlp hmp hmn hN3 hC3 h3 hnr hr2 hps
  go_wp2
  go_end0
  exact Did.from_none HK.out.2.2.2 Hfin.out

/-- all that is to be known behind the last node's cut -/
theorem drop_facts (w w1 : World) (l m r p : Nat) (ns : List Nat) (G : Gh) (cap : Int) (h : LruAt w l m r (ns ++ [p]) G cap) (hN : Nodes w1 (LastG G p) (fun b => b ∈ r :: (ns ++ [p]))) (hC : Chg w w1 (fun b => b ∈ r :: (ns ++ [p]))) :
    ∃ w2, (∀ ty, (Builtin.delete_ #[70, 9] ty #[.map (some m), .string (G.kf p)]).run Try.prog w1.drew = .ok (.tuple #[]) w2) ∧ LruAt w2 l m r ns (LastG G p) cap ∧ Chg w w2 (fun b => b = m ∨ b ∈ r :: (ns ++ [p])) ∧
      w1.cell? ⟨l, 1, none⟩ = some (.map (some m)) ∧ w1.cell? ⟨p, 2, none⟩ = some (.string (G.kf p)) := by
  obtain ⟨D, hD⟩ := h.map
  have hm : m ∉ r :: (ns ++ [p]) := fun hm => own_map_ne hD.own (h.nodes m hm) rfl
  have hln : l ∉ r :: (ns ++ [p]) := fun hm => h.head.ne_ (h.nodes l hm) (by decide) rfl
  have hlm : l ≠ m := fun e => own_map_ne hD.own h.head e.symm
  obtain ⟨w2, hrun, hM, hg⟩ := (hD.chg hC.drew hm).drop h.keys (h.wf p (by simp)) (fun b hb => h.wf b (by simp [hb]))
  refine ⟨w2, hrun, h.last hM (fun b hb => ((hN b hb).drew).grown hg (by simp; rintro rfl; exact hm hb)) (((h.head.chg hC hln).drew).grown hg (by simpa using hlm)), ?_, (h.head.chg hC hln).cell 1, (hN p (by simp)).cell 2⟩
  exact (hC.mono (T := fun b => b = m ∨ b ∈ r :: (ns ++ [p])) fun b _ hb => .inr hb).drew.trans (Chg.of_by (S := fun b => b = m) hg (by simp)) fun b hb => .inl (.inl hb)

set_option maxHeartbeats 1000000 in
set_option maxRecDepth 20000 in
theorem put_full (w : World) (l m r p : Nat) (ns : List Nat) (G : Gh) (own : Nat → Prop) (cap : Int) (k : ByteArray) (v : RV) (h : LruAt w l m r (ns ++ [p]) G cap) (hk : ∀ b ∈ ns ++ [p], G.kf b ≠ k) (hw : WfI k) (ho : ∀ b, own b ↔ b = l ∨ b = m ∨ b ∈ r :: (ns ++ [p]))
    (hc0 : cap ≠ 0) (hcl : (((ns ++ [p]).length : Nat) : Int) = cap) (hn : (ns ++ [p]).length < 1000000) :
    Calls Try.prog 18 #[.pointer (some ⟨l, 0, none⟩), .string k, .agg #[.slice v.d.1 v.d.2.1 v.d.2.2, .string v.p, .bool v.b, .slice v.vs.1 v.vs.2.1 v.vs.2.2, .slice v.ts.1 v.ts.2.1 v.ts.2.2, .int .u64 v.c]] w (Did w l own cap ((k, v) :: ns.map (fun b => (G.kf b, G.vf b))) (.tuple #[])) := by
  obtain ⟨wb, kb, hK⟩ := valIn w #[.slice v.d.1 v.d.2.1 v.d.2.2, .string v.p, .bool v.b, .slice v.vs.1 v.vs.2.1 v.vs.2.2, .slice v.ts.1 v.ts.2.1 v.ts.2.2, .int .u64 v.c]
  have HK := Lib.hid hK
  replace h := h.still hK.2.2.2
  clear hK
  have h0 : wb.cell? ⟨l, 0, none⟩ = some (.int .i64 cap) := h.head.cell 0
  have h1 : wb.cell? ⟨l, 1, none⟩ = some (.map (some m)) := h.head.cell 1
  have h2 : wb.cell? ⟨l, 2, none⟩ = some (.pointer (some ⟨r, 0, none⟩)) := h.head.cell 2
  have hr0 : wb.cell? ⟨r, 0, none⟩ = some (.pointer (some ⟨p, 0, none⟩)) := by
    have := (h.nodes r (by simp)).cell 0
    rw [ring_last h.ring] at this
    exact this
  have hlen : ∀ ty, (Builtin.len_ #[70] ty #[.map (some m)]).run Try.prog wb.drew = .ok (.int .i64 cap) wb.drew := by
    intro ty
    obtain ⟨D, hD⟩ := h.drew.map
    have := hD.own.len Try.underlying70 ty
    rw [hD.size, hcl] at this
    exact this
  have H := Lib.hid (And.intro h (And.intro hk (And.intro hw (And.intro ho hn))))
  have H1 := Lib.hid (And.intro h0 (And.intro h1 (And.intro h2 (And.intro hr0 (And.intro hlen hc0)))))
  clear h hk hw ho hn h0 h1 h2 hr0 hlen hc0 hcl
  go_enter Try.func18, Try.ntmps18
  go_wp2_with fail
  rw [HK.out.1, HK.out.2.1]
  refine (use_miss wb l m r (ns ++ [p]) G cap k H.out.1 H.out.2.1 H.out.2.2.1).mono ?_
  rintro e w1 ⟨rfl, rfl⟩
  obtain ⟨h0, h1, h2, hr0, hlen, hc0⟩ := H1.out
  clear H1
  go_wp2_with fail
  go_region
  go_wp2_with fail
  clear h0 h1 h2 hr0 hlen hc0
  obtain ⟨h, hk, hw, ho, hn⟩ := H.out
  have hnd := h.nodup
  obtain ⟨_, hpv, hnx⟩ := ring_cut (l2 := []) h.ring hnd
  have hnx' : G.nx p = r := by simpa using hnx
  have hrp : r ≠ p := by rintro rfl; simp at hnd
  have hpv2 : G.pv p ≠ p := by
    rcases hpv with e | e
    · rw [e]; exact hrp
    · intro e'
      rw [e', ] at e
      rw [← List.cons_append, List.nodup_append] at hnd
      exact hnd.2.2 p (by simp [e]) p (by simp) rfl
  refine (cut_any wb.drew G (fun b => b ∈ r :: (ns ++ [p])) p (G.pv p) (G.nx p) h.drew.nodes (by simp) rfl rfl ?_ ?_ hpv2 ?_).mono ?_
  · rcases hpv with e | e <;> simp [e]
  · simp [hnx']
  · rw [hnx']; exact hrp
  rintro e w1 ⟨rfl, hN1, hC1⟩
  obtain ⟨w2, hdel, h2, hC2, hl1, hp2⟩ := drop_facts wb.drew w1 l m r p ns G cap h.drew hN1 hC1
  have hkm : ¬ (kb = m ∨ kb ∈ r :: (ns ++ [p])) := fun e => e.elim (fun e => h.map.elim fun D hD => own_map_ne hD.own HK.out.2.2.1 e.symm) (h.kb_ne HK.out.2.2.1)
  have hkb2 : Blk w2 kb 38 #[.slice v.d.1 v.d.2.1 v.d.2.2, .string v.p, .bool v.b, .slice v.vs.1 v.vs.2.1 v.vs.2.2, .slice v.ts.1 v.ts.2.1 v.ts.2.2, .int .u64 v.c] := Blk.chg (w := wb.drew) HK.out.2.2.1 hC2 hkm
  have b0 : w2.cell? ⟨kb, 0, none⟩ = some (.slice v.d.1 v.d.2.1 v.d.2.2) := hkb2.cell 0
  have b1 : w2.cell? ⟨kb, 1, none⟩ = some (.string v.p) := hkb2.cell 1
  have b2 : w2.cell? ⟨kb, 2, none⟩ = some (.bool v.b) := hkb2.cell 2
  have b3 : w2.cell? ⟨kb, 3, none⟩ = some (.slice v.vs.1 v.vs.2.1 v.vs.2.2) := hkb2.cell 3
  have b4 : w2.cell? ⟨kb, 4, none⟩ = some (.slice v.ts.1 v.ts.2.1 v.ts.2.2) := hkb2.cell 4
  have b5 : w2.cell? ⟨kb, 5, none⟩ = some (.int .u64 v.c) := hkb2.cell 5
  clear hkm hkb2
  have hk2 : ∀ b ∈ ns, (LastG G p).kf b ≠ k := fun b hb => hk b (by simp [hb])
  have hn2 : ns.length < 1000000 := by simp at hn; omega
  obtain ⟨w4, hrun, hh4, hN4, hp4, hM4, hC4, hpn, hlp, hmp, hmn⟩ := insert_facts w2 l m r ns (LastG G p) cap k v h2 hk2 hw hn2
  obtain ⟨wa, hwa⟩ : ∃ wa, w2.alloc (.cells #[.pointer none, .pointer none, .string k, .slice v.d.1 v.d.2.1 v.d.2.2, .string v.p, .bool v.b, .slice v.vs.1 v.vs.2.1 v.vs.2.2, .slice v.ts.1 v.ts.2.1 v.ts.2.2, .int .u64 v.c] 75) = wa := ⟨_, rfl⟩
  rw [hwa] at hrun
  have ha1 : wa.cell? ⟨l, 1, none⟩ = some (.map (some m)) := by rw [← hwa]; exact (h2.head.alloc _).cell 1
  have Hrun := Lib.hid hrun
  have HH := Lib.hid (And.intro h2 (And.intro hk2 (And.intro hw (And.intro ho (And.intro hC2 (And.intro hh4 (And.intro hN4 (And.intro hp4 (And.intro hM4 (And.intro hC4 (And.intro hpn (And.intro hlp (And.intro hmp hmn)))))))))))))
  clear h hk hw ho hn hnd hpv hnx hnx' hrp hpv2 hN1 hC1 h2 hC2 hk2 hn2 hrun hh4 hN4 hp4 hM4 hC4 hpn hlp hmp hmn H
  have Ha := Lib.hid (And.intro hwa ha1)
  clear hwa ha1
  go_wp2_with fail
  go_region
  obtain ⟨hwa, ha1⟩ := Ha.out
  clear hdel hl1 hp2
  go_wp2_with (at_mapUpdate; refine wpList_mapUpdate_run rfl _ _ _ _ rfl rfl rfl rfl Hrun.out ?_)
  clear Hrun ha1 hwa Ha
  obtain ⟨h2, hk2, hw, ho, hC2, hh4, hN4, hp4, hM4, hC4, hpn, hlp, hmp, hmn⟩ := HH.out
  have hnr : (LastG G p).nx r = r ∨ (LastG G p).nx r ∈ ns := by
    have hnd : (r :: w2.heap.size :: ns).Nodup := by
      have := h2.nodup
      simp only [List.mem_cons, not_or, List.nodup_cons] at *
      exact ⟨⟨fun e => hpn.1 e.symm, this.1⟩, hpn.2, this.2⟩
    exact (ring_first h2.ring hnd).2
  refine (first_any w4 (putG (LastG G p) w2.heap.size k v) (fun b => b ∈ r :: ns) l r w2.heap.size ((LastG G p).nx r) cap m (.pointer none) (.pointer none) hh4 hN4 ?_ (by simp) rfl ?_ ?_ ?_).mono ?_
  · have := hp4
    simpa [putG, upd] using this
  · rcases hnr with e | e <;> simp [e]
  · exact fun e => hpn (by simp [← e])
  · intro e
    rcases hnr with e' | e'
    · exact hpn (by simp [← e, e'])
    · exact hpn (by simp [← e, e'])
  rintro e w5 ⟨rfl, hN5, hC5⟩
  have h5 := h2.added (v := v) hpn hk2 hw hM4 hh4 hN5 hC5 hlp hmp hmn
  have hsz : wb.heap.size ≤ w2.heap.size := hC2.size
  have hfin : Did wb l own cap ((k, v) :: ns.map (fun b => (G.kf b, G.vf b))) (.tuple #[]) (.returned (.tuple #[])) w5 := by
    refine ⟨rfl, ?_, fun b => (b = l ∨ b = m ∨ b ∈ r :: ns) ∨ b = w2.heap.size, ⟨m, r, w2.heap.size :: ns, _, h5, (pairs_put (fun e => hpn (List.mem_cons_of_mem _ e)) r).symm, fun b => ?_⟩, fun b hb => ?_⟩
    · have hC2' : Chg wb w2 own := (show Chg wb w2 (fun b => b = m ∨ b ∈ r :: (ns ++ [p])) from ⟨hC2.os, hC2.tape, hC2.output, hC2.size, hC2.block⟩).mono fun b _ hb => (ho b).2 (.inr hb)
      have hC4' : Chg wb w4 own := hC2'.trans hC4 fun b hb => .inl ((ho b).2 (.inr (.inl hb)))
      refine hC4'.trans hC5 fun b hb => hb.elim (fun e => .inl ((ho b).2 (.inr (.inr ?_)))) fun e => .inr (e ▸ hsz)
      simp only [List.mem_cons, List.mem_append] at e ⊢
      rcases e with e | e <;> simp [e]
    · simp only [List.mem_cons]
      constructor
      · rintro ((h | h | h | h) | h) <;> simp [h]
      · rintro (h | h | h | h | h) <;> simp [h]
    · rcases hb with hb | hb
      · refine .inl ((ho b).2 ?_)
        simp only [List.mem_cons, List.mem_append] at hb ⊢
        rcases hb with e | e | e | e <;> simp [e]
      · exact .inr (hb ▸ hsz)
  have Hfin := Lib.hid hfin
  clear hfin h2 hk2 hw ho hC2 hh4 hN4 hp4 hM4 hC4 hpn hlp hmp hmn hN5 hC5 h5 hnr hsz HH
  go_wp2
  go_end0
  exact Did.from_none HK.out.2.2.2 Hfin.out

theorem put_any (w : World) (l : Nat) (own : Nat → Prop) (cap : Int) (k : ByteArray) (v : RV) (ps : List (ByteArray × RV)) (h : Lru w l own cap ps) (hk : WfI k) (hn : ps.length < 1000000) :
    Calls Try.prog 18 #[.pointer (some ⟨l, 0, none⟩), .string k, .agg #[.slice v.d.1 v.d.2.1 v.d.2.2, .string v.p, .bool v.b, .slice v.vs.1 v.vs.2.1 v.vs.2.2, .slice v.ts.1 v.ts.2.1 v.ts.2.2, .int .u64 v.c]] w (Did w l own cap (putted cap ps k v) (.tuple #[])) := by
  obtain ⟨m, r, ns, G, h, rfl, ho⟩ := h
  rw [List.length_map] at hn
  rcases split_key (ns := ns) (kf := G.kf) (k := k) with ⟨l1, p, l2, rfl, hp⟩ | hno
  · have hkeys : ((l1.map (fun b => (G.kf b, G.vf b)) ++ (G.kf p, G.vf p) :: l2.map (fun b => (G.kf b, G.vf b))).map (·.1)).Nodup := by simpa [Function.comp_def] using h.keys
    obtain ⟨e1, e2⟩ := look_mid hkeys
    have e3 : (l1 ++ p :: l2).map (fun b => (G.kf b, G.vf b)) = l1.map (fun b => (G.kf b, G.vf b)) ++ (G.kf p, G.vf p) :: l2.map (fun b => (G.kf b, G.vf b)) := by simp
    rw [← e3] at e1 e2
    simp only [hp] at e1 e2
    have hg : putted cap ((l1 ++ p :: l2).map (fun b => (G.kf b, G.vf b))) k v = (k, v) :: (l1 ++ l2).map (fun b => (G.kf b, G.vf b)) := by
      unfold putted; rw [e1, e2]; simp
    rw [hg]
    exact put_hit w l m r p l1 l2 G own cap k v h hp ho
  · obtain ⟨e1, e2⟩ := look_none (ps := ns.map (fun b => (G.kf b, G.vf b))) (k := k) (by simpa using hno)
    by_cases hc : cap = 0
    · subst hc
      have hg : putted 0 (ns.map (fun b => (G.kf b, G.vf b))) k v = ns.map (fun b => (G.kf b, G.vf b)) := by unfold putted; rw [e1]; simp
      rw [hg]
      refine (put_shut w l m r ns G k v h hno hk).mono ?_
      rintro e w1 ⟨rfl, y1⟩
      exact ⟨rfl, Chg.of_none y1, own, ⟨m, r, ns, G, h.still y1, rfl, ho⟩, fun b hb => .inl hb⟩
    · by_cases hl : ((ns.length : Nat) : Int) = cap
      · rcases List.eq_nil_or_concat ns with rfl | ⟨ms, p, rfl⟩
        · simp at hl; exact absurd hl.symm hc
        · simp only [List.concat_eq_append] at h ho hn hno e1 e2 hl ⊢
          have hg : putted cap ((ms ++ [p]).map (fun b => (G.kf b, G.vf b))) k v = (k, v) :: ms.map (fun b => (G.kf b, G.vf b)) := by
            unfold putted; rw [e1]; simp only [if_neg hc, List.length_map, if_pos hl]; simp
          rw [hg]
          exact put_full w l m r p ms G own cap k v h hno hk ho hc hl hn
      · have hg : putted cap (ns.map (fun b => (G.kf b, G.vf b))) k v = (k, v) :: ns.map (fun b => (G.kf b, G.vf b)) := by
          unfold putted; rw [e1]; simp only [if_neg hc, List.length_map, if_neg hl]
        rw [hg]
        exact put_room w l m r ns G own cap k v h hno hk ho hc hl hn



/-! from XKeys -/


def NewQ (w : World) (cap : Int) (e : Ending) (w2 : World) : Prop :=
  ∃ l own, e = .returned (.pointer (some ⟨l, 0, none⟩)) ∧ Lru w2 l own cap [] ∧ w.grownBy w2 none ∧ ∀ b, own b → w.heap.size ≤ b

theorem new_facts (w : World) (cap : Int) : ∃ w1, (((w.alloc (.map #[] 0)).alloc (.cells #[.pointer none, .pointer none, .string ⟨#[]⟩, .slice none 0 0, .string ⟨#[]⟩, .bool false, .slice none 0 0, .slice none 0 0, .int .u64 0] 75)).alloc (.cells #[.int .i64 cap, .map (some w.heap.size), .pointer (some ⟨w.heap.size + 1, 0, none⟩)] 77)) = w1 ∧
    Blk w1 (w.heap.size + 2) 77 #[.int .i64 cap, .map (some w.heap.size), .pointer (some ⟨w.heap.size + 1, 0, none⟩)] ∧ Blk w1 (w.heap.size + 1) 75 #[.pointer none, .pointer none, .string ⟨#[]⟩, .slice none 0 0, .string ⟨#[]⟩, .bool false, .slice none 0 0, .slice none 0 0, .int .u64 0] ∧
    NewQ w cap (.returned (.pointer (some ⟨w.heap.size + 2, 0, none⟩))) (((w1.setCell ⟨w.heap.size + 1, 0, none⟩ (.pointer (some ⟨w.heap.size + 1, 0, none⟩))).setCell ⟨w.heap.size + 1, 1, none⟩ (.pointer (some ⟨w.heap.size + 1, 0, none⟩))).drew) := by
  obtain ⟨wa, hwa⟩ : ∃ wa, wa = w.alloc (.map #[] 0) := ⟨_, rfl⟩
  have sa : wa.heap.size = w.heap.size + 1 := by rw [hwa]; simp
  have ma : wa.ownsMap (H := Unit) Try.prog 9 ptrElem w.heap.size 0 (.map []) := by rw [hwa]; exact World.ownsMap_made _ _ _ _
  have ga : w.grownBy wa none := by rw [hwa]; exact by_alloc (by_refl _ _) _
  obtain ⟨wb, hwb⟩ : ∃ wb, wb = wa.alloc (.cells #[.pointer none, .pointer none, .string ⟨#[]⟩, .slice none 0 0, .string ⟨#[]⟩, .bool false, .slice none 0 0, .slice none 0 0, .int .u64 0] 75) := ⟨_, rfl⟩
  have sb : wb.heap.size = w.heap.size + 2 := by rw [hwb]; simp [sa]
  have bb : Blk wb (w.heap.size + 1) 75 #[.pointer none, .pointer none, .string ⟨#[]⟩, .slice none 0 0, .string ⟨#[]⟩, .bool false, .slice none 0 0, .slice none 0 0, .int .u64 0] := by rw [hwb, ← sa]; exact Blk.new _ _ _
  have mb := ma.alloc (.cells #[.pointer none, .pointer none, .string ⟨#[]⟩, .slice none 0 0, .string ⟨#[]⟩, .bool false, .slice none 0 0, .slice none 0 0, .int .u64 0] 75)
  rw [← hwb] at mb
  have gb : w.grownBy wb none := by rw [hwb]; exact by_alloc ga _
  obtain ⟨wc, hwc⟩ : ∃ wc, wc = wb.alloc (.cells #[.int .i64 cap, .map (some w.heap.size), .pointer (some ⟨w.heap.size + 1, 0, none⟩)] 77) := ⟨_, rfl⟩
  have bc : Blk wc (w.heap.size + 2) 77 #[.int .i64 cap, .map (some w.heap.size), .pointer (some ⟨w.heap.size + 1, 0, none⟩)] := by rw [hwc, ← sb]; exact Blk.new _ _ _
  have bc1 : Blk wc (w.heap.size + 1) 75 #[.pointer none, .pointer none, .string ⟨#[]⟩, .slice none 0 0, .string ⟨#[]⟩, .bool false, .slice none 0 0, .slice none 0 0, .int .u64 0] := by rw [hwc]; exact bb.alloc _
  have mc := mb.alloc (.cells #[.int .i64 cap, .map (some w.heap.size), .pointer (some ⟨w.heap.size + 1, 0, none⟩)] 77)
  rw [← hwc] at mc
  have gc : w.grownBy wc none := by rw [hwc]; exact by_alloc gb _
  rw [← hwa, ← hwb, ← hwc]
  refine ⟨wc, rfl, bc, bc1, w.heap.size + 2, fun b => b = w.heap.size + 2 ∨ b = w.heap.size ∨ b ∈ [w.heap.size + 1], rfl, ?_, ?_, ?_⟩
  · have hC : Chg wc ((wc.setCell ⟨w.heap.size + 1, 0, none⟩ (.pointer (some ⟨w.heap.size + 1, 0, none⟩))).setCell ⟨w.heap.size + 1, 1, none⟩ (.pointer (some ⟨w.heap.size + 1, 0, none⟩))).drew (fun b => b = w.heap.size + 1) :=
      (((Chg.refl wc (fun b => b = w.heap.size + 1)).set_ (p := ⟨w.heap.size + 1, 0, none⟩) (.inl rfl) _).set_ (p := ⟨w.heap.size + 1, 1, none⟩) (.inl rfl) _).drew
    refine ⟨w.heap.size, w.heap.size + 1, [], ⟨fun _ => w.heap.size + 1, fun _ => w.heap.size + 1, fun _ => ⟨#[]⟩, fun _ => ⟨(none, 0, 0), ⟨#[]⟩, false, (none, 0, 0), (none, 0, 0), 0⟩⟩, ⟨bc.chg hC (by simp), ?_, by simp, ?_, by simp, by simp, .map [], ⟨own_map_chg mc hC (by simp), ?_, by simp, by simp, rfl⟩⟩, rfl, fun b => by simp⟩
    · intro b hb
      obtain rfl : b = w.heap.size + 1 := by simpa using hb
      have := ((bc1.set_ 0 (.pointer (some ⟨w.heap.size + 1, 0, none⟩))).set_ 1 (.pointer (some ⟨w.heap.size + 1, 0, none⟩))).drew
      simpa using this
    · exact ⟨rfl, rfl, trivial⟩
    · intro k _ hk
      simp [Maps.has] at hk
  · exact by_drew (by_set (by_set gc (.inr (by simp)) _) (.inr (by simp)) _)
  · intro b hb
    simp at hb
    omega

set_option maxHeartbeats 1000000 in
theorem new_any (w : World) (cap : Int) :
    Calls Try.prog 17 #[.int .i64 cap] w (NewQ w (max cap 0)) := by
  obtain ⟨w1, hw1, bl, br, hQ⟩ := new_facts w (max cap 0)
  have l2 : w1.cell? ⟨w.heap.size + 2, 2, none⟩ = some (.pointer (some ⟨w.heap.size + 1, 0, none⟩)) := bl.cell 2
  have r0 : w1.cell? ⟨w.heap.size + 1, 0, none⟩ = some (.pointer none) := br.cell 0
  have r1 : w1.cell? ⟨w.heap.size + 1, 1, none⟩ = some (.pointer none) := br.cell 1
  have f0 : w1.frozen? ⟨w.heap.size + 1, 0, none⟩ = false := br.frozen 0
  have f1 : w1.frozen? ⟨w.heap.size + 1, 1, none⟩ = false := br.frozen 1
  have hmk : (Instr.makeMap 70 none).run Try.prog w = .ok (.map (some w.heap.size)) (w.alloc (.map #[] 0)) := run_makeMap _ w
  have Hfin := Lib.hid hQ
  clear hQ bl br
  go_enter Try.func17, Try.ntmps17
  go_wp2_with fail
  clear hw1 hmk
  go_region
  go_wp2
  go_ret
  exact Hfin.out

/-! ### Keys -/
theorem run_neq_ptr_same {P : Program} (w : World) {tp te : TypeId} {j : TypeInfo} (a : Addr) (hp : P.underlying tp = some (.pointer te)) (hte : P.info? te = some j) :
    (binOp .neq tp (.pointer (some a)) (.pointer (some a))).run P w = .ok (.bool false) w := by
  have h : ∀ d : Nat, (Op.equalIn (d + 1) tp (.pointer (some a)) (.pointer (some a))).run P w = .ok true w := fun d => by
    simp [Op.equalIn, run_underlying hp, sizeOf, typeInfo, hte, run_sameAddr_same]
  simp only [binOp]
  simp [Op.equal, Op.maxDepth, h 9999]
theorem run_neq_ptr_other {P : Program} (w : World) {tp te : TypeId} {j : TypeInfo} {a b : Addr} {ca cb : Array Value} {ta tb : TypeId} (hp : P.underlying tp = some (.pointer te)) (hte : P.info? te = some j) (hsz : j.size ≠ 0)
    (hne : a ≠ b) (ha : w.heap[a.block]? = some (.cells ca ta (0, 0))) (hb : w.heap[b.block]? = some (.cells cb tb (0, 0))) :
    (binOp .neq tp (.pointer (some a)) (.pointer (some b))).run P w = .ok (.bool true) w := by
  have h : ∀ d : Nat, (Op.equalIn (d + 1) tp (.pointer (some a)) (.pointer (some b))).run P w = .ok false w := fun d => by
    simp [Op.equalIn, run_underlying hp, sizeOf, typeInfo, hte, hsz, run_sameAddr_other w hne ha hb]
  simp only [binOp]
  simp [Op.equal, Op.maxDepth, h 9999]
theorem infoN : (Try.prog.info? 75).map (·.size) = some 9 := by kernel_rfl
theorem neq_same (w : World) (a : Nat) : (binOp .neq 71 (.pointer (some ⟨a, 0, none⟩)) (.pointer (some ⟨a, 0, none⟩))).run Try.prog w = .ok (.bool false) w := by
  cases hi : Try.prog.info? 75 with
  | none => have := infoN; rw [hi] at this; cases this
  | some j => exact run_neq_ptr_same w _ Try.underlying71 hi
theorem neq_other (w : World) {a b : Nat} {ca cb : Array Value} {ta tb : TypeId} (hne : a ≠ b) (ha : Blk w a ta ca) (hb : Blk w b tb cb) :
    (binOp .neq 71 (.pointer (some ⟨a, 0, none⟩)) (.pointer (some ⟨b, 0, none⟩))).run Try.prog w = .ok (.bool true) w := by
  cases hi : Try.prog.info? 75 with
  | none => have := infoN; rw [hi] at this; cases this
  | some j =>
    refine run_neq_ptr_other w Try.underlying71 hi ?_ (fun e => hne (congrArg Addr.block e)) ha hb
    have := infoN
    rw [hi] at this
    simp at this
    omega
def headOf (r : Nat) : List Nat → Nat
  | [] => r
  | b :: _ => b
theorem ring_next {nx pv : Nat → Nat} {r b : Nat} {done rest : List Nat} (h : Linked nx pv (r :: (done ++ b :: rest) ++ [r])) : nx b = headOf r rest := by
  have e : r :: (done ++ b :: rest) ++ [r] = (r :: done) ++ b :: (rest ++ [r]) := by simp
  rw [e, linked_split] at h
  cases rest with
  | nil => exact h.2.1
  | cons c l => exact h.2.1
theorem ring_begin {nx pv : Nat → Nat} {r : Nat} {ns : List Nat} (h : Linked nx pv (r :: ns ++ [r])) : nx r = headOf r ns := by
  cases ns with
  | nil => exact h.1
  | cons c l => exact h.1

theorem info_parts {P : Program} {t : TypeId} {z : Option Value} {n b : Nat} (h : (P.info? t).map (fun i => (i.zero, i.size, i.bytes)) = some (z, n, b)) : ∃ i, P.info? t = some i ∧ i.zero = z ∧ i.size = n ∧ i.bytes = b := by
  cases hi : P.info? t with
  | none => rw [hi] at h; cases h
  | some i => rw [hi] at h; simp at h; exact ⟨i, rfl, h.1, h.2.1, h.2.2⟩


end Go.Proofs.Ytndmnnapjhjkmaa.iStrRes
