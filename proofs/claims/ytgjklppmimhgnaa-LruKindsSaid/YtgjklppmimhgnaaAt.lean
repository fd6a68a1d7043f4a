/-
  What an Lru of ints is in memory: its own block, a map, a ring of nodes.
-/
import Derived.Test.YtgjklppmimhgnaaCut
namespace Go.Proofs.Ytgjklppmimhgnaa
open Go.RowKit
open Go.Maps (Keyed)

abbrev mapT : TypeId := 68
abbrev ptrT : TypeId := 69
/-- a pointer as a map's element reads it -/
def ptrElem : Value → Option (DataW Unit × List MemPlace)
  | .pointer (some ⟨b, 0, none⟩) => some (.lit (.int .i64 (b : Int)), [])
  | .pointer none => some (.nil, [])
  | _ => none
theorem ptrElem_mk (b : Nat) : ptrElem (.pointer (some ⟨b, 0, none⟩)) = some (.lit (.int .i64 (b : Int)), []) := rfl
theorem ptrElem_inv {v : Value} {b : Nat} {ps : List MemPlace} (h : ptrElem v = some (.lit (.int .i64 (b : Int)), ps)) : v = .pointer (some ⟨b, 0, none⟩) := by
  unfold ptrElem at h
  split at h
  · rename_i c
    simp at h
    obtain ⟨h1, _⟩ := h; obtain rfl : c = b := by omega
    rfl
  · simp at h
  · simp at h
theorem ptrElem_nil {v : Value} {ps : List MemPlace} (h : ptrElem v = some (.nil, ps)) : v = .pointer none := by
  unfold ptrElem at h
  split at h
  · simp at h
  · rfl
  · simp at h
theorem zeroPtr (w : World) : (zeroValue 69).run Try.prog w = .ok (.pointer none) w := by kernel_rfl
theorem intKeys : Keyed Try.prog 3 := Maps.int_keyed Try.underlying3

def WfI (k : Int) : Prop := (Lit.int .i64 k).wf = true

/-- the map of an Lru: under each node's key the node, and nothing else -/
structure MapOf (w : World) (m : Nat) (ns : List Nat) (kf : Nat → Int) (D : DataW Unit) : Prop where
  own : w.ownsMap Try.prog 3 ptrElem m ns.length D
  all : ∀ k, WfI k → Maps.has D (.int .i64 k) = true → ∃ b ∈ ns, kf b = k
  has : ∀ b ∈ ns, Maps.has D (.int .i64 (kf b)) = true
  there : ∀ b ∈ ns, ∀ z, D.atKey (.int .i64 (kf b)) z = .lit (.int .i64 (b : Int))
  size : Maps.size D = ns.length

structure LruAt (w : World) (l m r : Nat) (ns : List Nat) (G : Gh) (cap : Int) : Prop where
  head : Blk w l 75 #[.int .i64 cap, .map (some m), .pointer (some ⟨r, 0, none⟩)]
  nodes : Nodes w G (fun b => b ∈ r :: ns)
  nodup : (r :: ns).Nodup
  ring : Linked G.nx G.pv (r :: ns ++ [r])
  keys : (ns.map G.kf).Nodup
  wf : ∀ b ∈ ns, WfI (G.kf b)
  map : ∃ D, MapOf w m ns G.kf D

section
variable {w w' : World} {m b n : Nat} {D : DataW Unit} {S : Nat → Prop}
theorem own_map_chg (h : w.ownsMap Try.prog 3 ptrElem m n D) (hc : Chg w w' S) (hm : ¬ S m) : w'.ownsMap Try.prog 3 ptrElem m n D := by
  have hlt := h.lt
  obtain ⟨es, clock, hb, F, hs, hD⟩ := h
  exact ⟨es, clock, (hc.block m hlt hm).trans hb, F, hs, hD⟩
theorem own_map_tight (h : w.ownsMap Try.prog 3 ptrElem m n D) {q : Nat} (hq : Maps.size D ≤ q) : w.ownsMap Try.prog 3 ptrElem m q D := by
  obtain ⟨es, clock, hb, F, hs, rfl⟩ := h
  refine ⟨es, clock, hb, F, ?_, rfl⟩
  simpa [Maps.size, length_sorted] using hq
theorem own_map_ne {cs : Array Value} {t g : TypeId} (h : w.ownsMap Try.prog 3 ptrElem m n D) (hb : Blk w g t cs) : m ≠ g := by
  obtain ⟨es, clock, h1, _⟩ := h
  rintro rfl
  unfold Blk at hb
  rw [h1] at hb
  simp at hb
theorem MapOf.chg {ns : List Nat} {kf : Nat → Int} (h : MapOf w m ns kf D) (hc : Chg w w' S) (hm : ¬ S m) : MapOf w' m ns kf D := ⟨own_map_chg h.own hc hm, h.all, h.has, h.there, h.size⟩
theorem MapOf.perm {ns ns' : List Nat} {kf : Nat → Int} (h : MapOf w m ns kf D) (hp : ∀ b, b ∈ ns' ↔ b ∈ ns) (hl : ns'.length = ns.length) : MapOf w m ns' kf D :=
  ⟨by rw [hl]; exact h.own, fun k hk hh => by obtain ⟨b, hb, e⟩ := h.all k hk hh; exact ⟨b, (hp b).2 hb, e⟩, fun b hb => h.has b ((hp b).1 hb), fun b hb => h.there b ((hp b).1 hb), by rw [hl]; exact h.size⟩
end

/-- what a look-up in the map finds -/
theorem look_hit {w : World} {m : Nat} {ns : List Nat} {kf : Nat → Int} {D : DataW Unit} (h : MapOf w m ns kf D) {b : Nat} (hb : b ∈ ns) (hw : WfI (kf b)) :
    (Instr.lookup 68 (.map (some m)) (.int .i64 (kf b)) true).run Try.prog w = .ok (.tuple #[.pointer (some ⟨b, 0, none⟩), .bool true]) w := by
  obtain ⟨v, ps, hrun, hv⟩ := h.own.look_ok intKeys Try.underlying68 (zeroPtr w) (zd := .nil) (zp := []) rfl (Maps.keyOf_int_mk Try.underlying3 hw)
  rw [h.there b hb] at hv
  obtain rfl := ptrElem_inv hv
  rw [h.has b hb] at hrun
  exact hrun
theorem look_miss {w : World} {m : Nat} {ns : List Nat} {kf : Nat → Int} {D : DataW Unit} (h : MapOf w m ns kf D) {k : Int} (hk : ∀ b ∈ ns, kf b ≠ k) (hw : WfI k) :
    (Instr.lookup 68 (.map (some m)) (.int .i64 k) true).run Try.prog w = .ok (.tuple #[.pointer none, .bool false]) w := by
  obtain ⟨v, ps, hrun, hv⟩ := h.own.look_ok intKeys Try.underlying68 (zeroPtr w) (zd := .nil) (zp := []) rfl (Maps.keyOf_int_mk Try.underlying3 hw)
  have hf : Maps.has D (.int .i64 k) = false := by
    cases hh : Maps.has D (.int .i64 k) with
    | false => rfl
    | true =>
      obtain ⟨b, hb, e⟩ := h.all k hw hh
      exact absurd e (hk b hb)
  rw [Maps.atKey_of_not_has hf] at hv
  obtain rfl := ptrElem_nil hv
  rw [hf] at hrun
  exact hrun

/-- the node of the first pair under a key is taken out, and put first -/
theorem LruAt.turned {w w' : World} {l m r p : Nat} {l1 l2 : List Nat} {G : Gh} {cap : Int} (h : LruAt w l m r (l1 ++ p :: l2) G cap) {vf : Nat → Int}
    (hN : Nodes w' { FirstG { G with nx := upd G.nx (G.pv p) (G.nx p), pv := upd G.pv (G.nx p) (G.pv p) } r p with vf := vf } (fun b => b ∈ r :: (l1 ++ p :: l2))) (hC : Chg w w' (fun b => b ∈ r :: (l1 ++ p :: l2))) :
    LruAt w' l m r (p :: (l1 ++ l2)) { FirstG { G with nx := upd G.nx (G.pv p) (G.nx p), pv := upd G.pv (G.nx p) (G.pv p) } r p with vf := vf } cap := by
  have hpm : ∀ b, b ∈ r :: (p :: (l1 ++ l2)) ↔ b ∈ r :: (l1 ++ p :: l2) := by
    intro b
    simp only [List.mem_cons, List.mem_append]
    constructor <;> (rintro (h | h | h | h) <;> simp [h])
  have hpm' : ∀ b, b ∈ p :: (l1 ++ l2) ↔ b ∈ l1 ++ p :: l2 := by
    intro b
    simp only [List.mem_cons, List.mem_append]
    constructor <;> (rintro (h | h | h) <;> simp [h])
  have hperm : List.Perm (p :: (l1 ++ l2)) (l1 ++ p :: l2) := (List.perm_middle).symm
  obtain ⟨hr1, _, _⟩ := ring_cut h.ring h.nodup
  have hnd : (r :: p :: (l1 ++ l2)).Nodup := (hperm.cons r).nodup_iff.2 h.nodup
  obtain ⟨hr2, _⟩ := ring_first hr1 hnd
  obtain ⟨D, hD⟩ := h.map
  refine ⟨h.head.chg hC ?_, hN.mono fun b hb => (hpm b).1 hb, hnd, hr2, ?_, fun b hb => h.wf b ((hpm' b).1 hb), D, ?_⟩
  · intro hm
    exact h.head.ne_ (h.nodes l hm) (by decide) rfl
  · exact ((hperm.map G.kf).nodup_iff).2 h.keys
  · refine (hD.chg hC ?_).perm hpm' (by simp; omega)
    intro hm
    exact own_map_ne hD.own (h.nodes m hm) rfl

end Go.Proofs.Ytgjklppmimhgnaa
