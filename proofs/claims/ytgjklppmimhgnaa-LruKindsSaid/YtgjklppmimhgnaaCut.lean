/-
  The ring's walks: cut, first.
-/
import Derived.Test.YtgjklppmimhgnaaMem
namespace Go.Proofs.Ytgjklppmimhgnaa
open Go.RowKit

/-- a place to a block's begin -/
def ptr (b : Nat) : Value := .pointer (some ⟨b, 0, none⟩)
/-- what the nodes hold -/
structure Gh where
  nx : Nat → Nat
  pv : Nat → Nat
  kf : Nat → Int
  vf : Nat → Int
def nodeT : TypeId := 73
def Nodes (w : World) (G : Gh) (S : Nat → Prop) : Prop :=
  ∀ b, S b → Blk w b 73 #[.pointer (some ⟨G.pv b, 0, none⟩), .pointer (some ⟨G.nx b, 0, none⟩), .int .i64 (G.kf b), .int .i64 (G.vf b)]

section
variable {w w' : World} {G : Gh} {S T : Nat → Prop}
theorem Nodes.setNx (h : Nodes w G S) (a c : Nat) : Nodes (w.setCell ⟨a, 1, none⟩ (.pointer (some ⟨c, 0, none⟩))) { G with nx := upd G.nx a c } S := by
  intro b hb
  by_cases hab : b = a
  · subst hab
    have := (h b hb).set_ 1 (.pointer (some ⟨c, 0, none⟩))
    simpa [upd] using this
  · have := (h b hb).far (p := ⟨a, 1, none⟩) hab (.pointer (some ⟨c, 0, none⟩))
    simpa [upd, hab] using this
theorem Nodes.setPv (h : Nodes w G S) (a c : Nat) : Nodes (w.setCell ⟨a, 0, none⟩ (.pointer (some ⟨c, 0, none⟩))) { G with pv := upd G.pv a c } S := by
  intro b hb
  by_cases hab : b = a
  · subst hab
    have := (h b hb).set_ 0 (.pointer (some ⟨c, 0, none⟩))
    simpa [upd] using this
  · have := (h b hb).far (p := ⟨a, 0, none⟩) hab (.pointer (some ⟨c, 0, none⟩))
    simpa [upd, hab] using this
theorem Nodes.setV (h : Nodes w G S) (a : Nat) (v : Int) : Nodes (w.setCell ⟨a, 3, none⟩ (.int .i64 v)) { G with vf := upd G.vf a v } S := by
  intro b hb
  by_cases hab : b = a
  · subst hab
    have := (h b hb).set_ 3 (.int .i64 v)
    simpa [upd] using this
  · have := (h b hb).far (p := ⟨a, 3, none⟩) hab (.int .i64 v)
    simpa [upd, hab] using this
theorem Nodes.mono (h : Nodes w G S) (hT : ∀ b, T b → S b) : Nodes w G T := fun b hb => h b (hT b hb)
theorem Nodes.chg (h : Nodes w G S) (hc : Chg w w' T) (hT : ∀ b, S b → ¬ T b) : Nodes w' G S := fun b hb => (h b hb).chg hc (hT b hb)
theorem Nodes.drew (h : Nodes w G S) : Nodes w.drew G S := h
end

def CutQ (w : World) (G : Gh) (S : Nat → Prop) (p : Nat) (e : Ending) (w2 : World) : Prop :=
  e = .returned (.tuple #[]) ∧ Nodes w2 { G with nx := upd G.nx (G.pv p) (G.nx p), pv := upd G.pv (G.nx p) (G.pv p) } S ∧ Chg w w2 S

set_option maxHeartbeats 1000000 in
theorem cut_any (w : World) (G : Gh) (S : Nat → Prop) (p a c : Nat) (hN : Nodes w G S) (hp : S p) (ha : G.pv p = a) (hc : G.nx p = c) (hSa : S a) (hSc : S c) (_hpa : a ≠ p) (_hpc : c ≠ p) :
    Calls Try.prog 42 #[.pointer (some ⟨p, 0, none⟩)] w (CutQ w G S p) := by
  have hfin : CutQ w G S p (.returned (.tuple #[])) ((w.setCell ⟨a, 1, none⟩ (.pointer (some ⟨c, 0, none⟩))).setCell ⟨c, 0, none⟩ (.pointer (some ⟨a, 0, none⟩))).drew := by
    refine ⟨rfl, ?_, ?_⟩
    · rw [ha, hc]
      exact ((hN.setNx a c).setPv c a).drew
    · exact (((Chg.refl w S).set_ (.inl hSa) _).set_ (.inl hSc) _).drew
  have Hfin := Lib.hid hfin
  have p0 : w.cell? ⟨p, 0, none⟩ = some (.pointer (some ⟨a, 0, none⟩)) := by rw [← ha]; exact (hN p hp).cell 0
  have p1 : w.cell? ⟨p, 1, none⟩ = some (.pointer (some ⟨c, 0, none⟩)) := by rw [← hc]; exact (hN p hp).cell 1
  have a1 : w.cell? ⟨a, 1, none⟩ = some (.pointer (some ⟨G.nx a, 0, none⟩)) := (hN a hSa).cell 1
  have c0 : w.cell? ⟨c, 0, none⟩ = some (.pointer (some ⟨G.pv c, 0, none⟩)) := (hN c hSc).cell 0
  have fa : w.frozen? ⟨a, 1, none⟩ = false := (hN a hSa).frozen 1
  have fc : w.frozen? ⟨c, 0, none⟩ = false := (hN c hSc).frozen 0
  clear hfin hN hp ha hc hSa hSc
  go_enter Try.func42, Try.ntmps42
  go_wp2_with fail
  go_region
  go_wp2
  go_end0
  exact Hfin.out

def FirstG (G : Gh) (r p : Nat) : Gh := { G with nx := upd (upd G.nx p (G.nx r)) r p, pv := upd (upd G.pv p r) (G.nx r) p }
def FirstQ (w : World) (G : Gh) (S : Nat → Prop) (r p : Nat) (e : Ending) (w2 : World) : Prop :=
  e = .returned (.tuple #[]) ∧ Nodes w2 (FirstG G r p) S ∧ Chg w w2 S

set_option maxHeartbeats 1000000 in
theorem first_any (w : World) (G : Gh) (S : Nat → Prop) (l r p f : Nat) (cap : Int) (m : Nat) (x y : Value) (hl : Blk w l 75 #[.int .i64 cap, .map (some m), .pointer (some ⟨r, 0, none⟩)]) (hN : Nodes w G S)
    (hp : Blk w p 73 #[x, y, .int .i64 (G.kf p), .int .i64 (G.vf p)]) (hr : S r) (hf : G.nx r = f) (hSf : S f) (hrp : r ≠ p) (hfp : f ≠ p) :
    Calls Try.prog 43 #[.pointer (some ⟨l, 0, none⟩), .pointer (some ⟨p, 0, none⟩)] w (FirstQ w G (fun b => S b ∨ b = p) r p) := by
  have hlp : l ≠ p := hl.ne_ hp (by decide)
  obtain ⟨w1, hw1⟩ : ∃ w1, ((w.setCell ⟨p, 0, none⟩ (.pointer (some ⟨r, 0, none⟩))).setCell ⟨p, 1, none⟩ (.pointer (some ⟨f, 0, none⟩))).drew = w1 := ⟨_, rfl⟩
  have hN1 : Nodes w1 { G with pv := upd G.pv p r, nx := upd G.nx p f } (fun b => S b ∨ b = p) := by
    intro b hb
    rw [← hw1]
    by_cases hbp : b = p
    · subst hbp
      have := ((hp.set_ 0 (.pointer (some ⟨r, 0, none⟩))).set_ 1 (.pointer (some ⟨f, 0, none⟩))).drew
      simpa [upd] using this
    · have hSb : S b := hb.resolve_right hbp
      have := (((hN b hSb).far (p := ⟨p, 0, none⟩) hbp (.pointer (some ⟨r, 0, none⟩))).far (p := ⟨p, 1, none⟩) hbp (.pointer (some ⟨f, 0, none⟩))).drew
      simpa [upd, hbp] using this
  have hC1 : Chg w w1 (fun b => S b ∨ b = p) := by rw [← hw1]; exact (((Chg.refl w _).set_ (.inl (.inr rfl)) _).set_ (.inl (.inr rfl)) _).drew
  have hfin : FirstQ w G (fun b => S b ∨ b = p) r p (.returned (.tuple #[])) ((w1.setCell ⟨r, 1, none⟩ (.pointer (some ⟨p, 0, none⟩))).setCell ⟨f, 0, none⟩ (.pointer (some ⟨p, 0, none⟩))).drew := by
    refine ⟨rfl, ?_, ?_⟩
    · unfold FirstG
      rw [hf]
      exact ((hN1.setNx r p).setPv f p).drew
    · exact ((hC1.set_ (.inl (.inl hr)) _).set_ (.inl (.inl hSf)) _).drew
  have Hfin := Lib.hid hfin
  have l2 : w.cell? ⟨l, 2, none⟩ = some (.pointer (some ⟨r, 0, none⟩)) := hl.cell 2
  have r1 : w.cell? ⟨r, 1, none⟩ = some (.pointer (some ⟨f, 0, none⟩)) := by rw [← hf]; exact (hN r hr).cell 1
  have p0 : w.cell? ⟨p, 0, none⟩ = some x := hp.cell 0
  have p1 : w.cell? ⟨p, 1, none⟩ = some y := hp.cell 1
  have fp0 : w.frozen? ⟨p, 0, none⟩ = false := hp.frozen 0
  have fp1 : w.frozen? ⟨p, 1, none⟩ = false := hp.frozen 1
  have q0 : w1.cell? ⟨p, 0, none⟩ = some (.pointer (some ⟨r, 0, none⟩)) := by have := (hN1 p (.inr rfl)).cell 0; simpa [upd] using this
  have q1 : w1.cell? ⟨p, 1, none⟩ = some (.pointer (some ⟨f, 0, none⟩)) := by have := (hN1 p (.inr rfl)).cell 1; simpa [upd] using this
  have qr : w1.cell? ⟨r, 1, none⟩ = some (.pointer (some ⟨f, 0, none⟩)) := by have := (hN1 r (.inl hr)).cell 1; simpa [upd, hrp, hf] using this
  have qf : w1.cell? ⟨f, 0, none⟩ = some (.pointer (some ⟨G.pv f, 0, none⟩)) := by have := (hN1 f (.inl hSf)).cell 0; simpa [upd, hfp] using this
  have fr : w1.frozen? ⟨r, 1, none⟩ = false := (hN1 r (.inl hr)).frozen 1
  have ff : w1.frozen? ⟨f, 0, none⟩ = false := (hN1 f (.inl hSf)).frozen 0
  have Hw := Lib.hid hw1
  clear hfin hN hp hf hSf hr hl hN1 hC1 hw1
  go_enter Try.func43, Try.ntmps43
  go_wp2_with fail
  go_region
  go_wp2_with fail
  rw [Hw.out]
  go_region
  go_wp2
  go_end0
  exact Hfin.out

end Go.Proofs.Ytgjklppmimhgnaa
