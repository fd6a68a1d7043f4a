/-
  One Lru of lodger/lodgerlaw23.Key and string, all of it new; and what another's acts leave of it (ones.py).
-/
import Derived.Test.YtgjklppmimhgnaaIKeyStr
import Derived.Test.YtgjklppmimhgnaaRef
namespace Go.Proofs.Ytgjklppmimhgnaa.iKeyStr
open Go.RowKit
abbrev PL := List ((ByteArray × Int) × ByteArray)
def One (w0 w : World) (l : Nat) (cap : Int) (ps : PL) : Prop :=
  ∃ own, Lru w l own cap ps ∧ w0.grownBy w none ∧ ∀ b, own b → w0.heap.size ≤ b
section
variable {w0 w w' : World} {l : Nat} {cap : Int} {ps : PL}
theorem One.by_none (h : One w0 w l cap ps) (hg : w.grownBy w' none) : One w0 w' l cap ps := by
  obtain ⟨own, h1, h2, h3⟩ := h
  exact ⟨own, h1.by_none hg, by_trans h2 hg (by simp), h3⟩
theorem One.by_ (h : One w0 w l cap ps) : w0.grownBy w none := by obtain ⟨_, _, h2, _⟩ := h; exact h2
theorem One.did {ps' : PL} {v : Value} {e : Ending} {own : Nat → Prop} (hby : w0.grownBy w none) (ho : ∀ b, own b → w0.heap.size ≤ b) (hd : Did w l own cap ps' v e w') : e = .returned v ∧ One w0 w' l cap ps' := by
  obtain ⟨rfl, hc, own', h', hsub⟩ := hd
  refine ⟨rfl, own', h', ?_, fun b hb => ?_⟩
  · have : Chg w0 w' own := (Chg.of_none (S := own) hby).trans hc fun k hk => .inl hk
    exact this.none_ ho
  · rcases hsub b hb with h | h
    · exact ho b h
    · have := hby.size; omega
theorem One.put {k : (ByteArray × Int)} {v : ByteArray} (h : One w0 w l cap ps) (hk : WfI k) (hn : ps.length < 1000000) :
    Calls Try.prog 23 #[.pointer (some ⟨l, 0, none⟩), .agg #[.string k.1, .int .i64 k.2], .string v] w fun e w' => e = .returned (.tuple #[]) ∧ One w0 w' l cap (putted cap ps k v) := by
  obtain ⟨own, h1, h2, h3⟩ := h
  exact (put_any w l own cap k v ps h1 hk hn).mono fun e w' hd => One.did h2 h3 hd
theorem One.get {k : (ByteArray × Int)} (h : One w0 w l cap ps) (hk : WfI k) :
    Calls Try.prog 25 #[.pointer (some ⟨l, 0, none⟩), .agg #[.string k.1, .int .i64 k.2]] w fun e w' => e = .returned (GetV ps k) ∧ One w0 w' l cap (got ps k) := by
  obtain ⟨own, h1, h2, h3⟩ := h
  exact (get_any w l own cap k ps h1 hk).mono fun e w' hd => One.did h2 h3 hd
theorem One.len (h : One w0 w l cap ps) :
    Calls Try.prog 27 #[.pointer (some ⟨l, 0, none⟩)] w fun e w' => e = .returned (.int .i64 (ps.length : Nat)) ∧ w = w' := by
  obtain ⟨own, h1, h2, h3⟩ := h
  exact len_any w l own cap ps h1
end
theorem new_one (w0 w : World) (cap : Int) (hby : w0.grownBy w none) :
    Calls Try.prog 20 #[.int .i64 cap] w fun e w' => ∃ l, e = .returned (.pointer (some ⟨l, 0, none⟩)) ∧ One w0 w' l (max cap 0) [] := by
  refine (new_any w cap).mono fun e w' ⟨l, own, he, h1, h2, h3⟩ => ⟨l, he, own, h1, by_trans hby h2 (by simp), fun b hb => Nat.le_trans hby.size (h3 b hb)⟩
end Go.Proofs.Ytgjklppmimhgnaa.iKeyStr
