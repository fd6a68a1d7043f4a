/-
  One Lru of int and string, all of it new; and what another's acts leave of it (ones.py).
-/
import Derived.Test.YtgjklppmimhgnaaIIntStr
import Derived.Test.YtgjklppmimhgnaaRef
namespace Go.Proofs.Ytgjklppmimhgnaa.iIntStr
open Go.RowKit
abbrev PL := List (Int × ByteArray)
def One (w0 w : World) (l : Nat) (cap : Int) (ps : PL) : Prop :=
  ∃ own, Lru w l own cap ps ∧ w0.grownBy w none ∧ ∀ b, own b → w0.heap.size ≤ b
section
variable {w0 w w' : World} {l : Nat} {cap : Int} {ps : PL}
theorem One.by_none (h : One w0 w l cap ps) (hg : w.grownBy w' none) : One w0 w' l cap ps := by
  obtain ⟨own, h1, h2, h3⟩ := h
  exact ⟨own, h1.by_none hg, by_trans h2 hg (by simp), h3⟩
theorem One.by_ (h : One w0 w l cap ps) : w0.grownBy w none := by obtain ⟨_, _, h2, _⟩ := h; exact h2
theorem One.did {ps' : PL} {v : Value} {e : Ending} {own : Nat → Prop} (hby : w0.grownBy w none) (ho : ∀ b, own b → w0.heap.size ≤ b) (hd : Did w l own cap ps' v e w') : e = .returned v ∧ One w0 w' l cap ps' := by
  obtain ⟨rfl, hc, own', h', hsub⟩ := hd
  refine ⟨rfl, own', h', ?_, fun b hb => ?_⟩
  · have : Chg w0 w' own := (Chg.of_none (S := own) hby).trans hc fun k hk => .inl hk
    exact this.none_ ho
  · rcases hsub b hb with h | h
    · exact ho b h
    · have := hby.size; omega
theorem One.put {k : Int} {v : ByteArray} (h : One w0 w l cap ps) (hk : WfI k) (hn : ps.length < 1000000) :
    Calls Try.prog 35 #[.pointer (some ⟨l, 0, none⟩), .int .i64 k, .string v] w fun e w' => e = .returned (.tuple #[]) ∧ One w0 w' l cap (putted cap ps k v) := by
  obtain ⟨own, h1, h2, h3⟩ := h
  exact (put_any w l own cap k v ps h1 hk hn).mono fun e w' hd => One.did h2 h3 hd
theorem One.get {k : Int} (h : One w0 w l cap ps) (hk : WfI k) :
    Calls Try.prog 36 #[.pointer (some ⟨l, 0, none⟩), .int .i64 k] w fun e w' => e = .returned (GetV ps k) ∧ One w0 w' l cap (got ps k) := by
  obtain ⟨own, h1, h2, h3⟩ := h
  exact (get_any w l own cap k ps h1 hk).mono fun e w' hd => One.did h2 h3 hd
theorem One.len (h : One w0 w l cap ps) :
    Calls Try.prog 37 #[.pointer (some ⟨l, 0, none⟩)] w fun e w' => e = .returned (.int .i64 (ps.length : Nat)) ∧ w = w' := by
  obtain ⟨own, h1, h2, h3⟩ := h
  exact len_any w l own cap ps h1
end
theorem new_one (w0 w : World) (cap : Int) (hby : w0.grownBy w none) :
    Calls Try.prog 34 #[.int .i64 cap] w fun e w' => ∃ l, e = .returned (.pointer (some ⟨l, 0, none⟩)) ∧ One w0 w' l (max cap 0) [] := by
  refine (new_any w cap).mono fun e w' ⟨l, own, he, h1, h2, h3⟩ => ⟨l, he, own, h1, by_trans hby h2 (by simp), fun b hb => Nat.le_trans hby.size (h3 b hb)⟩

/-! ### three side by side -/
structure Tri (w0 w : World) (a b c : Nat) (ca cb cc : Int) (pa pb pc : PL) (oa ob oc : Nat → Prop) : Prop where
  fa : Lru w a oa ca pa
  fb : Lru w b ob cb pb
  fc : Lru w c oc cc pc
  ab : ∀ x, oa x → ¬ ob x
  ac : ∀ x, oa x → ¬ oc x
  bc : ∀ x, ob x → ¬ oc x
  by_ : w0.grownBy w none
  na : ∀ x, oa x → w0.heap.size ≤ x
  nb : ∀ x, ob x → w0.heap.size ≤ x
  nc : ∀ x, oc x → w0.heap.size ≤ x
def T3 (w0 w : World) (a b c : Nat) (ca cb cc : Int) (pa pb pc : PL) : Prop := ∃ oa ob oc, Tri w0 w a b c ca cb cc pa pb pc oa ob oc
section
variable {w0 w w' : World} {a b c : Nat} {ca cb cc : Int} {pa pb pc : PL}
theorem T3.turn (h : T3 w0 w a b c ca cb cc pa pb pc) : T3 w0 w b c a cb cc ca pb pc pa := by
  obtain ⟨oa, ob, oc, h⟩ := h
  exact ⟨ob, oc, oa, h.fb, h.fc, h.fa, h.bc, fun x h1 h2 => h.ab x h2 h1, fun x h1 h2 => h.ac x h2 h1, h.by_, h.nb, h.nc, h.na⟩
theorem T3.by_none (h : T3 w0 w a b c ca cb cc pa pb pc) (hg : w.grownBy w' none) : T3 w0 w' a b c ca cb cc pa pb pc := by
  obtain ⟨oa, ob, oc, h⟩ := h
  exact ⟨oa, ob, oc, h.fa.by_none hg, h.fb.by_none hg, h.fc.by_none hg, h.ab, h.ac, h.bc, by_trans h.by_ hg (by simp), h.na, h.nb, h.nc⟩
theorem T3.did {ps' : PL} {v : Value} {e : Ending} {oa ob oc : Nat → Prop} (h : Tri w0 w a b c ca cb cc pa pb pc oa ob oc) (hd : Did w a oa ca ps' v e w') : e = .returned v ∧ T3 w0 w' a b c ca cb cc ps' pb pc := by
  have hw0 : w0.grownBy w' none := by
    obtain ⟨rfl, hc, own', h', hsub⟩ := hd
    have : Chg w0 w' oa := (Chg.of_none (S := oa) h.by_).trans hc fun k hk => .inl hk
    exact this.none_ h.na
  obtain ⟨rfl, hc, own', h', hsub⟩ := hd
  have hsz := h.by_.size
  refine ⟨rfl, own', ob, oc, h', h.fb.chg hc fun x hx hx2 => h.ab x hx2 hx, h.fc.chg hc fun x hx hx2 => h.ac x hx2 hx, ?_, ?_, h.bc, hw0, ?_, h.nb, h.nc⟩
  · intro x hx hx2
    rcases hsub x hx with h1 | h1
    · exact h.ab x h1 hx2
    · have := h.fb.lt x hx2; omega
  · intro x hx hx2
    rcases hsub x hx with h1 | h1
    · exact h.ac x h1 hx2
    · have := h.fc.lt x hx2; omega
  · intro x hx
    rcases hsub x hx with h1 | h1
    · exact h.na x h1
    · omega
theorem T3.put {k : Int} {v : ByteArray} (h : T3 w0 w a b c ca cb cc pa pb pc) (hk : WfI k) (hn : pa.length < 1000000) :
    Calls Try.prog 35 #[.pointer (some ⟨a, 0, none⟩), .int .i64 k, .string v] w fun e w' => e = .returned (.tuple #[]) ∧ T3 w0 w' a b c ca cb cc (putted ca pa k v) pb pc := by
  obtain ⟨oa, ob, oc, h⟩ := h
  exact (put_any w a oa ca k v pa h.fa hk hn).mono fun e w' hd => T3.did h hd
theorem T3.get {k : Int} (h : T3 w0 w a b c ca cb cc pa pb pc) (hk : WfI k) :
    Calls Try.prog 36 #[.pointer (some ⟨a, 0, none⟩), .int .i64 k] w fun e w' => e = .returned (GetV pa k) ∧ T3 w0 w' a b c ca cb cc (got pa k) pb pc := by
  obtain ⟨oa, ob, oc, h⟩ := h
  exact (get_any w a oa ca k pa h.fa hk).mono fun e w' hd => T3.did h hd
theorem T3.len (h : T3 w0 w a b c ca cb cc pa pb pc) :
    Calls Try.prog 37 #[.pointer (some ⟨a, 0, none⟩)] w fun e w' => e = .returned (.int .i64 (pa.length : Nat)) ∧ w = w' := by
  obtain ⟨oa, ob, oc, h⟩ := h
  exact len_any w a oa ca pa h.fa
theorem T3.keys (h : T3 w0 w a b c ca cb cc pa pb pc) (hn : pa.length < 1000000) :
    Calls Try.prog 38 #[.pointer (some ⟨a, 0, none⟩)] w fun e w' => ∃ A n, e = .returned (.slice A pa.length n) ∧ T3 w0 w' a b c ca cb cc pa pb pc := by
  have hh := h
  obtain ⟨oa, ob, oc, h⟩ := h
  refine (keys_any w a oa ca pa h.fa hn).mono fun e w' ⟨v, he, h1, h2⟩ => ?_
  obtain ⟨A, n, rfl, _⟩ := own_slice h1
  exact ⟨A, n, he, hh.by_none h2⟩
end
/-- the third one is made -/
theorem new_three (w0 w : World) (a b : Nat) (ca cb cap : Int) (pa pb : PL) (h : ∃ oa ob, Lru w a oa ca pa ∧ Lru w b ob cb pb ∧ (∀ x, oa x → ¬ ob x) ∧ w0.grownBy w none ∧ (∀ x, oa x → w0.heap.size ≤ x) ∧ (∀ x, ob x → w0.heap.size ≤ x)) :
    Calls Try.prog 34 #[.int .i64 cap] w fun e w' => ∃ c, e = .returned (.pointer (some ⟨c, 0, none⟩)) ∧ T3 w0 w' a b c ca cb (max cap 0) pa pb [] := by
  obtain ⟨oa, ob, h1, h2, h3, h4, h5, h6⟩ := h
  refine (new_any w cap).mono fun e w' ⟨l, own, he, k1, k2, k3⟩ => ⟨l, he, oa, ob, own, h1.by_none k2, h2.by_none k2, k1, h3, ?_, ?_, by_trans h4 k2 (by simp), h5, h6, fun b hb => Nat.le_trans h4.size (k3 b hb)⟩
  · intro x hx hx2
    have := h1.lt x hx
    have := k3 x hx2
    omega
  · intro x hx hx2
    have := h2.lt x hx
    have := k3 x hx2
    omega
theorem new_two (w0 w : World) (a : Nat) (ca cap : Int) (pa : PL) (h : One w0 w a ca pa) :
    Calls Try.prog 34 #[.int .i64 cap] w fun e w' => ∃ b, e = .returned (.pointer (some ⟨b, 0, none⟩)) ∧ ∃ oa ob, Lru w' a oa ca pa ∧ Lru w' b ob (max cap 0) [] ∧ (∀ x, oa x → ¬ ob x) ∧ w0.grownBy w' none ∧ (∀ x, oa x → w0.heap.size ≤ x) ∧ (∀ x, ob x → w0.heap.size ≤ x) := by
  obtain ⟨oa, h1, h4, h5⟩ := h
  refine (new_any w cap).mono fun e w' ⟨l, own, he, k1, k2, k3⟩ => ⟨l, he, oa, own, h1.by_none k2, k1, ?_, by_trans h4 k2 (by simp), h5, fun b hb => Nat.le_trans h4.size (k3 b hb)⟩
  intro x hx hx2
  have := h1.lt x hx
  have := k3 x hx2
  omega
end Go.Proofs.Ytgjklppmimhgnaa.iIntStr
