/-
  Two Lrus of other kinds beside the reference: what holds of all three behind each act.
-/
import Derived.Test.YtgjklppmimhgnaaOStrInts
import Derived.Test.YtgjklppmimhgnaaOKeyStr
import Derived.Test.YtgjklppmimhgnaaDuo
import Derived.Test.YtgjklppmimhgnaaName
namespace Go.Proofs.Ytgjklppmimhgnaa.kinds
open Go.RowKit

section
variable {K V C U : Type}
/-- pair by pair, the keys by a map, the values by a relation -/
def GRel (f : C → K) (R : V → U → Prop) : List (K × V) → List (C × U) → Prop
  | [], [] => True
  | a :: xs, c :: cs => (a.1 = f c.1 ∧ R a.2 c.2) ∧ GRel f R xs cs
  | _, _ => False
def ORel (R : V → U → Prop) : Option V → Option U → Prop
  | some v, some u => R v u
  | none, none => True
  | _, _ => False

variable {f : C → K} {R : V → U → Prop}
theorem GRel.len : ∀ {xs : List (K × V)} {cs : List (C × U)}, GRel f R xs cs → xs.length = cs.length
  | [], [], _ => rfl
  | _ :: _, _ :: _, h => by simp [GRel.len h.2]
  | [], _ :: _, h => h.elim
  | _ :: _, [], h => h.elim
theorem GRel.mono {S : V → U → Prop} (hS : ∀ v u, R v u → S v u) : ∀ {xs : List (K × V)} {cs : List (C × U)}, GRel f R xs cs → GRel f S xs cs
  | [], [], _ => trivial
  | _ :: _, _ :: _, h => ⟨⟨h.1.1, hS _ _ h.1.2⟩, GRel.mono hS h.2⟩
  | [], _ :: _, h => h.elim
  | _ :: _, [], h => h.elim
theorem GRel.drop : ∀ {xs : List (K × V)} {cs : List (C × U)}, GRel f R xs cs → GRel f R xs.dropLast cs.dropLast
  | [], [], _ => trivial
  | [_], [_], _ => trivial
  | _ :: _ :: _, _ :: _ :: _, h => ⟨h.1, GRel.drop h.2⟩
  | [_], _ :: _ :: _, h => h.2.elim
  | _ :: _ :: _, [_], h => h.2.elim
  | [], _ :: _, h => h.elim
  | _ :: _, [], h => h.elim
end
section
variable {K V C U : Type} [DecidableEq K] [DecidableEq C]
def glook (ps : List (K × V)) (k : K) : Option V := (ps.find? (fun q => decide (q.1 = k))).map (·.2)
def gless (ps : List (K × V)) (k : K) : List (K × V) := ps.filter (fun q => !decide (q.1 = k))
def ggot (ps : List (K × V)) (k : K) : List (K × V) := match glook ps k with | some v => (k, v) :: gless ps k | none => ps
def gput (cap : Int) (ps : List (K × V)) (k : K) (v : V) : List (K × V) :=
  match glook ps k with
  | some _ => (k, v) :: gless ps k
  | none => if cap = 0 then ps else (k, v) :: (if (ps.length : Int) = cap then ps.dropLast else ps)

variable {f : C → K} {R : V → U → Prop}
theorem GRel.look {k : C} : ∀ {xs : List (K × V)} {cs : List (C × U)}, GRel f R xs cs → (∀ c ∈ cs, f c.1 = f k → c.1 = k) → ORel R (glook xs (f k)) (glook cs k)
  | [], [], _, _ => trivial
  | a :: xs, c :: cs, h, hi => by
    have ih := GRel.look h.2 fun c' hc => hi c' (List.mem_cons_of_mem _ hc)
    unfold glook at ih ⊢
    rw [List.find?_cons, List.find?_cons]
    by_cases e : c.1 = k
    · have e' : a.1 = f k := by rw [h.1.1, e]
      simp only [e, e', decide_true]
      exact h.1.2
    · have e' : ¬ a.1 = f k := by rw [h.1.1]; exact fun e' => e (hi c (by simp) e')
      simp only [e, e', decide_false]
      exact ih
  | [], _ :: _, h, _ => h.elim
  | _ :: _, [], h, _ => h.elim
theorem GRel.less {k : C} : ∀ {xs : List (K × V)} {cs : List (C × U)}, GRel f R xs cs → (∀ c ∈ cs, f c.1 = f k → c.1 = k) → GRel f R (gless xs (f k)) (gless cs k)
  | [], [], _, _ => trivial
  | a :: xs, c :: cs, h, hi => by
    have ih := GRel.less h.2 fun c' hc => hi c' (List.mem_cons_of_mem _ hc)
    unfold gless at ih ⊢
    rw [List.filter_cons, List.filter_cons]
    by_cases e : c.1 = k
    · have e' : a.1 = f k := by rw [h.1.1, e]
      simp only [e, e', decide_true, Bool.not_true]
      exact ih
    · have e' : ¬ a.1 = f k := by rw [h.1.1]; exact fun e' => e (hi c (by simp) e')
      simp only [e, e', decide_false, Bool.not_false, if_true]
      exact ⟨h.1, ih⟩
  | [], _ :: _, h, _ => h.elim
  | _ :: _, [], h, _ => h.elim
theorem GRel.got {k : C} {xs : List (K × V)} {cs : List (C × U)} (h : GRel f R xs cs) (hi : ∀ c ∈ cs, f c.1 = f k → c.1 = k) : GRel f R (ggot xs (f k)) (ggot cs k) := by
  have hl := h.look hi
  have hs := h.less hi
  unfold ggot
  cases e1 : glook xs (f k) <;> cases e2 : glook cs k <;> rw [e1, e2] at hl
  · exact h
  · exact hl.elim
  · exact hl.elim
  · exact ⟨⟨rfl, hl⟩, hs⟩
theorem GRel.put {k : C} {v : V} {u : U} {cap : Int} {xs : List (K × V)} {cs : List (C × U)} (h : GRel f R xs cs) (hi : ∀ c ∈ cs, f c.1 = f k → c.1 = k) (hv : R v u) : GRel f R (gput cap xs (f k) v) (gput cap cs k u) := by
  have hl := h.look hi
  have hs := h.less hi
  unfold gput
  cases e1 : glook xs (f k) <;> cases e2 : glook cs k <;> rw [e1, e2] at hl
  · by_cases h0 : cap = 0
    · simp only [h0, if_true]; exact h
    · simp only [h0, if_false]
      rw [h.len]
      by_cases h1 : (cs.length : Int) = cap
      · rw [if_pos h1, if_pos h1]; exact ⟨⟨rfl, hv⟩, h.drop⟩
      · rw [if_neg h1, if_neg h1]; exact ⟨⟨rfl, hv⟩, h⟩
  · exact hl.elim
  · exact hl.elim
  · exact ⟨⟨rfl, hv⟩, hs⟩
end

theorem look_g (ps : PL) (k : Int) : look ps k = glook ps k := rfl
theorem got_g (ps : PL) (k : Int) : got ps k = ggot ps k := by
  unfold got ggot; rw [look_g]; cases glook ps k <;> rfl
theorem put_g (cap : Int) (ps : PL) (k v : Int) : putted cap ps k v = gput cap ps k v := by
  unfold putted gput; rw [look_g]; cases glook ps k <;> rfl
theorem gotA_g (ps : iStrInts.PL) (k : ByteArray) : iStrInts.got ps k = ggot ps k := by
  unfold iStrInts.got ggot
  rw [show iStrInts.look ps k = glook ps k from rfl]
  cases glook ps k <;> rfl
theorem putA_g (cap : Int) (ps : iStrInts.PL) (k : ByteArray) (v : Option Addr × Nat × Nat) : iStrInts.putted cap ps k v = gput cap ps k v := by
  unfold iStrInts.putted gput
  rw [show iStrInts.look ps k = glook ps k from rfl]
  cases glook ps k <;> rfl
theorem gotB_g (ps : iKeyStr.PL) (k : ByteArray × Int) : iKeyStr.got ps k = ggot ps k := by
  unfold iKeyStr.got ggot
  rw [show iKeyStr.look ps k = glook ps k from rfl]
  cases glook ps k <;> rfl
theorem putB_g (cap : Int) (ps : iKeyStr.PL) (k : ByteArray × Int) (v : ByteArray) : iKeyStr.putted cap ps k v = gput cap ps k v := by
  unfold iKeyStr.putted gput
  rw [show iKeyStr.look ps k = glook ps k from rfl]
  cases glook ps k <;> rfl

/-- a value of the first Lru: a row of one int, in a block of its own -/
def IntV (w : World) (v : Option Addr × Nat × Nat) (u : Int) : Prop := ∃ x, v = (some ⟨x, 0, none⟩, 1, 1) ∧ Blk w x 3 #[.int .i64 u]

structure St0 (w0 w : World) (la lb g : Nat) (n : Int) (oa ob : Nat → Prop) (pa : iStrInts.PL) (pu : List (ByteArray × Int)) (pb : iKeyStr.PL) (pc : PL) : Prop where
  fa : iStrInts.Lru w la oa n pa
  vals : GRel id (IntV w) pa pu
  fb : iKeyStr.Lru w lb ob n pb
  fc : RefAt w g n pc
  ab : ∀ x, oa x → ¬ ob x
  by_ : w0.grownBy w none
  na : ∀ x, oa x → w0.heap.size ≤ x
  nb : ∀ x, ob x → w0.heap.size ≤ x
  nc : w0.heap.size ≤ g
def St (w0 w : World) (la lb g : Nat) (n : Int) (pu : List (ByteArray × Int)) (pb : iKeyStr.PL) (pc : PL) : Prop := ∃ oa ob pa, St0 w0 w la lb g n oa ob pa pu pb pc

theorem vals_chg {w w' : World} {S : Nat → Prop} {pa : iStrInts.PL} {pu : List (ByteArray × Int)} (h : GRel id (IntV w) pa pu) (hc : Chg w w' S) (hS : ∀ x u, Blk w x 3 #[.int .i64 u] → ¬ S x) : GRel id (IntV w') pa pu :=
  h.mono fun _ u ⟨x, e, hb⟩ => ⟨x, e, hb.chg hc (hS x u hb)⟩
theorem ref_keep {w w' : World} {S : Nat → Prop} {g : Nat} {c : Int} {qs : PL} (hr : RefAt w g c qs) (hc : Chg w w' S) (hS : ∀ x t cs, w.heap[x]? = some (.cells cs t (0, 0)) → (t = 38 ∨ t = 79) → ¬ S x) : RefAt w' g c qs := by
  refine hr.chg hc fun b t cs hb hh => ⟨?_, ?_⟩
  · rintro rfl; exact hS b _ cs hh (.inl rfl) hb
  · rintro rfl; exact hS b _ cs hh (.inr rfl) hb

section
variable {w0 w w' : World} {la lb g : Nat} {n : Int} {pu : List (ByteArray × Int)} {pb : iKeyStr.PL} {pc : PL}
theorem St.by_ (h : St w0 w la lb g n pu pb pc) : w0.grownBy w none := by obtain ⟨_, _, _, h⟩ := h; exact h.by_
theorem St.by_none (h : St w0 w la lb g n pu pb pc) (hg : w.grownBy w' none) : St w0 w' la lb g n pu pb pc := by
  obtain ⟨oa, ob, pa, h⟩ := h
  exact ⟨oa, ob, pa, h.fa.by_none hg, vals_chg h.vals (Chg.of_none (S := fun _ => False) hg) fun _ _ _ => id, h.fb.by_none hg, h.fc.by_none hg, h.ab, by_trans h.by_ hg (by simp), h.na, h.nb, h.nc⟩

/-- rows of one int stay as they were -/
def Keeps (w w' : World) : Prop := ∀ x u, Blk w x 3 #[.int .i64 u] → Blk w' x 3 #[.int .i64 u]
theorem St0.didA {oa ob : Nat → Prop} {pa pa' : iStrInts.PL} {v : Value} {e : Ending} (h : St0 w0 w la lb g n oa ob pa pu pb pc) (hd : iStrInts.Did w la oa n pa' v e w') :
    e = .returned v ∧ ∀ {pu'}, GRel id (IntV w') pa' pu' → St w0 w' la lb g n pu' pb pc := by
  obtain ⟨rfl, hc, own', h', hsub⟩ := hd
  refine ⟨rfl, fun {pu'} hv => ?_⟩
  have hsz := h.by_.size
  refine ⟨own', ob, pa', h', hv, h.fb.chg hc fun x hx hx2 => h.ab x hx2 hx, ref_keep h.fc hc ?_, ?_, ?_, ?_, h.nb, h.nc⟩
  · rintro x t cs hb (rfl | rfl)
    · exact h.fa.apart hb (by decide) (by decide)
    · exact h.fa.apart hb (by decide) (by decide)
  · intro x hx hx2
    rcases hsub x hx with h1 | h1
    · exact h.ab x h1 hx2
    · have := h.fb.lt x hx2; omega
  · have : Chg w0 w' oa := (Chg.of_none (S := oa) h.by_).trans hc fun k hk => .inl hk
    exact this.none_ h.na
  · intro x hx
    rcases hsub x hx with h1 | h1
    · exact h.na x h1
    · omega
theorem St0.didB {oa ob : Nat → Prop} {pa : iStrInts.PL} {pb' : iKeyStr.PL} {v : Value} {e : Ending} (h : St0 w0 w la lb g n oa ob pa pu pb pc) (hd : iKeyStr.Did w lb ob n pb' v e w') :
    e = .returned v ∧ St w0 w' la lb g n pu pb' pc := by
  obtain ⟨rfl, hc, own', h', hsub⟩ := hd
  have hsz := h.by_.size
  refine ⟨rfl, oa, own', pa, h.fa.chg hc fun x hx hx2 => h.ab x hx hx2, vals_chg h.vals hc fun x u hb => h.fb.apart hb (by decide) (by decide), h', ref_keep h.fc hc ?_, ?_, ?_, h.na, ?_, h.nc⟩
  · rintro x t cs hb (rfl | rfl)
    · exact h.fb.apart hb (by decide) (by decide)
    · exact h.fb.apart hb (by decide) (by decide)
  · intro x hx hx2
    rcases hsub x hx2 with h1 | h1
    · exact h.ab x hx h1
    · have := h.fa.lt x hx; omega
  · have : Chg w0 w' ob := (Chg.of_none (S := ob) h.by_).trans hc fun k hk => .inl hk
    exact this.none_ h.nb
  · intro x hx
    rcases hsub x hx with h1 | h1
    · exact h.nb x h1
    · omega
theorem St.didC {pc' : PL} {v : Value} {e : Ending} (h : St w0 w la lb g n pu pb pc) (hd : RDid w g n pc' v e w') : e = .returned v ∧ St w0 w' la lb g n pu pb pc' := by
  obtain ⟨oa, ob, pa, h⟩ := h
  obtain ⟨rfl, k1, k2⟩ := hd
  obtain ⟨rv, hb, _⟩ := h.fc
  have hc : Chg w w' (fun b => b = g) := Chg.of_by k2 (by simp)
  refine ⟨rfl, oa, ob, pa, h.fa.chg hc ?_, vals_chg h.vals hc ?_, h.fb.chg hc ?_, k1, h.ab, by_trans h.by_ k2 (fun y hy => .inr (by cases hy; exact h.nc)), h.na, h.nb, h.nc⟩
  · rintro x hx rfl
    exact h.fa.apart hb (by decide) (by decide) hx
  · rintro x u hx rfl
    exact hx.ne_ hb (by decide) rfl
  · rintro x hx rfl
    exact h.fb.apart hb (by decide) (by decide) hx

theorem St.putA {k : ByteArray} {u : Int} {x : Nat} (h : St w0 w la lb g n pu pb pc) (hk : iStrInts.WfI k) (hn : pu.length < 1000000) (hx : Blk w x 3 #[.int .i64 u]) :
    Calls Try.prog 22 #[.pointer (some ⟨la, 0, none⟩), .string k, .slice (some ⟨x, 0, none⟩) 1 1] w fun e w' => e = .returned (.tuple #[]) ∧ St w0 w' la lb g n (gput n pu k u) pb pc := by
  obtain ⟨oa, ob, pa, h⟩ := h
  refine (iStrInts.put_any w la oa n k (some ⟨x, 0, none⟩, 1, 1) pa h.fa hk (by rw [h.vals.len]; exact hn)).mono fun e w' hd => ?_
  have hc := hd.2.1
  obtain ⟨he, hs⟩ := h.didA hd
  refine ⟨he, hs ?_⟩
  rw [putA_g]
  have hA : ∀ x u, Blk w x 3 #[.int .i64 u] → ¬ oa x := fun x u hb => h.fa.apart hb (by decide) (by decide)
  exact GRel.put (f := id) (vals_chg h.vals hc hA) (fun _ _ e => e) ⟨x, rfl, hx.chg hc (hA x u hx)⟩
/-- what a look in the first Lru answers -/
def GotA (w : World) (o : Option Int) (V : Value) (b : Bool) : Prop :=
  match o with
  | some u => b = true ∧ ∃ x, V = .slice (some ⟨x, 0, none⟩) 1 1 ∧ Blk w x 3 #[.int .i64 u]
  | none => b = false ∧ V = .slice none 0 0
theorem St.getA {k : ByteArray} (h : St w0 w la lb g n pu pb pc) (hk : iStrInts.WfI k) :
    Calls Try.prog 24 #[.pointer (some ⟨la, 0, none⟩), .string k] w fun e w' => ∃ V b, e = .returned (.tuple #[V, .bool b]) ∧ GotA w' (glook pu k) V b ∧ St w0 w' la lb g n (ggot pu k) pb pc := by
  obtain ⟨oa, ob, pa, h⟩ := h
  refine (iStrInts.get_any w la oa n k pa h.fa hk).mono fun e w' hd => ?_
  have hc := hd.2.1
  obtain ⟨he, hs⟩ := h.didA hd
  have hA : ∀ x u, Blk w x 3 #[.int .i64 u] → ¬ oa x := fun x u hb => h.fa.apart hb (by decide) (by decide)
  have hv := vals_chg h.vals hc hA
  have hst : St w0 w' la lb g n (ggot pu k) pb pc := hs (by rw [gotA_g]; exact GRel.got (f := id) hv fun _ _ e => e)
  have hl := GRel.look (k := k) hv fun _ _ e => e
  simp only [id] at hl
  have hG : iStrInts.GetV pa k = match glook pa k with | some v => .tuple #[.slice v.1 v.2.1 v.2.2, .bool true] | none => .tuple #[.slice none 0 0, .bool false] := by
    unfold iStrInts.GetV
    rw [show iStrInts.look pa k = glook pa k from rfl]
    cases glook pa k <;> rfl
  cases e1 : glook pa k <;> cases e2 : glook pu k <;> rw [e1, e2] at hl
  · rw [hG, e1] at he
    exact ⟨_, _, he, ⟨rfl, rfl⟩, hst⟩
  · exact hl.elim
  · exact hl.elim
  · rw [hG, e1] at he
    obtain ⟨x, rfl, hb⟩ := hl
    exact ⟨_, _, he, ⟨rfl, x, rfl, hb⟩, hst⟩
theorem St.lenA (h : St w0 w la lb g n pu pb pc) :
    Calls Try.prog 26 #[.pointer (some ⟨la, 0, none⟩)] w fun e w' => e = .returned (.int .i64 (pu.length : Nat)) ∧ w = w' := by
  obtain ⟨oa, ob, pa, h⟩ := h
  have := iStrInts.len_any w la oa n pa h.fa
  rw [h.vals.len] at this
  exact this
theorem St.putB {k : ByteArray × Int} {v : ByteArray} (h : St w0 w la lb g n pu pb pc) (hk : iKeyStr.WfI k) (hn : pb.length < 1000000) :
    Calls Try.prog 23 #[.pointer (some ⟨lb, 0, none⟩), .agg #[.string k.1, .int .i64 k.2], .string v] w fun e w' => e = .returned (.tuple #[]) ∧ St w0 w' la lb g n pu (gput n pb k v) pc := by
  obtain ⟨oa, ob, pa, h⟩ := h
  refine (iKeyStr.put_any w lb ob n k v pb h.fb hk hn).mono fun e w' hd => ?_
  rw [← putB_g]
  exact h.didB hd
theorem St.getB {k : ByteArray × Int} (h : St w0 w la lb g n pu pb pc) (hk : iKeyStr.WfI k) :
    Calls Try.prog 25 #[.pointer (some ⟨lb, 0, none⟩), .agg #[.string k.1, .int .i64 k.2]] w fun e w' => e = .returned (match glook pb k with | some v => .tuple #[.string v, .bool true] | none => .tuple #[.string ⟨#[]⟩, .bool false]) ∧ St w0 w' la lb g n pu (ggot pb k) pc ∧ Keeps w w' := by
  obtain ⟨oa, ob, pa, h⟩ := h
  refine (iKeyStr.get_any w lb ob n k pb h.fb hk).mono fun e w' hd => ?_
  have hG : iKeyStr.GetV pb k = match glook pb k with | some v => .tuple #[.string v, .bool true] | none => .tuple #[.string ⟨#[]⟩, .bool false] := by
    unfold iKeyStr.GetV
    rw [show iKeyStr.look pb k = glook pb k from rfl]
    cases glook pb k <;> rfl
  rw [← hG, ← gotB_g]
  obtain ⟨he, hs⟩ := h.didB hd
  exact ⟨he, hs, fun x u hb => hb.chg hd.2.1 (h.fb.apart hb (by decide) (by decide))⟩
theorem St.lenB (h : St w0 w la lb g n pu pb pc) :
    Calls Try.prog 27 #[.pointer (some ⟨lb, 0, none⟩)] w fun e w' => e = .returned (.int .i64 (pb.length : Nat)) ∧ w = w' := by
  obtain ⟨oa, ob, pa, h⟩ := h
  exact iKeyStr.len_any w lb ob n pb h.fb
theorem St.putC {k v : Int} (h : St w0 w la lb g n pu pb pc) (hd : (pc.map (·.1)).Nodup) (hn : pc.length < 1000000) (hcap : (pc.length : Int) ≤ n) :
    Calls Try.prog 13 #[.pointer (some ⟨g, 0, none⟩), .int .i64 k, .int .i64 v] w fun e w' => e = .returned (.tuple #[]) ∧ St w0 w' la lb g n pu pb (putted n pc k v) := by
  have hr : RefAt w g n pc := by obtain ⟨_, _, _, h⟩ := h; exact h.fc
  exact (rput_any w g n k v pc hr hd hn hcap).mono fun _ _ hq => h.didC hq
theorem St.getC {k : Int} (h : St w0 w la lb g n pu pb pc) (hd : (pc.map (·.1)).Nodup) (hn : pc.length < 1000000) :
    Calls Try.prog 11 #[.pointer (some ⟨g, 0, none⟩), .int .i64 k] w fun e w' => e = .returned (GetV pc k) ∧ St w0 w' la lb g n pu pb (got pc k) ∧ Keeps w w' := by
  have hr : RefAt w g n pc := by obtain ⟨_, _, _, h⟩ := h; exact h.fc
  refine (rget_any w g n k pc hr hd hn).mono fun _ _ hq => ?_
  obtain ⟨he, hs⟩ := h.didC hq
  obtain ⟨rv, hrb, _⟩ := hr
  exact ⟨he, hs, fun x u hb => hb.chg (Chg.of_by (S := fun b => b = g) hq.2.2 (by simp)) (by rintro rfl; exact hb.ne_ hrb (by decide) rfl)⟩
theorem St.cell (h : St w0 w la lb g n pu pb pc) : ∃ A c, w.cell? ⟨g, 1, none⟩ = some (.slice A pc.length c) := by
  obtain ⟨_, _, _, h⟩ := h
  obtain ⟨v, hb, ho⟩ := h.fc
  obtain ⟨A, c, rfl, _⟩ := own_slice ho
  exact ⟨A, c, hb.cell 1⟩
end

/-- how the three lists hang together -/
structure Inv (n : Nat) (pu : List (ByteArray × Int)) (pb : iKeyStr.PL) (pc : PL) : Prop where
  a : GRel nm (fun v u => v = u) pu pc
  b : GRel (fun k => ((⟨#[107, 101, 121]⟩ : ByteArray), k)) (fun v u => v = nm (u.tmod 500 + 500)) pb pc
  ok : ∀ c ∈ pc, 0 ≤ c.1 ∧ c.1 < 1000
  fine : Fine n pc
theorem Inv.start (n : Nat) : Inv n [] [] [] := ⟨trivial, trivial, by simp, ⟨by simp, by simp⟩⟩
section
variable {n : Nat} {pu : List (ByteArray × Int)} {pb : iKeyStr.PL} {pc : PL} {k : Int}
theorem Inv.injA (h : Inv n pu pb pc) (hk : 0 ≤ k ∧ k < 1000) : ∀ c ∈ pc, nm c.1 = nm k → c.1 = k := fun c hc e => nm_inj (h.ok c hc) hk e
theorem Inv.injB : ∀ c ∈ pc, ((⟨#[107, 101, 121]⟩ : ByteArray), c.1) = ((⟨#[107, 101, 121]⟩ : ByteArray), k) → c.1 = k := fun _ _ e => congrArg Prod.snd e
theorem Inv.put (h : Inv n pu pb pc) (hk : 0 ≤ k ∧ k < 1000) (v : Int) : Inv n (gput n pu (nm k) v) (gput n pb (⟨#[107, 101, 121]⟩, k) (nm (v.tmod 500 + 500))) (putted n pc k v) := by
  refine ⟨by rw [put_g]; exact h.a.put (h.injA hk) rfl, by rw [put_g]; exact GRel.put (f := fun k => ((⟨#[107, 101, 121]⟩ : ByteArray), k)) h.b Inv.injB rfl, fun c hc => ?_, h.fine.put k v⟩
  rcases putted_mem h.fine.keys c hc with rfl | hc
  · exact hk
  · exact h.ok c hc
theorem Inv.got (h : Inv n pu pb pc) (hk : 0 ≤ k ∧ k < 1000) : Inv n (ggot pu (nm k)) (ggot pb (⟨#[107, 101, 121]⟩, k)) (got pc k) :=
  ⟨by rw [got_g]; exact h.a.got (h.injA hk), by rw [got_g]; exact GRel.got (f := fun k => ((⟨#[107, 101, 121]⟩ : ByteArray), k)) h.b Inv.injB, fun c hc => h.ok c (got_mem h.fine.keys c hc), h.fine.got k⟩
theorem Inv.lookA (h : Inv n pu pb pc) (hk : 0 ≤ k ∧ k < 1000) : glook pu (nm k) = look pc k := by
  have := h.a.look (h.injA hk)
  rw [look_g]
  cases e1 : glook pu (nm k) <;> cases e2 : glook pc k <;> rw [e1, e2] at this
  · exact (this : False).elim
  · exact (this : False).elim
  · exact congrArg some this
theorem Inv.lookB (h : Inv n pu pb pc) : glook pb (⟨#[107, 101, 121]⟩, k) = (look pc k).map fun u => nm (u.tmod 500 + 500) := by
  have := GRel.look (f := fun k => ((⟨#[107, 101, 121]⟩ : ByteArray), k)) (k := k) h.b Inv.injB
  rw [look_g]
  cases e1 : glook pb (⟨#[107, 101, 121]⟩, k) <;> cases e2 : glook pc k <;> rw [e1, e2] at this
  · rfl
  · exact (this : False).elim
  · exact (this : False).elim
  · exact congrArg some this
end
end Go.Proofs.Ytgjklppmimhgnaa.kinds
