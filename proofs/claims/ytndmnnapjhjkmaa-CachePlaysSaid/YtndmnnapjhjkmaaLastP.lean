/-
  A cache beside a map of what was put last: plain laws; and such a map in memory.
-/
import Derived.Test.YtndmnnapjhjkmaaWorks
import Derived.Maps.OwnOps
namespace Go.Proofs.Ytndmnnapjhjkmaa
open Go.RowKit iStrRes

theorem nodup_sub_len {α : Type} : ∀ (l m : List α), l.Nodup → (∀ x ∈ l, x ∈ m) → l.length ≤ m.length
  | [], _, _, _ => Nat.zero_le _
  | x :: l, m, h, hs => by
    obtain ⟨m1, m2, rfl⟩ := List.append_of_mem (hs x (by simp))
    rw [List.nodup_cons] at h
    have := nodup_sub_len l (m1 ++ m2) h.2 fun y hy => by
      have h1 := hs y (by simp [hy])
      simp only [List.mem_append, List.mem_cons] at h1 ⊢
      rcases h1 with h1 | rfl | h1
      · exact .inl h1
      · exact absurd hy h.1
      · exact .inr h1
    simp only [List.length_append, List.length_cons] at this ⊢
    omega

section
variable {α : Type}
theorem glook_cons (q : ByteArray × α) (ps : List (ByteArray × α)) (k : ByteArray) : glook (q :: ps) k = if q.1 = k then some q.2 else glook ps k := by
  unfold glook
  rw [List.find?_cons]
  by_cases h : q.1 = k <;> simp [h]
theorem glook_less {ps : List (ByteArray × α)} {k k' : ByteArray} (h : k' ≠ k) : glook (gless ps k) k' = glook ps k' := by
  induction ps with
  | nil => rfl
  | cons q ps ih =>
    unfold gless at ih ⊢
    rw [List.filter_cons]
    by_cases hq : q.1 = k
    · rw [if_neg (by simp [hq]), ih, glook_cons, if_neg (by rw [hq]; exact fun e => h e.symm)]
    · rw [if_pos (by simp [hq]), glook_cons, glook_cons, ih]
theorem gless_len {ps : List (ByteArray × α)} {k : ByteArray} {v : α} (h : glook ps k = some v) : (gless ps k).length + 1 ≤ ps.length := by
  induction ps with
  | nil => simp [glook] at h
  | cons q ps ih =>
    unfold gless at ih ⊢
    rw [List.filter_cons]
    by_cases hq : q.1 = k
    · rw [if_neg (by simp [hq])]
      have := List.length_filter_le (fun q : ByteArray × α => !decide (q.1 = k)) ps
      simp only [List.length_cons]
      omega
    · rw [if_pos (by simp [hq])]
      rw [glook_cons, if_neg hq] at h
      have := ih h
      simp only [List.length_cons]
      omega
theorem gless_len_eq {ps : List (ByteArray × α)} {k : ByteArray} {v : α} (hn : (ps.map (·.1)).Nodup) (h : glook ps k = some v) : (gless ps k).length + 1 = ps.length := by
  induction ps with
  | nil => simp [glook] at h
  | cons q ps ih =>
    rw [List.map_cons, List.nodup_cons] at hn
    unfold gless at ih ⊢
    rw [List.filter_cons]
    by_cases hq : q.1 = k
    · rw [if_neg (by simp [hq])]
      have : ps.filter (fun q : ByteArray × α => !decide (q.1 = k)) = ps := List.filter_eq_self.2 fun x hx => by
        have : x.1 ≠ k := fun e => hn.1 (by rw [hq, ← e]; exact List.mem_map_of_mem hx)
        simp [this]
      rw [this]
      rfl
    · rw [if_pos (by simp [hq])]
      rw [glook_cons, if_neg hq] at h
      have := ih hn.2 h
      simp only [List.length_cons]
      omega
theorem gless_nodup {ps : List (ByteArray × α)} (k : ByteArray) (hn : (ps.map (·.1)).Nodup) : ((gless ps k).map (·.1)).Nodup ∧ k ∉ (gless ps k).map (·.1) := by
  refine ⟨List.Sublist.nodup (List.filter_sublist.map _) hn, ?_⟩
  simp only [gless, List.mem_map, List.mem_filter, not_exists, not_and]
  rintro q ⟨_, h⟩ rfl
  simp at h
theorem gless_none {ps : List (ByteArray × α)} {k : ByteArray} (h : glook ps k = none) : gless ps k = ps := by
  induction ps with
  | nil => rfl
  | cons q ps ih =>
    rw [glook_cons] at h
    by_cases hq : q.1 = k
    · rw [if_pos hq] at h; cases h
    · rw [if_neg hq] at h
      have := ih h
      unfold gless at this ⊢
      rw [List.filter_cons, if_pos (by simp [hq]), this]
theorem glook_some_iff {ps : List (ByteArray × α)} {k : ByteArray} : (∃ v, glook ps k = some v) ↔ k ∈ ps.map (·.1) := by
  induction ps with
  | nil => simp [glook]
  | cons q ps ih =>
    rw [glook_cons]
    by_cases hq : q.1 = k
    · simp [hq]
    · rw [if_neg hq, ih]
      simp only [List.map_cons, List.mem_cons]
      exact ⟨.inr, fun h => h.resolve_left fun e => hq e.symm⟩
theorem glook_drop {ps : List (ByteArray × α)} {k : ByteArray} {v : α} (h : glook ps.dropLast k = some v) : glook ps k = some v := by
  induction ps with
  | nil => simpa using h
  | cons q ps ih =>
    cases ps with
    | nil => simp [glook] at h
    | cons q2 ps =>
      rw [List.dropLast_cons_cons, glook_cons] at h
      rw [glook_cons]
      by_cases hq : q.1 = k
      · rw [if_pos hq] at h ⊢; exact h
      · rw [if_neg hq] at h ⊢; exact ih h
theorem glook_ggot (ps : List (ByteArray × α)) (k k' : ByteArray) : glook (ggot ps k) k' = glook ps k' := by
  unfold ggot
  cases h : glook ps k with
  | none => rfl
  | some v =>
    simp only
    rw [glook_cons]
    by_cases e : k = k'
    · subst e; rw [if_pos rfl, h]
    · rw [if_neg e, glook_less (Ne.symm e)]
theorem ggot_len (ps : List (ByteArray × α)) (k : ByteArray) : (ggot ps k).length ≤ ps.length := by
  unfold ggot
  cases h : glook ps k with
  | none => exact Nat.le_refl _
  | some v => exact gless_len h
end

/-- what was put last, behind a put -/
def mput (mp : List (ByteArray × Nat)) (k : ByteArray) (n : Nat) : List (ByteArray × Nat) := (k, n) :: gless mp k
theorem glook_mput (mp : List (ByteArray × Nat)) (k k' : ByteArray) (n : Nat) : glook (mput mp k n) k' = if k = k' then some n else glook mp k' := by
  unfold mput
  rw [glook_cons]
  by_cases e : k = k'
  · rw [if_pos e, if_pos e]
  · rw [if_neg e, if_neg e, glook_less (Ne.symm e)]

structure Fine (C : Nat) (ps mp : List (ByteArray × Nat)) : Prop where
  mkeys : (mp.map (·.1)).Nodup
  sub : ∀ k n, glook ps k = some n → glook mp k = some n
  le : ps.length ≤ C
  all : mp.length ≤ C → ∀ k n, glook mp k = some n → glook ps k = some n
theorem Fine.nil (C : Nat) : Fine C [] [] := ⟨by simp, fun _ _ h => h, Nat.zero_le _, fun _ _ _ h => h⟩
theorem Fine.lens {C : Nat} {ps mp : List (ByteArray × Nat)} (h : Fine C ps mp) (hk : (ps.map (·.1)).Nodup) : ps.length ≤ mp.length := by
  have := nodup_sub_len (ps.map (·.1)) (mp.map (·.1)) hk fun k hm => by
    obtain ⟨v, hv⟩ := glook_some_iff.2 hm
    exact glook_some_iff.1 ⟨v, h.sub k v hv⟩
  simpa using this
theorem Fine.got {C : Nat} {ps mp : List (ByteArray × Nat)} (h : Fine C ps mp) (k : ByteArray) : Fine C (ggot ps k) mp :=
  ⟨h.mkeys, fun k' n e => h.sub k' n (by rw [← glook_ggot ps k]; exact e), Nat.le_trans (ggot_len ps k) h.le, fun hl k' n e => by rw [glook_ggot]; exact h.all hl k' n e⟩
theorem Fine.put {C : Nat} {ps mp : List (ByteArray × Nat)} (h : Fine C ps mp) (hk : (ps.map (·.1)).Nodup) (k : ByteArray) (n : Nat) : Fine C (gput (C : Int) ps k n) (mput mp k n) := by
  have hl := h.lens hk
  have hmk : ((mput mp k n).map (·.1)).Nodup := by
    unfold mput
    rw [List.map_cons, List.nodup_cons]
    exact ⟨(gless_nodup k h.mkeys).2, (gless_nodup k h.mkeys).1⟩
  have hml : (mput mp k n).length = (gless mp k).length + 1 := rfl
  unfold gput
  cases e : glook ps k with
  | some v =>
    have h2 := gless_len_eq h.mkeys (h.sub k v e)
    refine ⟨hmk, fun k' n' h1 => ?_, Nat.le_trans (gless_len e) h.le, fun hm k' n' h1 => ?_⟩
    · rw [glook_mput]
      simp only at h1
      rw [glook_cons] at h1
      by_cases ek : k = k'
      · rw [if_pos ek] at h1 ⊢; exact h1
      · rw [if_neg ek] at h1 ⊢
        rw [glook_less (Ne.symm ek)] at h1
        exact h.sub k' n' h1
    · rw [glook_mput] at h1
      simp only
      rw [glook_cons]
      by_cases ek : k = k'
      · rw [if_pos ek] at h1 ⊢; exact h1
      · rw [if_neg ek] at h1 ⊢
        rw [glook_less (Ne.symm ek)]
        exact h.all (by omega) k' n' h1
  | none =>
    have hnew : (mput mp k n).length ≤ C → glook mp k = none ∧ mp.length < C := by
      intro hm
      cases e2 : glook mp k with
      | none =>
        rw [hml, gless_none e2] at hm
        exact ⟨rfl, by omega⟩
      | some v =>
        have h2 := gless_len_eq h.mkeys e2
        have h3 := h.all (by omega) k v e2
        rw [e] at h3; cases h3
    by_cases h0 : (C : Int) = 0
    · simp only [if_pos h0]
      refine ⟨hmk, fun k' n' h1 => ?_, h.le, fun hm => ?_⟩
      · have : k' ≠ k := by rintro rfl; rw [e] at h1; cases h1
        rw [glook_mput, if_neg (Ne.symm this)]
        exact h.sub k' n' h1
      · have := (hnew hm).2; omega
    · simp only [if_neg h0]
      by_cases h1 : ((ps.length : Nat) : Int) = (C : Int)
      · simp only [if_pos h1]
        refine ⟨hmk, fun k' n' h2 => ?_, ?_, fun hm => ?_⟩
        · rw [glook_mput]
          rw [glook_cons] at h2
          by_cases ek : k = k'
          · rw [if_pos ek] at h2 ⊢; exact h2
          · rw [if_neg ek] at h2 ⊢
            exact h.sub k' n' (glook_drop h2)
        · simp; omega
        · have := (hnew hm).2; omega
      · simp only [if_neg h1]
        refine ⟨hmk, fun k' n' h2 => ?_, ?_, fun hm k' n' h2 => ?_⟩
        · rw [glook_mput]
          rw [glook_cons] at h2
          by_cases ek : k = k'
          · rw [if_pos ek] at h2 ⊢; exact h2
          · rw [if_neg ek] at h2 ⊢
            exact h.sub k' n' h2
        · have := h.le; simp; omega
        · rw [glook_mput] at h2
          rw [glook_cons]
          by_cases ek : k = k'
          · rw [if_pos ek] at h2 ⊢; exact h2
          · rw [if_neg ek] at h2 ⊢
            exact h.all (by have := (hnew hm).2; omega) k' n' h2

theorem CacheAt.keys {w : World} {c : Nat} {M K : Nat → Prop} {cap : Int} {ps : List (ByteArray × Nat)} (h : CacheAt w c M K cap ps) : (ps.map (·.1)).Nodup ∧ ∀ q ∈ ps, WfI q.1 := by
  obtain ⟨l, qs, h1, h2, rfl, h4, h5⟩ := h
  have h6 := h2.wf
  have e : ∀ {β : Type} (f : Ent → β), (gmap f qs).map (·.1) = qs.map (·.1) := fun f => by simp [gmap, Function.comp_def]
  rw [e] at h6 ⊢
  refine ⟨h6.2, fun q hq => ?_⟩
  obtain ⟨x, hx, rfl⟩ := List.mem_map.1 hq
  exact h6.1 (x.1, x.2.rv) (List.mem_map.2 ⟨x, hx, rfl⟩)

/-! ### the map in memory -/
structure LastAt (w : World) (m : Nat) (mp : List (ByteArray × Nat)) (D : DataW Unit) : Prop where
  own : w.ownsMap Try.prog 9 (plainElem Try.prog 5) m mp.length D
  all : ∀ k, WfI k → Maps.has D (kl k) = true → ∃ n, glook mp k = some n
  there : ∀ k n, glook mp k = some n → Maps.has D (kl k) = true ∧ ∀ z, D.atKey (kl k) z = .lit (.int .u8 (n : Int))
  size : Maps.size D = mp.length
  wf : ∀ q ∈ mp, WfI q.1 ∧ q.2 < 256
section
variable {w w' : World} {m : Nat} {mp : List (ByteArray × Nat)} {D : DataW Unit} {S : Nat → Prop}
theorem ownm_chg {n : Nat} (h : w.ownsMap Try.prog 9 (plainElem Try.prog 5) m n D) (hc : Chg w w' S) (hm : ¬ S m) : w'.ownsMap Try.prog 9 (plainElem Try.prog 5) m n D := by
  have hlt := h.lt
  obtain ⟨es, clock, hb, F, hs, hD⟩ := h
  exact ⟨es, clock, (hc.block m hlt hm).trans hb, F, hs, hD⟩
theorem ownm_tight {n : Nat} (h : w.ownsMap Try.prog 9 (plainElem Try.prog 5) m n D) {q : Nat} (hq : Maps.size D ≤ q) : w.ownsMap Try.prog 9 (plainElem Try.prog 5) m q D := by
  obtain ⟨es, clock, hb, F, hs, rfl⟩ := h
  refine ⟨es, clock, hb, F, ?_, rfl⟩
  simpa [Maps.size, length_sorted] using hq
theorem LastAt.chg (h : LastAt w m mp D) (hc : Chg w w' S) (hm : ¬ S m) : LastAt w' m mp D := ⟨ownm_chg h.own hc hm, h.all, h.there, h.size, h.wf⟩
theorem LastAt.lt (h : LastAt w m mp D) : m < w.heap.size := h.own.lt
theorem mem_of_glook {k : ByteArray} {n : Nat} (h : glook mp k = some n) : (k, n) ∈ mp := glook_mem h
theorem LastAt.put (h : LastAt w m mp D) {k : ByteArray} (hk : WfI k) {n : Nat} (hn : n < 256) (hl : mp.length < 1000000) (hmk : (mp.map (·.1)).Nodup) :
    ∃ w', (Instr.mapUpdate 46 (.map (some m)) (.string k) (.int .u8 (n : Int))).run Try.prog w = .ok () w' ∧ (∃ D', LastAt w' m (mput mp k n) D') ∧ w.grownBy w' (some m) := by
  have hwf : (Lit.int .u8 (n : Int)).wf = true := by simp [Lit.wf, IntKind.min, IntKind.max, IntKind.signed, IntKind.bits]; omega
  obtain ⟨w', hrun, hown, hturn⟩ := h.own.store intKeys Try.underlying46 (by unfold maxLen; omega) (kl_of hk) (plainElem_int Try.underlying5 hwf)
  refine ⟨w', hrun, ⟨D.put (kl k) (.lit (.int .u8 (n : Int))), ?_⟩, hturn.grown⟩
  have hml : (mput mp k n).length = (gless mp k).length + 1 := rfl
  have hsz : Maps.size (D.put (kl k) (.lit (.int .u8 (n : Int)))) = (mput mp k n).length := by
    rw [Maps.size_put (h.own.tidy intKeys), hml, h.size]
    cases e : glook mp k with
    | some v =>
      rw [(h.there k v e).1, if_pos rfl]
      exact (gless_len_eq hmk e).symm
    | none =>
      have : Maps.has D (kl k) = false := by
        cases hh : Maps.has D (kl k) with
        | false => rfl
        | true =>
          obtain ⟨v, hv⟩ := h.all k hk hh
          rw [e] at hv; cases hv
      rw [this, gless_none e]
      simp
  refine ⟨ownm_tight hown (by omega), fun k' hk' hh => ?_, fun k' n' h1 => ?_, hsz, fun q hq => ?_⟩
  · rw [glook_mput]
    by_cases e : k' = k
    · exact ⟨n, by rw [if_pos e.symm]⟩
    · rw [if_neg (Ne.symm e)]
      rw [Maps.has_put_other (kl_ne hk' hk e)] at hh
      exact h.all k' hk' hh
  · rw [glook_mput] at h1
    by_cases e : k = k'
    · rw [if_pos e] at h1
      cases h1
      subst e
      exact ⟨Maps.has_put_same h.own.isMap (kl_key k) _, fun z => Maps.atKey_put_same h.own.isMap (kl_key k) _ _⟩
    · rw [if_neg e] at h1
      have hw' := (h.wf _ (glook_mem h1)).1
      rw [Maps.has_put_other (kl_ne hw' hk (Ne.symm e))]
      refine ⟨(h.there k' n' h1).1, fun z => ?_⟩
      rw [Maps.atKey_put_other (kl_ne hw' hk (Ne.symm e))]
      exact (h.there k' n' h1).2 z
  · unfold mput at hq
    rcases List.mem_cons.1 hq with rfl | hq
    · exact ⟨hk, hn⟩
    · exact h.wf q (List.mem_filter.1 hq).1
theorem zeroU8 (w : World) : (zeroValue 5).run Try.prog w = .ok (.int .u8 0) w := by kernel_rfl
theorem LastAt.look (h : LastAt w m mp D) {k : ByteArray} (hk : WfI k) :
    (Instr.lookup 46 (.map (some m)) (.string k) true).run Try.prog w = .ok (match glook mp k with | some n => .tuple #[.int .u8 (n : Int), .bool true] | none => .tuple #[.int .u8 0, .bool false]) w := by
  obtain ⟨v, ps, hrun, hv⟩ := h.own.look_ok intKeys Try.underlying46 (zeroU8 w) (zd := .lit (.int .u8 0)) (zp := []) (plainElem_int Try.underlying5 (by decide)) (kl_of hk)
  obtain ⟨c, rfl, hc, hwc⟩ := plainElem_int_inv Try.underlying5 hv
  have hc1 := congrArg Prod.fst hc
  simp only at hc1
  cases e : glook mp k with
  | some n =>
    rw [(h.there k n e).1] at hrun
    rw [(h.there k n e).2] at hc1
    simp only [DataW.lit.injEq, Lit.int.injEq, true_and] at hc1
    simp only
    rw [hrun, ← hc1]
  | none =>
    have : Maps.has D (kl k) = false := by
      cases hh : Maps.has D (kl k) with
      | false => rfl
      | true =>
        obtain ⟨v, hv⟩ := h.all k hk hh
        rw [e] at hv; cases hv
    rw [this] at hrun
    rw [Maps.atKey_of_not_has this] at hc1
    simp only [DataW.lit.injEq, Lit.int.injEq, true_and] at hc1
    simp only
    rw [hrun, ← hc1]
theorem LastAt.len (h : LastAt w m mp D) (ty : TypeId) : (Builtin.len_ #[46] ty #[.map (some m)]).run Try.prog w = .ok (.int .i64 (mp.length : Nat)) w := by
  have := h.own.len Try.underlying46 ty
  rw [h.size] at this
  exact this
theorem LastAt.made (w : World) : ∃ D, LastAt (w.alloc (.map #[] 0)) w.heap.size [] D := by
  have h : (w.alloc (.map #[] 0)).ownsMap (H := Unit) Try.prog 9 (plainElem Try.prog 5) w.heap.size 0 (.map []) := World.ownsMap_made _ _ _ _
  refine ⟨_, h, fun k _ hk => ?_, fun k n hn => ?_, rfl, fun q hq => by simp at hq⟩
  · simp [Maps.has, DataW.atKey] at hk
  · simp [glook] at hn
end
end Go.Proofs.Ytndmnnapjhjkmaa
