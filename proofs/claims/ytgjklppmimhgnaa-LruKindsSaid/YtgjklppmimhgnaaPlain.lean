/-
  Plain laws on lists of pairs: what a look and a put leave; an Lru of more capacity; what is got was put last.
-/
import Derived.Test.YtgjklppmimhgnaaActs
namespace Go.Proofs.Ytgjklppmimhgnaa

abbrev PL := List (Int × Int)

theorem split_ps (ps : PL) (k : Int) : (∃ l1 v l2, ps = l1 ++ (k, v) :: l2) ∨ (look ps k = none ∧ less ps k = ps ∧ ∀ q ∈ ps, q.1 ≠ k) := by
  by_cases h : ∃ q ∈ ps, q.1 = k
  · obtain ⟨⟨k', v⟩, hq, e⟩ := h
    obtain ⟨l1, l2, h⟩ := List.append_of_mem hq
    simp only at e
    subst e
    exact .inl ⟨l1, v, l2, h⟩
  · have h3 : ∀ q ∈ ps, q.1 ≠ k := fun q hq e => h ⟨q, hq, e⟩
    obtain ⟨e1, e2⟩ := look_none h3
    exact .inr ⟨e1, e2, h3⟩
theorem look_at {l1 l2 : PL} {k v : Int} (h : ((l1 ++ (k, v) :: l2).map (·.1)).Nodup) : look (l1 ++ (k, v) :: l2) k = some v ∧ less (l1 ++ (k, v) :: l2) k = l1 ++ l2 := look_mid h
theorem putted_at {l1 l2 : PL} {cap k u v : Int} (h : ((l1 ++ (k, u) :: l2).map (·.1)).Nodup) : putted cap (l1 ++ (k, u) :: l2) k v = (k, v) :: (l1 ++ l2) := by
  obtain ⟨e1, e2⟩ := look_at h
  unfold putted
  rw [e1, e2]
theorem got_at {l1 l2 : PL} {k u : Int} (h : ((l1 ++ (k, u) :: l2).map (·.1)).Nodup) : got (l1 ++ (k, u) :: l2) k = (k, u) :: (l1 ++ l2) := by
  obtain ⟨e1, e2⟩ := look_at h
  unfold got
  rw [e1, e2]
theorem got_none {ps : PL} {k : Int} (h : look ps k = none) : got ps k = ps := by unfold got; rw [h]
theorem putted_none {ps : PL} {cap k v : Int} (h : look ps k = none) : putted cap ps k v = if cap = 0 then ps else (k, v) :: (if (ps.length : Int) = cap then ps.dropLast else ps) := by unfold putted; rw [h]

theorem mem_of_dropLast {α : Type} {a : α} {l : List α} (h : a ∈ l.dropLast) : a ∈ l := (List.dropLast_sublist l).subset h

theorem take_drop_last {α : Type} {l : List α} {n : Nat} (h : n + 1 ≤ l.length) : (l.take (n + 1)).dropLast = l.take n := by
  rw [List.dropLast_eq_take, List.take_take, List.length_take]
  congr 1
  omega
theorem drop_last_take {α : Type} {l : List α} {n : Nat} (h : n + 1 ≤ l.length) : l.dropLast.take n = l.take n := by
  rw [List.dropLast_eq_take, List.take_take]
  congr 1
  omega

/-- what stays so -/
structure Fine (n : Nat) (ps : PL) : Prop where
  keys : (ps.map (·.1)).Nodup
  len : ps.length ≤ n

theorem nodup_mid {l1 l2 : PL} {k u v : Int} (h : ((l1 ++ (k, u) :: l2).map (·.1)).Nodup) : (((k, v) :: (l1 ++ l2)).map (·.1)).Nodup := by
  have : List.Perm (((k, v) :: (l1 ++ l2)).map (·.1)) ((l1 ++ (k, u) :: l2).map (·.1)) := by
    simp only [List.map_cons, List.map_append]
    exact List.perm_middle.symm
  exact this.nodup_iff.2 h
theorem Fine.got {n : Nat} {ps : PL} (h : Fine n ps) (k : Int) : Fine n (got ps k) := by
  rcases split_ps ps k with ⟨l1, u, l2, rfl⟩ | ⟨h1, h2, h3⟩
  · rw [got_at h.keys]
    refine ⟨nodup_mid h.keys, ?_⟩
    have := h.len
    simp at this ⊢
    omega
  · rw [got_none h1]; exact h
theorem nodup_cons_of {ps : PL} {k v : Int} (h : (ps.map (·.1)).Nodup) (hk : ∀ q ∈ ps, q.1 ≠ k) : (((k, v) :: ps).map (·.1)).Nodup := by
  rw [List.map_cons, List.nodup_cons]
  refine ⟨fun hm => ?_, h⟩
  obtain ⟨q, hq, e⟩ := List.mem_map.1 hm
  exact hk q hq e
theorem Fine.put {n : Nat} {ps : PL} (h : Fine n ps) (k v : Int) : Fine n (putted n ps k v) := by
  rcases split_ps ps k with ⟨l1, u, l2, rfl⟩ | ⟨h1, h2, h3⟩
  · rw [putted_at h.keys]
    refine ⟨nodup_mid h.keys, ?_⟩
    have := h.len
    simp at this ⊢
    omega
  · rw [putted_none h1]
    have hl := h.len
    by_cases h0 : (n : Int) = 0
    · rw [if_pos h0]; exact h
    · rw [if_neg h0]
      by_cases hf : (ps.length : Int) = (n : Int)
      · rw [if_pos hf]
        refine ⟨nodup_cons_of (h.keys.sublist ((List.dropLast_sublist _).map _)) fun q hq => h3 q (mem_of_dropLast hq), ?_⟩
        simp
        omega
      · rw [if_neg hf]
        refine ⟨nodup_cons_of h.keys h3, ?_⟩
        simp
        omega

/-- one of more capacity has all that one of less has -/
theorem more_step (n m : Nat) (ps : PL) (k v : Int) (hd : (ps.map (·.1)).Nodup) (hnm : n ≤ m) (hl : ps.length ≤ m) :
    putted (n : Int) (ps.take n) k v = (putted (m : Int) ps k v).take n := by
  rcases split_ps ps k with ⟨l1, u, l2, rfl⟩ | ⟨h1, h2, h3⟩
  · rw [putted_at hd]
    by_cases hlt : l1.length < n
    · obtain ⟨d, hd1⟩ : ∃ d, n - l1.length = d + 1 := ⟨n - l1.length - 1, by omega⟩
      have ht : (l1 ++ (k, u) :: l2).take n = l1 ++ (k, u) :: l2.take d := by
        rw [List.take_append, List.take_of_length_le (by omega), hd1]
        simp
      have hd' : ((l1 ++ (k, u) :: l2.take d).map (·.1)).Nodup := by
        rw [← ht]; exact hd.sublist ((List.take_sublist _ _).map _)
      rw [ht, putted_at hd']
      obtain ⟨n', rfl⟩ : ∃ n', n = n' + 1 := ⟨n - 1, by omega⟩
      rw [List.take_succ_cons, List.take_append]
      have e1 : n' - l1.length = d := by omega
      have e2 : l1.take n' = l1 := List.take_of_length_le (by omega)
      rw [e1, e2]
    · have ht : (l1 ++ (k, u) :: l2).take n = l1.take n := by
        rw [List.take_append, show n - l1.length = 0 by omega]; simp
      have hk : ∀ q ∈ l1.take n, q.1 ≠ k := by
        intro q hq e
        rw [List.map_append, List.nodup_append] at hd
        exact hd.2.2 q.1 (List.mem_map_of_mem (List.mem_of_mem_take hq)) k (by simp) e
      rw [ht, putted_none (look_none hk).1]
      by_cases h0 : (n : Int) = 0
      · rw [if_pos h0]
        have : n = 0 := by omega
        subst this
        simp
      · rw [if_neg h0, if_pos (by rw [List.length_take]; omega)]
        obtain ⟨n', rfl⟩ : ∃ n', n = n' + 1 := ⟨n - 1, by omega⟩
        have e1 : n' - l1.length = 0 := by omega
        rw [List.take_succ_cons, List.take_append, e1, take_drop_last (by omega)]
        simp
  · have hk : ∀ q ∈ ps.take n, q.1 ≠ k := fun q hq => h3 q (List.mem_of_mem_take hq)
    rw [putted_none h1, putted_none (look_none hk).1]
    by_cases h0 : (n : Int) = 0
    · rw [if_pos h0]
      have : n = 0 := by omega
      subst this
      simp
    · have h0m : ¬ ((m : Int) = 0) := by omega
      rw [if_neg h0, if_neg h0m]
      obtain ⟨n', rfl⟩ : ∃ n', n = n' + 1 := ⟨n - 1, by omega⟩
      rw [List.take_succ_cons]
      congr 1
      by_cases hlen : ps.length < n' + 1
      · rw [if_neg (by rw [List.length_take]; omega), if_neg (by omega), List.take_of_length_le (by omega), List.take_of_length_le (by omega)]
      · rw [if_pos (by rw [List.length_take]; omega), take_drop_last (by omega)]
        by_cases hf : (ps.length : Int) = (m : Int)
        · rw [if_pos hf, drop_last_take (by omega)]
        · rw [if_neg hf]

/-! ### what is got was put last -/
def actAt (l : List Act3) (j : Nat) : Act3 := l.getD j (true, 0, 0)
def stepA (n : Int) (ps : PL) (a : Act3) : PL := if a.1 then got ps a.2.1 else putted n ps a.2.1 a.2.2
def runL (n : Int) (l : List Act3) : Nat → PL
  | 0 => []
  | j + 1 => stepA n (runL n l j) (actAt l j)
/-- back from act j to the last put under K: the other keys on the way -/
def scanL (l : List Act3) (K : Int) : Nat → List Int → Option Nat × List Int
  | 0, o => (none, o)
  | j + 1, o => if (actAt l j).2.1 = K then (if (actAt l j).1 then scanL l K j o else (some j, o)) else scanL l K j (if (actAt l j).2.1 ∈ o then o else o ++ [(actAt l j).2.1])

theorem runL_fine (n : Nat) (l : List Act3) : ∀ j, Fine n (runL n l j)
  | 0 => ⟨by simp [runL], by simp [runL]⟩
  | j + 1 => by
    have ih := runL_fine n l j
    unfold runL stepA
    split
    · exact ih.got _
    · exact ih.put _ _
theorem runL_len (n : Nat) (l : List Act3) : ∀ j, (runL n l j).length ≤ j
  | 0 => by simp [runL]
  | j + 1 => by
    have ih := runL_len n l j
    have hf := runL_fine n l j
    unfold runL stepA
    split
    · rcases split_ps (runL n l j) (actAt l j).2.1 with ⟨l1, u, l2, e⟩ | ⟨h1, h2, h3⟩
      · rw [e] at ih hf ⊢
        rw [got_at hf.keys]
        simp at ih ⊢
        omega
      · rw [got_none h1]; omega
    · rcases split_ps (runL n l j) (actAt l j).2.1 with ⟨l1, u, l2, e⟩ | ⟨h1, h2, h3⟩
      · rw [e] at ih hf ⊢
        rw [putted_at hf.keys]
        simp at ih ⊢
        omega
      · rw [putted_none h1]
        split
        · omega
        · split <;> simp <;> omega

theorem scan_fst (l : List Act3) (K : Int) : ∀ (j : Nat) (o o' : List Int), (scanL l K j o).1 = (scanL l K j o').1
  | 0, _, _ => rfl
  | j + 1, o, o' => by
    unfold scanL
    split
    · split
      · exact scan_fst l K j o o'
      · rfl
    · exact scan_fst l K j _ _
theorem scan_mem (l : List Act3) (K x : Int) : ∀ (j : Nat) (o : List Int), x ∈ (scanL l K j o).2 ↔ x ∈ o ∨ x ∈ (scanL l K j []).2
  | 0, o => by simp [scanL]
  | j + 1, o => by
    unfold scanL
    split
    · split
      · exact scan_mem l K x j o
      · simp
    · rw [scan_mem l K x j, scan_mem l K x j (if (actAt l j).2.1 ∈ ([] : List Int) then [] else [] ++ [(actAt l j).2.1])]
      by_cases h : (actAt l j).2.1 ∈ o
      · simp only [if_pos h]
        simp
        constructor
        · rintro (h1 | h1) <;> simp [h1]
        · rintro (h1 | h1 | h1)
          · simp [h1]
          · left; rw [h1]; exact h
          · simp [h1]
      · simp only [if_neg h]
        simp [or_assoc]
theorem scan_nodup (l : List Act3) (K : Int) : ∀ (j : Nat) (o : List Int), o.Nodup → (scanL l K j o).2.Nodup
  | 0, _, h => h
  | j + 1, o, h => by
    unfold scanL
    split
    · split
      · exact scan_nodup l K j o h
      · exact h
    · refine scan_nodup l K j _ ?_
      split
      · exact h
      · rename_i hx
        rw [List.nodup_append]
        refine ⟨h, by simp, fun a ha b hb => ?_⟩
        simp at hb
        subst hb
        exact fun e => hx (e ▸ ha)

theorem len_of_subset : ∀ {a b : List Int}, a.Nodup → (∀ x ∈ a, x ∈ b) → a.length ≤ b.length
  | [], _, _, _ => by simp
  | x :: a, b, hd, hs => by
    have hx := hs x (by simp)
    obtain ⟨b1, b2, rfl⟩ := List.append_of_mem hx
    rw [List.nodup_cons] at hd
    have := len_of_subset (a := a) (b := b1 ++ b2) hd.2 (fun y hy => by
      have := hs y (by simp [hy])
      simp at this ⊢
      rcases this with h | h | h
      · exact .inl h
      · exact absurd (h ▸ hy) hd.1
      · exact .inr h)
    simp at this ⊢
    omega

/-- what holds of a key behind j acts -/
def LastInv (n : Nat) (l : List Act3) (j : Nat) (K : Int) : Prop :=
  match (scanL l K j []).1 with
  | none => look (runL n l j) K = none
  | some p => (∃ pre post, runL n l j = pre ++ (K, (actAt l p).2.2) :: post ∧ ∀ q ∈ pre, q.1 ∈ (scanL l K j []).2) ∨ (look (runL n l j) K = none ∧ n ≤ (scanL l K j []).2.length)

theorem look_none_iff {ps : PL} {k : Int} : look ps k = none ↔ ∀ q ∈ ps, q.1 ≠ k := by
  refine ⟨fun h q hq e => ?_, fun h => (look_none h).1⟩
  unfold look at h
  rw [Option.map_eq_none_iff, List.find?_eq_none] at h
  exact h q hq (by simpa using e)

theorem got_mem {ps : PL} {k : Int} (hd : (ps.map (·.1)).Nodup) : ∀ q ∈ got ps k, q ∈ ps := by
  intro q hq
  rcases split_ps ps k with ⟨l1, u, l2, rfl⟩ | ⟨h1, h2, h3⟩
  · rw [got_at hd] at hq
    simp at hq ⊢
    rcases hq with h | h | h <;> simp [h]
  · rw [got_none h1] at hq; exact hq
theorem putted_mem {ps : PL} {cap k v : Int} (hd : (ps.map (·.1)).Nodup) : ∀ q ∈ putted cap ps k v, q = (k, v) ∨ q ∈ ps := by
  intro q hq
  rcases split_ps ps k with ⟨l1, u, l2, rfl⟩ | ⟨h1, h2, h3⟩
  · rw [putted_at hd] at hq
    simp at hq ⊢
    rcases hq with h | h | h <;> simp [h]
  · rw [putted_none h1] at hq
    split at hq
    · exact .inr hq
    · rcases List.mem_cons.1 hq with h | h
      · exact .inl h
      · split at h
        · exact .inr (mem_of_dropLast h)
        · exact .inr h

theorem less_app (a b : PL) (k : Int) : less (a ++ b) k = less a k ++ less b k := List.filter_append ..
theorem less_other {a : PL} {k K v : Int} (h : K ≠ k) : less ((K, v) :: a) k = (K, v) :: less a k := by
  unfold less
  rw [List.filter_cons_of_pos (by simpa using h)]
theorem less_mem {a : PL} {k : Int} : ∀ q ∈ less a k, q ∈ a := fun _ hq => (List.mem_filter.1 hq).1

theorem last_inv (n : Nat) (l : List Act3) : ∀ j K, LastInv n l j K
  | 0, K => by simp [LastInv, scanL, runL, look]
  | j + 1, K => by
    have ih := last_inv n l j K
    have hf := runL_fine n l j
    obtain ⟨b, k', v', ha⟩ : ∃ b k' v', actAt l j = (b, k', v') := ⟨_, _, _, rfl⟩
    unfold LastInv at ih ⊢
    have hrun : runL n l (j + 1) = if b then got (runL n l j) k' else putted n (runL n l j) k' v' := by
      show stepA n (runL n l j) (actAt l j) = _
      rw [ha]
      rfl
    generalize runL n l j = st at *
    by_cases hk : k' = K
    · subst hk
      cases b with
      | true =>
        have hs : scanL l k' (j + 1) [] = scanL l k' j [] := by conv => lhs; unfold scanL; rw [ha]; simp
        rw [hs, hrun]
        simp only [if_true]
        cases hp : (scanL l k' j []).1 with
        | none =>
          rw [hp] at ih
          simp only at ih ⊢
          rw [got_none ih]; exact ih
        | some p =>
          rw [hp] at ih
          simp only at ih ⊢
          rcases ih with ⟨pre, post, rfl, h2⟩ | ⟨h1, h2⟩
          · rw [got_at hf.keys]
            exact .inl ⟨[], pre ++ post, rfl, by simp⟩
          · rw [got_none h1]; exact .inr ⟨h1, h2⟩
      | false =>
        have hs : scanL l k' (j + 1) [] = (some j, []) := by conv => lhs; unfold scanL; rw [ha]; simp
        rw [hs, hrun]
        simp only [ha]
        simp only [Bool.false_eq_true, if_false]
        rcases split_ps st k' with ⟨l1, u, l2, rfl⟩ | ⟨h1, h2, h3⟩
        · rw [putted_at hf.keys]
          exact .inl ⟨[], l1 ++ l2, rfl, by simp⟩
        · rw [putted_none h1]
          by_cases h0 : (n : Int) = 0
          · rw [if_pos h0]
            exact .inr ⟨h1, by simp; omega⟩
          · rw [if_neg h0]
            exact .inl ⟨[], _, rfl, by simp⟩
    · have hs : scanL l K (j + 1) [] = scanL l K j [k'] := by conv => lhs; unfold scanL; rw [ha]; simp [hk]
      rw [hs, scan_fst l K j [k'] [], hrun]
      have hmem : ∀ x, x ∈ (scanL l K j [k']).2 ↔ x = k' ∨ x ∈ (scanL l K j []).2 := fun x => by rw [scan_mem l K x j [k']]; simp
      have hnd : (scanL l K j [k']).2.Nodup := scan_nodup l K j [k'] (by simp)
      have hnd0 : (scanL l K j []).2.Nodup := scan_nodup l K j [] (by simp)
      have hlen : (scanL l K j []).2.length ≤ (scanL l K j [k']).2.length := len_of_subset hnd0 fun x hx => (hmem x).2 (.inr hx)
      generalize (scanL l K j [k']).2 = o' at *
      generalize (scanL l K j []).2 = o at *
      have gone : look st K = none → look (if b then got st k' else putted n st k' v') K = none := by
        intro h
        rw [look_none_iff] at h ⊢
        intro q hq
        cases b with
        | true => exact h q (got_mem hf.keys q hq)
        | false =>
          rcases putted_mem hf.keys q hq with rfl | hq
          · exact hk
          · exact h q hq
      cases hp : (scanL l K j []).1 with
      | none =>
        rw [hp] at ih
        simp only at ih ⊢
        exact gone ih
      | some p =>
        rw [hp] at ih
        simp only at ih ⊢
        rcases ih with ⟨pre, post, rfl, h2⟩ | ⟨h1, h2⟩
        · -- still there
          have front : ∀ u, (∃ l1 x l2, pre ++ (K, (actAt l p).2.2) :: post = l1 ++ (k', x) :: l2 ∧ True) → ∃ pre' post', (k', u) :: less (pre ++ (K, (actAt l p).2.2) :: post) k' = pre' ++ (K, (actAt l p).2.2) :: post' ∧ ∀ q ∈ pre', q.1 ∈ o' := by
            intro u _
            refine ⟨(k', u) :: less pre k', less post k', ?_, ?_⟩
            · rw [less_app, less_other (Ne.symm hk)]; rfl
            · intro q hq
              rcases List.mem_cons.1 hq with rfl | hq
              · exact (hmem _).2 (.inl rfl)
              · exact (hmem _).2 (.inr (h2 q (less_mem q hq)))
          cases b with
          | true =>
            simp only [if_true]
            rcases split_ps (pre ++ (K, (actAt l p).2.2) :: post) k' with ⟨l1, u, l2, e⟩ | ⟨g1, g2, g3⟩
            · have hg : got (pre ++ (K, (actAt l p).2.2) :: post) k' = (k', u) :: less (pre ++ (K, (actAt l p).2.2) :: post) k' := by
                have hk' := hf.keys
                rw [e] at hk' ⊢
                rw [got_at hk', (look_at hk').2]
              rw [hg]
              exact .inl (front u ⟨l1, u, l2, e, trivial⟩)
            · rw [got_none g1]
              exact .inl ⟨pre, post, rfl, fun q hq => (hmem _).2 (.inr (h2 q hq))⟩
          | false =>
            simp only [Bool.false_eq_true, if_false]
            rcases split_ps (pre ++ (K, (actAt l p).2.2) :: post) k' with ⟨l1, u, l2, e⟩ | ⟨g1, g2, g3⟩
            · have hg : putted n (pre ++ (K, (actAt l p).2.2) :: post) k' v' = (k', v') :: less (pre ++ (K, (actAt l p).2.2) :: post) k' := by
                have hk' := hf.keys
                rw [e] at hk' ⊢
                rw [putted_at hk', (look_at hk').2]
              rw [hg]
              exact .inl (front v' ⟨l1, u, l2, e, trivial⟩)
            · rw [putted_none g1]
              by_cases h0 : (n : Int) = 0
              · rw [if_pos h0]
                exact .inl ⟨pre, post, rfl, fun q hq => (hmem _).2 (.inr (h2 q hq))⟩
              · rw [if_neg h0]
                have hpre : ∀ q ∈ (k', v') :: pre, q.1 ∈ o' := by
                  intro q hq
                  rcases List.mem_cons.1 hq with rfl | hq
                  · exact (hmem _).2 (.inl rfl)
                  · exact (hmem _).2 (.inr (h2 q hq))
                by_cases hfull : ((pre ++ (K, (actAt l p).2.2) :: post).length : Int) = (n : Int)
                · rw [if_pos hfull]
                  rcases List.eq_nil_or_concat post with rfl | ⟨post', z, rfl⟩
                  · right
                    rw [List.dropLast_concat]
                    refine ⟨?_, ?_⟩
                    · rw [look_none_iff]
                      intro q hq
                      rcases List.mem_cons.1 hq with rfl | hq
                      · exact hk
                      · intro e
                        have := hf.keys
                        rw [List.map_append, List.nodup_append] at this
                        exact this.2.2 q.1 (List.mem_map_of_mem hq) K (by simp) e
                    · have hcount : (((k', v') :: pre).map (·.1)).length ≤ o'.length := by
                        refine len_of_subset (nodup_cons_of ?_ ?_) ?_
                        · have := hf.keys
                          rw [List.map_append, List.nodup_append] at this
                          exact this.1
                        · exact fun q hq => g3 q (by simp [hq])
                        · intro x hx
                          obtain ⟨q, hq, rfl⟩ := List.mem_map.1 hx
                          exact hpre q hq
                      simp at hcount hfull
                      omega
                  · left
                    refine ⟨(k', v') :: pre, post', ?_, hpre⟩
                    rw [List.concat_eq_append, show pre ++ (K, (actAt l p).2.2) :: (post' ++ [z]) = (pre ++ (K, (actAt l p).2.2) :: post') ++ [z] by simp, List.dropLast_concat]
                    rfl
                · rw [if_neg hfull]
                  exact .inl ⟨(k', v') :: pre, post, rfl, hpre⟩
        · exact .inr ⟨gone h1, Nat.le_trans h2 hlen⟩

end Go.Proofs.Ytgjklppmimhgnaa
