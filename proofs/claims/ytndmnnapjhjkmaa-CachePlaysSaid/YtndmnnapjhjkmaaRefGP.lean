/-
  The document's cache: Put, Get, and the list as the cache's own pairs.
-/
import Derived.Test.YtndmnnapjhjkmaaRefFirst
import Derived.Test.YtndmnnapjhjkmaaCs
namespace Go.Proofs.Ytndmnnapjhjkmaa
open Go.RowKit iStrRes

theorem split_key2 {α : Type} (ps : List (ByteArray × α)) (k : ByteArray) : (∃ l1 v l2, ps = l1 ++ (k, v) :: l2 ∧ (∀ q ∈ l1, q.1 ≠ k) ∧ glook ps k = some v) ∨ ((∀ q ∈ ps, q.1 ≠ k) ∧ glook ps k = none) := by
  induction ps with
  | nil => exact .inr ⟨by simp, rfl⟩
  | cons q ps ih =>
    obtain ⟨a, v⟩ := q
    by_cases h : a = k
    · subst h
      exact .inl ⟨[], v, ps, rfl, by simp, by rw [glook_cons, if_pos rfl]⟩
    · rcases ih with ⟨l1, u, l2, rfl, h1, h2⟩ | ⟨h1, h2⟩
      · refine .inl ⟨(a, v) :: l1, u, l2, rfl, fun q hq => ?_, by rw [glook_cons, if_neg h]; exact h2⟩
        rcases List.mem_cons.1 hq with rfl | hq
        · exact h
        · exact h1 q hq
      · refine .inr ⟨fun q hq => ?_, by rw [glook_cons, if_neg h]; exact h2⟩
        rcases List.mem_cons.1 hq with rfl | hq
        · exact h
        · exact h1 q hq
theorem gless_mid {α : Type} {l1 l2 : List (ByteArray × α)} {k : ByteArray} {v : α} (hk : ∀ q ∈ l1, q.1 ≠ k) (hd : ((l1 ++ (k, v) :: l2).map (·.1)).Nodup) : gless (l1 ++ (k, v) :: l2) k = l1 ++ l2 := by
  unfold gless
  rw [List.filter_append, List.filter_cons, if_neg (by simp)]
  have h1 : l1.filter (fun q => !decide (q.1 = k)) = l1 := List.filter_eq_self.2 fun q hq => by simp [hk q hq]
  have h2 : l2.filter (fun q => !decide (q.1 = k)) = l2 := List.filter_eq_self.2 fun q hq => by
    rw [List.map_append, List.nodup_append] at hd
    have := (List.nodup_cons.1 hd.2.1).1
    have : q.1 ≠ k := fun e => this (by rw [← e]; exact List.mem_map_of_mem (f := (·.1)) hq)
    simp [this]
  rw [h1, h2]
/-- a put and a get of the document's list are the cache's own -/
theorem rput_list {α : Type} {C : Nat} {ps : List (ByteArray × α)} {k : ByteArray} {v : α} (hl : ps.length ≤ C) : ((k, v) :: gless ps k).take C = gput (C : Int) ps k v := by
  unfold gput
  cases h : glook ps k with
  | some u =>
    have := gless_len h
    exact List.take_of_length_le (by simp only [List.length_cons]; omega)
  | none =>
    simp only
    rw [gless_none h]
    by_cases h0 : (C : Int) = 0
    · have : C = 0 := by omega
      subst this
      rw [if_pos (by rfl), List.take_zero]
      exact (List.eq_nil_of_length_eq_zero (by omega)).symm
    · rw [if_neg h0]
      by_cases h1 : ((ps.length : Nat) : Int) = (C : Int)
      · rw [if_pos h1]
        obtain ⟨c, rfl⟩ : ∃ c, C = c + 1 := ⟨C - 1, by omega⟩
        rw [List.take_succ_cons, List.dropLast_eq_take]
        congr 2
        omega
      · rw [if_neg h1]
        exact List.take_of_length_le (by simp only [List.length_cons]; omega)

def RDid (w : World) (r : Nat) (cap : Int) (ps : List (ByteArray × RV)) (v : Value) (e : Ending) (w' : World) : Prop :=
  e = .returned v ∧ RefAt w' r cap ps ∧ w.grownBy w' (some r)

set_option maxRecDepth 100000 in
set_option maxHeartbeats 1000000 in
theorem rput_any (w : World) (r C : Nat) (cap : Int) (hC : max cap 0 = (C : Int)) (k : ByteArray) (rv : RV) (ps : List (ByteArray × RV)) (h : RefAt w r cap ps) (hn : ps.length < 1000000) (hl : ps.length ≤ C) (hd : (ps.map (·.1)).Nodup) :
    Calls Try.prog 10 #[.pointer (some ⟨r, 0, none⟩), .string k, .agg #[.slice rv.d.1 rv.d.2.1 rv.d.2.2, .string rv.p, .bool rv.b, .slice rv.vs.1 rv.vs.2.1 rv.vs.2.2, .slice rv.ts.1 rv.ts.2.1 rv.ts.2.2, .int .u64 rv.c]] w (RDid w r cap (gput (C : Int) ps k rv) (.tuple #[])) := by
  obtain ⟨wb, kb, hW⟩ := valIn w #[.slice rv.d.1 rv.d.2.1 rv.d.2.2, .string rv.p, .bool rv.b, .slice rv.vs.1 rv.vs.2.1 rv.vs.2.2, .slice rv.ts.1 rv.ts.2.1 rv.ts.2.2, .int .u64 rv.c]
  have htake : Calls Try.prog 20 #[.pointer (some ⟨r, 0, none⟩), .string k] wb fun e w' => ∃ z, e = .returned z ∧ RefAt w' r cap (gless ps k) ∧ wb.grownBy w' (some r) ∧ (gless ps k).length < 1000000 := by
    have hb := h.grown hW.2.2.2
    have hlen : (gless ps k).length < 1000000 := Nat.lt_of_le_of_lt (List.length_filter_le _ _) hn
    rcases split_key2 ps k with ⟨l1, u, l2, rfl, h1, h2⟩ | ⟨h1, h2⟩
    · refine (rtake_hit wb r cap k u l1 l2 hb hn h1).mono ?_
      rintro e w' ⟨rfl, h3, h4⟩
      exact ⟨_, rfl, by rw [gless_mid h1 hd]; exact h3, h4, hlen⟩
    · refine (rtake_miss wb r cap k ps hb hn h1).mono ?_
      rintro e w' ⟨rfl, h3, h4⟩
      exact ⟨_, rfl, by rw [gless_none h2]; exact h3, by_of_none h4 _, hlen⟩
  have hrb : r < wb.heap.size := Nat.lt_of_lt_of_le (by obtain ⟨v, hb, _⟩ := h; exact hb.lt) hW.2.2.2.size
  have hkr : kb ≠ r := by
    obtain ⟨v, hb, _⟩ := h.grown hW.2.2.2
    exact fun e => hb.ne_ (e ▸ hW.2.2.1) (by decide) rfl
  have H := Lib.hid (And.intro htake (And.intro hC (And.intro hl hkr)))
  have HW := Lib.hid hW
  clear h hn hl hd hC hW htake hrb hkr
  go_enter Try.func10, Try.ntmps10
  go_wp2_with fail
  rw [HW.out.1, HW.out.2.1]
  refine H.out.1.mono ?_
  rintro e w2 ⟨z, rfl, hR, y2, hlen⟩
  have hb2 := HW.out.2.2.1.grown y2 (fun e => H.out.2.2.2 (by injection e))
  have H2 := Lib.hid (And.intro hR (And.intro y2 (And.intro hlen hb2)))
  clear hR y2 hlen hb2
  have Hs := Lib.hid (sz6 rv)
  go_wp2_with (refine wpList_load_row rfl 38 (.tmp 5) rfl kb rfl 38 #[.slice rv.d.1 rv.d.2.1 rv.d.2.2, .string rv.p, .bool rv.b, .slice rv.vs.1 rv.vs.2.1 rv.vs.2.2, .slice rv.ts.1 rv.ts.2.1 rv.ts.2.2, .int .u64 rv.c] (0, 0) _ H2.out.2.2.2 Try.underlying38 rfl Hs.out ?_)
  refine (rfirst_any w2 r C cap H.out.2.1 k rv _ H2.out.1 H2.out.2.2.1).mono ?_
  rintro e w3 ⟨rfl, hR, y3⟩
  have hfin : RDid w r cap (gput (C : Int) ps k rv) (.tuple #[]) (.returned (.tuple #[])) w3 := by
    refine ⟨rfl, by rw [← rput_list H.out.2.2.1]; exact hR, by_trans (by_trans (by_of_none HW.out.2.2.2 _) H2.out.2.1 (fun _ h => .inl h.symm)) y3 (fun _ h => .inl h.symm)⟩
  have HF := Lib.hid hfin
  clear hfin hR y3
  go_wp2
  go_end0
  exact HF.out

def RGetQ (w : World) (r : Nat) (cap : Int) (ps : List (ByteArray × RV)) (k : ByteArray) (e : Ending) (w' : World) : Prop :=
  RefAt w' r cap (ggot ps k) ∧ w.grownBy w' (some r) ∧
    ((∃ rv, glook ps k = some rv ∧ e = .returned (.tuple #[.agg #[.slice rv.d.1 rv.d.2.1 rv.d.2.2, .string rv.p, .bool rv.b, .slice rv.vs.1 rv.vs.2.1 rv.vs.2.2, .slice rv.ts.1 rv.ts.2.1 rv.ts.2.2, .int .u64 rv.c], .bool true])) ∨
     (glook ps k = none ∧ e = .returned (.tuple #[.agg #[.slice none 0 0, .string ⟨#[]⟩, .bool false, .slice none 0 0, .slice none 0 0, .int .u64 0], .bool false])))
theorem rget_done {w w4 w5 : World} {r kb : Nat} {cap : Int} {qs : List (ByteArray × RV)} {cs : Array Value} (hR : RefAt w4 r cap qs) (y : w.grownBy w4 (some r)) (hb : Blk w4 kb 38 cs) (hk : w.heap.size ≤ kb) (hC : Chg w4 w5 (fun b => b = kb)) : RefAt w5 r cap qs ∧ w.grownBy w5 (some r) := by
  refine ⟨hR.chg hC fun g t cs hg ht e => ?_, ?_⟩
  · subst e
    rcases ht with rfl | rfl
    · exact hg.ne_ hb (by decide) rfl
    · exact hg.ne_ hb (by decide) rfl
  · have h2 := (Chg.of_by (S := fun b => b = r) y (fun g e => by cases e; rfl)).trans hC (fun b hb => .inr (by rw [hb]; exact hk))
    exact ⟨h2.os, h2.tape, h2.output, h2.size, fun b hb hne => h2.block b hb (fun e => hne (by rw [e]))⟩

set_option maxRecDepth 100000 in
set_option maxHeartbeats 1000000 in
theorem rget_any (w : World) (r C : Nat) (cap : Int) (hC : max cap 0 = (C : Int)) (k : ByteArray) (ps : List (ByteArray × RV)) (h : RefAt w r cap ps) (hn : ps.length < 1000000) (hl : ps.length ≤ C) (hd : (ps.map (·.1)).Nodup) :
    Calls Try.prog 12 #[.pointer (some ⟨r, 0, none⟩), .string k] w (RGetQ w r cap ps k) := by
  obtain ⟨wb, kb, hW⟩ := valIn w #[.slice none 0 0, .string ⟨#[]⟩, .bool false, .slice none 0 0, .slice none 0 0, .int .u64 0]
  have hb := h.grown hW.2.2.2
  have hkr : kb ≠ r := by
    obtain ⟨v, hb, _⟩ := hb
    exact fun e => hb.ne_ (e ▸ hW.2.2.1) (by decide) rfl
  have hrb : r < wb.heap.size := by obtain ⟨v, hb, _⟩ := hb; exact hb.lt
  have HW := Lib.hid hW
  rcases split_key2 ps k with ⟨l1, rv, l2, rfl, h1, h2⟩ | ⟨h1, h2⟩
  · have hlen : (l1 ++ l2).length < 1000000 := by rw [List.length_append, List.length_cons] at hn; rw [List.length_append]; omega
    have hgot : ((k, rv) :: (l1 ++ l2)).take C = ggot (l1 ++ (k, rv) :: l2) k := by
      have e : ggot (l1 ++ (k, rv) :: l2) k = (k, rv) :: (l1 ++ l2) := by unfold ggot; rw [h2]; simp only [gless_mid h1 hd]
      rw [e]
      exact List.take_of_length_le (by rw [List.length_append, List.length_cons] at hl; rw [List.length_cons, List.length_append]; omega)
    have H := Lib.hid (And.intro (rtake_hit wb r cap k rv l1 l2 hb hn h1) (And.intro hC (And.intro hgot (And.intro hkr (And.intro hlen (And.intro h2 hrb))))))
    clear h hn hl hd hC hW hb hkr hlen hgot h1 h2 hrb
    go_enter Try.func12, Try.ntmps12
    go_wp2_with fail
    rw [HW.out.1, HW.out.2.1]
    refine H.out.1.mono ?_
    rintro e w2 ⟨rfl, hR, y2⟩
    have hb2 := HW.out.2.2.1.grown y2 (fun e => H.out.2.2.2.1 (by injection e))
    obtain ⟨w3, hw3⟩ : ∃ w3, w3 = w2.alloc (.cells #[.string k, .slice rv.d.1 rv.d.2.1 rv.d.2.2, .string rv.p, .bool rv.b, .slice rv.vs.1 rv.vs.2.1 rv.vs.2.2, .slice rv.ts.1 rv.ts.2.1 rv.ts.2.2, .int .u64 rv.c] 66) := ⟨_, rfl⟩
    have y3 : w2.grownBy w3 none := by rw [hw3]; exact by_alloc (by_refl _ _) _
    have hb6 : Blk w3 w2.heap.size 66 #[.string k, .slice rv.d.1 rv.d.2.1 rv.d.2.2, .string rv.p, .bool rv.b, .slice rv.vs.1 rv.vs.2.1 rv.vs.2.2, .slice rv.ts.1 rv.ts.2.1 rv.ts.2.2, .int .u64 rv.c] := by rw [hw3]; exact Blk.new _ _ _
    have H3 := Lib.hid (And.intro (hR.grown y3) (And.intro (by_trans (by_trans (by_of_none HW.out.2.2.2 (some r)) y2 (fun _ h => .inl h.symm)) y3 (by simp)) (And.intro (hb2.grown y3 (by simp)) (And.intro hb6 y2.size))))
    have Hw3 := Lib.hid hw3
    clear hR y2 hb2 hw3 y3 hb6
    go_wp2_with fail
    rw [← Hw3.out]
    refine (rfirst_any w3 r C cap H.out.2.1 k rv _ H3.out.1 H.out.2.2.2.2.1).mono ?_
    rintro e w4 ⟨rfl, hR4, y4⟩
    have hb4 := H3.out.2.2.1.grown y4 (fun e => H.out.2.2.2.1 (by injection e))
    have hb64 := H3.out.2.2.2.1.grown y4 (fun e => by have h1 := H.out.2.2.2.2.2.2; have h2 := H3.out.2.2.2.2; injection e with e; omega)
    have p1 := hb64.cell 1
    have p2 := hb64.cell 2
    have p3 := hb64.cell 3
    have p4 := hb64.cell 4
    have p5 := hb64.cell 5
    have p6 := hb64.cell 6
    simp only [List.getElem?_toArray, List.getElem?_cons_zero, List.getElem?_cons_succ] at p1 p2 p3 p4 p5 p6
    rw [H.out.2.2.1] at hR4
    have hd := rget_done hR4 (by_trans H3.out.2.1 y4 (fun _ h => .inl h.symm)) hb4 (Nat.le_of_eq HW.out.2.1) ((Chg.refl w4 (fun b => b = kb)).row (g := kb) (.inl rfl) #[.slice rv.d.1 rv.d.2.1 rv.d.2.2, .string rv.p, .bool rv.b, .slice rv.vs.1 rv.vs.2.1 rv.vs.2.2, .slice rv.ts.1 rv.ts.2.1 rv.ts.2.2, .int .u64 rv.c])
    have HD := Lib.hid (And.intro hd (And.intro hb4 (And.intro (sz6 rv) (six_one rv.d rv.vs rv.ts rv.p rv.b rv.c))))
    clear hR4 y4 hb4 hb64 hd
    go_wp2_with (refine wpList_store_row rfl 38 (.tmp 4) (.tmp 19) rfl kb #[.slice rv.d.1 rv.d.2.1 rv.d.2.2, .string rv.p, .bool rv.b, .slice rv.vs.1 rv.vs.2.1 rv.vs.2.2, .slice rv.ts.1 rv.ts.2.1 rv.ts.2.2, .int .u64 rv.c] rfl rfl 38 #[.slice none 0 0, .string ⟨#[]⟩, .bool false, .slice none 0 0, .slice none 0 0, .int .u64 0] HD.out.2.1 HD.out.2.2.1 rfl HD.out.2.2.2 ?_)
    (try simp only [Exit.inBlock, Exit.then])
    refine bodyPost_ret (v := .tuple #[.agg #[.slice rv.d.1 rv.d.2.1 rv.d.2.2, .string rv.p, .bool rv.b, .slice rv.vs.1 rv.vs.2.1 rv.vs.2.2, .slice rv.ts.1 rv.ts.2.1 rv.ts.2.2, .int .u64 rv.c], .bool true]) ?_ rfl ⟨HD.out.1.1, HD.out.1.2, .inl ⟨rv, H.out.2.2.2.2.2.1, rfl⟩⟩
    rw [results_cell_tmp rfl]
    have hl := run_loadVar_row (P := Try.prog) _ kb 38 38 _ _ _ (HD.out.2.1.row #[.slice rv.d.1 rv.d.2.1 rv.d.2.2, .string rv.p, .bool rv.b, .slice rv.vs.1 rv.vs.2.1 rv.vs.2.2, .slice rv.ts.1 rv.ts.2.1 rv.ts.2.2, .int .u64 rv.c]) Try.underlying38 rfl HD.out.2.2.1
    simp [asAddr, Result.andThen, hl]
  · have hgot : ggot ps k = ps := by unfold ggot; rw [h2]
    have H := Lib.hid (And.intro (rtake_miss wb r cap k ps hb hn h1) (And.intro hgot h2))
    clear h hn hl hd hC hW hb hkr hgot h1 h2 hrb
    go_enter Try.func12, Try.ntmps12
    go_wp2_with fail
    rw [HW.out.1, HW.out.2.1]
    refine H.out.1.mono ?_
    rintro e w2 ⟨rfl, hR, y2⟩
    have hb2 := HW.out.2.2.1.grown y2 (by simp)
    obtain ⟨w3, hw3⟩ : ∃ w3, w3 = w2.alloc (.cells #[.string ⟨#[]⟩, .slice none 0 0, .string ⟨#[]⟩, .bool false, .slice none 0 0, .slice none 0 0, .int .u64 0] 66) := ⟨_, rfl⟩
    have y3 : w2.grownBy w3 none := by rw [hw3]; exact by_alloc (by_refl _ _) _
    have hb3 := hb2.grown y3 (by simp)
    have hd := rget_done (r := r) (hR.grown y3) (by_of_none (by_trans (by_trans HW.out.2.2.2 y2 (by simp)) y3 (by simp)) _) hb3 (Nat.le_of_eq HW.out.2.1) ((Chg.refl w3 (fun b => b = kb)).row (g := kb) (.inl rfl) #[.slice none 0 0, .string ⟨#[]⟩, .bool false, .slice none 0 0, .slice none 0 0, .int .u64 0])
    have HD := Lib.hid (And.intro hd (And.intro hb3 (And.intro (sz6 ⟨(none, 0, 0), ⟨#[]⟩, false, (none, 0, 0), (none, 0, 0), 0⟩) (six_one (none, 0, 0) (none, 0, 0) (none, 0, 0) ⟨#[]⟩ false 0))))
    have Hw3 := Lib.hid hw3
    clear hR y2 hb2 hw3 y3 hb3 hd
    go_wp2_with (rw [← Hw3.out]; refine wpList_store_row rfl 38 (.tmp 4) (.tmp 19) rfl kb #[.slice none 0 0, .string ⟨#[]⟩, .bool false, .slice none 0 0, .slice none 0 0, .int .u64 0] rfl rfl 38 #[.slice none 0 0, .string ⟨#[]⟩, .bool false, .slice none 0 0, .slice none 0 0, .int .u64 0] HD.out.2.1 HD.out.2.2.1 rfl HD.out.2.2.2 ?_)
    (try simp only [Exit.inBlock, Exit.then])
    refine bodyPost_ret (v := .tuple #[.agg #[.slice none 0 0, .string ⟨#[]⟩, .bool false, .slice none 0 0, .slice none 0 0, .int .u64 0], .bool false]) ?_ rfl ⟨by rw [H.out.2.1]; exact HD.out.1.1, HD.out.1.2, .inr ⟨H.out.2.2, rfl⟩⟩
    rw [results_cell_tmp rfl]
    have hl := run_loadVar_row (P := Try.prog) _ kb 38 38 _ _ _ (HD.out.2.1.row #[.slice none 0 0, .string ⟨#[]⟩, .bool false, .slice none 0 0, .slice none 0 0, .int .u64 0]) Try.underlying38 rfl HD.out.2.2.1
    simp [asAddr, Result.andThen, hl]
end Go.Proofs.Ytndmnnapjhjkmaa
