/-
  Sess: New, Live, Use, Logout.
-/
import Derived.Test.YtdloapfifhelbaaDel
import Derived.Laws.EntriesVeiled
namespace Go.Proofs.Ytdloapfifhelbaa
open Go.RowKit

/-- sessions -/
structure Ses where
  secret : ByteArray
  ttl : Nat
  slots : Int
  logins : Nat
  l : List (ByteArray × Nat)
def livL (st : Ses) (now : Nat) : List (ByteArray × Nat) := st.l.filter fun x => !overB now st.ttl x.2
def Ses.find (st : Ses) (token : ByteArray) (now : Nat) : Int := idx (findB token now st.ttl) st.l
def Ses.use (st : Ses) (token : ByteArray) (now : Nat) : Int := if st.find token now < 0 then 8 else 0
def Ses.out (st : Ses) (token : ByteArray) (now : Nat) : Ses := if st.find token now < 0 then st else { st with l := st.l.take (st.find token now).toNat ++ st.l.drop ((st.find token now).toNat + 1) }

structure SAt (W : World) (s : Nat) (own : Nat → Prop) (st : Ses) : Prop where
  ex : ∃ v, Blk W s 52 #[.string st.secret, .int .u64 (st.ttl : Int), .int .i64 st.slots, .int .u64 (st.logins : Int), v] ∧ Lst W v st.l ∧ ∀ b, own b ↔ b = s ∨ v.ownBlock = some b
  few : st.l.length < 1000000
  tok : ∀ x ∈ st.l, x.1.size ≤ maxLen
section
variable {W W' : World} {s : Nat} {own S : Nat → Prop} {st : Ses}
theorem SAt.chg (h : SAt W s own st) (hc : Chg W W' S) (hS : ∀ b, own b → ¬ S b) : SAt W' s own st := by
  obtain ⟨⟨v, hb, hl, ho⟩, h2, h3⟩ := h
  exact ⟨⟨v, hb.chg hc (hS s ((ho s).2 (.inl rfl))), own_chg hl hc (fun g hg => hS g ((ho g).2 (.inr hg))), ho⟩, h2, h3⟩
theorem SAt.grown (h : SAt W s own st) (y : W.grownBy W' none) : SAt W' s own st := h.chg (Chg.of_none (S := fun _ => False) y) fun _ _ h => h
theorem SAt.lt (h : SAt W s own st) (b : Nat) (hb : own b) : b < W.heap.size := by
  obtain ⟨⟨v, h1, hl, ho⟩, h2, h3⟩ := h
  rcases (ho b).1 hb with rfl | h
  · exact h1.lt
  · exact hl.lt h
end

set_option maxHeartbeats 400000 in
theorem new_any (w : World) (secret : ByteArray) (ttl : Nat) (slots : Int) :
    Calls Try.prog 7 #[.string secret, .int .u64 (ttl : Int), .int .i64 slots] w fun e w' => ∃ s own, e = .returned (.pointer (some ⟨s, 0, none⟩)) ∧ SAt w' s own ⟨secret, ttl, slots, 0, []⟩ ∧ w.grownBy w' none ∧ ∀ b, own b → w.heap.size ≤ b := by
  have hfin : ∃ s own, (Ending.returned (.pointer (some ⟨w.heap.size, 0, none⟩))) = .returned (.pointer (some ⟨s, 0, none⟩)) ∧ SAt (w.alloc (.cells #[.string secret, .int .u64 (ttl : Int), .int .i64 slots, .int .u64 0, .slice none 0 0] 52)) s own ⟨secret, ttl, slots, 0, []⟩ ∧ w.grownBy (w.alloc (.cells #[.string secret, .int .u64 (ttl : Int), .int .i64 slots, .int .u64 0, .slice none 0 0] 52)) none ∧ ∀ b, own b → w.heap.size ≤ b := by
    refine ⟨w.heap.size, fun b => b = w.heap.size, rfl, ⟨⟨.slice none 0 0, Blk.new _ _ _, Lst.nil_ _, fun b => ⟨.inl, fun h => h.elim id (fun h => by cases h)⟩⟩, Nat.succ_pos _, by simp⟩, by_alloc (by_refl _ _) _, fun b hb => Nat.le_of_eq hb.symm⟩
  have HF := Lib.hid hfin
  clear hfin
  go_enter Try.func7, Try.ntmps7
  go_wp2
  go_ret
  exact HF.out

set_option maxRecDepth 100000 in
set_option maxHeartbeats 1000000 in
theorem live_any (w : World) (s : Nat) (own : Nat → Prop) (st : Ses) (now : Nat) (hn : now < 18446744073709551616) (h : SAt w s own st) :
    Calls Try.prog 15 #[.pointer (some ⟨s, 0, none⟩), .int .u64 (now : Int)] w fun e w' => e = .returned (.int .i64 ((livL st now).length : Nat)) ∧ w.grownBy w' none := by
  obtain ⟨⟨v, hb, hl, ho⟩, hfew, htok⟩ := h
  have c4 : w.cell? ⟨s, 4, none⟩ = some v := hb.cell 4
  have H := Lib.hid (And.intro hb (And.intro hl (And.intro trivial hn)))
  have Hf := Lib.hid hfew
  obtain ⟨A, c, rfl, _⟩ := hl.at_
  clear hb hl hfew htok ho hn
  go_enter Try.func15, Try.ntmps15
  go_wp2_with fail
  refine (clone_any w _ st.l Hf.out H.out.2.1).mono ?_
  rintro e w2 ⟨v2, rfl, hl2, y2, hnew⟩
  have H2 := Lib.hid (And.intro hl2 (And.intro y2 (And.intro (H.out.1.grown y2 (by simp)) hnew)))
  clear hl2 y2 hnew
  go_wp2_with fail
  refine (over_any w2 s now st.ttl ⟨_, _, _, _, H2.out.2.2.1⟩).mono ?_
  rintro e w3 ⟨p1, p2, rfl, y3, hov⟩
  have H3 := Lib.hid (And.intro hov (And.intro (H2.out.1.grown y3) (And.intro y3 Hf.out)))
  clear hov y3
  go_wp2_with fail
  refine (delf_any p1 p2 s now st.ttl H.out.2.2.2 v2 st.l w3 H3.out.1 H3.out.2.1 H3.out.2.2.2).mono ?_
  rintro e w4 ⟨v4, rfl, hl4, y4, _⟩
  have hl4 : Lst w4 v4 (livL st now) := hl4
  have hy : w.grownBy w4 none := by
    have h1 := by_trans H2.out.2.1 H3.out.2.2.1 (by simp)
    exact ((Chg.of_none (S := fun b => w.heap.size ≤ b) h1).trans (Chg.of_by (S := fun b => v2.ownBlock = some b) y4 fun g h => h) (fun b hb => .inl (H2.out.2.2.2 b hb))).none_ fun _ h => h
  obtain ⟨A4, c4', rfl, _⟩ := hl4.at_
  have HF := Lib.hid (And.intro hy hl4)
  clear hy hl4 y4
  go_wp2
  go_ret
  exact ⟨rfl, HF.out.1⟩
set_option maxHeartbeats 400000 in
theorem live_nil (w : World) (now : Nat) : Calls Try.prog 15 #[.pointer none, .int .u64 (now : Int)] w fun e w' => e = .returned (.int .i64 0) ∧ w = w' := by
  go_enter Try.func15, Try.ntmps15
  go_wp2
  go_ret
  exact ⟨rfl, rfl⟩
set_option maxRecDepth 100000 in
set_option maxHeartbeats 1000000 in
theorem find_any (w : World) (s : Nat) (own : Nat → Prop) (st : Ses) (token : ByteArray) (ht : token.size ≤ maxLen) (now : Nat) (hn : now < 18446744073709551616) (h : SAt w s own st) :
    Calls Try.prog 29 #[.pointer (some ⟨s, 0, none⟩), .string token, .int .u64 (now : Int)] w fun e w' => e = .returned (.int .i64 (st.find token now)) ∧ w.grownBy w' none := by
  obtain ⟨⟨v, hb, hl, ho⟩, hfew, htok⟩ := h
  obtain ⟨wa, hwa⟩ : ∃ wa, wa = w.alloc (.cells #[.string token] 9) := ⟨_, rfl⟩
  have ya : w.grownBy wa none := by rw [hwa]; exact by_alloc (by_refl _ _) _
  have hba : Blk wa w.heap.size 9 #[.string token] := by rw [hwa]; exact Blk.new _ _ _
  have H := Lib.hid (And.intro (hb.grown ya (by simp)) (And.intro (hl.grown ya) (And.intro hn (And.intro htok (And.intro ht (And.intro ya hba))))))
  have Hf := Lib.hid hfew
  have Hwa := Lib.hid hwa
  obtain ⟨A, c, rfl, _⟩ := hl.at_
  clear hb hl hfew htok ho hn ht ya hba hwa
  go_enter Try.func29, Try.ntmps29
  go_wp2_with fail
  rw [← Hwa.out]
  obtain ⟨q1, hq1⟩ : ∃ q, q = w.heap.size := ⟨_, rfl⟩
  rw [← hq1] at H ⊢
  clear hq1
  refine (over_any wa s now st.ttl ⟨_, _, _, _, H.out.1⟩).mono ?_
  rintro e w2 ⟨p1, p2, rfl, y2, hov⟩
  obtain ⟨wb, hwb⟩ : ∃ wb, wb = w2.alloc (.cells #[.func (.func 36) #[] #[.pointer (some ⟨p1, 0, none⟩), .pointer (some ⟨p2, 0, none⟩)]] 57) := ⟨_, rfl⟩
  have yb : w2.grownBy wb none := by rw [hwb]; exact by_alloc (by_refl _ _) _
  have hb2 : Blk wb w2.heap.size 57 #[.func (.func 36) #[] #[.pointer (some ⟨p1, 0, none⟩), .pointer (some ⟨p2, 0, none⟩)]] := by rw [hwb]; exact Blk.new _ _ _
  have y12 := by_trans y2 yb (by simp)
  have hF : Fv q1 w2.heap.size p1 p2 s now st.ttl token wb := ⟨H.out.2.2.2.2.2.2.grown y12 (by simp), hb2, hov.grown yb⟩
  have hlb := H.out.2.1.grown y12
  have hsb := H.out.1.grown y12 (by simp)
  have x4 : wb.cell? ⟨s, 4, none⟩ = some (.slice A st.l.length c) := hsb.cell 4
  rw [hwb] at x4
  obtain ⟨q2, hq2⟩ : ∃ q, q = w2.heap.size := ⟨_, rfl⟩
  rw [← hq2] at hF
  have H2 := Lib.hid (And.intro hF (And.intro hlb (by_trans H.out.2.2.2.2.2.1 y12 (by simp))))
  have Hwb := Lib.hid (And.intro hwb hq2)
  clear y2 hov hwb yb hb2 y12 hF hlb hsb hq2
  go_wp2_with fail
  rw [← Hwb.out.1, ← Hwb.out.2]
  refine (index_any 40 #[.pointer (some ⟨q1, 0, none⟩), .pointer (some ⟨q2, 0, none⟩)] find_eg (findB token now st.ttl) _ st.l wb (fun W x hx y => find1_any q1 q2 p1 p2 s now st.ttl token H.out.2.2.2.2.1 H.out.2.2.1 x.1 (H.out.2.2.2.1 x hx) x.2 W (H2.out.1.grown y)) H2.out.2.1 Hf.out).mono ?_
  rintro e w3 ⟨rfl, y3⟩
  have H3 := Lib.hid (by_trans H2.out.2.2 y3 (by simp))
  clear y3
  go_wp2
  go_ret
  exact ⟨rfl, H3.out⟩

set_option maxHeartbeats 400000 in
theorem use_any (w : World) (s : Nat) (own : Nat → Prop) (st : Ses) (token : ByteArray) (ht : token.size ≤ maxLen) (now : Nat) (hn : now < 18446744073709551616) (h : SAt w s own st) :
    Calls Try.prog 10 #[.pointer (some ⟨s, 0, none⟩), .string token, .int .u64 (now : Int)] w fun e w' => e = .returned (.int .i64 (st.use token now)) ∧ w.grownBy w' none := by
  have H := Lib.hid (find_any w s own st token ht now hn h)
  clear h ht hn
  have hu : st.use token now = if st.find token now < 0 then 8 else 0 := rfl
  have Hu := Lib.hid hu
  clear hu
  obtain ⟨z, hz⟩ : ∃ z, z = st.find token now := ⟨_, rfl⟩
  rw [← hz] at H Hu
  clear hz
  go_enter Try.func10, Try.ntmps10
  go_wp2_with fail
  refine H.out.mono ?_
  rintro e w2 ⟨rfl, y2⟩
  have Hy := Lib.hid y2
  clear y2
  by_cases hz : z < 0
  · go_wp2
    go_ret
    exact ⟨by rw [Hu.out, if_pos (by omega)]; rfl, Hy.out⟩
  · go_wp2
    go_ret
    exact ⟨by rw [Hu.out, if_neg (by omega)]; rfl, Hy.out⟩
set_option maxHeartbeats 400000 in
theorem use_nil (w : World) (token : ByteArray) (now : Nat) : Calls Try.prog 10 #[.pointer none, .string token, .int .u64 (now : Int)] w fun e w' => e = .returned (.int .i64 1) ∧ w = w' := by
  go_enter Try.func10, Try.ntmps10
  go_wp2
  go_ret
  exact ⟨rfl, rfl⟩
theorem find_lt (st : Ses) (token : ByteArray) (now : Nat) (h : ¬ st.find token now < 0) : ∃ i : Nat, st.find token now = (i : Int) ∧ i < st.l.length := by
  unfold Ses.find idx at *
  cases hf : st.l.findIdx? (findB token now st.ttl) with
  | none => rw [hf] at h; simp at h
  | some i =>
    obtain ⟨hi, _⟩ := List.findIdx?_eq_some_iff_getElem.1 hf
    exact ⟨i, rfl, hi⟩
def OutQ (w : World) (s : Nat) (own : Nat → Prop) (st st' : Ses) (z : Int) (e : Ending) (w' : World) : Prop :=
  e = .returned (.int .i64 z) ∧ ∃ own', SAt w' s own' st' ∧ Chg w w' own ∧ ∀ b, own' b → own b ∨ w.heap.size ≤ b
set_option maxRecDepth 100000 in
set_option maxHeartbeats 1000000 in
theorem logout_any (w : World) (s : Nat) (own : Nat → Prop) (st : Ses) (token : ByteArray) (ht : token.size ≤ maxLen) (now : Nat) (hn : now < 18446744073709551616) (h : SAt w s own st) :
    Calls Try.prog 13 #[.pointer (some ⟨s, 0, none⟩), .string token, .int .u64 (now : Int)] w (OutQ w s own st (st.out token now) (st.use token now)) := by
  by_cases hz : st.find token now < 0
  · have e1 : st.out token now = st := if_pos hz
    have e2 : st.use token now = 8 := if_pos hz
    have hu := use_any w s own st token ht now hn h
    rw [e2] at hu
    rw [e1, e2]
    have H := Lib.hid (And.intro hu h)
    clear hu h ht hn hz e1 e2
    go_enter Try.func13, Try.ntmps13
    go_wp2_with fail
    refine H.out.1.mono ?_
    rintro e w2 ⟨rfl, y2⟩
    have hfin : OutQ w s own st st 8 (.returned (.int .i64 8)) w2 := ⟨rfl, own, H.out.2.grown y2, Chg.of_none y2, fun b hb => .inl hb⟩
    have HF := Lib.hid hfin
    clear hfin y2
    go_wp2
    go_ret
    exact HF.out
  · obtain ⟨i, hi, hil⟩ := find_lt st token now hz
    have e1 : st.out token now = { st with l := st.l.take i ++ st.l.drop (i + 1) } := by unfold Ses.out; rw [if_neg hz, hi]; rfl
    have e2 : st.use token now = 0 := if_neg hz
    have hu := use_any w s own st token ht now hn h
    rw [e2] at hu
    have hfd : ∀ W, w.grownBy W none → Calls Try.prog 29 #[.pointer (some ⟨s, 0, none⟩), .string token, .int .u64 (now : Int)] W fun e w' => e = .returned (.int .i64 (i : Int)) ∧ W.grownBy w' none := fun W y => by
      have := find_any W s own st token ht now hn (h.grown y)
      rw [hi] at this
      exact this
    rw [e1, e2]
    have hlt0 : (i : Int) ≤ 1000000 := by have := h.few; omega
    have H := Lib.hid (And.intro hu (And.intro hfd (And.intro h hil)))
    clear hu h ht hn hz e1 e2 hi hil hfd
    have hi0 : (0 : Int) ≤ (i : Int) := by omega
    go_enter Try.func13, Try.ntmps13
    go_wp2_with fail
    refine H.out.1.mono ?_
    rintro e w2 ⟨rfl, y2⟩
    have H2 := Lib.hid y2
    clear y2
    go_wp2_with fail
    refine (H.out.2.1 w2 H2.out).mono ?_
    rintro e w3 ⟨rfl, y3⟩
    have y03 := by_trans H2.out y3 (by simp)
    obtain ⟨⟨v, hb, hl, ho⟩, hfew, htok⟩ := H.out.2.2.1.grown y03
    have c4 : w3.cell? ⟨s, 4, none⟩ = some v := hb.cell 4
    have H3 := Lib.hid (And.intro hb (And.intro hl (And.intro ho (And.intro hfew (And.intro htok y03)))))
    clear hb hl ho hfew htok y03 y3
    go_wp2_with fail
    refine (delete_any w3 v st.l i H.out.2.2.2 H3.out.2.2.2.1 H3.out.2.1).mono ?_
    rintro e w4 ⟨v4, rfl, hl4, y4, hv4⟩
    obtain ⟨l2, hl2⟩ : ∃ l2, l2 = st.l.take i ++ st.l.drop (i + 1) := ⟨_, rfl⟩
    rw [← hl2] at hl4
    have hne : ∀ g, v.ownBlock = some g → g ≠ s := fun g hg e => own_blk_ne H3.out.2.1 H3.out.1 (by decide) (by rw [hg, e])
    have hb4 := H3.out.1.grown y4 (fun e => hne s e.symm rfl)
    have x4 : w4.cell? ⟨s, 4, none⟩ = some v := hb4.cell 4
    have z4 : w4.frozen? ⟨s, 4, none⟩ = false := hb4.frozen 4
    obtain ⟨A4, c4', rfl, _⟩ := hl4.at_
    have hfin : OutQ w s own st { st with l := st.l.take i ++ st.l.drop (i + 1) } 0 (.returned (.int .i64 0)) (w4.setCell ⟨s, 4, none⟩ (.slice A4 l2.length c4')) := by
      rw [← hl2]
      refine ⟨rfl, own, ⟨⟨_, hb4.set_ 4 _, own_chg hl4 ((Chg.refl w4 (fun b => b = s)).set_ (p := ⟨s, 4, none⟩) (.inl rfl) _) (fun g hg => ?_), fun b => ?_⟩, ?_, ?_⟩, ?_, fun b hb => .inl hb⟩
      · rw [hv4] at hg; exact hne g hg
      · rw [hv4]; exact H3.out.2.2.1 b
      · have := H3.out.2.2.2.1
        show l2.length < 1000000
        rw [hl2, List.length_append, List.length_take, List.length_drop]
        omega
      · intro x hx
        refine H3.out.2.2.2.2.1 x ?_
        have hx : x ∈ st.l.take i ++ st.l.drop (i + 1) := hl2 ▸ hx
        rcases List.mem_append.1 hx with h | h
        · exact List.mem_of_mem_take h
        · exact List.mem_of_mem_drop h
      · refine Chg.set_ ((Chg.of_none (S := own) H3.out.2.2.2.2.2).trans (Chg.of_by (S := fun b => v.ownBlock = some b) y4 fun g h => h) (fun b hb => .inl ((H3.out.2.2.1 b).2 (.inr hb)))) (.inl ((H3.out.2.2.1 s).2 (.inl rfl))) _
    have HF := Lib.hid hfin
    clear hfin hl4 y4 hv4 hne hb4 hl2
    go_wp2
    go_ret
    exact HF.out
set_option maxHeartbeats 400000 in
theorem logout_nil (w : World) (token : ByteArray) (now : Nat) : Calls Try.prog 13 #[.pointer none, .string token, .int .u64 (now : Int)] w fun e w' => e = .returned (.int .i64 1) ∧ w = w' := by
  go_enter Try.func13, Try.ntmps13
  go_wp2_with fail
  refine (use_nil w token now).mono ?_
  rintro e w2 ⟨rfl, rfl⟩
  go_wp2
  go_ret
  exact ⟨rfl, rfl⟩
end Go.Proofs.Ytdloapfifhelbaa
