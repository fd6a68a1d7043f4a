/-
  The reference: Live, find, Use.
-/
import Derived.Test.YtdloapfifhelbaaRBytes
import Derived.Test.YtdloapfifhelbaaSlP
import Derived.Deep.LoopGhost
namespace Go.Proofs.Ytdloapfifhelbaa
open Go.RowKit

structure RAt (W : World) (s : Nat) (own : Nat → Prop) (st : Ses) : Prop where
  ex : ∃ v, Blk W s 30 #[.string st.secret, .int .u64 (st.ttl : Int), .int .i64 st.slots, .int .u64 (st.logins : Int), v] ∧ RLst W v st.l ∧ ∀ b, own b ↔ b = s ∨ v.ownBlock = some b
  few : st.l.length < 1000000
  tok : ∀ x ∈ st.l, x.1.size ≤ maxLen
section
variable {W W' : World} {s : Nat} {own S : Nat → Prop} {st : Ses}
theorem RAt.chg (h : RAt W s own st) (hc : Chg W W' S) (hS : ∀ b, own b → ¬ S b) : RAt W' s own st := by
  obtain ⟨⟨v, hb, hl, ho⟩, h2, h3⟩ := h
  exact ⟨⟨v, hb.chg hc (hS s ((ho s).2 (.inl rfl))), own_chg hl hc (fun g hg => hS g ((ho g).2 (.inr hg))), ho⟩, h2, h3⟩
theorem RAt.grown (h : RAt W s own st) (y : W.grownBy W' none) : RAt W' s own st := h.chg (Chg.of_none (S := fun _ => False) y) fun _ _ h => h
end
def cntL (ttl n : Nat) (l : List (ByteArray × Nat)) : Nat := (l.filter fun x => !overB n ttl x.2).length
theorem cntL_take {ttl n j : Nat} {l : List (ByteArray × Nat)} (hj : j < l.length) : cntL ttl n (l.take (j + 1)) = cntL ttl n (l.take j) + (if overB n ttl l[j].2 = true then 0 else 1) := by
  unfold cntL
  rw [List.take_succ_eq_append_getElem hj, List.filter_append, List.length_append]
  congr 1
  cases h : overB n ttl l[j].2 with
  | false => simp [h]
  | true => simp [h]

set_option maxRecDepth 100000 in
set_option maxHeartbeats 1000000 in
theorem rlive_any (w : World) (s : Nat) (own : Nat → Prop) (st : Ses) (now : Nat) (hn : now < 18446744073709551616) (h : RAt w s own st) :
    Calls Try.prog 16 #[.pointer (some ⟨s, 0, none⟩), .int .u64 (now : Int)] w fun e w' => e = .returned (.int .i64 ((livL st now).length : Nat)) ∧ w.grownBy w' none := by
  obtain ⟨⟨v, hb, hl, ho⟩, hfew, htok⟩ := h
  obtain ⟨A, c, rfl, _⟩ := hl.at_
  have H := Lib.hid (And.intro hb (And.intro hl (And.intro hfew hn)))
  clear hb hl hfew htok ho hn
  go_enter Try.func16, Try.ntmps16
  go_wp2_with fail
  go_loopg [5, 6] st.l.length (fun m a i wr => ∃ j : Nat, j ≤ st.l.length ∧ m = st.l.length - j ∧ a = .int .i64 (cntL st.ttl now (st.l.take j) : Nat) ∧ i = .int .i64 (j : Nat) ∧ w.grownBy wr none)
  case atStart => exact ⟨0, Nat.zero_le _, rfl, rfl, rfl, by_refl _ _⟩
  case round =>
    obtain ⟨j, hj, hm, rfl, rfl, hy⟩ := hrel
    have hb := H.out.1.grown hy (by simp)
    have c4 : wr.cell? ⟨s, 4, none⟩ = some (.slice A st.l.length c) := hb.cell 4
    have hl := H.out.2.1.grown hy
    have Hb := Lib.hid (And.intro hb (And.intro hy hm))
    clear hb hy
    rcases Nat.lt_or_ge j st.l.length with hlt | hge
    · obtain ⟨A', c', e, _, _, _, _, hA, _⟩ := hl.at_
      injection e with e1 e2 e3
      subst e1; subst e3
      obtain ⟨g, rfl⟩ := hA (by omega)
      obtain ⟨c0, c1⟩ := hl.cellAt j hlt
      have hstep := cntL_take (ttl := st.ttl) (n := now) hlt
      have hji : (j : Int) < (st.l.length : Int) := by omega
      have hj6 : (j : Int) ≤ 1000000 := by have := H.out.2.2.1; omega
      obtain ⟨⟨tok, t⟩, hx⟩ : ∃ x, x = st.l[j] := ⟨_, rfl⟩
      rw [← hx] at c0 c1 hstep
      obtain ⟨lv, hlv⟩ : ∃ lv, lv = cntL st.ttl now (st.l.take j) := ⟨_, rfl⟩
      have hlb : lv ≤ j := by rw [hlv]; exact Nat.le_trans (List.length_filter_le _ _) (by rw [List.length_take]; omega)
      have hli : (lv : Int) ≤ 1000000 := by have := H.out.2.2.1; omega
      rw [← hlv] at hstep ⊢
      dsimp only at c0 c1 hstep
      have Hst := Lib.hid (And.intro hstep (And.intro hl (And.intro hlv hx)))
      clear hstep hl hlv hx e2 hA
      go_wp2_with fail
      refine (rover_any s now st.ttl H.out.2.2.2 tok t wr ⟨_, _, _, _, Hb.out.1⟩).mono ?_
      rintro e w2 ⟨rfl, y2⟩
      have Hy := Lib.hid (by_trans Hb.out.2.1 y2 (by simp))
      clear y2
      cases hov : overB now st.ttl t with
      | true =>
        have Ho := Lib.hid hov
        clear hov
        go_wp2
        go_roundg (st.l.length - (j + 1))
        case measure => have := Hb.out.2.2; omega
        case rel => exact ⟨j + 1, hlt, rfl, by rw [Hst.out.1, Ho.out]; rfl, by go_num, Hy.out⟩
      | false =>
        have Ho := Lib.hid hov
        clear hov
        go_wp2
        go_roundg (st.l.length - (j + 1))
        case measure => have := Hb.out.2.2; omega
        case rel => exact ⟨j + 1, hlt, rfl, by rw [Hst.out.1, Ho.out]; rfl, by go_num, Hy.out⟩
    · obtain rfl : j = st.l.length := by omega
      have e : cntL st.ttl now (st.l.take st.l.length) = (livL st now).length := by rw [List.take_length]; rfl
      rw [e]
      obtain ⟨r, hr⟩ : ∃ r, r = (livL st now).length := ⟨_, rfl⟩
      rw [← hr]
      have Hr := Lib.hid hr
      clear e hr hl
      go_wp2
      go_ret
      exact ⟨by rw [← Hr.out]; rfl, Hb.out.2.1⟩

set_option maxRecDepth 100000 in
set_option maxHeartbeats 2000000 in
theorem rfind_any (w : World) (s : Nat) (own : Nat → Prop) (st : Ses) (token : ByteArray) (now : Nat) (hn : now < 18446744073709551616) (h : RAt w s own st) :
    Calls Try.prog 30 #[.pointer (some ⟨s, 0, none⟩), .string token, .int .u64 (now : Int)] w fun e w' => e = .returned (.int .i64 (st.find token now)) ∧ w.grownBy w' none := by
  obtain ⟨⟨v, hb, hl, ho⟩, hfew, htok⟩ := h
  obtain ⟨A, c, rfl, _⟩ := hl.at_
  have H := Lib.hid (And.intro hb (And.intro hl (And.intro hfew hn)))
  clear hb hl hfew htok ho hn
  go_enter Try.func30, Try.ntmps30
  go_wp2_with fail
  go_loopg [7] st.l.length (fun m i wr => ∃ j : Nat, j ≤ st.l.length ∧ m = st.l.length - j ∧ i = .int .i64 (j : Nat) ∧ w.grownBy wr none ∧ ∀ i (h : i < st.l.length), i < j → findB token now st.ttl st.l[i] = false)
  case atStart => exact ⟨0, Nat.zero_le _, rfl, rfl, by_refl _ _, fun i h hi => absurd hi (by omega)⟩
  case round =>
    obtain ⟨j, hj, hm, rfl, hy, hno⟩ := hrel
    have hb := H.out.1.grown hy (by simp)
    have c4 : wr.cell? ⟨s, 4, none⟩ = some (.slice A st.l.length c) := hb.cell 4
    have hl := H.out.2.1.grown hy
    have Hb := Lib.hid (And.intro hb (And.intro hy (And.intro hm hno)))
    clear hb hy hno
    rcases Nat.lt_or_ge j st.l.length with hlt | hge
    · obtain ⟨A', c', e, _, _, _, _, hA, _⟩ := hl.at_
      injection e with e1 e2 e3
      subst e1; subst e3
      obtain ⟨g, rfl⟩ := hA (by omega)
      obtain ⟨c0, c1⟩ := hl.cellAt j hlt
      have hji : (j : Int) < (st.l.length : Int) := by omega
      have hj6 : (j : Int) ≤ 1000000 := by have := H.out.2.2.1; omega
      obtain ⟨tok, ht0⟩ : ∃ x, x = st.l[j].1 := ⟨_, rfl⟩
      obtain ⟨t, ht1⟩ : ∃ x, x = st.l[j].2 := ⟨_, rfl⟩
      have hfb : findB token now st.ttl st.l[j] = (decide (tok = token) && !overB now st.ttl t) := by rw [ht0, ht1]; rfl
      rw [← ht0] at c0
      rw [← ht1] at c1
      have heq := tl_eq tok token
      have Hst := Lib.hid (And.intro hfb hl)
      clear hl hfb ht0 ht1 e2 hA
      have hnext : findB token now st.ttl st.l[j] = false → ∀ i (h : i < st.l.length), i < j + 1 → findB token now st.ttl st.l[i] = false := fun hf i h hi => by
        rcases Nat.lt_or_ge i j with h1 | h1
        · exact Hb.out.2.2.2 i h h1
        · obtain rfl : i = j := by omega
          exact hf
      have Hnext := Lib.hid hnext
      clear hnext
      by_cases he : tok = token
      · rw [decide_eq_true he] at heq
        have Hfb := Lib.hid (And.intro (Hst.out.1.trans (by rw [decide_eq_true he, Bool.true_and])) hlt)
        clear he Hst
        go_wp2_with fail
        refine (rover_any s now st.ttl H.out.2.2.2 tok t wr ⟨_, _, _, _, Hb.out.1⟩).mono ?_
        rintro e w2 ⟨rfl, y2⟩
        have Hy := Lib.hid (by_trans Hb.out.2.1 y2 (by simp))
        clear y2
        cases hov : overB now st.ttl t with
        | true =>
          have Ho := Lib.hid (Hfb.out.1.trans (by rw [hov, Bool.not_true]))
          clear hov
          go_wp2
          go_roundg (st.l.length - (j + 1))
          case measure => have := Hb.out.2.2.1; omega
          case rel => exact ⟨j + 1, hlt, rfl, by go_num, Hy.out, Hnext.out Ho.out⟩
        | false =>
          have hfin : st.find token now = (j : Int) := idx_hit hlt (Hfb.out.1.trans (by rw [hov]; rfl)) (fun i hi => Hb.out.2.2.2 i (by omega) hi)
          have Hfin := Lib.hid hfin
          clear hov hfin
          go_wp2
          go_ret
          exact ⟨by rw [Hfin.out]; rfl, Hy.out⟩
      · rw [decide_eq_false he] at heq
        have Ho := Lib.hid (Hst.out.1.trans (by rw [decide_eq_false he, Bool.false_and]))
        clear he Hst
        go_wp2
        go_roundg (st.l.length - (j + 1))
        case measure => have := Hb.out.2.2.1; omega
        case rel => exact ⟨j + 1, hlt, rfl, by go_num, Hb.out.2.1, Hnext.out Ho.out⟩
    · obtain rfl : j = st.l.length := by omega
      have hfin : st.find token now = -1 := idx_none fun i hi => Hb.out.2.2.2 i hi hi
      have Hfin := Lib.hid hfin
      clear hl hfin
      go_wp2
      go_ret
      exact ⟨by rw [Hfin.out]; rfl, Hb.out.2.1⟩
set_option maxHeartbeats 400000 in
theorem ruse_any (w : World) (s : Nat) (own : Nat → Prop) (st : Ses) (token : ByteArray) (now : Nat) (hn : now < 18446744073709551616) (h : RAt w s own st) :
    Calls Try.prog 12 #[.pointer (some ⟨s, 0, none⟩), .string token, .int .u64 (now : Int)] w fun e w' => e = .returned (.int .i64 (st.use token now)) ∧ w.grownBy w' none := by
  have H := Lib.hid (rfind_any w s own st token now hn h)
  clear h hn
  have hu : st.use token now = if st.find token now < 0 then 8 else 0 := rfl
  have Hu := Lib.hid hu
  clear hu
  obtain ⟨z, hz⟩ : ∃ z, z = st.find token now := ⟨_, rfl⟩
  rw [← hz] at H Hu
  clear hz
  go_enter Try.func12, Try.ntmps12
  go_wp2_with fail
  refine H.out.mono ?_
  rintro e w2 ⟨rfl, y2⟩
  have Hy := Lib.hid y2
  clear y2
  by_cases hz : z < 0
  · go_wp2
    go_ret
    exact ⟨by rw [Hu.out, if_pos (by omega)]; rfl, Hy.out⟩
  · go_wp2
    go_ret
    exact ⟨by rw [Hu.out, if_neg (by omega)]; rfl, Hy.out⟩
end Go.Proofs.Ytdloapfifhelbaa
