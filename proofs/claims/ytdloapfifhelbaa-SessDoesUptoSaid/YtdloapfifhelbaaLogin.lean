/-
  Sess: Login.
-/
import Derived.Test.YtdloapfifhelbaaBytes
import Derived.Test.YtdloapfifhelbaaHex
import Derived.Deep.RegionHeld3
import Derived.Deep.DeepCutAuto
import Derived.Deep.RegionWith
namespace Go.Proofs.Ytdloapfifhelbaa
open Go.RowKit

def tokB (secret nonce : ByteArray) (lg : Nat) : ByteArray := ⟨(hexL (markB secret (nonce ++ beB lg))).toArray⟩
def Ses.cut (st : Ses) (now : Nat) : Ses := { st with l := livL st now }
def Ses.in_ (st : Ses) (nonce : ByteArray) (now : Nat) : Ses := { st with l := livL st now ++ [(tokB st.secret nonce (st.logins + 1), now)], logins := st.logins + 1 }
def LogQ (w : World) (s : Nat) (own : Nat → Prop) (st' : Ses) (tok : ByteArray) (z : Int) (e : Ending) (w' : World) : Prop :=
  e = .returned (.tuple #[.string tok, .int .i64 z]) ∧ ∃ own', SAt w' s own' st' ∧ Chg w w' own ∧ ∀ b, own' b → own b ∨ w.heap.size ≤ b

theorem Chg.drewN {w w' : World} {S : Nat → Prop} (h : Chg w w' S) (n : Nat) : Chg w (w'.drewN n) S := ⟨h.os, h.tape, h.output, h.size, h.block⟩
theorem beB_size (n : Nat) : (beB n).size = 8 := by simp [beB, ByteArray.size]
theorem tokB_size (s n : ByteArray) (lg : Nat) : (tokB s n lg).size = 64 := by
  show (hexL (markB s (n ++ beB lg))).toArray.size = 64
  rw [List.size_toArray, hexL_len, markB_len]

set_option maxHeartbeats 400000 in
theorem login_nil (w : World) (secret nonce : ByteArray) (now : Nat) : Calls Try.prog 8 #[.pointer none, .string secret, .string nonce, .int .u64 (now : Int)] w fun e w' => e = .returned (.tuple #[.string ⟨#[]⟩, .int .i64 1]) ∧ w = w' := by
  go_enter Try.func8, Try.ntmps8
  go_wp2
  go_ret2
  exact ⟨rfl, rfl⟩

set_option maxRecDepth 100000 in
set_option maxHeartbeats 400000 in
theorem login_no (w : World) (s : Nat) (own : Nat → Prop) (st : Ses) (secret nonce : ByteArray) (hsz : secret.size ≤ maxLen) (hs2 : st.secret.size ≤ maxLen) (now : Nat) (hne : secret ≠ st.secret) (h : SAt w s own st) :
    Calls Try.prog 8 #[.pointer (some ⟨s, 0, none⟩), .string secret, .string nonce, .int .u64 (now : Int)] w (LogQ w s own st ⟨#[]⟩ 8) := by
  have hfin : ∀ w', w.grownBy w' none → LogQ w s own st ⟨#[]⟩ 8 (.returned (.tuple #[.string ⟨#[]⟩, .int .i64 8])) w' := fun w' y => ⟨rfl, own, h.grown y, Chg.of_none y, fun b hb => .inl hb⟩
  obtain ⟨⟨v, hb, hl, ho⟩, hfew, htok⟩ := h
  have c0 : w.cell? ⟨s, 0, none⟩ = some (.string st.secret) := hb.cell 0
  have hd : decide (secret = st.secret) = false := by simpa using hne
  have H := Lib.hid (And.intro hfin (And.intro (same_any secret st.secret hsz hs2 w) hd))
  clear hfin hb hl ho hfew htok hsz hs2 hne hd
  go_enter Try.func8, Try.ntmps8
  go_wp2_with fail
  refine H.out.2.1.mono ?_
  rintro e w2 ⟨rfl, y2⟩
  rw [tl_eq, H.out.2.2]
  have HF := Lib.hid (H.out.1 w2 y2)
  clear y2
  go_wp2
  go_ret2
  exact HF.out

theorem login_cut {w w3 w4 : World} {s : Nat} {own : Nat → Prop} {v v4 a b c d e : Value} {l2 : List (ByteArray × Nat)} (hb : Blk w4 s 52 #[a, b, c, d, e]) (hl : Lst w4 v4 l2) (hv : v4.ownBlock = v.ownBlock)
    (ho : ∀ b, own b ↔ b = s ∨ v.ownBlock = some b) (hne : ∀ g, v.ownBlock = some g → g ≠ s) (y3 : w.grownBy w3 none) (y4 : w3.grownBy w4 v.ownBlock) :
    ∃ v', Blk (w4.setCell ⟨s, 4, none⟩ v4) s 52 #[a, b, c, d, v'] ∧ Lst (w4.setCell ⟨s, 4, none⟩ v4) v' l2 ∧ v'.ownBlock = v.ownBlock ∧ Chg w (w4.setCell ⟨s, 4, none⟩ v4) own := by
  refine ⟨v4, hb.set_ 4 _, own_chg hl ((Chg.refl w4 (fun b => b = s)).set_ (p := ⟨s, 4, none⟩) (.inl rfl) _) (fun g hg => ?_), hv, ?_⟩
  · rw [hv] at hg; exact hne g hg
  · exact Chg.set_ ((Chg.of_none (S := own) y3).trans (Chg.of_by (S := fun b => v.ownBlock = some b) y4 fun g h => h) (fun b hb => .inl ((ho b).2 (.inr hb)))) (.inl ((ho s).2 (.inl rfl))) _
set_option maxRecDepth 100000 in
set_option maxHeartbeats 4000000 in
theorem login_yes (w : World) (s : Nat) (own : Nat → Prop) (st : Ses) (nonce : ByteArray) (hs2 : st.secret.size ≤ 268435456) (hno : nonce.size ≤ 134217728) (now : Nat) (hn : now < 18446744073709551616) (hlg : st.logins < 1000000) (hfew : st.l.length < 999999) (h : SAt w s own st) :
    Calls Try.prog 8 #[.pointer (some ⟨s, 0, none⟩), .string st.secret, .string nonce, .int .u64 (now : Int)] w
      (if ((livL st now).length : Int) < st.slots then LogQ w s own (st.in_ nonce now) (tokB st.secret nonce (st.logins + 1)) 0 else LogQ w s own (st.cut now) ⟨#[]⟩ 12) := by
  obtain ⟨⟨v, hb, hl, ho⟩, hfew1, htok⟩ := h
  obtain ⟨secret, ttl, slots, logins, l⟩ := st
  have c0 : w.cell? ⟨s, 0, none⟩ = some (.string secret) := hb.cell 0
  have hms : secret.size ≤ maxLen := by unfold maxLen; dsimp only at hs2; omega
  have hll : livL ⟨secret, ttl, slots, logins, l⟩ now = l.filter fun x => !overB now ttl x.2 := rfl
  obtain ⟨l2, hl2⟩ : ∃ l2, l2 = livL ⟨secret, ttl, slots, logins, l⟩ now := ⟨_, rfl⟩
  have hlen2 : l2.length ≤ l.length := by rw [hl2, hll]; exact List.length_filter_le _ _
  have htok2 : ∀ x ∈ l2, x.1.size ≤ maxLen := fun x hx => htok x (by rw [hl2, hll] at hx; exact (List.mem_filter.1 hx).1)
  rw [← hl2]
  dsimp only at hb hl ho hfew hfew1 hlg hs2 ⊢
  have H := Lib.hid (And.intro hb (And.intro hl (And.intro ho (And.intro hfew (And.intro hlen2 (And.intro htok2 (And.intro hs2 (And.intro hno (And.intro hn (And.intro hlg (And.intro (hl2.trans hll) (And.intro hfew1 hl2))))))))))))
  have Hsame := Lib.hid (same_any secret secret hms hms w)
  obtain ⟨Q, hQ⟩ : ∃ Q : Ending → World → Prop, Q = (if (l2.length : Int) < slots then LogQ w s own (Ses.in_ ⟨secret, ttl, slots, logins, l⟩ nonce now) (tokB secret nonce (logins + 1)) 0 else LogQ w s own (Ses.cut ⟨secret, ttl, slots, logins, l⟩ now) ⟨#[]⟩ 12) := ⟨_, rfl⟩
  rw [← hQ]
  have HQ := Lib.hid hQ
  clear hQ
  clear hb hl ho hfew hfew1 hlen2 htok htok2 hs2 hno hn hlg hl2 hll hms
  go_enter Try.func8, Try.ntmps8
  go_wp2_with fail
  refine Hsame.out.mono ?_
  rintro e w2 ⟨rfl, y2⟩
  rw [tl_eq, decide_eq_true rfl]
  have H2 := Lib.hid (And.intro (H.out.1.grown y2 (by simp)) (And.intro (H.out.2.1.grown y2) y2))
  clear y2
  go_upto_region 5 with fail
  go_cut [] (fun wx => ∃ v', Blk wx s 52 #[.string secret, .int .u64 (ttl : Int), .int .i64 slots, .int .u64 (logins : Int), v'] ∧ Lst wx v' l2 ∧ v'.ownBlock = v.ownBlock ∧ Chg w wx own)
  case first =>
    refine wp_region_noPanic ?_
    refine wp_region_held_drew (S := fun _ => True) (by kernel_rfl) (trivial) (fun hHeld => ?_)
    refine wpAnyH_take (i := 0) (oi := _) (v := _) rfl (by kernel_rfl) (by kernel_rfl) (by kernel_rfl) (fun _ _ _ h => h) (Or.inl ⟨by rfl, fun _ _ => by go_simp; try rfl⟩) hHeld ?_
    try simp only [Act.put, List.getElem_toArray, List.getElem_cons_zero, List.getElem_cons_succ, List.setIfInBounds_toArray, List.set_cons_zero, List.set_cons_succ]
    refine wpAnyH_take (i := 1) (oi := _) (v := _) rfl (by kernel_rfl) (by kernel_rfl) (by kernel_rfl) (fun _ _ _ h => h) (Or.inl ⟨by rfl, fun _ _ => by go_simp; try rfl⟩) hHeld ?_
    try simp only [Act.put, List.getElem_toArray, List.getElem_cons_zero, List.getElem_cons_succ, List.setIfInBounds_toArray, List.set_cons_zero, List.set_cons_succ]
    refine wpAnyH_take (i := 2) (oi := _) (v := _) rfl (by kernel_rfl) (by kernel_rfl) (by kernel_rfl) (fun _ _ _ h => h) (Or.inl ⟨by rfl, fun _ _ => by go_simp; try rfl⟩) hHeld ?_
    try simp only [Act.put, List.getElem_toArray, List.getElem_cons_zero, List.getElem_cons_succ, List.setIfInBounds_toArray, List.set_cons_zero, List.set_cons_succ]
    refine wpAnyH_take (i := 3) (oi := _) (v := _) rfl (by kernel_rfl) (by kernel_rfl) (by kernel_rfl) (fun _ _ _ h => h) (Or.inl ⟨by rfl, fun _ _ => by go_simp; try rfl⟩) hHeld ?_
    try simp only [Act.put, List.getElem_toArray, List.getElem_cons_zero, List.getElem_cons_succ, List.setIfInBounds_toArray, List.set_cons_zero, List.set_cons_succ]
    refine wpAnyH_take (i := 5) (oi := _) (v := _) rfl (by kernel_rfl) (by kernel_rfl) (by kernel_rfl) (fun _ _ _ h => h) (Or.inl ⟨by rfl, fun _ _ => by go_simp; try rfl⟩) hHeld ?_
    try simp only [Act.put, List.getElem_toArray, List.getElem_cons_zero, List.getElem_cons_succ, List.setIfInBounds_toArray, List.set_cons_zero, List.set_cons_succ]
    refine wpAnyH_take (i := 6) (oi := _) (v := _) rfl (by kernel_rfl) (by kernel_rfl) (by kernel_rfl) (fun _ _ _ h => h) (Or.inl ⟨by rfl, fun _ _ => by go_simp; try rfl⟩) hHeld ?_
    try simp only [Act.put, List.getElem_toArray, List.getElem_cons_zero, List.getElem_cons_succ, List.setIfInBounds_toArray, List.set_cons_zero, List.set_cons_succ]
    have c4 : w2.drew.cell? ⟨s, 4, none⟩ = some v := H2.out.1.drew.cell 4
    refine wpAnyH_ready (rs := [4, 7]) (by kernel_rfl) (by simp) ?_
    refine AllReadyH.cons (o := _) rfl (fun K hK => ?_) (AllReadyH.cons (o := _) rfl (fun K hK => ?_) AllReadyH.nil)
    · go_simp
      refine hK.out _ _ trivial (fun hHeld => ?_)
      clear hK K
      try simp only [Act.put, List.getElem_toArray, List.getElem_cons_zero, List.getElem_cons_succ, List.setIfInBounds_toArray, List.set_cons_zero, List.set_cons_succ]
      refine wpAnyH_ready (rs := [7]) (by kernel_rfl) (by simp) ?_
      refine AllReadyH.cons (o := _) rfl (fun K hK => ?_) AllReadyH.nil
      go_simp
      refine (over_any _ s now ttl ⟨_, _, _, _, H2.out.1.drew⟩).mono ?_
      rintro e w3 ⟨p1, p2, rfl, y3, hov⟩
      dsimp only
      refine hK.out _ _ trivial (fun hHeld => ?_)
      clear hK K
      try simp only [Act.put, List.getElem_toArray, List.getElem_cons_zero, List.getElem_cons_succ, List.setIfInBounds_toArray, List.set_cons_zero, List.set_cons_succ]
      have H3 := Lib.hid (And.intro hov (And.intro (H2.out.2.1.drew.grown y3) (And.intro (H2.out.1.drew.grown y3 (by simp)) (by_trans (by_drew H2.out.2.2) y3 (by simp)))))
      clear hov y3
      refine wpAnyH_ready (rs := [8]) (by kernel_rfl) (by simp) ?_
      refine AllReadyH.cons (o := _) rfl (fun K hK => ?_) AllReadyH.nil
      go_simp
      refine (delf_any p1 p2 s now ttl H.out.2.2.2.2.2.2.2.2.1 v l w3 H3.out.1 H3.out.2.1 H.out.2.2.2.2.2.2.2.2.2.2.2.1).mono ?_
      rintro e w4 ⟨v4, rfl, hl4, y4, hv4⟩
      dsimp only
      refine hK.out _ _ trivial (fun hHeld => ?_)
      clear hK K
      try simp only [Act.put, List.getElem_toArray, List.getElem_cons_zero, List.getElem_cons_succ, List.setIfInBounds_toArray, List.set_cons_zero, List.set_cons_succ]
      have hne : ∀ g, v.ownBlock = some g → g ≠ s := fun g hg e => own_blk_ne H2.out.2.1 H2.out.1 (by decide) (by rw [hg, e])
      have hl4 : Lst w4 v4 l2 := by rw [H.out.2.2.2.2.2.2.2.2.2.2.1]; exact hl4
      obtain ⟨A4, k4, rfl, _⟩ := hl4.at_
      have hb4 := H3.out.2.2.1.grown y4 (fun e => hne s e.symm rfl)
      have x4 : w4.cell? ⟨s, 4, none⟩ = some v := hb4.cell 4
      have z4 : w4.frozen? ⟨s, 4, none⟩ = false := hb4.frozen 4
      have hfin := login_cut hb4 hl4 hv4 H.out.2.2.1 hne H3.out.2.2.2 y4
      have HF := Lib.hid hfin
      clear hfin hl4 y4 hv4 hne hb4
      refine wpAnyH_take (i := 9) (oi := _) (v := _) rfl (by kernel_rfl) (by kernel_rfl) (by kernel_rfl) (fun _ _ _ h => h) (Or.inl ⟨by rfl, fun _ _ => by go_simp; try rfl⟩) hHeld ?_
      try simp only [Act.put, List.getElem_toArray, List.getElem_cons_zero, List.getElem_cons_succ, List.setIfInBounds_toArray, List.set_cons_zero, List.set_cons_succ]
      refine wpAnyH_take (i := 10) (oi := _) (v := _) rfl (by kernel_rfl) (by kernel_rfl) (by kernel_rfl) (fun _ _ _ h => h) (Or.inl ⟨by rfl, fun _ _ => by go_simp; try rfl⟩) hHeld ?_
      try simp only [Act.put, List.getElem_toArray, List.getElem_cons_zero, List.getElem_cons_succ, List.setIfInBounds_toArray, List.set_cons_zero, List.set_cons_succ]
      refine wpAnyH_ready (rs := [11]) (by kernel_rfl) (by simp) ?_
      refine AllReadyH.cons (o := _) rfl (fun K hK => ?_) AllReadyH.nil
      rw [if_pos (by rfl)]
      go_simp
      refine hK.out _ _ trivial (fun hHeld => ?_)
      clear hK K
      try simp only [Act.put, List.getElem_toArray, List.getElem_cons_zero, List.getElem_cons_succ, List.setIfInBounds_toArray, List.set_cons_zero, List.set_cons_succ]
      refine wpAnyH_done (by kernel_rfl) (NoPanic.normal ?_) _
      go_wp2_with fail
      go_meet
      exact HF.out
    · go_simp
      refine (over_any _ s now ttl ⟨_, _, _, _, H2.out.1.drew⟩).mono ?_
      rintro e w3 ⟨p1, p2, rfl, y3, hov⟩
      dsimp only
      refine hK.out _ _ trivial (fun hHeld => ?_)
      clear hK K
      try simp only [Act.put, List.getElem_toArray, List.getElem_cons_zero, List.getElem_cons_succ, List.setIfInBounds_toArray, List.set_cons_zero, List.set_cons_succ]
      have H3 := Lib.hid (And.intro hov (And.intro (H2.out.2.1.drew.grown y3) (And.intro (H2.out.1.drew.grown y3 (by simp)) (by_trans (by_drew H2.out.2.2) y3 (by simp)))))
      clear hov y3
      clear c4
      have c4 : w3.cell? ⟨s, 4, none⟩ = some v := H3.out.2.2.1.cell 4
      refine wpAnyH_ready (rs := [4]) (by kernel_rfl) (by simp) ?_
      refine AllReadyH.cons (o := _) rfl (fun K hK => ?_) AllReadyH.nil
      go_simp
      refine hK.out _ _ trivial (fun hHeld => ?_)
      clear hK K
      try simp only [Act.put, List.getElem_toArray, List.getElem_cons_zero, List.getElem_cons_succ, List.setIfInBounds_toArray, List.set_cons_zero, List.set_cons_succ]
      refine wpAnyH_ready (rs := [8]) (by kernel_rfl) (by simp) ?_
      refine AllReadyH.cons (o := _) rfl (fun K hK => ?_) AllReadyH.nil
      go_simp
      refine (delf_any p1 p2 s now ttl H.out.2.2.2.2.2.2.2.2.1 v l w3 H3.out.1 H3.out.2.1 H.out.2.2.2.2.2.2.2.2.2.2.2.1).mono ?_
      rintro e w4 ⟨v4, rfl, hl4, y4, hv4⟩
      dsimp only
      refine hK.out _ _ trivial (fun hHeld => ?_)
      clear hK K
      try simp only [Act.put, List.getElem_toArray, List.getElem_cons_zero, List.getElem_cons_succ, List.setIfInBounds_toArray, List.set_cons_zero, List.set_cons_succ]
      have hne : ∀ g, v.ownBlock = some g → g ≠ s := fun g hg e => own_blk_ne H2.out.2.1 H2.out.1 (by decide) (by rw [hg, e])
      have hl4 : Lst w4 v4 l2 := by rw [H.out.2.2.2.2.2.2.2.2.2.2.1]; exact hl4
      obtain ⟨A4, k4, rfl, _⟩ := hl4.at_
      have hb4 := H3.out.2.2.1.grown y4 (fun e => hne s e.symm rfl)
      have x4 : w4.cell? ⟨s, 4, none⟩ = some v := hb4.cell 4
      have z4 : w4.frozen? ⟨s, 4, none⟩ = false := hb4.frozen 4
      have hfin := login_cut hb4 hl4 hv4 H.out.2.2.1 hne H3.out.2.2.2 y4
      have HF := Lib.hid hfin
      clear hfin hl4 y4 hv4 hne hb4
      refine wpAnyH_take (i := 9) (oi := _) (v := _) rfl (by kernel_rfl) (by kernel_rfl) (by kernel_rfl) (fun _ _ _ h => h) (Or.inl ⟨by rfl, fun _ _ => by go_simp; try rfl⟩) hHeld ?_
      try simp only [Act.put, List.getElem_toArray, List.getElem_cons_zero, List.getElem_cons_succ, List.setIfInBounds_toArray, List.set_cons_zero, List.set_cons_succ]
      refine wpAnyH_take (i := 10) (oi := _) (v := _) rfl (by kernel_rfl) (by kernel_rfl) (by kernel_rfl) (fun _ _ _ h => h) (Or.inl ⟨by rfl, fun _ _ => by go_simp; try rfl⟩) hHeld ?_
      try simp only [Act.put, List.getElem_toArray, List.getElem_cons_zero, List.getElem_cons_succ, List.setIfInBounds_toArray, List.set_cons_zero, List.set_cons_succ]
      refine wpAnyH_ready (rs := [11]) (by kernel_rfl) (by simp) ?_
      refine AllReadyH.cons (o := _) rfl (fun K hK => ?_) AllReadyH.nil
      rw [if_pos (by rfl)]
      go_simp
      refine hK.out _ _ trivial (fun hHeld => ?_)
      clear hK K
      try simp only [Act.put, List.getElem_toArray, List.getElem_cons_zero, List.getElem_cons_succ, List.setIfInBounds_toArray, List.set_cons_zero, List.set_cons_succ]
      refine wpAnyH_done (by kernel_rfl) (NoPanic.normal ?_) _
      go_wp2_with fail
      go_meet
      exact HF.out
  case rest =>
    obtain ⟨v5, hb5, hl5, hv5, hc5⟩ := hcut
    obtain ⟨A5, k5, rfl, _⟩ := hl5.at_
    clear c0
    have c0 : wc.cell? ⟨s, 0, none⟩ = some (.string secret) := hb5.cell 0
    have c2 : wc.cell? ⟨s, 2, none⟩ = some (.int .i64 slots) := hb5.cell 2
    have c3 : wc.cell? ⟨s, 3, none⟩ = some (.int .u64 (logins : Int)) := hb5.cell 3
    have c4 : wc.cell? ⟨s, 4, none⟩ = some (.slice A5 l2.length k5) := hb5.cell 4
    have z3 : wc.frozen? ⟨s, 3, none⟩ = false := hb5.frozen 3
    have HC := Lib.hid (And.intro hb5 (And.intro hl5 (And.intro hv5 hc5)))
    clear hb5 hl5 hv5 hc5
    by_cases hfull : (l2.length : Int) < slots
    · have HFU := Lib.hid hfull
      have hge : ¬ slots ≤ (l2.length : Int) := by omega
      obtain ⟨lg1, hlg1⟩ : ∃ n, n = logins + 1 := ⟨_, rfl⟩
      have hwr : IntKind.u64.wrap ((logins : Int) + 1) = (lg1 : Int) := by
        have := H.out.2.2.2.2.2.2.2.2.2.1
        rw [IntKind.wrap_u64]
        omega
      have Hlg := Lib.hid hlg1
      clear hlg1 hfull
      go_wp2_with fail
      go_quiet (fail)
      go_wp2_with fail
      obtain ⟨V, hV⟩ : ∃ V, V = ((wc.drewN nq).setCell ⟨s, 3, none⟩ (.int .u64 (lg1 : Int))) := ⟨_, rfl⟩
      rw [← hV]
      have hbV : Blk V s 52 #[.string secret, .int .u64 (ttl : Int), .int .i64 slots, .int .u64 (lg1 : Int), .slice A5 l2.length k5] := by rw [hV]; exact (HC.out.1.drewN nq).set_ 3 _
      have hlV : Lst V (.slice A5 l2.length k5) l2 := by
        rw [hV]
        refine own_chg (HC.out.2.1.drewN nq) ((Chg.refl (wc.drewN nq) (fun b => b = s)).set_ (p := ⟨s, 3, none⟩) (.inl rfl) _) (fun g hg e => ?_)
        exact own_blk_ne HC.out.2.1 HC.out.1 (by decide) (by rw [hg, e])
      have hcV : Chg w V own := by rw [hV]; exact (HC.out.2.2.2.drewN nq).set_ (.inl ((H.out.2.2.1 s).2 (.inl rfl))) _
      clear hV c0 c2 c3 c4 z3
      obtain ⟨B8, hB8⟩ : ∃ B, B = beB lg1 := ⟨_, rfl⟩
      obtain ⟨L, hL⟩ : ∃ L, L = (u8s (markB secret (nonce ++ B8))).toArray := ⟨_, rfl⟩
      obtain ⟨T, hT⟩ : ∃ T, T = tokB secret nonce lg1 := ⟨_, rfl⟩
      have hsz8 : B8.size = 8 := by rw [hB8]; exact beB_size _
      have hadd : ¬ 9223372036854775807 < nonce.size + B8.size := by have := H.out.2.2.2.2.2.2.2.1; omega
      have k1 : ∀ W, Calls Try.prog 23 #[.int .u64 (lg1 : Int)] W fun e w' => e = .returned (.string B8) ∧ W.grownBy w' none := fun W => by
        rw [hB8]; exact bytes_any W lg1 (by have := H.out.2.2.2.2.2.2.2.2.2.1; have := Hlg.out; omega)
      have k2 : ∀ W, Calls Try.prog 19 #[.string secret, .string (nonce ++ B8)] W fun e w' => e = .returned (.agg L) ∧ W.grownBy w' none := fun W => by
        rw [hL]; exact mac_any _ _ H.out.2.2.2.2.2.2.1 (by have := H.out.2.2.2.2.2.2.2.1; rw [ByteArray.size_append]; omega) W
      have k3 : ∀ W, Calls Try.prog 18 #[.agg L] W fun e w' => e = .returned (.string T) ∧ W.grownBy w' none := fun W => by
        rw [hL, hT, hB8]; exact hex_any _ (markB_len _ _) W
      have HK := Lib.hid (And.intro k1 (And.intro k2 k3))
      have HV := Lib.hid (And.intro hbV (And.intro hlV hcV))
      have HT := Lib.hid hT
      clear hbV hlV hcV k1 k2 k3 hB8 hL hT hsz8
      refine wp_region_noPanic ?_
      refine wp_region_held_drew (S := fun W => V.grownBy W none ∧ Blk W s 52 #[.string secret, .int .u64 (ttl : Int), .int .i64 slots, .int .u64 (lg1 : Int), .slice A5 l2.length k5]) (by kernel_rfl) (⟨by_drew (by_refl _ _), HV.out.1.drew⟩) (fun hHeld => ?_)
      refine wpAnyH_take (i := 0) (oi := _) (v := _) rfl (by kernel_rfl) (by kernel_rfl) (by kernel_rfl) (fun _ _ _ h => h) (Or.inl ⟨by rfl, fun _ _ => by go_simp; try rfl⟩) hHeld ?_
      try simp only [Act.put, List.getElem_toArray, List.getElem_cons_zero, List.getElem_cons_succ, List.setIfInBounds_toArray, List.set_cons_zero, List.set_cons_succ]
      refine wpAnyH_take (i := 1) (oi := _) (v := _) rfl (by kernel_rfl) (by kernel_rfl) (by kernel_rfl) (fun _ _ _ h => h) (Or.inl ⟨by rfl, fun _ _ => by go_simp; try rfl⟩) hHeld ?_
      try simp only [Act.put, List.getElem_toArray, List.getElem_cons_zero, List.getElem_cons_succ, List.setIfInBounds_toArray, List.set_cons_zero, List.set_cons_succ]
      refine wpAnyH_take (i := 2) (oi := _) (v := _) rfl (by kernel_rfl) (by kernel_rfl) (by kernel_rfl) (fun _ _ _ h => h) (Or.inl ⟨by rfl, fun _ _ => by go_simp; try rfl⟩) hHeld ?_
      try simp only [Act.put, List.getElem_toArray, List.getElem_cons_zero, List.getElem_cons_succ, List.setIfInBounds_toArray, List.set_cons_zero, List.set_cons_succ]
      refine wpAnyH_take (i := 3) (oi := _) (v := _) rfl (by kernel_rfl) (by kernel_rfl) (by kernel_rfl) (fun _ _ _ h => h) (Or.inl ⟨by rfl, fun _ h => by have hx := h.2.cell 0; (try simp only [List.getElem_toArray, List.getElem_cons_zero, List.getElem_cons_succ]); go_simp; try rfl⟩) hHeld ?_
      try simp only [Act.put, List.getElem_toArray, List.getElem_cons_zero, List.getElem_cons_succ, List.setIfInBounds_toArray, List.set_cons_zero, List.set_cons_succ]
      refine wpAnyH_take (i := 4) (oi := _) (v := _) rfl (by kernel_rfl) (by kernel_rfl) (by kernel_rfl) (fun _ _ _ h => h) (Or.inl ⟨by rfl, fun _ _ => by go_simp; try rfl⟩) hHeld ?_
      try simp only [Act.put, List.getElem_toArray, List.getElem_cons_zero, List.getElem_cons_succ, List.setIfInBounds_toArray, List.set_cons_zero, List.set_cons_succ]
      refine wpAnyH_take (i := 5) (oi := _) (v := _) rfl (by kernel_rfl) (by kernel_rfl) (by kernel_rfl) (fun _ _ _ h => h) (Or.inl ⟨by rfl, fun _ _ => by go_simp; try rfl⟩) hHeld ?_
      try simp only [Act.put, List.getElem_toArray, List.getElem_cons_zero, List.getElem_cons_succ, List.setIfInBounds_toArray, List.set_cons_zero, List.set_cons_succ]
      refine wpAnyH_take (i := 6) (oi := _) (v := _) rfl (by kernel_rfl) (by kernel_rfl) (by kernel_rfl) (fun _ _ _ h => h) (Or.inl ⟨by rfl, fun _ _ => by go_simp; try rfl⟩) hHeld ?_
      try simp only [Act.put, List.getElem_toArray, List.getElem_cons_zero, List.getElem_cons_succ, List.setIfInBounds_toArray, List.set_cons_zero, List.set_cons_succ]
      refine wpAnyH_take (i := 7) (oi := _) (v := _) rfl (by kernel_rfl) (by kernel_rfl) (by kernel_rfl) (fun _ _ _ h => h) (Or.inl ⟨by rfl, fun _ _ => by go_simp; try rfl⟩) hHeld ?_
      try simp only [Act.put, List.getElem_toArray, List.getElem_cons_zero, List.getElem_cons_succ, List.setIfInBounds_toArray, List.set_cons_zero, List.set_cons_succ]
      refine wpAnyH_take (i := 8) (oi := _) (v := _) rfl (by kernel_rfl) (by kernel_rfl) (by kernel_rfl) (fun _ _ _ h => h) (Or.inl ⟨by rfl, fun _ h => by have hx := h.2.cell 3; (try simp only [List.getElem_toArray, List.getElem_cons_zero, List.getElem_cons_succ]); go_simp; try rfl⟩) hHeld ?_
      try simp only [Act.put, List.getElem_toArray, List.getElem_cons_zero, List.getElem_cons_succ, List.setIfInBounds_toArray, List.set_cons_zero, List.set_cons_succ]
      refine wpAnyH_ready (rs := [9]) (by kernel_rfl) (by simp) ?_
      refine AllReadyH.cons (o := _) rfl (fun K hK => ?_) AllReadyH.nil
      go_simp
      refine (HK.out.1 _).mono ?_
      rintro e w4 ⟨rfl, y4⟩
      dsimp only
      refine hK.out _ _ (⟨by_trans hHeld.1 y4 (by simp), hHeld.2.grown y4 (by simp)⟩) (fun hHeld => ?_)
      clear hK K
      try simp only [Act.put, List.getElem_toArray, List.getElem_cons_zero, List.getElem_cons_succ, List.setIfInBounds_toArray, List.set_cons_zero, List.set_cons_succ]
      refine wpAnyH_take (i := 10) (oi := _) (v := _) rfl (by kernel_rfl) (by kernel_rfl) (by kernel_rfl) (fun _ _ _ h => h) (Or.inl ⟨by rfl, fun _ _ => by go_simp; try rfl⟩) hHeld ?_
      try simp only [Act.put, List.getElem_toArray, List.getElem_cons_zero, List.getElem_cons_succ, List.setIfInBounds_toArray, List.set_cons_zero, List.set_cons_succ]
      refine wpAnyH_ready (rs := [11]) (by kernel_rfl) (by simp) ?_
      refine AllReadyH.cons (o := _) rfl (fun K hK => ?_) AllReadyH.nil
      go_simp
      refine (HK.out.2.1 _).mono ?_
      rintro e w5 ⟨rfl, y5⟩
      dsimp only
      refine hK.out _ _ (⟨by_trans hHeld.1 y5 (by simp), hHeld.2.grown y5 (by simp)⟩) (fun hHeld => ?_)
      clear hK K
      try simp only [Act.put, List.getElem_toArray, List.getElem_cons_zero, List.getElem_cons_succ, List.setIfInBounds_toArray, List.set_cons_zero, List.set_cons_succ]
      refine wpAnyH_ready (rs := [12]) (by kernel_rfl) (by simp) ?_
      refine AllReadyH.cons (o := _) rfl (fun K hK => ?_) AllReadyH.nil
      go_simp
      refine (HK.out.2.2 _).mono ?_
      rintro e w6 ⟨rfl, y6⟩
      dsimp only
      refine hK.out _ _ (⟨by_trans hHeld.1 y6 (by simp), hHeld.2.grown y6 (by simp)⟩) (fun hHeld => ?_)
      clear hK K
      try simp only [Act.put, List.getElem_toArray, List.getElem_cons_zero, List.getElem_cons_succ, List.setIfInBounds_toArray, List.set_cons_zero, List.set_cons_succ]
      refine wpAnyH_take (i := 13) (oi := _) (v := _) rfl (by kernel_rfl) (by kernel_rfl) (by kernel_rfl) (fun _ _ _ h => h) (Or.inl ⟨by rfl, fun _ _ => by go_simp; try rfl⟩) hHeld ?_
      try simp only [Act.put, List.getElem_toArray, List.getElem_cons_zero, List.getElem_cons_succ, List.setIfInBounds_toArray, List.set_cons_zero, List.set_cons_succ]
      refine wpAnyH_done (by kernel_rfl) (NoPanic.normal ?_) _
      have hb6 := hHeld.2
      have hl6 := HV.out.2.1.grown hHeld.1
      have hc6 := HV.out.2.2.trans (Chg.of_none (S := own) hHeld.1) fun _ h => .inl h
      have c4 : w6.cell? ⟨s, 4, none⟩ = some (.slice A5 l2.length k5) := hb6.cell 4
      clear hHeld
      obtain ⟨wn, hwn⟩ : ∃ W, W = w6.alloc (.cells #[.string T, .int .u64 (now : Int)] 56) := ⟨_, rfl⟩
      have yn : w6.grownBy wn none := by rw [hwn]; exact by_alloc (by_refl _ _) _
      have hbn : Blk wn w6.heap.size 56 #[.string T, .int .u64 (now : Int)] := by rw [hwn]; exact Blk.new _ _ _
      have hO : (w6.alloc (.cells #[.string T, .int .u64 (now : Int)] 56)).ownsRow 0 56 2 (.slice A5 l2.length k5) l2.length (scells l2) := by rw [← hwn]; exact hl6.grown yn
      have hnews : ∀ j u, (scell (T, now))[j]? = some u → (w6.alloc (.cells #[.string T, .int .u64 (now : Int)] 56)).cell? ((⟨w6.heap.size, 0, none⟩ : Addr).add j) = some u := by rw [← hwn]; exact World.news_of_block hbn
      obtain ⟨i0, hi0, hz0, hz1, hz2⟩ := info_some infoSess
      have hbn2 := hb6.grown yn (by simp)
      have HN := Lib.hid (And.intro hO (And.intro hnews (And.intro hi0 (And.intro hz0 (And.intro hz1 hz2)))))
      have H7 := Lib.hid (And.intro hbn2 (And.intro (hc6.trans (Chg.of_none (S := own) yn) fun _ h => .inl h) (And.intro hl6 yn.size)))
      have HW := Lib.hid hwn
      have hlen7 : l2.length < 1000000 := by have h1 := H.out.2.2.2.2.1; have h2 := H.out.2.2.2.1; omega
      clear hb6 hl6 hc6 yn hbn hO hnews hi0 hz0 hz1 hz2 hbn2 hwn
      go_wp2_with (at_builtin; refine wpList_append_own_at _ rfl (.tmp 67) (.tmp 71) 50 rfl 0 56 i0 _ 2 24 Try.underlying50 HN.out.2.2.1 HN.out.2.2.2.1 HN.out.2.2.2.2.1 HN.out.2.2.2.2.2 rfl (by decide) (.slice A5 l2.length k5) l2.length (scells l2) rfl HN.out.1 ⟨w6.heap.size, 0, none⟩ 1 1 (scell (T, now)) rfl ?k1 ?k2 ?k3 ?k4 ?k5 (Nat.zero_le _) ?_)
      case k1 => rfl
      case k2 => exact HN.out.2.1
      case k3 => have := scells_one [(T, now)]; simpa [scells] using this
      case k4 => unfold maxLen; omega
      case k5 => omega
      rw [← HW.out]
      intro v' w8 ho8 y8 _ hv8
      have hl8 : Lst w8 v' (l2 ++ [(T, now)]) := by
        have e1 : (l2 ++ [(T, now)]).length = l2.length + 1 := by simp
        have e2 : scells (l2 ++ [(T, now)]) = scells l2 ++ scell (T, now) := by rw [scells_app]; simp [scells]
        show w8.ownsRow 0 _ 2 v' (l2 ++ [(T, now)]).length (scells (l2 ++ [(T, now)]))
        rw [e1, e2]; exact ho8
      have hne : ∀ g, (Value.slice A5 l2.length k5).ownBlock = some g → g ≠ s := fun g hg e => own_blk_ne HV.out.2.1 HV.out.1 (by decide) (by rw [hg, e])
      have hb8 := H7.out.1.grown y8 (fun e => hne s e.symm rfl)
      have hvo : v'.ownBlock ≠ some s := own_blk_ne hl8 hb8 (by decide)
      have x4 : w8.cell? ⟨s, 4, none⟩ = some (.slice A5 l2.length k5) := hb8.cell 4
      have z4 : w8.frozen? ⟨s, 4, none⟩ = false := hb8.frozen 4
      have hc8 : Chg w w8 own := H7.out.2.1.trans (Chg.of_by (S := fun b => (Value.slice A5 l2.length k5).ownBlock = some b) y8 fun g h => h) (fun b hb => .inl ((H.out.2.2.1 b).2 (.inr (by rw [← HC.out.2.2.1]; exact hb))))
      have hown : ∀ b, v'.ownBlock = some b → own b ∨ w.heap.size ≤ b := fun b hb => by
        rcases hv8 with h | h
        · exact .inl ((H.out.2.2.1 b).2 (.inr (by rw [← HC.out.2.2.1, ← h]; exact hb)))
        · right
          rw [h] at hb
          cases hb
          have e7 := H7.out.2.1.size
          rw [HW.out] at e7
          simpa using e7
      obtain ⟨A8, k8, rfl, _⟩ := hl8.at_
      obtain ⟨n8, hn8⟩ : ∃ n, n = (l2 ++ [(T, now)]).length := ⟨_, rfl⟩
      have hfin : Q (.returned (.tuple #[.string T, .int .i64 0])) (w8.setCell ⟨s, 4, none⟩ (.slice A8 n8 k8)) := by
        rw [HQ.out, if_pos HFU.out]
        have eT := HT.out
        rw [Hlg.out] at eT
        rw [← eT]
        have ein : Ses.in_ ⟨secret, ttl, slots, logins, l⟩ nonce now = ⟨secret, ttl, slots, lg1, l2 ++ [(T, now)]⟩ := by
          unfold Ses.in_
          rw [← H.out.2.2.2.2.2.2.2.2.2.2.2.2, ← eT, ← Hlg.out]
        rw [ein]
        refine ⟨rfl, fun b => b = s ∨ (Value.slice A8 n8 k8).ownBlock = some b, ⟨⟨.slice A8 n8 k8, hb8.set_ 4 _, ?_, fun b => Iff.rfl⟩, ?_, ?_⟩, ?_, ?_⟩
        · have hS := own_chg hl8 ((Chg.refl w8 (fun b => b = s)).set_ (p := ⟨s, 4, none⟩) (.inl rfl) (.slice A8 n8 k8)) (fun g hg e => hvo (by rw [hg, e]))
          rw [← hn8] at hS
          show World.ownsRow _ 0 _ 2 _ (l2 ++ [(T, now)]).length _
          rw [← hn8]; exact hS
        · show (l2 ++ [(T, now)]).length < _
          rw [List.length_append]
          have h1 := H.out.2.2.2.2.1; have h2 := H.out.2.2.2.1
          show l2.length + 1 < _
          omega
        · intro x hx
          rcases List.mem_append.1 (show x ∈ l2 ++ [(T, now)] from hx) with h | h
          · exact H.out.2.2.2.2.2.1 x h
          · obtain rfl := List.mem_singleton.1 h
            show T.size ≤ maxLen
            rw [eT, tokB_size]; unfold maxLen; omega
        · exact hc8.set_ (.inl ((H.out.2.2.1 s).2 (.inl rfl))) _
        · rintro b (rfl | hb)
          · exact .inl ((H.out.2.2.1 b).2 (.inl rfl))
          · exact hown b (by rw [← hn8]; exact hb)
      have HF := Lib.hid hfin
      rw [← hn8]
      clear hfin hl8 hne hb8 hvo hc8 hown hn8 ho8 y8 hv8
      go_wp2
      exact HF.out
    · have hge : decide (slots ≤ (l2.length : Int)) = true := by simp only [decide_eq_true_eq]; omega
      have hge2 : slots ≤ (l2.length : Int) := by omega
      have hfin : ∀ n, LogQ w s own (Ses.cut ⟨secret, ttl, slots, logins, l⟩ now) ⟨#[]⟩ 12 (.returned (.tuple #[.string ⟨#[]⟩, .int .i64 12])) (wc.drewN n) := fun n => by
        refine ⟨rfl, own, ⟨⟨.slice A5 l2.length k5, HC.out.1.drewN n, ?_, fun b => ?_⟩, ?_, ?_⟩, HC.out.2.2.2.drewN n, fun b hb => .inl hb⟩
        · show Lst (wc.drewN n) _ (livL ⟨secret, ttl, slots, logins, l⟩ now)
          rw [← H.out.2.2.2.2.2.2.2.2.2.2.2.2]; exact HC.out.2.1.drewN n
        · rw [HC.out.2.2.1]; exact H.out.2.2.1 b
        · show (livL ⟨secret, ttl, slots, logins, l⟩ now).length < _
          rw [← H.out.2.2.2.2.2.2.2.2.2.2.2.2]; have h1 := H.out.2.2.2.2.1; have h2 := H.out.2.2.2.1; omega
        · show ∀ x ∈ livL ⟨secret, ttl, slots, logins, l⟩ now, _
          rw [← H.out.2.2.2.2.2.2.2.2.2.2.2.2]; exact H.out.2.2.2.2.2.1
      have HF := Lib.hid (fun n => show Q _ _ by rw [HQ.out, if_neg hfull]; exact hfin n)
      clear hfin hfull
      go_wp2_with fail
      go_quiet (fail)
      go_wp2
      exact HF.out _
end Go.Proofs.Ytdloapfifhelbaa
