/-
  Sess: the function values that tell whether a session is over, and whether it is one that lives.
-/
import Derived.Test.YtdloapfifhelbaaLst
import Derived.Deep.QuietTactic
import Derived.BigQuiet
namespace Go.Proofs.Ytdloapfifhelbaa
open Go.RowKit

def overB (now ttl t : Nat) : Bool := decide (t ≤ now) && decide (ttl ≤ now - t)
/-- what the function value reads: the time, and the sessions' time to live -/
structure Ov (p1 p2 b now ttl : Nat) (W : World) : Prop where
  c1 : Blk W p1 23 #[.int .u64 (now : Int)]
  c2 : Blk W p2 25 #[.pointer (some ⟨b, 0, none⟩)]
  c3 : ∃ s sl lg v, Blk W b 52 #[.string s, .int .u64 (ttl : Int), sl, lg, v]
theorem Ov.grown {p1 p2 b now ttl : Nat} {W W' : World} (h : Ov p1 p2 b now ttl W) (y : W.grownBy W' none) : Ov p1 p2 b now ttl W' :=
  ⟨h.c1.grown y (by simp), h.c2.grown y (by simp), by obtain ⟨s, sl, lg, v, h3⟩ := h.c3; exact ⟨s, sl, lg, v, h3.grown y (by simp)⟩⟩
theorem Ov.chg {p1 p2 b now ttl : Nat} {W W' : World} {S : Nat → Prop} (h : Ov p1 p2 b now ttl W) (y : Chg W W' S) (hT : ∀ g, S g → ∃ cs, Blk W g 56 cs) : Ov p1 p2 b now ttl W' := by
  have ne : ∀ {g t cs}, t ≠ 56 → Blk W g t cs → ¬ S g := fun ht hb hs => by
    obtain ⟨cs, h2⟩ := hT _ hs
    exact hb.ne_ h2 ht rfl
  exact ⟨h.c1.chg y (ne (by decide) h.c1), h.c2.chg y (ne (by decide) h.c2), by obtain ⟨s, sl, lg, v, h3⟩ := h.c3; exact ⟨s, sl, lg, v, h3.chg y (ne (by decide) h3)⟩⟩

set_option maxRecDepth 100000 in
set_option maxHeartbeats 400000 in
theorem over1_any (p1 p2 b now ttl : Nat) (hn : now < 18446744073709551616) (tok : ByteArray) (t : Nat) (w : World) (h : Ov p1 p2 b now ttl w) :
    Calls Try.prog 36 #[.agg #[.string tok, .int .u64 (t : Int)], .pointer (some ⟨p1, 0, none⟩), .pointer (some ⟨p2, 0, none⟩)] w
      fun e w' => e = .returned (.bool (overB now ttl t)) ∧ w.grownBy w' none := by
  obtain ⟨W, hW⟩ : ∃ W, W = w.alloc (.cells #[.string tok, .int .u64 (t : Int)] 56) := ⟨_, rfl⟩
  have hy : w.grownBy W none := by rw [hW]; exact by_alloc (by_refl _ _) _
  have hb : Blk W w.heap.size 56 #[.string tok, .int .u64 (t : Int)] := by rw [hW]; exact Blk.new _ _ _
  have h2 := h.grown hy
  have c1 : W.cell? ⟨p1, 0, none⟩ = some (.int .u64 (now : Int)) := h2.c1.cell 0
  have c2 : W.cell? ⟨p2, 0, none⟩ = some (.pointer (some ⟨b, 0, none⟩)) := h2.c2.cell 0
  have c3 : W.cell? ⟨b, 1, none⟩ = some (.int .u64 (ttl : Int)) := by obtain ⟨s, sl, lg, v, h3⟩ := h2.c3; exact h3.cell 1
  have c4 : W.cell? ⟨w.heap.size, 1, none⟩ = some (.int .u64 (t : Int)) := hb.cell 1
  have HW := Lib.hid (And.intro hW hy)
  clear hW hy hb h2 h
  obtain ⟨a0, ha0⟩ : ∃ a0, a0 = w.heap.size := ⟨_, rfl⟩
  rw [← ha0] at c4
  have Ha0 := Lib.hid ha0
  clear ha0
  have hwr : t ≤ now → IntKind.u64.wrap ((now : Int) - (t : Int)) = ((now - t : Nat) : Int) := fun h => by
    rw [IntKind.wrap_u64]
    omega
  go_enter Try.func36, Try.ntmps36
  rcases Nat.lt_or_ge now t with hlt | hge
  · have hv : overB now ttl t = false := by unfold overB; rw [decide_eq_false (by omega)]; rfl
    have Hv := Lib.hid hv
    have h1 : decide ((t : Int) ≤ (now : Int)) = false := by simp; omega
    have h2 : decide (t ≤ now) = false := by simp; omega
    clear hv hwr hn hlt
    go_wp2_with fail
    rw [← HW.out.1, ← Ha0.out]
    go_quiet (fail)
    go_wp2
    go_ret
    exact ⟨by rw [Hv.out]; rfl, by_drewN HW.out.2 _⟩
  · have hw := hwr hge
    have h1 : decide ((t : Int) ≤ (now : Int)) = true := by simp; omega
    have h2 : decide (t ≤ now) = true := by simp; omega
    by_cases h3 : ttl ≤ now - t
    · have hv : overB now ttl t = true := by unfold overB; rw [decide_eq_true hge, decide_eq_true h3]; rfl
      have Hv := Lib.hid hv
      obtain ⟨d, hd⟩ : ∃ d, d = now - t := ⟨_, rfl⟩
      rw [← hd] at hw h3
      have h4 : decide ((ttl : Int) ≤ (d : Int)) = true := by simp; omega
      have h5 : decide (ttl ≤ d) = true := by simp; omega
      have Hx := Lib.hid hd
      clear hv hwr hn hge h3 hd
      go_wp2_with fail
      rw [← HW.out.1, ← Ha0.out]
      go_quiet (fail)
      go_wp2
      go_ret
      exact ⟨by rw [Hv.out]; rfl, by_drewN HW.out.2 _⟩
    · have hv : overB now ttl t = false := by unfold overB; rw [decide_eq_false h3]; simp
      have Hv := Lib.hid hv
      obtain ⟨d, hd⟩ : ∃ d, d = now - t := ⟨_, rfl⟩
      rw [← hd] at hw h3
      have h4 : decide ((ttl : Int) ≤ (d : Int)) = false := by simp; omega
      have h5 : decide (ttl ≤ d) = false := by simp; omega
      have Hx := Lib.hid hd
      clear hv hwr hn hge h3 hd
      go_wp2_with fail
      rw [← HW.out.1, ← Ha0.out]
      go_quiet (fail)
      go_wp2
      go_ret
      exact ⟨by rw [Hv.out]; rfl, by_drewN HW.out.2 _⟩
/-- what the second function value reads: the token, and the first function value -/
structure Fv (q1 q2 p1 p2 b now ttl : Nat) (token : ByteArray) (W : World) : Prop where
  d1 : Blk W q1 9 #[.string token]
  d2 : Blk W q2 57 #[.func (.func 36) #[] #[.pointer (some ⟨p1, 0, none⟩), .pointer (some ⟨p2, 0, none⟩)]]
  ov : Ov p1 p2 b now ttl W
theorem Fv.grown {q1 q2 p1 p2 b now ttl : Nat} {token : ByteArray} {W W' : World} (h : Fv q1 q2 p1 p2 b now ttl token W) (y : W.grownBy W' none) : Fv q1 q2 p1 p2 b now ttl token W' :=
  ⟨h.d1.grown y (by simp), h.d2.grown y (by simp), h.ov.grown y⟩
def findB (token : ByteArray) (now ttl : Nat) (x : ByteArray × Nat) : Bool := decide (x.1 = token) && !overB now ttl x.2
theorem tl_eq (a b : ByteArray) : (a.toList == b.toList) = decide (a = b) := by
  rw [ByteArray.toList_eq, ByteArray.toList_eq, Bool.eq_iff_iff]
  simp only [beq_iff_eq, decide_eq_true_eq]
  exact ⟨fun e => ByteArray.ext (Array.toList_inj.1 e), fun e => by rw [e]⟩

set_option maxRecDepth 100000 in
set_option maxHeartbeats 400000 in
theorem find1_any (q1 q2 p1 p2 b now ttl : Nat) (token : ByteArray) (ht : token.size ≤ maxLen) (hn : now < 18446744073709551616) (tok : ByteArray) (hk : tok.size ≤ maxLen) (t : Nat) (w : World) (h : Fv q1 q2 p1 p2 b now ttl token w) :
    Calls Try.prog 40 #[.agg #[.string tok, .int .u64 (t : Int)], .pointer (some ⟨q1, 0, none⟩), .pointer (some ⟨q2, 0, none⟩)] w
      fun e w' => e = .returned (.bool (findB token now ttl (tok, t))) ∧ w.grownBy w' none := by
  obtain ⟨W, hW⟩ : ∃ W, W = w.alloc (.cells #[.string tok, .int .u64 (t : Int)] 56) := ⟨_, rfl⟩
  have hy : w.grownBy W none := by rw [hW]; exact by_alloc (by_refl _ _) _
  have hb : Blk W w.heap.size 56 #[.string tok, .int .u64 (t : Int)] := by rw [hW]; exact Blk.new _ _ _
  have h2 := h.grown hy
  have c1 : (w.alloc (.cells #[.string tok, .int .u64 (t : Int)] 56)).cell? ⟨q1, 0, none⟩ = some (.string token) := by rw [← hW]; exact h2.d1.cell 0
  have H := Lib.hid (And.intro h2 (And.intro hb hy))
  have HW := Lib.hid hW
  have Ht := Lib.hid (And.intro ht (And.intro hk hn))
  clear hW hy hb h2 h ht hk hn
  go_enter Try.func40, Try.ntmps40
  go_wp2_with fail
  rw [← HW.out]
  refine (same_any tok token Ht.out.2.1 Ht.out.1 W).mono ?_
  rintro e w2 ⟨rfl, y2⟩
  rw [tl_eq]
  have H2 := Lib.hid (And.intro (H.out.1.grown y2) (And.intro (H.out.2.1.grown y2 (by simp)) (by_trans H.out.2.2 y2 (by simp))))
  clear y2
  by_cases he : tok = token
  · have hd : decide (tok = token) = true := by simpa using he
    have hf : findB token now ttl (tok, t) = !overB now ttl t := by unfold findB; rw [hd]; rfl
    rw [hd]
    have Hf := Lib.hid hf
    clear he hd hf
    have f2 : w2.cell? ⟨q2, 0, none⟩ = some (.func (.func 36) #[] #[.pointer (some ⟨p1, 0, none⟩), .pointer (some ⟨p2, 0, none⟩)]) := H2.out.1.d2.cell 0
    obtain ⟨a0, ha0⟩ : ∃ a0, a0 = w.heap.size := ⟨_, rfl⟩
    have x0 : w2.cell? ⟨a0, 0, none⟩ = some (.string tok) := by rw [ha0]; exact H2.out.2.1.cell 0
    have x1 : w2.cell? ⟨a0, 1, none⟩ = some (.int .u64 (t : Int)) := by rw [ha0]; exact H2.out.2.1.cell 1
    rw [← ha0]
    clear ha0
    go_wp2_with fail
    refine (over1_any p1 p2 b now ttl Ht.out.2.2 tok t w2 H2.out.1.ov).mono ?_
    rintro e w3 ⟨rfl, y3⟩
    have H3 := Lib.hid (by_trans H2.out.2.2 y3 (by simp))
    clear y3
    go_wp2
    go_ret
    exact ⟨by rw [Hf.out]; rfl, H3.out⟩
  · have hd : decide (tok = token) = false := by simpa using he
    have hf : findB token now ttl (tok, t) = false := by unfold findB; rw [hd]; rfl
    rw [hd]
    have Hf := Lib.hid hf
    clear he hd hf
    go_wp2
    go_ret
    exact ⟨by rw [Hf.out]; rfl, H2.out.2.2⟩
end Go.Proofs.Ytdloapfifhelbaa
