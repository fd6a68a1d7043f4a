/-
  What lies beside sessions stands.
-/
import Derived.Test.YtdloapfifhelbaaCs
namespace Go.Proofs.Ytdloapfifhelbaa
open Go.RowKit

/-- every block that is no session's stands -/
structure Keep (W W' : World) : Prop where
  blk : ∀ g t cs, t ≠ 52 → t ≠ 56 → Blk W g t cs → Blk W' g t cs
  size : W.heap.size ≤ W'.heap.size
section
variable {B : Nat} {w W W' W'' : World} {s : Nat} {st st' : Ses} {own : Nat → Prop} {tok token secret nonce : ByteArray} {z t : Int} {now : Nat}
theorem Keep.grown (y : W.grownBy W' none) : Keep W W' := ⟨fun _ _ _ _ _ h => h.grown y (by simp), y.size⟩
theorem Keep.trans (h : Keep W W') (h2 : Keep W' W'') : Keep W W'' := ⟨fun _ _ _ a b x => h2.blk _ _ _ a b (h.blk _ _ _ a b x), Nat.le_trans h.size h2.size⟩
theorem Keep.row (h : Keep W W') {base : Nat} {e : TypeId} {size n : Nat} {v : Value} {xs : List Value} (he : e ≠ 52) (he2 : e ≠ 56) (hr : W.ownsRow base e size v n xs) : W'.ownsRow base e size v n xs := by
  refine ⟨hr.1, ?_⟩
  rcases hr.2 with hn | ⟨g, cap, cur, rfl, hb, hgg, rest⟩
  · exact .inl hn
  · exact .inr ⟨g, cap, cur, rfl, hb, h.blk g e cur he he2 hgg, rest⟩
theorem SAt.types (h : SAt W s own st) {g : Nat} (hg : own g) : ∃ t cs, Blk W g t cs ∧ (t = 52 ∨ t = 56) := by
  obtain ⟨⟨v, hb, hl, ho⟩, _, _⟩ := h
  rcases (ho g).1 hg with rfl | hv
  · exact ⟨_, _, hb, .inl rfl⟩
  · obtain ⟨A, c, rfl, _⟩ := hl.at_
    cases A with
    | none => cases hv
    | some a =>
      obtain ⟨b, off, f⟩ := a
      rcases hl.2 with ⟨h1, _⟩ | ⟨g', cap, cur, h1, _, hgg, _⟩
      · cases h1
      · cases h1
        cases hv
        exact ⟨_, cur, hgg, .inr rfl⟩
theorem SAt.keep (h : SAt W s own st) (hc : Chg W W' own) : Keep W W' := ⟨fun g t cs h1 h2 hb => hb.chg hc (fun ho => by
    obtain ⟨t', cs', hb', ht⟩ := h.types ho
    rcases ht with rfl | rfl
    · exact (hb.ne_ hb' h1) rfl
    · exact (hb.ne_ hb' h2) rfl), hc.size⟩
/-- a change in blocks of other types -/
theorem SAt.beside (h : SAt W s own st) {S : Nat → Prop} (hc : Chg W W' S) (hS : ∀ g, S g → ∃ t cs, Blk W g t cs ∧ t ≠ 52 ∧ t ≠ 56) : SAt W' s own st := h.chg hc fun b hb hs => by
  obtain ⟨t, cs, h1, h2, h3⟩ := hS b hs
  obtain ⟨t', cs', h4, h5⟩ := h.types hb
  rcases h5 with rfl | rfl
  · exact (h1.ne_ h4 h2) rfl
  · exact (h1.ne_ h4 h3) rfl
theorem CS.beside (h : CS B w W s st) {S : Nat → Prop} (hc : Chg W W' S) (hB : ∀ g, S g → B ≤ g) (hS : ∀ g, S g → ∃ t cs, Blk W g t cs ∧ t ≠ 52 ∧ t ≠ 56) : CS B w W' s st := by
  obtain ⟨own, h1, h2, h3⟩ := h
  exact ⟨own, h1.beside hc hS, h2.trans hc (fun b hb => .inl (hB b hb)), h3⟩
theorem CS.login2 (h : CS B w W s st) (hs : secret.size ≤ maxLen) (hs2 : st.secret.size ≤ 268435456) (hno : nonce.size ≤ 134217728) (ht : t = (now : Int)) (hn : now < 18446744073709551616) (hlg : st.logins < 1000000) (hfew : st.l.length < 999999) (hr : st.logs secret nonce now = (st', tok, z)) :
    Calls Try.prog 8 #[.pointer (some ⟨s, 0, none⟩), .string secret, .string nonce, .int .u64 t] W fun e W' => e = .returned (.tuple #[.string tok, .int .i64 z]) ∧ CS B w W' s st' ∧ Keep W W' := by
  subst ht
  obtain ⟨own, h1, h2, h3⟩ := id h
  have hq : ∀ {st1 tok1 z1 e W'}, LogQ W s own st1 tok1 z1 e W' → (st1, tok1, z1) = (st', tok, z) → e = .returned (.tuple #[.string tok, .int .i64 z]) ∧ CS B w W' s st' ∧ Keep W W' := fun hq he => by
    cases he
    obtain ⟨e1, own', a, b, c⟩ := hq
    exact ⟨e1, h.step h1 h3 a b c, h1.keep b⟩
  unfold Ses.logs at hr
  by_cases he : secret = st.secret
  · subst he
    rw [if_pos rfl] at hr
    have hy := login_yes W s own st nonce hs2 hno now hn hlg hfew h1
    by_cases hf : ((livL st now).length : Int) < st.slots
    · rw [if_pos hf] at hr hy
      exact hy.mono fun e W' q => hq q hr
    · rw [if_neg hf] at hr hy
      exact hy.mono fun e W' q => hq q hr
  · rw [if_neg he] at hr
    exact (login_no W s own st secret nonce hs (by unfold maxLen; omega) now he h1).mono fun e W' q => hq q hr
theorem CS.use2 (h : CS B w W s st) (hs : token.size ≤ maxLen) (ht : t = (now : Int)) (hn : now < 18446744073709551616) (hr : st.use token now = z) :
    Calls Try.prog 10 #[.pointer (some ⟨s, 0, none⟩), .string token, .int .u64 t] W fun e W' => e = .returned (.int .i64 z) ∧ W.grownBy W' none := by
  subst ht
  obtain ⟨own, h1, h2, h3⟩ := id h
  refine (use_any W s own st token hs now hn h1).mono ?_
  rintro e W' ⟨rfl, y⟩
  exact ⟨by rw [hr], y⟩
theorem CS.live2 (h : CS B w W s st) (ht : t = (now : Int)) (hn : now < 18446744073709551616) (hr : ((livL st now).length : Int) = z) :
    Calls Try.prog 15 #[.pointer (some ⟨s, 0, none⟩), .int .u64 t] W fun e W' => e = .returned (.int .i64 z) ∧ W.grownBy W' none := by
  subst ht
  obtain ⟨own, h1, h2, h3⟩ := id h
  refine (live_any W s own st now hn h1).mono ?_
  rintro e W' ⟨rfl, y⟩
  exact ⟨by rw [hr], y⟩
theorem CS.logout2 (h : CS B w W s st) (hs : token.size ≤ maxLen) (ht : t = (now : Int)) (hn : now < 18446744073709551616) (hr : st.use token now = z) (ho : st.out token now = st') :
    Calls Try.prog 13 #[.pointer (some ⟨s, 0, none⟩), .string token, .int .u64 t] W fun e W' => e = .returned (.int .i64 z) ∧ CS B w W' s st' ∧ Keep W W' := by
  subst ht
  obtain ⟨own, h1, h2, h3⟩ := id h
  refine (logout_any W s own st token hs now hn h1).mono ?_
  rintro e W' ⟨rfl, own', a, b, c⟩
  rw [ho] at a
  exact ⟨by rw [hr], h.step h1 h3 a b c, h1.keep b⟩
end
end Go.Proofs.Ytdloapfifhelbaa
