/-
  Sessions as the laws use them.
-/
import Derived.Test.YtdloapfifhelbaaLogin
namespace Go.Proofs.Ytdloapfifhelbaa
open Go.RowKit

/-- Sessions whose blocks all lie from B on; and from the world w on only such have turned. -/
def CS (B : Nat) (w W : World) (s : Nat) (st : Ses) : Prop := ∃ own, SAt W s own st ∧ Chg w W (fun b => B ≤ b) ∧ ∀ b, own b → B ≤ b
def Ses.logs (st : Ses) (secret nonce : ByteArray) (now : Nat) : Ses × ByteArray × Int :=
  if secret = st.secret then (if ((livL st now).length : Int) < st.slots then (st.in_ nonce now, tokB st.secret nonce (st.logins + 1), 0) else (st.cut now, ⟨#[]⟩, 12)) else (st, ⟨#[]⟩, 8)
section
variable {B : Nat} {w W W' : World} {s : Nat} {st st' : Ses} {tok token secret nonce : ByteArray} {z t : Int} {now : Nat}
theorem CS.grown (h : CS B w W s st) (y : W.grownBy W' none) : CS B w W' s st := by
  obtain ⟨own, h1, h2, h3⟩ := h
  exact ⟨own, h1.grown y, h2.trans (Chg.of_none (S := fun _ => False) y) (fun _ h => h.elim), h3⟩
theorem CS.by_ (h : CS w.heap.size w W s st) : w.grownBy W none := by
  obtain ⟨own, h1, h2, h3⟩ := h
  exact h2.none_ fun _ h => h
theorem CS.bound (h : CS B w W s st) : B ≤ W.heap.size := by
  obtain ⟨own, h1, h2, h3⟩ := h
  obtain ⟨v, hb, hl, ho⟩ := h1.ex
  exact Nat.le_trans (h3 s ((ho s).2 (.inl rfl))) (Nat.le_of_lt hb.lt)
theorem cs_new (w : World) (secret : ByteArray) (ttl : Nat) (slots t : Int) (ht : t = (ttl : Int)) :
    Calls Try.prog 7 #[.string secret, .int .u64 t, .int .i64 slots] w fun e w' => ∃ s, e = .returned (.pointer (some ⟨s, 0, none⟩)) ∧ CS w.heap.size w w' s ⟨secret, ttl, slots, 0, []⟩ := by
  subst ht
  refine (new_any w secret ttl slots).mono ?_
  rintro e w' ⟨s, own, rfl, h1, h2, h3⟩
  exact ⟨s, rfl, own, h1, Chg.of_none h2, h3⟩
theorem CS.step (h : CS B w W s st) {own : Nat → Prop} (h1 : SAt W s own st) (h3 : ∀ b, own b → B ≤ b) {own' : Nat → Prop} (a : SAt W' s own' st') (b : Chg W W' own) (c : ∀ b, own' b → own b ∨ W.heap.size ≤ b) : CS B w W' s st' := by
  have hB := h.bound
  obtain ⟨_, _, h2, _⟩ := h
  refine ⟨own', a, h2.trans b (fun b hb => .inl (h3 b hb)), fun b hb => ?_⟩
  rcases c b hb with h | h
  · exact h3 b h
  · exact Nat.le_trans hB h
theorem CS.login (h : CS B w W s st) (hs : secret.size ≤ maxLen) (hs2 : st.secret.size ≤ 268435456) (hno : nonce.size ≤ 134217728) (ht : t = (now : Int)) (hn : now < 18446744073709551616) (hlg : st.logins < 1000000) (hfew : st.l.length < 999999) (hr : st.logs secret nonce now = (st', tok, z)) :
    Calls Try.prog 8 #[.pointer (some ⟨s, 0, none⟩), .string secret, .string nonce, .int .u64 t] W fun e W' => e = .returned (.tuple #[.string tok, .int .i64 z]) ∧ CS B w W' s st' := by
  subst ht
  obtain ⟨own, h1, h2, h3⟩ := id h
  have hq : ∀ {st1 tok1 z1 e W'}, LogQ W s own st1 tok1 z1 e W' → (st1, tok1, z1) = (st', tok, z) → e = .returned (.tuple #[.string tok, .int .i64 z]) ∧ CS B w W' s st' := fun hq he => by
    cases he
    obtain ⟨e1, own', a, b, c⟩ := hq
    exact ⟨e1, h.step h1 h3 a b c⟩
  unfold Ses.logs at hr
  by_cases he : secret = st.secret
  · subst he
    rw [if_pos rfl] at hr
    have hy := login_yes W s own st nonce hs2 hno now hn hlg hfew h1
    by_cases hf : ((livL st now).length : Int) < st.slots
    · rw [if_pos hf] at hr hy
      exact hy.mono fun e W' q => hq q hr
    · rw [if_neg hf] at hr hy
      exact hy.mono fun e W' q => hq q hr
  · rw [if_neg he] at hr
    exact (login_no W s own st secret nonce hs (by unfold maxLen; omega) now he h1).mono fun e W' q => hq q hr
theorem CS.use (h : CS B w W s st) (hs : token.size ≤ maxLen) (ht : t = (now : Int)) (hn : now < 18446744073709551616) (hr : st.use token now = z) :
    Calls Try.prog 10 #[.pointer (some ⟨s, 0, none⟩), .string token, .int .u64 t] W fun e W' => e = .returned (.int .i64 z) ∧ CS B w W' s st := by
  subst ht
  obtain ⟨own, h1, h2, h3⟩ := id h
  refine (use_any W s own st token hs now hn h1).mono ?_
  rintro e W' ⟨rfl, y⟩
  exact ⟨by rw [hr], h.grown y⟩
theorem CS.live (h : CS B w W s st) (ht : t = (now : Int)) (hn : now < 18446744073709551616) (hr : ((livL st now).length : Int) = z) :
    Calls Try.prog 15 #[.pointer (some ⟨s, 0, none⟩), .int .u64 t] W fun e W' => e = .returned (.int .i64 z) ∧ CS B w W' s st := by
  subst ht
  obtain ⟨own, h1, h2, h3⟩ := id h
  refine (live_any W s own st now hn h1).mono ?_
  rintro e W' ⟨rfl, y⟩
  exact ⟨by rw [hr], h.grown y⟩
theorem CS.logout (h : CS B w W s st) (hs : token.size ≤ maxLen) (ht : t = (now : Int)) (hn : now < 18446744073709551616) (hr : st.use token now = z) (ho : st.out token now = st') :
    Calls Try.prog 13 #[.pointer (some ⟨s, 0, none⟩), .string token, .int .u64 t] W fun e W' => e = .returned (.int .i64 z) ∧ CS B w W' s st' := by
  subst ht
  obtain ⟨own, h1, h2, h3⟩ := id h
  refine (logout_any W s own st token hs now hn h1).mono ?_
  rintro e W' ⟨rfl, own', a, b, c⟩
  rw [ho] at a
  exact ⟨by rw [hr], h.step h1 h3 a b c⟩
end
theorem tok_s12 : tokB ⟨#[115]⟩ ⟨#[110]⟩ 1 ≠ tokB ⟨#[115]⟩ ⟨#[110]⟩ 2 := by
  have h : (hexL (markB ⟨#[115]⟩ (⟨#[110]⟩ ++ beB 1)) == hexL (markB ⟨#[115]⟩ (⟨#[110]⟩ ++ beB 2))) = false := by kernel_rfl
  intro e
  have e2 := congrArg (fun x : ByteArray => x.data.toList) e
  have e3 : hexL (markB ⟨#[115]⟩ (⟨#[110]⟩ ++ beB 1)) = hexL (markB ⟨#[115]⟩ (⟨#[110]⟩ ++ beB 2)) := by simpa [tokB] using e2
  rw [e3] at h
  simp at h
end Go.Proofs.Ytdloapfifhelbaa
