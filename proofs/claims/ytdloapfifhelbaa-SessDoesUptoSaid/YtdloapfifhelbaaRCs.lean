/-
  The reference's sessions as the law uses them; what lies beside stands.
-/
import Derived.Test.YtdloapfifhelbaaRLogin
namespace Go.Proofs.Ytdloapfifhelbaa
open Go.RowKit

/-- every block of no type in 'bad' stands -/
structure Kp (bad : List TypeId) (W W' : World) : Prop where
  blk : ∀ g t cs, t ∉ bad → Blk W g t cs → Blk W' g t cs
  size : W.heap.size ≤ W'.heap.size
def RCS (B : Nat) (w W : World) (s : Nat) (st : Ses) : Prop := ∃ own, RAt W s own st ∧ Chg w W (fun b => B ≤ b) ∧ ∀ b, own b → B ≤ b
section
variable {B : Nat} {w W W' W'' : World} {s : Nat} {st st' : Ses} {own : Nat → Prop} {bad : List TypeId} {tok token secret nonce : ByteArray} {z t : Int} {now : Nat}
theorem Kp.grown (bad : List TypeId) (y : W.grownBy W' none) : Kp bad W W' := ⟨fun _ _ _ _ h => h.grown y (by simp), y.size⟩
theorem Kp.row (h : Kp bad W W') {base : Nat} {e : TypeId} {size n : Nat} {v : Value} {xs : List Value} (he : e ∉ bad) (hr : W.ownsRow base e size v n xs) : W'.ownsRow base e size v n xs := by
  refine ⟨hr.1, ?_⟩
  rcases hr.2 with hn | ⟨g, cap, cur, rfl, hb, hgg, rest⟩
  · exact .inl hn
  · exact .inr ⟨g, cap, cur, rfl, hb, h.blk g e cur he hgg, rest⟩
theorem Keep.kp (h : Keep W W') : Kp [52, 56] W W' := ⟨fun g t cs ht hb => h.blk g t cs (fun e => ht (by simp [e])) (fun e => ht (by simp [e])) hb, h.size⟩
theorem RAt.types (h : RAt W s own st) {g : Nat} (hg : own g) : ∃ t cs, Blk W g t cs ∧ (t = 30 ∨ t = 62) := by
  obtain ⟨⟨v, hb, hl, ho⟩, _, _⟩ := h
  rcases (ho g).1 hg with rfl | hv
  · exact ⟨_, _, hb, .inl rfl⟩
  · rcases hl.2 with ⟨h1, _⟩ | ⟨g', cap, cur, h1, _, hgg, _⟩
    · rw [h1] at hv; cases hv
    · rw [h1] at hv; cases hv
      exact ⟨_, cur, hgg, .inr rfl⟩
theorem RAt.kp (h : RAt W s own st) (hc : Chg W W' own) : Kp [30, 62] W W' := ⟨fun g t cs ht hb => hb.chg hc (fun ho => by
    obtain ⟨t', cs', hb', h2⟩ := h.types ho
    rcases h2 with rfl | rfl
    · exact (hb.ne_ hb' (fun e => ht (by simp [e]))) rfl
    · exact (hb.ne_ hb' (fun e => ht (by simp [e]))) rfl), hc.size⟩
theorem CS.chg (h : CS B w W s st) : Chg w W (fun b => B ≤ b) := by obtain ⟨own, _, h2, _⟩ := h; exact h2
theorem RCS.chg (h : RCS B w W s st) : Chg w W (fun b => B ≤ b) := by obtain ⟨own, _, h2, _⟩ := h; exact h2
theorem CS.kp (h : CS B w W s st) (hk : Kp bad W W') (h1 : 52 ∉ bad) (h2 : 56 ∉ bad) (hc : Chg w W' (fun b => B ≤ b)) : CS B w W' s st := by
  obtain ⟨own, ⟨⟨v, hb, hl, ho⟩, h3, h4⟩, _, h5⟩ := h
  exact ⟨own, ⟨⟨v, hk.blk _ _ _ h1 hb, hk.row h2 hl, ho⟩, h3, h4⟩, hc, h5⟩
theorem RCS.kp (h : RCS B w W s st) (hk : Kp bad W W') (h1 : 30 ∉ bad) (h2 : 62 ∉ bad) (hc : Chg w W' (fun b => B ≤ b)) : RCS B w W' s st := by
  obtain ⟨own, ⟨⟨v, hb, hl, ho⟩, h3, h4⟩, _, h5⟩ := h
  exact ⟨own, ⟨⟨v, hk.blk _ _ _ h1 hb, hk.row h2 hl, ho⟩, h3, h4⟩, hc, h5⟩
theorem RCS.grown (h : RCS B w W s st) (y : W.grownBy W' none) : RCS B w W' s st := by
  obtain ⟨own, h1, h2, h3⟩ := h
  exact ⟨own, h1.grown y, h2.trans (Chg.of_none (S := fun _ => False) y) (fun _ h => h.elim), h3⟩
theorem RCS.bound (h : RCS B w W s st) : B ≤ W.heap.size := by
  obtain ⟨own, h1, h2, h3⟩ := h
  obtain ⟨v, hb, hl, ho⟩ := h1.ex
  exact Nat.le_trans (h3 s ((ho s).2 (.inl rfl))) (Nat.le_of_lt hb.lt)
theorem RCS.step (h : RCS B w W s st) {own : Nat → Prop} (h1 : RAt W s own st) (h3 : ∀ b, own b → B ≤ b) {own' : Nat → Prop} (a : RAt W' s own' st') (b : Chg W W' own) (c : ∀ b, own' b → own b ∨ W.heap.size ≤ b) : RCS B w W' s st' := by
  have hB := h.bound
  obtain ⟨_, _, h2, _⟩ := h
  refine ⟨own', a, h2.trans b (fun b hb => .inl (h3 b hb)), fun b hb => ?_⟩
  rcases c b hb with h | h
  · exact h3 b h
  · exact Nat.le_trans hB h
theorem RCS.login (h : RCS B w W s st) (hs2 : st.secret.size ≤ 268435456) (hno : nonce.size ≤ 134217728) (ht : t = (now : Int)) (hn : now < 18446744073709551616) (hlg : st.logins < 1000000) (hfew : st.l.length < 999999) (hr : st.logs secret nonce now = (st', tok, z)) :
    Calls Try.prog 9 #[.pointer (some ⟨s, 0, none⟩), .string secret, .string nonce, .int .u64 t] W fun e W' => e = .returned (.tuple #[.string tok, .int .i64 z]) ∧ RCS B w W' s st' ∧ Kp [30, 62] W W' := by
  subst ht
  obtain ⟨own, h1, h2, h3⟩ := id h
  have hq : ∀ {st1 tok1 z1 e W'}, RLogQ W s own st1 tok1 z1 e W' → (st1, tok1, z1) = (st', tok, z) → e = .returned (.tuple #[.string tok, .int .i64 z]) ∧ RCS B w W' s st' ∧ Kp [30, 62] W W' := fun hq he => by
    cases he
    obtain ⟨e1, own', a, b, c⟩ := hq
    exact ⟨e1, h.step h1 h3 a b c, h1.kp b⟩
  unfold Ses.logs at hr
  by_cases he : secret = st.secret
  · subst he
    rw [if_pos rfl] at hr
    have hy := rlogin_yes W s own st nonce hs2 hno now hn hlg hfew h1
    by_cases hf : ((livL st now).length : Int) < st.slots
    · rw [if_pos hf] at hr hy
      exact hy.mono fun e W' q => hq q hr
    · rw [if_neg hf] at hr hy
      exact hy.mono fun e W' q => hq q hr
  · rw [if_neg he] at hr
    exact (rlogin_no W s own st secret nonce now he h1).mono fun e W' q => hq q hr
theorem RCS.use (h : RCS B w W s st) (ht : t = (now : Int)) (hn : now < 18446744073709551616) (hr : st.use token now = z) :
    Calls Try.prog 12 #[.pointer (some ⟨s, 0, none⟩), .string token, .int .u64 t] W fun e W' => e = .returned (.int .i64 z) ∧ W.grownBy W' none := by
  subst ht
  obtain ⟨own, h1, h2, h3⟩ := id h
  refine (ruse_any W s own st token now hn h1).mono ?_
  rintro e W' ⟨rfl, y⟩
  exact ⟨by rw [hr], y⟩
theorem RCS.live (h : RCS B w W s st) (ht : t = (now : Int)) (hn : now < 18446744073709551616) (hr : ((livL st now).length : Int) = z) :
    Calls Try.prog 16 #[.pointer (some ⟨s, 0, none⟩), .int .u64 t] W fun e W' => e = .returned (.int .i64 z) ∧ W.grownBy W' none := by
  subst ht
  obtain ⟨own, h1, h2, h3⟩ := id h
  refine (rlive_any W s own st now hn h1).mono ?_
  rintro e W' ⟨rfl, y⟩
  exact ⟨by rw [hr], y⟩
theorem RCS.logout (h : RCS B w W s st) (ht : t = (now : Int)) (hn : now < 18446744073709551616) (hr : st.use token now = z) (ho : st.out token now = st') :
    Calls Try.prog 14 #[.pointer (some ⟨s, 0, none⟩), .string token, .int .u64 t] W fun e W' => e = .returned (.int .i64 z) ∧ RCS B w W' s st' ∧ Kp [30, 62] W W' := by
  subst ht
  obtain ⟨own, h1, h2, h3⟩ := id h
  refine (rlogout_any W s own st token now hn h1).mono ?_
  rintro e W' ⟨rfl, own', a, b, c⟩
  rw [ho] at a
  exact ⟨by rw [hr], h.step h1 h3 a b c, h1.kp b⟩
end
end Go.Proofs.Ytdloapfifhelbaa
