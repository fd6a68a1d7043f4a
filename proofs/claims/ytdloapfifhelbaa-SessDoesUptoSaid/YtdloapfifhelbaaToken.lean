/-
  SessDoes: the token that an act names.
-/
import Derived.Test.YtdloapfifhelbaaActs
import Derived.Test.YtdloapfifhelbaaRCs
namespace Go.Proofs.Ytdloapfifhelbaa
open Go.RowKit

def tokOf (tokens : List ByteArray) (x : Act4) : ByteArray := if x.what > 3 ∨ x.n < 0 ∨ x.n ≥ tokens.length then x.text else tokens.getD x.n.toNat ⟨#[]⟩
/-- the tokens, in a row of their own -/
def Toks (W : World) (B : Nat) (v : Value) (tokens : List ByteArray) : Prop := W.ownsRow B 9 1 v tokens.length (tokens.map .string)
theorem Toks.form {W : World} {B : Nat} {v : Value} {l : List ByteArray} (h : Toks W B v l) :
    ∃ A c, v = .slice A l.length c ∧ ∀ q (hq : q < l.length), ∃ g, A = some ⟨g, 0, none⟩ ∧ W.cell? ⟨g, q, none⟩ = some (.string l[q]) := by
  rcases h.2 with ⟨rfl, h0⟩ | ⟨g, cap, cur, rfl, _, h3, h4, h5, h6, h7⟩
  · exact ⟨none, 0, by rw [h0], fun q hq => by omega⟩
  · refine ⟨some ⟨g, 0, none⟩, cap, rfl, fun q hq => ⟨g, rfl, ?_⟩⟩
    have := World.ownsRow.cells h (g := g) rfl q (.string l[q]) (by simp [hq])
    rw [addr_add, Nat.zero_add] at this
    exact this
set_option maxRecDepth 100000 in
set_option maxHeartbeats 1000000 in
theorem token_any (w : World) (B : Nat) (v : Value) (tokens : List ByteArray) (x : Act4) (h : Toks w B v tokens) (hl : tokens.length < 1000000) :
    Calls Try.prog 11 #[v, .agg #[.int .i64 x.what, .int .i64 x.n, .string x.text, .int .u64 x.now]] w fun e w' => e = .returned (.string (tokOf tokens x)) ∧ w.grownBy w' none := by
  obtain ⟨A, c, rfl, hc⟩ := h.form
  obtain ⟨wh, n, text, now⟩ := x
  have hd : tokOf tokens ⟨wh, n, text, now⟩ = if wh > 3 ∨ n < 0 ∨ n ≥ tokens.length then text else tokens.getD n.toNat ⟨#[]⟩ := rfl
  have H := Lib.hid (And.intro hc hd)
  dsimp only
  obtain ⟨wa, hwa⟩ : ∃ wa, wa = w.alloc (.cells #[.int .i64 wh, .int .i64 n, .string text, .int .u64 now] 33) := ⟨_, rfl⟩
  have ya : w.grownBy wa none := by rw [hwa]; exact by_alloc (by_refl _ _) _
  have Hy := Lib.hid (And.intro ya hwa)
  obtain ⟨m, hm⟩ : ∃ m, m = tokens.length := ⟨_, rfl⟩
  have Hm := Lib.hid hm
  rw [← hm] at hl ⊢
  have hm6 : (m : Int) ≤ 1000000 := by omega
  clear hc hd ya hwa h hm
  by_cases h1 : wh > 3
  · have h1' : (3 : Int) < wh := h1
    go_enter Try.func11, Try.ntmps11
    go_wp2
    go_ret
    rw [← Hy.out.2]
    exact ⟨by rw [H.out.2, if_pos (.inl h1)]; rfl, Hy.out.1⟩
  · have h1' : ¬ (3 : Int) < wh := h1
    by_cases h2 : n < 0
    · go_enter Try.func11, Try.ntmps11
      go_wp2
      go_ret
      rw [← Hy.out.2]
      exact ⟨by rw [H.out.2, if_pos (.inr (.inl h2))]; rfl, Hy.out.1⟩
    · by_cases h3 : n ≥ (m : Int)
      · have h3' : (m : Int) ≤ n := h3
        go_enter Try.func11, Try.ntmps11
        go_wp2
        go_ret
        rw [← Hy.out.2]
        exact ⟨by rw [H.out.2, if_pos (.inr (.inr (by rw [← Hm.out]; exact h3)))]; rfl, Hy.out.1⟩
      · obtain ⟨k, rfl⟩ := Int.eq_ofNat_of_zero_le (show 0 ≤ n by omega)
        obtain ⟨g, rfl, ck⟩ := H.out.1 k (by have := Hm.out; omega)
        have h3' : ¬ (m : Int) ≤ (k : Int) := h3
        have hki : (k : Int) < (m : Int) := by omega
        obtain ⟨T, hT⟩ : ∃ T, T = tokens[k]'(by have := Hm.out; omega) := ⟨_, rfl⟩
        rw [← hT] at ck
        have ck2 : wa.cell? ⟨g, k, none⟩ = some (.string T) := Hy.out.1.cell ck (by simp)
        rw [Hy.out.2] at ck2
        have HT := Lib.hid hT
        clear hT
        go_enter Try.func11, Try.ntmps11
        go_wp2
        go_ret
        rw [← Hy.out.2]
        refine ⟨?_, Hy.out.1⟩
        rw [H.out.2, if_neg (by rw [← Hm.out]; omega), HT.out]
        have hk : k < tokens.length := by have := Hm.out; omega
        simp [List.getD, hk]
end Go.Proofs.Ytdloapfifhelbaa
