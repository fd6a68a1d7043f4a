/-
  WireKnown's rows and texts: plain facts.
-/
import Derived.Test.YtlnlpphhnbodpaaWorks
namespace Go.Proofs.Ytlnlpphhnbodpaa
open Go.RowKit

def kC : Array Value := #[.int .u64 0, .string ⟨#[0]⟩, .int .u64 240, .string ⟨#[240]⟩, .int .u64 241, .string ⟨#[241, 1]⟩, .int .u64 495, .string ⟨#[241, 255]⟩, .int .u64 496, .string ⟨#[242, 0]⟩, .int .u64 2287, .string ⟨#[248, 255]⟩, .int .u64 2288, .string ⟨#[249, 0, 0]⟩, .int .u64 67823, .string ⟨#[249, 255, 255]⟩, .int .u64 67824, .string ⟨#[250, 1, 8, 240]⟩, .int .u64 16777215, .string ⟨#[250, 255, 255, 255]⟩, .int .u64 16777216, .string ⟨#[251, 1, 0, 0, 0]⟩, .int .u64 18446744073709551615, .string ⟨#[255, 255, 255, 255, 255, 255, 255, 255, 255]⟩]
theorem kC_at (j : Nat) (h : j < 12) : ∃ (n : Nat) (T : ByteArray), n ≤ 18446744073709551615 ∧ T = ⟨(rowL n).toArray⟩ ∧ kC[j * 2]? = some (.int .u64 (n : Int)) ∧ kC[j * 2 + 1]? = some (.string T) := by
  have : j = 0 ∨ j = 1 ∨ j = 2 ∨ j = 3 ∨ j = 4 ∨ j = 5 ∨ j = 6 ∨ j = 7 ∨ j = 8 ∨ j = 9 ∨ j = 10 ∨ j = 11 := by omega
  rcases this with rfl | rfl | rfl | rfl | rfl | rfl | rfl | rfl | rfl | rfl | rfl | rfl
  · exact ⟨0, _, by decide, by decide +kernel, rfl, rfl⟩
  · exact ⟨240, _, by decide, by decide +kernel, rfl, rfl⟩
  · exact ⟨241, _, by decide, by decide +kernel, rfl, rfl⟩
  · exact ⟨495, _, by decide, by decide +kernel, rfl, rfl⟩
  · exact ⟨496, _, by decide, by decide +kernel, rfl, rfl⟩
  · exact ⟨2287, _, by decide, by decide +kernel, rfl, rfl⟩
  · exact ⟨2288, _, by decide, by decide +kernel, rfl, rfl⟩
  · exact ⟨67823, _, by decide, by decide +kernel, rfl, rfl⟩
  · exact ⟨67824, _, by decide, by decide +kernel, rfl, rfl⟩
  · exact ⟨16777215, _, by decide, by decide +kernel, rfl, rfl⟩
  · exact ⟨16777216, _, by decide, by decide +kernel, rfl, rfl⟩
  · exact ⟨18446744073709551615, _, by decide, by decide +kernel, rfl, rfl⟩
def sC : Array Value := #[.string ⟨#[]⟩, .string ⟨#[241]⟩, .string ⟨#[241, 0]⟩, .string ⟨#[249, 0]⟩, .string ⟨#[250, 0, 255, 255]⟩, .string ⟨#[250, 1, 8, 239]⟩, .string ⟨#[251, 0, 255, 255, 255]⟩, .string ⟨#[255, 0, 0]⟩]
theorem sC_at (j : Nat) (h : j < 8) : ∃ T : ByteArray, numR T = none ∧ T.size ≤ 100 ∧ sC[j]? = some (.string T) := by
  have : j = 0 ∨ j = 1 ∨ j = 2 ∨ j = 3 ∨ j = 4 ∨ j = 5 ∨ j = 6 ∨ j = 7 := by omega
  rcases this with rfl | rfl | rfl | rfl | rfl | rfl | rfl | rfl
  · exact ⟨⟨#[]⟩, by decide +kernel, by decide, rfl⟩
  · exact ⟨⟨#[241]⟩, by decide +kernel, by decide, rfl⟩
  · exact ⟨⟨#[241, 0]⟩, by decide +kernel, by decide, rfl⟩
  · exact ⟨⟨#[249, 0]⟩, by decide +kernel, by decide, rfl⟩
  · exact ⟨⟨#[250, 0, 255, 255]⟩, by decide +kernel, by decide, rfl⟩
  · exact ⟨⟨#[250, 1, 8, 239]⟩, by decide +kernel, by decide, rfl⟩
  · exact ⟨⟨#[251, 0, 255, 255, 255]⟩, by decide +kernel, by decide, rfl⟩
  · exact ⟨⟨#[255, 0, 0]⟩, by decide +kernel, by decide, rfl⟩
theorem num_none {w : World} {r : Nat} {s : ByteArray} {bad : Bool} (h : Rd w r s bad) (hN : numR s = none) (hs : s.size ≤ 100) :
    Calls Try.prog 14 #[.pointer (some ⟨r, 0, none⟩)] w fun e w' => e = .returned (.int .u64 0) ∧ w.grownBy w' (some r) ∧ Rd w' r ⟨#[]⟩ true := by
  refine (num_any w r _ bad h (by omega)).mono fun e w' ⟨h1, h2⟩ => ?_
  rw [hN] at h2
  exact ⟨h2.1, h1, h2.2⟩
theorem text_none {w : World} {r : Nat} {s : ByteArray} {bad : Bool} (h : Rd w r s bad) (hN : textR s = none) (hs : s.size ≤ 100) :
    Calls Try.prog 16 #[.pointer (some ⟨r, 0, none⟩)] w fun e w' => e = .returned (.string ⟨#[]⟩) ∧ w.grownBy w' (some r) ∧ Rd w' r ⟨#[]⟩ true := by
  refine (text_any w r _ bad h (by omega)).mono fun e w' ⟨h1, h2⟩ => ?_
  rw [hN] at h2
  exact ⟨h2.1, h1, h2.2⟩
theorem numR_nil : numR ⟨#[]⟩ = none := by decide +kernel
theorem textR_nil : textR ⟨#[]⟩ = none := by decide +kernel
theorem textR_ab : textR ⟨#[3, 97, 98]⟩ = none := by decide +kernel
theorem num_all {w : World} {r n : Nat} {T : ByteArray} (h : Rd w r T false) (hT : T = ⟨(rowL n).toArray⟩) (hn : n ≤ 18446744073709551615) :
    Calls Try.prog 14 #[.pointer (some ⟨r, 0, none⟩)] w fun e w' => e = .returned (.int .u64 (n : Int)) ∧ w.grownBy w' (some r) ∧ Rd w' r ⟨#[]⟩ false :=
  num_step (t := []) (by rw [List.append_nil, ← hT]; exact h) hn (by decide)
theorem put_m {n : Nat} {T : ByteArray} (hT : T = ⟨(rowL n).toArray⟩) (hn : n ≤ 18446744073709551615) (w : World) :
    Calls Try.prog 8 #[.string ⟨#[109]⟩, .int .u64 (n : Int)] w fun e w' => e = .returned (.string (⟨#[109]⟩ ++ T)) ∧ w.grownBy w' none := by
  rw [hT]
  exact put_any ⟨#[109]⟩ n hn (by decide) w
theorem putt_nil (w : World) : Calls Try.prog 10 #[.string ⟨#[]⟩, .string ⟨#[]⟩] w fun e w' => e = .returned (.string ⟨#[0]⟩) ∧ w.grownBy w' none := by
  have e1 : (⟨([] ++ (rowL ([] : List UInt8).length ++ [])).toArray⟩ : ByteArray) = ⟨#[0]⟩ := by decide +kernel
  have := putt_step (w := w) (l := []) (x := []) (by decide) (by decide)
  rw [e1] at this
  exact this
theorem putt_ab (w : World) : Calls Try.prog 10 #[.string ⟨#[]⟩, .string ⟨#[97, 98]⟩] w fun e w' => e = .returned (.string ⟨#[2, 97, 98]⟩) ∧ w.grownBy w' none := by
  have e1 : (⟨([] ++ (rowL ([97, 98] : List UInt8).length ++ [97, 98])).toArray⟩ : ByteArray) = ⟨#[2, 97, 98]⟩ := by decide +kernel
  have := putt_step (w := w) (l := []) (x := [97, 98]) (by decide) (by decide)
  rw [e1] at this
  exact this
/-- what a round's drawn region keeps -/
def KI (w2 : World) (r g : Nat) (n : Nat) (T : ByteArray) (w' : World) : Prop :=
  w2.grownBy w' (some r) ∧ w'.cell? ⟨g, 0, none⟩ = some (.int .u64 (n : Int)) ∧ w'.cell? ⟨g, 1, none⟩ = some (.string T)
theorem by_any {w w' : World} (r : Nat) (h : w.grownBy w' none) : w.grownBy w' (some r) := by_trans (by_refl w (some r)) h (by simp)
theorem ki_none {w2 w3 w4 : World} {r g n : Nat} {T : ByteArray} (h : KI w2 r g n T w3) (hg : w3.grownBy w4 none) : KI w2 r g n T w4 :=
  ⟨by_trans h.1 hg (by simp), hg.cell h.2.1 (by simp), hg.cell h.2.2 (by simp)⟩
theorem ki_some {w2 w3 w4 : World} {r g n : Nat} {T : ByteArray} (h : KI w2 r g n T w3) (hne : g ≠ r) (hg : w3.grownBy w4 (some r)) : KI w2 r g n T w4 :=
  ⟨by_trans h.1 hg (fun x hx => .inl hx.symm), hg.cell h.2.1 (by simpa using hne), hg.cell h.2.2 (by simpa using hne)⟩
theorem ki_drew {w2 w3 : World} {r g n : Nat} {T : ByteArray} (h : KI w2 r g n T w3) : KI w2 r g n T w3.drew := ⟨by_drew h.1, h.2.1, h.2.2⟩
end Go.Proofs.Ytlnlpphhnbodpaa
