/-
  The walks of 'all', of both 'Bound's, and what they answer.
-/
import Derived.Test.YtdbfphceadllbaaAdd
namespace Go.Proofs.Ytdbfphceadllbaa
open Go.RowKit

/-- the product of the first j numbers -/
def pre (ls : List Int) (j : Nat) : Int := (ls.take j).foldl (· * ·) 1
def allV (ls : List Int) : Int := if pre ls ls.length ≤ Top then pre ls ls.length else Top

theorem pre_succ (ls : List Int) (j : Nat) (h : j < ls.length) : pre ls (j + 1) = pre ls j * ls[j] := by
  unfold pre
  rw [List.take_succ_eq_append_getElem h, List.foldl_append]
  rfl
theorem pre_pos (ls : List Int) (h : ∀ z ∈ ls, 1 ≤ z) : ∀ j, j ≤ ls.length → 1 ≤ pre ls j := by
  intro j
  induction j with
  | zero => intro _; unfold pre; simp
  | succ j ih =>
    intro hj
    rw [pre_succ ls j (by omega)]
    have h1 := ih (by omega)
    have h2 := h ls[j] (List.getElem_mem (by omega))
    have := Int.mul_le_mul h1 h2 (by omega) (by omega)
    omega
theorem pre_le (ls : List Int) (h : ∀ z ∈ ls, 1 ≤ z) (i : Nat) : ∀ d, i + d ≤ ls.length → pre ls i ≤ pre ls (i + d) := by
  intro d
  induction d with
  | zero => intro _; exact Int.le_refl _
  | succ d ih =>
    intro hj
    have h0 := ih (by omega)
    have hp := pre_pos ls h (i + d) (by omega)
    have h2 := h ls[i + d] (List.getElem_mem (by omega))
    rw [show i + (d + 1) = (i + d) + 1 from rfl, pre_succ ls (i + d) (by omega)]
    have h3 : pre ls (i + d) * 1 ≤ pre ls (i + d) * ls[i + d] := Int.mul_le_mul_of_nonneg_left h2 (by omega)
    omega
theorem allV_fits (ls : List Int) (h : pre ls ls.length ≤ Top) : allV ls = pre ls ls.length := by unfold allV; rw [if_pos h]
theorem allV_over (ls : List Int) (h : ∀ z ∈ ls, 1 ≤ z) (j : Nat) (hj : j ≤ ls.length) (ho : ¬ pre ls j ≤ Top) : allV ls = Top := by
  have := pre_le ls h j (ls.length - j) (by omega)
  rw [show j + (ls.length - j) = ls.length by omega] at this
  unfold allV
  rw [if_neg (by omega)]

structure AllRel (w0 : World) (ls : List Int) (k : Nat) (o i : Value) (wr : World) (j : Nat) : Prop where
  slot : i = .int .i64 j
  out : o = .int .u64 (pre ls j)
  le : j ≤ ls.length
  num : k = ls.length - j
  fit : pre ls j ≤ Top
  by_ : w0.grownBy wr none

set_option maxHeartbeats 400000 in
theorem all_any (v : Value) (ls : List Int) (w : World) (hv : Nums w .u64 v ls) (h1 : ∀ z ∈ ls, 1 ≤ z) (h2 : ∀ z ∈ ls, Fit z) (hl : ls.length ≤ 1000) :
    Calls Try.prog 30 #[v] w fun e w' => e = .returned (.int .u64 (allV ls)) ∧ w.grownBy w' none := by
  have HV := Lib.hid (And.intro hv (And.intro h1 h2))
  obtain ⟨A, cap, rfl, hcap, _⟩ := hv
  clear h1 h2
  go_enter Try.func30, Try.ntmps30
  go_wp2
  go_loopg [3, 9] ls.length (fun k o i wr => ∃ j, AllRel w ls k o i wr j)
  case atStart => exact ⟨0, rfl, rfl, by omega, by omega, by show (1 : Int) ≤ Top; decide, by_refl _ _⟩
  case round =>
    obtain ⟨j, hr⟩ := hrel
    obtain rfl := hr.slot
    obtain rfl := hr.out
    have hle := hr.le
    have Hr := Lib.hid hr
    clear hr
    by_cases hlt : j < ls.length
    · obtain ⟨A', cap', hA, _, hcell⟩ := (HV.out.1.grown Hr.out.by_ (.inl rfl))
      injection hA with hA1 hA2 hA3
      subst hA1; subst hA3
      obtain ⟨b, off, rfl, _, hc⟩ := hcell (by omega)
      have c1 := hc j hlt
      have hlt' : (j : Int) < (ls.length : Int) := by omega
      have hm := pre_succ ls j hlt
      have hp := pre_pos ls HV.out.2.1 j hle
      have hf := Hr.out.fit
      have hz := HV.out.2.2 ls[j] (List.getElem_mem hlt)
      have hfit : Fit (pre ls j) := ⟨by omega, hf⟩
      generalize hz' : ls[j] = z at *
      have Hm := Lib.hid (And.intro hm (And.intro hp (And.intro hz hfit)))
      have hov := fun h => allV_over ls HV.out.2.1 (j + 1) (by omega) h
      have Hov := Lib.hid hov
      clear hcell hc hA2 hm hp hf hz hfit hz' hov
      go_wp2_with fail
      refine (mul_any (pre ls j) z wr Hm.out.2.2.2 Hm.out.2.2.1).mono ?_
      rintro e w1 ⟨rfl, y1⟩
      by_cases ho : pre ls j * z ≤ Top
      · have hv' : mulV (pre ls j) z = pre ls (j + 1) := by unfold mulV; rw [if_pos ho, Hm.out.1]
        have he' : mulE (pre ls j) z = 0 := by unfold mulE; rw [if_pos ho]
        have ho' : pre ls (j + 1) ≤ Top := by rw [Hm.out.1]; exact ho
        have Y1 := Lib.hid (And.intro y1 ho')
        rw [hv', he']
        clear hv' he' ho ho' y1
        go_wp2
        go_roundg (ls.length - (j + 1))
        case measure => have := Hr.out.num; omega
        case rel => exact ⟨j + 1, by go_num, rfl, by omega, rfl, Y1.out.2, by_trans Hr.out.by_ Y1.out.1 (fun x hx => by cases hx)⟩
      · have he' : mulE (pre ls j) z = 9 := by unfold mulE; rw [if_neg ho]
        have ho' : ¬ pre ls (j + 1) ≤ Top := by rw [Hm.out.1]; exact ho
        have Y1 := Lib.hid (And.intro (by_trans Hr.out.by_ y1 (fun x hx => by cases hx)) ho')
        rw [he']
        clear he' ho ho' y1
        go_wp2
        go_ret
        exact ⟨ret_u64 (Hov.out Y1.out.2).symm, Y1.out.1⟩
    · have Hv' := Lib.hid (allV_fits ls (by have := Hr.out.fit; rw [show ls.length = j by omega]; exact this))
      go_wp2
      go_ret
      exact ⟨ret_u64 (by rw [Hv'.out, show ls.length = j by omega]), Hr.out.by_⟩

/-- what a check of n bytes may cost -/
def boundV (n : Int) : Int := allV [64, max n 0 + 64, max n 0 + 64, max n 0 + 64]

theorem made_nums (w : World) (a b c d : Int) : Nums (w.alloc (.cells #[.int .u64 a, .int .u64 b, .int .u64 c, .int .u64 d] 22)) .u64 (.slice (some ⟨w.heap.size, 0, none⟩) 4 4) [a, b, c, d] := by
  refine ⟨_, 4, rfl, by simp, fun _ => ⟨_, 0, rfl, by simp, fun i hi => ?_⟩⟩
  have hb := Blk.new w 22 #[.int .u64 a, .int .u64 b, .int .u64 c, .int .u64 d]
  rw [hb.cell]
  simp only [List.length_cons, List.length_nil] at hi
  rcases (show i = 0 ∨ i = 1 ∨ i = 2 ∨ i = 3 by omega) with rfl | rfl | rfl | rfl <;> rfl

set_option maxHeartbeats 400000 in
theorem bound_any (n : Int) (w : World) (h0 : -9223372036854775808 ≤ n) (h1 : n ≤ 9223372036854775807) :
    Calls Try.prog 14 #[.int .i64 n] w fun e w' => e = .returned (.int .u64 (boundV n)) ∧ w.grownBy w' none := by
  unfold boundV
  obtain ⟨m, hm, hm1⟩ : ∃ m : Nat, max n 0 = (m : Int) ∧ m ≤ 9223372036854775807 := ⟨(max n 0).toNat, by omega, by omega⟩
  rw [hm]
  have H := all_any (.slice (some ⟨w.heap.size, 0, none⟩) 4 4) [64, (m : Int) + 64, (m : Int) + 64, (m : Int) + 64] _ (made_nums w 64 ((m : Int) + 64) ((m : Int) + 64) ((m : Int) + 64))
    (by simp; omega) (by intro z hz; simp at hz; unfold Fit; omega) (by simp)
  generalize allV [64, (m : Int) + 64, (m : Int) + 64, (m : Int) + 64] = r at *
  go_enter Try.func14, Try.ntmps14
  go_wp2_with fail
  refine H.mono ?_
  rintro e w1 ⟨rfl, y1⟩
  have Y1 := Lib.hid (by_trans (by_alloc (by_refl w none) _) y1 (fun x hx => by cases hx))
  clear y1
  go_wp2
  go_ret
  exact ⟨rfl, Y1.out⟩

structure BRel (ls : List Int) (k : Nat) (y i : Value) (j : Nat) : Prop where
  slot : i = .int .i64 j
  out : y = .int .u64 (pre ls (j + 1))
  le : j ≤ 3
  num : k = 3 - j
  fit : pre ls (j + 1) ≤ Top

set_option maxHeartbeats 400000 in
theorem rbound_any (n : Int) (w : World) (h0 : -9223372036854775808 ≤ n) (h1 : n ≤ 9223372036854775807) :
    Calls Try.prog 15 #[.int .i64 n] w fun e w' => e = .returned (.int .u64 (boundV n)) ∧ w = w' := by
  unfold boundV
  obtain ⟨m, hm, hm1⟩ : ∃ m : Nat, max n 0 = (m : Int) ∧ m ≤ 9223372036854775807 := ⟨(max n 0).toNat, by omega, by omega⟩
  rw [hm]
  obtain ⟨ls, hls⟩ : ∃ ls : List Int, ls = [64, (m : Int) + 64, (m : Int) + 64, (m : Int) + 64] := ⟨_, rfl⟩
  have ha : ∀ z ∈ ls, 1 ≤ z := by rw [hls]; simp; omega
  have hb : ∀ z ∈ ls, Fit z := by rw [hls]; intro z hz; simp at hz; unfold Fit; omega
  have hlen : ls.length = 4 := by rw [hls]; rfl
  have h64 : pre ls 1 = 64 := by rw [hls]; rfl
  have hat : ∀ j (h : j + 1 < ls.length), ls[j + 1] = (m : Int) + 64 := by
    intro j h
    rw [hlen] at h
    subst hls
    rcases (show j = 0 ∨ j = 1 ∨ j = 2 by omega) with rfl | rfl | rfl <;> rfl
  rw [← hls]
  have HL := Lib.hid (And.intro ha (And.intro hb (And.intro hlen (And.intro h64 hat))))
  clear ha hb hlen h64 hat hls
  go_enter Try.func15, Try.ntmps15
  go_wp2
  go_loopg [4, 5] 3 (fun k y i wr => wr = w ∧ ∃ j, BRel ls k y i j)
  case atStart => exact ⟨rfl, 0, rfl, by rw [HL.out.2.2.2.1], by omega, by omega, by rw [HL.out.2.2.2.1]; decide⟩
  case round =>
    obtain ⟨rfl, j, hr⟩ := hrel
    obtain rfl := hr.slot
    obtain rfl := hr.out
    have hle := hr.le
    have Hr := Lib.hid hr
    clear hr
    by_cases hlt : j < 3
    · have hlen := HL.out.2.2.1
      have hm := pre_succ ls (j + 1) (by omega)
      rw [HL.out.2.2.2.2 j (by omega)] at hm
      have hp := pre_pos ls HL.out.1 (j + 1) (by omega)
      have hfit : Fit (pre ls (j + 1)) := ⟨by omega, Hr.out.fit⟩
      have hov := fun h => allV_over ls HL.out.1 (j + 1 + 1) (by omega) h
      have Hm := Lib.hid (And.intro hm (And.intro hfit hov))
      have hfz : Fit ((m : Int) + 64) := ⟨by omega, by omega⟩
      clear hm hp hfit hov hlen
      go_wp2_with fail
      refine (rmul_any (pre ls (j + 1)) ((m : Int) + 64) _ Hm.out.2.1 hfz).mono ?_
      rintro e w' ⟨rfl, rfl⟩
      by_cases ho : pre ls (j + 1) * ((m : Int) + 64) ≤ Top
      · have hv' : mulV (pre ls (j + 1)) ((m : Int) + 64) = pre ls (j + 1 + 1) := by unfold mulV; rw [if_pos ho, Hm.out.1]
        have he' : mulE (pre ls (j + 1)) ((m : Int) + 64) = 0 := by unfold mulE; rw [if_pos ho]
        have ho' : pre ls (j + 1 + 1) ≤ Top := by rw [Hm.out.1]; exact ho
        have Y1 := Lib.hid ho'
        rw [hv', he']
        clear hv' he' ho ho'
        go_wp2
        go_roundg (3 - (j + 1))
        case measure => have := Hr.out.num; omega
        case rel => exact ⟨rfl, j + 1, by go_num, rfl, by omega, rfl, Y1.out⟩
      · have he' : mulE (pre ls (j + 1)) ((m : Int) + 64) = 9 := by unfold mulE; rw [if_neg ho]
        have ho' : ¬ pre ls (j + 1 + 1) ≤ Top := by rw [Hm.out.1]; exact ho
        have Y1 := Lib.hid ho'
        rw [he']
        clear he' ho ho'
        go_wp2
        go_ret
        exact ⟨ret_u64 (Hm.out.2.2 Y1.out).symm, rfl⟩
    · have Hv' := Lib.hid (allV_fits ls (by have := Hr.out.fit; rw [HL.out.2.2.1, show 4 = j + 1 by omega]; exact this))
      go_wp2
      go_ret
      exact ⟨ret_u64 (by rw [Hv'.out, HL.out.2.2.1, show 4 = j + 1 by omega]), rfl⟩
end Go.Proofs.Ytdbfphceadllbaa
