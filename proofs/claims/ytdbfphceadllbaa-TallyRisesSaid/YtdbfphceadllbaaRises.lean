/-
  TallyRises: what a check may cost rises with the bytes, till it is the greatest number (all inputs, no condition).
-/
import Derived.Test.YtdbfphceadllbaaMay
import Derived.Test.YtdbfphceadllbaaRow
namespace Go.Proofs.Ytdbfphceadllbaa.tallyRises
open Go.ChangeShapes Go.WideShapes Go.ChangeAt Go.RowKit

theorem bound_nat (p : Nat) : boundV (p : Int) = if 64 * ((p : Int) + 64) * ((p : Int) + 64) * ((p : Int) + 64) ≤ Top then 64 * ((p : Int) + 64) * ((p : Int) + 64) * ((p : Int) + 64) else Top := by
  have e : max (p : Int) 0 = (p : Int) := by omega
  unfold boundV allV pre
  rw [e]
  simp
theorem bound_top (p : Nat) : boundV (p : Int) ≤ Top := by
  rw [bound_nat]
  split
  · assumption
  · exact Int.le_refl _
theorem bound_pos (p : Nat) : 0 ≤ boundV (p : Int) := by
  rw [bound_nat]
  split
  · exact Int.mul_nonneg (Int.mul_nonneg (by omega) (by omega)) (by omega)
  · decide
theorem rises (p q : Nat) (h : p < q) : boundV (p : Int) < boundV (q : Int) ∨ boundV (p : Int) = Top ∧ boundV (q : Int) = Top := by
  have h1 : 64 * ((p : Int) + 64) < 64 * ((q : Int) + 64) := by omega
  have h2 : 64 * ((p : Int) + 64) * ((p : Int) + 64) < 64 * ((q : Int) + 64) * ((q : Int) + 64) :=
    Int.mul_lt_mul h1 (by omega) (by omega) (by omega)
  have h3 : 64 * ((p : Int) + 64) * ((p : Int) + 64) * ((p : Int) + 64) < 64 * ((q : Int) + 64) * ((q : Int) + 64) * ((q : Int) + 64) :=
    Int.mul_lt_mul h2 (by omega) (by omega) (Int.mul_nonneg (by omega) (by omega))
  rw [bound_nat, bound_nat]
  generalize 64 * ((p : Int) + 64) * ((p : Int) + 64) * ((p : Int) + 64) = x at *
  generalize 64 * ((q : Int) + 64) * ((q : Int) + 64) * ((q : Int) + 64) = y at *
  split <;> split <;> omega

theorem nat_of (a : Int) (wa : (Lit.int .i64 a).wf = true) : ∃ p : Nat, max a 0 = (p : Int) ∧ p ≤ 9223372036854775807 := by
  have := bounds_i64 wa
  exact ⟨(max a 0).toNat, by omega, by omega⟩

/-- what is asked of the two bounds behind the two calls -/
theorem walk_ne (w : World) (a b : Int) (p q : Nat) (ha : max a 0 = (p : Int)) (hb : max b 0 = (q : Int)) (lo hi : Nat) (hlo : lo ≤ 9223372036854775807) (hhi : hi ≤ 9223372036854775807)
    (hmin : min (p : Int) (q : Int) = (lo : Int)) (hmax : max (p : Int) (q : Int) = (hi : Int)) (hne : ((p : Int) == (q : Int)) = false) (hlt : lo < hi) :
    Calls Try.prog 5 #[.int .i64 a, .int .i64 b] w fun e w' => e = .returned (.bool true) ∧ w.grownBy w' none := by
  have hr := rises lo hi hlt
  have t1 := bound_top lo
  have t2 := bound_top hi
  have p1 := bound_pos lo
  have p2 := bound_pos hi
  have H1 := fun W => bound_c (lo : Int) (boundV (lo : Int)) W (by omega) (by omega) rfl
  have H2 := fun W => bound_c (hi : Int) (boundV (hi : Int)) W (by omega) (by omega) rfl
  generalize boundV (lo : Int) = u at *
  generalize boundV (hi : Int) = v at *
  have HH := Lib.hid (And.intro H1 H2)
  have hne2 : ((p : Int) != (q : Int)) = true := by rw [bne, hne]; rfl
  clear H1 H2
  rcases hr with hr | ⟨rfl, rfl⟩
  · unfold Top at t1 t2
    go_enter Try.func5, Try.ntmps5
    go_wp2_with fail
    refine (works_walk w).mono ?_
    rintro e w1 ⟨rfl, y1⟩
    have Y1 := Lib.hid y1
    clear y1
    go_wp2_with fail
    refine (HH.out.1 w1).mono ?_
    rintro e w2 ⟨rfl, y2⟩
    have Y2 := Lib.hid (by_trans Y1.out y2 (fun x hx => by cases hx))
    clear y2 Y1
    go_wp2_with fail
    refine (HH.out.2 w2).mono ?_
    rintro e w3 ⟨rfl, y3⟩
    have Y3 := Lib.hid (by_trans Y2.out y3 (fun x hx => by cases hx))
    clear y3 Y2
    go_wp2
    go_ret
    exact ⟨rfl, Y3.out⟩
  · clear t1 t2 p1 p2
    unfold Top at HH
    go_enter Try.func5, Try.ntmps5
    go_wp2_with fail
    refine (works_walk w).mono ?_
    rintro e w1 ⟨rfl, y1⟩
    have Y1 := Lib.hid y1
    clear y1
    go_wp2_with fail
    refine (HH.out.1 w1).mono ?_
    rintro e w2 ⟨rfl, y2⟩
    have Y2 := Lib.hid (by_trans Y1.out y2 (fun x hx => by cases hx))
    clear y2 Y1
    go_wp2_with fail
    refine (HH.out.2 w2).mono ?_
    rintro e w3 ⟨rfl, y3⟩
    have Y3 := Lib.hid (by_trans Y2.out y3 (fun x hx => by cases hx))
    clear y3 Y2
    go_wp2
    go_ret
    exact ⟨rfl, Y3.out⟩

theorem walk_eq (w : World) (a b : Int) (p : Nat) (ha : max a 0 = (p : Int)) (hb : max b 0 = (p : Int)) (hp : p ≤ 9223372036854775807) :
    Calls Try.prog 5 #[.int .i64 a, .int .i64 b] w fun e w' => e = .returned (.bool true) ∧ w.grownBy w' none := by
  have t1 := bound_top p
  have p1 := bound_pos p
  have H1 := fun W => bound_c (p : Int) (boundV (p : Int)) W (by omega) (by omega) rfl
  generalize boundV (p : Int) = u at *
  have HH := Lib.hid H1
  have hmin : min (p : Int) (p : Int) = (p : Int) := by omega
  have hmax : max (p : Int) (p : Int) = (p : Int) := by omega
  clear H1 t1 p1
  go_enter Try.func5, Try.ntmps5
  go_wp2_with fail
  refine (works_walk w).mono ?_
  rintro e w1 ⟨rfl, y1⟩
  have Y1 := Lib.hid y1
  clear y1
  go_wp2_with fail
  refine (HH.out w1).mono ?_
  rintro e w2 ⟨rfl, y2⟩
  have Y2 := Lib.hid (by_trans Y1.out y2 (fun x hx => by cases hx))
  clear y2 Y1
  go_wp2_with fail
  refine (HH.out w2).mono ?_
  rintro e w3 ⟨rfl, y3⟩
  have Y3 := Lib.hid (by_trans Y2.out y3 (fun x hx => by cases hx))
  clear y3 Y2
  go_wp2
  go_ret
  exact ⟨rfl, Y3.out⟩

theorem walk (w : World) (a : Int) (wa : (Lit.int .i64 a).wf = true) (b : Int) (wb : (Lit.int .i64 b).wf = true) :
    Calls Try.prog 5 #[.int .i64 a, .int .i64 b] w fun e w' => e = .returned (.bool true) ∧ w.grownBy w' none := by
  obtain ⟨p, ha, hp⟩ := nat_of a wa
  obtain ⟨q, hb, hq⟩ := nat_of b wb
  rcases Nat.lt_trichotomy p q with h | h | h
  · exact walk_ne w a b p q ha hb p q hp hq (by omega) (by omega) (beq_eq_false_iff_ne.2 (by omega)) h
  · subst h
    exact walk_eq w a b p ha hb hp
  · exact walk_ne w a b p q ha hb q p hq hp (by omega) (by omega) (beq_eq_false_iff_ne.2 (by omega)) h

set_option maxRecDepth 100000 in
theorem lifted (os : Os) (started : os.Started) (H : Type) (enc : TypeId × Value → H) :
    ReturnsInHanded {} Try.checked os 5 .any (Rows.tallyRisesSpec.pre6 enc Try.prog Try.f5 Rows.tallyRisesRow.domain false) (Rows.tallyRisesSpec.post enc Try.prog Try.f5 false true false false) := by
  refine returnsInHanded_of_change (C := Try.checked) own started (by kernel_rfl) Try.func5
    (ChangeSpec.witness6 (enc := enc) (C := Try.checked) false ⟨#[], #[.int .i64 0, .int .i64 0], []⟩ 8 (by kernel_rfl) (by kernel_rfl) (by kernel_rfl) (by kernel_rfl)) ?_
  intro W base args ds gs before hval0 hW hcnd _
  have hval : ∀ (j : Nat) t v, Try.f5.params[j]? = some t → args[j]? = some v → Value.okWide Try.prog W .any base t v := hval0
  have hW' := hW
  obtain ⟨p, q, hA0, hV, rfl, hfz, hnd⟩ := hW
  have hA : DataW.TrodAll enc Try.prog W 0 (fun _ => true) true Try.f5.params.toList args.toList ds p := hA0
  rw [Try.params5] at hA hval
  obtain ⟨v0, vs0, d0, ds0, p0, q0, hargs, rfl, rfl, h0, r0⟩ := trodAll_cons hA
  obtain ⟨v1, vs1, d1, ds1, p1, q1, rfl, rfl, rfl, h1, r1⟩ := trodAll_cons r0
  obtain ⟨rfl, rfl, rfl⟩ := trodAll_nil r1
  obtain rfl : args = #[v0, v1] := by cases args; simp_all
  obtain ⟨rfl, rfl⟩ := trodVars_none hV
  obtain ⟨a0, rfl, rfl, rfl, w0⟩ := open_int Try.underlying3 (hval 0 3 v0 rfl rfl) h0
  obtain ⟨a1, rfl, rfl, rfl, w1⟩ := open_int Try.underlying3 (hval 1 3 v1 rfl rfl) h1
  refine (walk W a0 w0 a1 w1).mono fun e W' ⟨he, hg⟩ => ?_
  subst he
  exact ⟨_, rfl, law_post laidOut rfl hW' (by kernel_rfl) rfl Try.underlying4 rfl (below_of_by hg)⟩

theorem proved : Rows.TallyRisesSaid :=
  OpenClaim.holds_of_wide 5 Try.f5 rfl rfl rfl rfl rfl rfl rfl ⟨rfl, rfl, rfl, rfl, rfl⟩ rfl rfl rfl rfl rfl (by kernel_rfl) Try.func5 (by kernel_rfl)
    (of_decide_eq_true (by kernel_rfl)) (by unfold Func.isWrapper; first | (rw [if_pos (by decide +kernel)]; kernel_rfl) | (rw [if_neg (by decide +kernel)]; exact ⟨rfl, rfl⟩))
    (fun os started H enc _ => lifted os started H enc)
#print axioms proved
end Go.Proofs.Ytdbfphceadllbaa.tallyRises
