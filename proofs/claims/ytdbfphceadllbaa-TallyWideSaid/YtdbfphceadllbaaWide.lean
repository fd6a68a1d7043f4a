/-
  TallyWide: sums and products are those of wider numbers, if these fit; else they run over (all inputs, no condition).
-/
import Derived.Test.YtdbfphceadllbaaMay
import Derived.Test.YtdbfphceadllbaaRow
import Derived.Shelf.Bits.Mul64
import Derived.Laws.Externs
namespace Go.Proofs.Ytdbfphceadllbaa.tallyWide
open Go.ChangeShapes Go.WideShapes Go.ChangeAt Go.RowKit Go.Lib

/-- the school method of Mul64 (the steps are those of the library's own contract for any program) -/
theorem mul64_any (x y : Nat) (hx : x < 18446744073709551616) (hy : y < 18446744073709551616) (w : World) :
    Calls Try.prog 24 #[.int .u64 x, .int .u64 y] w fun e w' => e = .returned (.tuple #[.int .u64 ((x * y / 18446744073709551616 : Nat) : Int), .int .u64 ((x * y % 18446744073709551616 : Nat) : Int)]) ∧ w' = w := by
  obtain ⟨bd, bt, bw, hhi⟩ := Lib.mul64_hi x y hx hy
  have ba := Lib.half_mul_le (a := x / 4294967296) (b := y / 4294967296) (by omega) (by omega)
  have bb := Lib.half_mul_le (a := x / 4294967296) (b := y % 4294967296) (by omega) (by omega)
  have bc := Lib.half_mul_le (a := x % 4294967296) (b := y / 4294967296) (by omega) (by omega)
  have ba' : x / 4294967296 * (y / 4294967296) < 18446744073709551616 := by omega
  have bb' : x / 4294967296 * (y % 4294967296) < 18446744073709551616 := by omega
  have bc' : x % 4294967296 * (y / 4294967296) < 18446744073709551616 := by omega
  have bh1 : x / 4294967296 * (y / 4294967296) + (x / 4294967296 * (y % 4294967296) + x % 4294967296 * (y % 4294967296) / 4294967296) / 4294967296 < 18446744073709551616 := by omega
  have bh : x / 4294967296 * (y / 4294967296) + (x / 4294967296 * (y % 4294967296) + x % 4294967296 * (y % 4294967296) / 4294967296) / 4294967296 + ((x / 4294967296 * (y % 4294967296) + x % 4294967296 * (y % 4294967296) / 4294967296) % 4294967296 + x % 4294967296 * (y / 4294967296)) / 4294967296 < 18446744073709551616 := by omega
  go_enter Try.func24, Try.ntmps24
  go_wp2
  -- the walk's numbers, folded from the inside out: each step of the school method is a natural number that does not wrap
  simp only [Mul64.maskN x hx, Mul64.maskN y hy, Mul64.divN, Mul64.mulN, Mul64.addN, Mul64.wrapN _ bd, Mul64.wrapN _ bb', Mul64.wrapN _ bt, Mul64.maskN _ bt, Mul64.wrapN _ bc', Mul64.wrapN _ bw, Mul64.wrapN _ ba', Mul64.wrapN _ bh1, Mul64.wrapN _ bh, Mul64.wrapM (x * y)]
  rw [hhi]
  go_ret2
  exact ⟨rfl, rfl⟩

theorem add64_run (x y : Int) (hx : 0 ≤ x) (hy : 0 ≤ y) (w : World) :
    (callFunc 23 #[.int .u64 x, .int .u64 y, .int .u64 0]).run Try.prog w = .ok (.value (.tuple #[.int .u64 ((x + y + 0) % 18446744073709551616), .int .u64 ((x + y + 0) / 18446744073709551616)])) w := by
  rw [run_callFunc_extern Try.func23 (by kernel_rfl) (by kernel_rfl) (by kernel_rfl) (e := add64Entry) (by kernel_rfl), run_add64 x y 0 hx hy (by omega) (by omega)]
  rfl

/-- sum and carry, as Add64 gives them, against what Add answers -/
theorem wide_add (a b : Int) (ha : Fit a) (hb : Fit b) :
    ((a + b + 0) / 18446744073709551616 = 0 ∧ (a + b + 0) % 18446744073709551616 = sumV a b ∧ sumE a b = 0) ∨ ((a + b + 0) / 18446744073709551616 = 1 ∧ sumV a b = 0 ∧ sumE a b = 9) := by
  obtain ⟨a0, a1⟩ := ha
  obtain ⟨b0, b1⟩ := hb
  unfold sumV sumE Top
  by_cases h : a + b ≤ 18446744073709551615
  · rw [if_pos h, if_pos h]
    exact .inl ⟨by omega, by omega, rfl⟩
  · rw [if_neg h, if_neg h]
    exact .inr ⟨by omega, rfl, rfl⟩
theorem wide_mul (x y : Nat) (hx : x < 18446744073709551616) (hy : y < 18446744073709551616) :
    ((x * y / 18446744073709551616 : Nat) = 0 ∧ ((x * y % 18446744073709551616 : Nat) : Int) = mulV x y ∧ mulE x y = 0) ∨ (1 ≤ (x * y / 18446744073709551616 : Nat) ∧ mulV x y = 0 ∧ mulE x y = 9) := by
  have e : ((x * y : Nat) : Int) = (x : Int) * (y : Int) := Int.natCast_mul x y
  unfold mulV mulE Top
  by_cases h : x * y ≤ 18446744073709551615
  · rw [if_pos (by omega), if_pos (by omega)]
    exact .inl ⟨by omega, by rw [← e]; omega, rfl⟩
  · rw [if_neg (by omega), if_neg (by omega)]
    exact .inr ⟨by omega, rfl, rfl⟩

set_option maxRecDepth 100000 in
set_option maxHeartbeats 4000000 in
theorem walkN (w : World) (x y : Nat) (hx : x < 18446744073709551616) (hy : y < 18446744073709551616) :
    Calls Try.prog 9 #[.int .u64 (x : Int), .int .u64 (y : Int)] w fun e w' => e = .returned (.bool true) ∧ w.grownBy w' none := by
  have fx : Fit (x : Int) := ⟨by omega, by omega⟩
  have fy : Fit (y : Int) := ⟨by omega, by omega⟩
  have hA := fun W => add64_run (x : Int) (y : Int) fx.1 fy.1 W
  have hM := fun W => mul64_any x y hx hy W
  have h1 := wide_add (x : Int) (y : Int) fx fy
  have h2 := wide_mul x y hx hy
  have hS := fun W => add_any (x : Int) (y : Int) W fx fy
  have hP := fun W => mul_any (x : Int) (y : Int) W fx fy
  generalize ((x : Int) + (y : Int) + 0) % 18446744073709551616 = s at *
  generalize ((x : Int) + (y : Int) + 0) / 18446744073709551616 = ca at *
  generalize (x * y / 18446744073709551616 : Nat) = hi at *
  generalize ((x * y % 18446744073709551616 : Nat) : Int) = lo at *
  generalize sumV (x : Int) (y : Int) = sv at *
  generalize sumE (x : Int) (y : Int) = se at *
  generalize mulV (x : Int) (y : Int) = mv at *
  generalize mulE (x : Int) (y : Int) = me at *
  have HH := Lib.hid (And.intro hM (And.intro hS hP))
  clear hM hS hP fx fy hx hy
  rcases h1 with ⟨rfl, rfl, rfl⟩ | ⟨rfl, rfl, rfl⟩ <;> rcases h2 with ⟨rfl, rfl, rfl⟩ | ⟨h2, rfl, rfl⟩
  all_goals
    go_enter Try.func9, Try.ntmps9
    go_wp2_with fail
    refine (works_walk w).mono ?_
    rintro e w1 ⟨rfl, y1⟩
    have Y1 := Lib.hid y1
    clear y1
    go_wp2_with fail
    refine (HH.out.1 w1).mono ?_
    rintro e w1' ⟨rfl, rfl⟩
    go_wp2_with fail
    refine (HH.out.2.1 _).mono ?_
    rintro e w2 ⟨rfl, y2⟩
    have Y2 := Lib.hid (by_trans Y1.out y2 (fun x hx => by cases hx))
    clear y2 Y1
    go_wp2_with fail
    refine (HH.out.2.2 _).mono ?_
    rintro e w3 ⟨rfl, y3⟩
    have Y3 := Lib.hid (by_trans Y2.out y3 (fun x hx => by cases hx))
    clear y3 Y2
    go_wp2
    go_ret
    exact ⟨rfl, Y3.out⟩

theorem walk (w : World) (a : Int) (wa : (Lit.int .u64 a).wf = true) (b : Int) (wb : (Lit.int .u64 b).wf = true) :
    Calls Try.prog 9 #[.int .u64 a, .int .u64 b] w fun e w' => e = .returned (.bool true) ∧ w.grownBy w' none := by
  obtain ⟨x, rfl, hx⟩ := fit_nat (show Fit a from bounds_u64 wa)
  obtain ⟨y, rfl, hy⟩ := fit_nat (show Fit b from bounds_u64 wb)
  exact walkN w x y (by omega) (by omega)

set_option maxRecDepth 100000 in
theorem lifted (os : Os) (started : os.Started) (H : Type) (enc : TypeId × Value → H) :
    ReturnsInHanded {} Try.checked os 9 .any (Rows.tallyWideSpec.pre6 enc Try.prog Try.f9 Rows.tallyWideRow.domain false) (Rows.tallyWideSpec.post enc Try.prog Try.f9 false true false false) := by
  refine returnsInHanded_of_change (C := Try.checked) own started (by kernel_rfl) Try.func9
    (ChangeSpec.witness6 (enc := enc) (C := Try.checked) false ⟨#[], #[.int .u64 0, .int .u64 0], []⟩ 8 (by kernel_rfl) (by kernel_rfl) (by kernel_rfl) (by kernel_rfl)) ?_
  intro W base args ds gs before hval0 hW hcnd _
  have hval : ∀ (j : Nat) t v, Try.f9.params[j]? = some t → args[j]? = some v → Value.okWide Try.prog W .any base t v := hval0
  have hW' := hW
  obtain ⟨p, q, hA0, hV, rfl, hfz, hnd⟩ := hW
  have hA : DataW.TrodAll enc Try.prog W 0 (fun _ => true) true Try.f9.params.toList args.toList ds p := hA0
  rw [Try.params9] at hA hval
  obtain ⟨v0, vs0, d0, ds0, p0, q0, hargs, rfl, rfl, h0, r0⟩ := trodAll_cons hA
  obtain ⟨v1, vs1, d1, ds1, p1, q1, rfl, rfl, rfl, h1, r1⟩ := trodAll_cons r0
  obtain ⟨rfl, rfl, rfl⟩ := trodAll_nil r1
  obtain rfl : args = #[v0, v1] := by cases args; simp_all
  obtain ⟨rfl, rfl⟩ := trodVars_none hV
  obtain ⟨a0, rfl, rfl, rfl, w0⟩ := open_int Try.underlying22 (hval 0 22 v0 rfl rfl) h0
  obtain ⟨a1, rfl, rfl, rfl, w1⟩ := open_int Try.underlying22 (hval 1 22 v1 rfl rfl) h1
  refine (walk W a0 w0 a1 w1).mono fun e W' ⟨he, hg⟩ => ?_
  subst he
  exact ⟨_, rfl, law_post laidOut rfl hW' (by kernel_rfl) rfl Try.underlying4 rfl (below_of_by hg)⟩

theorem proved : Rows.TallyWideSaid :=
  OpenClaim.holds_of_wide 9 Try.f9 rfl rfl rfl rfl rfl rfl rfl ⟨rfl, rfl, rfl, rfl, rfl⟩ rfl rfl rfl rfl rfl (by kernel_rfl) Try.func9 (by kernel_rfl)
    (of_decide_eq_true (by kernel_rfl)) (by unfold Func.isWrapper; first | (rw [if_pos (by decide +kernel)]; kernel_rfl) | (rw [if_neg (by decide +kernel)]; exact ⟨rfl, rfl⟩))
    (fun os started H enc _ => lifted os started H enc)
#print axioms proved
end Go.Proofs.Ytdbfphceadllbaa.tallyWide
