/-
  WireOne: a number's row, the next number's, its beginnings; and what is read of any bytes (all inputs, no condition).
-/
import Derived.Test.YtlnlpphhnbodpaaOneP
import Derived.Test.YtlnlpphhnbodpaaPutsLaw
import Derived.ChangeMaps5
namespace Go.Proofs.Ytlnlpphhnbodpaa
open Go.ChangeShapes Go.ChangeMaps Go.WideShapes Go.ChangeAt Go.RowKit
namespace wireOne

theorem numR_take {s : ByteArray} {m k : Nat} (h : numR s = some (m, k)) : rowL m = s.data.toList.take k ∧ m ≤ 18446744073709551615 ∧ k ≤ s.size := by
  unfold numR at h
  cases h1 : saysN s with
  | none => rw [h1] at h; cases h
  | some q =>
    obtain ⟨n', k'⟩ := q
    rw [h1] at h
    dsimp only at h
    split at h
    · rename_i hr
      injection h with h
      injection h with e1 e2
      subst e1; subst e2
      obtain ⟨b1, b2, _⟩ := saysN_bd h1
      exact ⟨hr, b1, b2⟩
    · cases h

theorem less_asym : ∀ a b : List UInt8, Op.bytesLess a b = true → Op.bytesLess b a = false ∧ (b == a) = false
  | [], [], h => by simp [Op.bytesLess] at h
  | [], _ :: _, _ => ⟨rfl, rfl⟩
  | _ :: _, [], h => by simp [Op.bytesLess] at h
  | x :: xs, y :: ys, h => by
    have ih := less_asym xs ys
    simp only [Op.bytesLess, Bool.or_eq_true, Bool.and_eq_true, decide_eq_true_eq, beq_iff_eq] at h ⊢
    rcases h with h | ⟨h, h2⟩
    · have h3 : ¬ y < x := fun h4 => absurd (UInt8.lt_trans h h4) (UInt8.lt_irrefl _)
      have h5 : y ≠ x := fun h4 => by subst h4; exact absurd h (UInt8.lt_irrefl _)
      simp [h3, h5]
    · subst h
      have := ih h2
      simp [this.1]
      simpa using this.2

structure O1 (w0 : World) (len k : Nat) (i : Value) (wr : World) (j : Nat) : Prop where
  slot : i = .int .i64 (j : Int)
  le : j ≤ len
  num : k = len - j
  by_ : w0.grownBy wr none

set_option maxRecDepth 100000 in
set_option maxHeartbeats 4000000 in
theorem walk (w : World) (z : Int) (wz : (Lit.int .u64 z).wf = true) (s : ByteArray) (hs : s.size ≤ maxLen) :
    Calls Try.prog 6 #[.int .u64 z, .string s] w fun e w' => e = .returned (.bool true) ∧ w.grownBy w' none := by
  unfold maxLen at hs
  obtain ⟨n, rfl, hn⟩ := bounds_u64 wz
  clear wz
  have hlen9 := rowL_le n hn
  have hlen1 : 1 ≤ (rowL n).length := by rw [rowL_len]; omega
  obtain ⟨R, hR⟩ : ∃ R : ByteArray, R = ⟨(rowL n).toArray⟩ := ⟨_, rfl⟩
  have hRs : R.size = (rowL n).length := by rw [hR]; rfl
  have hRl : R.toList = rowL n := by rw [ByteArray.toList_eq, hR]
  have hR9 : R.size ≤ 9 := by omega
  have hR1 : 1 ≤ R.size := by omega
  have e0 : (⟨#[]⟩ : ByteArray) ++ ⟨(rowL n).toArray⟩ = R := by rw [hR]; apply ByteArray.ext; simp
  have HR := Lib.hid (And.intro hR (And.intro hRs (And.intro hRl e0)))
  clear hR hRs hRl e0 hlen9 hlen1
  go_enter Try.func6, Try.ntmps6
  go_wp2_with fail
  refine (put_any ⟨#[]⟩ n hn (by decide) w).mono ?_
  rintro e w1 ⟨rfl, y1⟩
  rw [HR.out.2.2.2]
  have H1 := Lib.hid y1
  clear y1
  go_upto_if 25 with fail
  go_cut [] (fun wx => w.grownBy wx none)
  case first =>
    by_cases hmax : n = 18446744073709551615
    · have hw : IntKind.u64.wrap ((n : Int) + 1) = 0 := by rw [hmax]; decide
      have hnn : ¬ ((0 : Int) > (n : Int)) := by omega
      have Hw := Lib.hid hmax
      clear hmax
      go_wp2_with fail
      go_meet
      exact H1.out
    · have hn1 : n + 1 ≤ 18446744073709551615 := by omega
      have hw : IntKind.u64.wrap ((n : Int) + 1) = ((n + 1 : Nat) : Int) := by
        unfold IntKind.wrap
        simp [IntKind.signed, IntKind.bits]
        omega
      have hnn : ((n + 1 : Nat) : Int) > (n : Int) := by omega
      have Hw := Lib.hid hn1
      clear hmax hn1
      go_wp2_with fail
      have e1 : ((n : Int) + 1) = ((n + 1 : Nat) : Int) := by omega
      rw [e1]
      refine (put_any ⟨#[]⟩ (n + 1) Hw.out (by decide) w1).mono ?_
      rintro e w2 ⟨rfl, y2⟩
      obtain ⟨X, hX⟩ : ∃ X : ByteArray, (⟨#[]⟩ : ByteArray) ++ ⟨(rowL (n + 1)).toArray⟩ = X := ⟨_, rfl⟩
      have hX2 : X = ⟨(rowL (n + 1)).toArray⟩ := by rw [← hX]; apply ByteArray.ext; simp
      have hX3 : X.size = (rowL (n + 1)).length := by rw [hX2]; rfl
      have hX4 : X.toList = rowL (n + 1) := by rw [ByteArray.toList_eq, hX2]
      obtain ⟨l1, l2⟩ := row_less n Hw.out
      obtain ⟨l3, l4⟩ := less_asym _ _ l1
      rw [← hX4, ← HR.out.2.2.1] at l3 l4
      rw [← hX3, ← HR.out.2.1] at l2
      have hx0 : ¬ ((X.size : Int) < (R.size : Int)) := by omega
      have H2 := Lib.hid (by_trans H1.out y2 (by simp))
      rw [hX]
      clear y2 hX hX2 hX3 hX4 l1 l2 e1
      go_wp2_with fail
      go_meet
      exact H2.out
  case rest =>
    have H2 := Lib.hid hcut
    clear H1 hcut
    go_wp2_with fail
    go_loopg [7] R.size (fun k i wr => ∃ j, O1 w R.size k i wr j)
    case atStart => exact ⟨0, ⟨rfl, by omega, by omega, H2.out⟩⟩
    case round =>
      clear H2
      obtain ⟨j, hr⟩ := hrel
      obtain rfl := hr.slot
      have hle := hr.le
      have Hr := Lib.hid hr
      clear hr
      by_cases hlt : j < R.size
      · have hz0 : (0 : Int) ≤ (j : Int) := by omega
        have hz1 : (j : Int) < (R.size : Int) := by omega
        have hz2 : (j : Int) ≤ (R.size : Int) := by omega
        have hz3 : R.extract 0 j = ⟨((rowL n).take j).toArray⟩ := by
          rw [HR.out.1]
          apply ByteArray.ext
          apply Array.toList_inj.1
          rw [ext_0k]
        have hno := row_part n hn j (by rw [← HR.out.2.1]; exact hlt)
        obtain ⟨P, hP⟩ : ∃ P, R.extract 0 j = P := ⟨_, rfl⟩
        have hPs : P.size ≤ 140737488355328 := by rw [← hP, ext_size _ _ _ hle]; omega
        rw [← hz3, hP] at hno
        have HP := Lib.hid (And.intro hP (And.intro hno hPs))
        clear hz3 hno hP hPs
        go_wp2_with fail
        rw [HP.out.1]
        refine (newreader_any wr P).mono ?_
        rintro e w2 ⟨r, rfl, R2, y2, l2⟩
        have H2 := Lib.hid (And.intro (by_trans Hr.out.by_ y2 (by simp)) R2)
        have hr0 : w.heap.size ≤ r := Nat.le_trans Hr.out.by_.size l2
        clear R2 y2 l2
        go_wp2_with fail
        refine (num_any w2 r P false H2.out.2 HP.out.2.2).mono ?_
        rintro e w3 ⟨y3, hq⟩
        rw [HP.out.2.1] at hq
        obtain ⟨rfl, R3⟩ := hq
        have H3 := Lib.hid (And.intro (by_trans H2.out.1 y3 (fun x hx => .inr (by cases hx; exact hr0))) R3)
        clear R3 y3 H2
        go_wp2_with fail
        refine (ok_any w3 r _ _ H3.out.2).mono ?_
        rintro e w4 ⟨rfl, rfl⟩
        go_wp2
        go_roundg (R.size - (j + 1))
        case measure => have := Hr.out.num; omega
        case rel => exact ⟨j + 1, ⟨by go_num, by omega, rfl, H3.out.1⟩⟩
      · have Hf := Lib.hid Hr.out.by_
        have hz : ¬ ((j : Int) < (R.size : Int)) := by omega
        clear hlt hle Hr
        have hS : (s.extract 0 (min s.size 20)).size ≤ 20 := by rw [ext_size _ _ _ (Nat.min_le_left _ _)]; omega
        obtain ⟨S, hSS⟩ : ∃ S, s.extract 0 (min s.size 20) = S := ⟨_, rfl⟩
        rw [hSS] at hS
        have HS := Lib.hid hS
        clear hS
        go_upto_region 14 with fail
        go_cut [1] (fun s0 wx => s0 = .string S ∧ w.grownBy wx none)
        case first =>
          subst hSS
          by_cases hm : s.size ≤ 20
          · have hmin : min (s.size : Int) 20 = (s.size : Int) := by omega
            go_wp2_with fail
            go_meet
            refine ⟨?_, Hf.out⟩
            rw [Nat.min_eq_left hm, ext_all]
          · have hmin : min (s.size : Int) 20 = 20 := by omega
            have hm2 : (20 : Int) ≤ (s.size : Int) := by omega
            go_wp2_with fail
            go_meet
            refine ⟨?_, Hf.out⟩
            rw [Nat.min_eq_right (by omega)]
        case rest =>
          obtain ⟨rfl, y3⟩ := hcut
          have H3 := Lib.hid y3
          clear y3 Hf hSS
          go_wp2_with fail
          refine (newreader_any _ S).mono ?_
          rintro e w4 ⟨r, rfl, R4, y4, l4⟩
          have H4 := Lib.hid (And.intro (by_trans H3.out y4 (by simp)) R4)
          have hr0 : w.heap.size ≤ r := Nat.le_trans H3.out.size l4
          clear R4 y4 l4 H3
          go_wp2_with fail
          refine (num_any w4 r S false H4.out.2 (by have := HS.out; omega)).mono ?_
          rintro e w5 ⟨y5, hq⟩
          cases hN : numR S with
          | none =>
            rw [hN] at hq
            obtain ⟨rfl, R5⟩ := hq
            have H5 := Lib.hid (And.intro (by_trans H4.out.1 y5 (fun x hx => .inr (by cases hx; exact hr0))) R5)
            clear R5 y5 H4 hN
            go_wp2_with fail
            refine (ok_any w5 r _ _ H5.out.2).mono ?_
            rintro e w6 ⟨rfl, rfl⟩
            go_wp2_with fail
            refine (works_any _).mono ?_
            rintro e w9 ⟨rfl, y9⟩
            have H9 := Lib.hid (by_trans H5.out.1 y9 (by simp))
            clear y9
            go_wp2
            go_ret
            exact ⟨rfl, H9.out⟩
          | some q =>
            obtain ⟨m, k⟩ := q
            rw [hN] at hq
            obtain ⟨rfl, R5⟩ := hq
            obtain ⟨hM1, hM2, hM3⟩ := numR_take hN
            have H5 := Lib.hid (And.intro (by_trans H4.out.1 y5 (fun x hx => .inr (by cases hx; exact hr0))) R5)
            have HM := Lib.hid (And.intro hM1 (And.intro hM2 hM3))
            clear R5 y5 H4 hN hM1 hM2 hM3
            go_wp2_with fail
            refine (ok_any w5 r _ _ H5.out.2).mono ?_
            rintro e w6 ⟨rfl, rfl⟩
            go_wp2_with fail
            refine (put_any ⟨#[]⟩ m HM.out.2.1 (by decide) w5).mono ?_
            rintro e w6 ⟨rfl, y6⟩
            obtain ⟨X, hX⟩ : ∃ X : ByteArray, (⟨#[]⟩ : ByteArray) ++ ⟨(rowL m).toArray⟩ = X := ⟨_, rfl⟩
            have hX2 : X = ⟨(rowL m).toArray⟩ := by rw [← hX]; apply ByteArray.ext; simp
            have hXk : X.size = k := by
              have h1 : X.size = (rowL m).length := by rw [hX2]; rfl
              rw [h1, HM.out.1, List.length_take]
              have : S.data.toList.length = S.size := rfl
              have := HM.out.2.2
              omega
            have hXe : S.extract 0 X.size = X := by
              rw [hXk, hX2, HM.out.1]
              apply ByteArray.ext
              apply Array.toList_inj.1
              rw [ext_0k]
            have hXs : X.size ≤ S.size := by rw [hXk]; exact HM.out.2.2
            rw [hX]
            have R6 := H5.out.2.by_ y6
            rw [← hXk] at R6
            have H6 := Lib.hid (And.intro (by_trans H5.out.1 y6 (by simp)) R6)
            have hx0 : ¬ ((S.size : Int) < (X.size : Int)) := by omega
            have hx1 : (X.size : Int) ≤ (S.size : Int) := by omega
            clear R6 y6 H5 hX hX2 hXk HM
            go_wp2_with fail
            refine (end_any w6 r _ _ H6.out.2).mono ?_
            rintro e w7 ⟨rfl, rfl⟩
            have hes : (S.extract X.size S.size).size = S.size - X.size := by rw [ext_size _ _ _ (Nat.le_refl _)]
            have hb : (!false && decide ((S.extract X.size S.size).size = 0)) = decide (S.size = X.size) := by
              rw [hes, Bool.not_false, Bool.true_and]
              exact decide_eq_decide.2 (by omega)
            have hb2 : ((S.size : Int) == (X.size : Int)) = decide (S.size = X.size) := by
              rw [Bool.eq_iff_iff]; simp; omega
            rw [hb]
            clear hes hb
            obtain ⟨bb, hbb⟩ : ∃ bb, decide (S.size = X.size) = bb := ⟨_, rfl⟩
            rw [hbb] at hb2 ⊢
            clear hbb
            cases bb with
            | true =>
              go_wp2_with fail
              refine (works_any _).mono ?_
              rintro e w9 ⟨rfl, y9⟩
              have H9 := Lib.hid (by_trans H6.out.1 y9 (by simp))
              clear y9
              go_wp2
              go_ret
              exact ⟨rfl, H9.out⟩
            | false =>
              go_wp2_with fail
              refine (works_any _).mono ?_
              rintro e w9 ⟨rfl, y9⟩
              have H9 := Lib.hid (by_trans H6.out.1 y9 (by simp))
              clear y9
              go_wp2
              go_ret
              exact ⟨rfl, H9.out⟩

set_option maxRecDepth 100000 in
theorem lifted (os : Os) (started : os.Started) (H : Type) (enc : TypeId × Value → H) :
    ReturnsInHanded {} Try.checked os 6 .any (Rows.wireOneSpec.pre6 enc Try.prog Try.f6 Rows.wireOneRow.domain false) (Rows.wireOneSpec.post enc Try.prog Try.f6 false true false false) := by
  refine returnsInHanded_of_change (C := Try.checked) own started (by kernel_rfl) Try.func6
    (ChangeSpec.witness6 (enc := enc) (C := Try.checked) false ⟨#[], #[.int .u64 0, .string ByteArray.empty], []⟩ 8 (by kernel_rfl) (by kernel_rfl) (by kernel_rfl) (by kernel_rfl)) ?_
  intro W base args ds gs before hval0 hW hcnd _
  have hval : ∀ (j : Nat) t v, Try.f6.params[j]? = some t → args[j]? = some v → Value.okWide Try.prog W .any base t v := hval0
  have hW' := hW
  obtain ⟨p, q, hA0, hV, rfl, hfz, hnd⟩ := hW
  have hA : DataW.TrodAll enc Try.prog W 0 (fun _ => true) true Try.f6.params.toList args.toList ds p := hA0
  rw [Try.params6] at hA hval
  obtain ⟨v0, vs0, d0, ds0, p0, q0, hargs, rfl, rfl, h0, r0⟩ := trodAll_cons hA
  obtain ⟨v1, vs1, d1, ds1, p1, q1, rfl, rfl, rfl, h1, r1⟩ := trodAll_cons r0
  obtain ⟨rfl, rfl, rfl⟩ := trodAll_nil r1
  obtain rfl : args = #[v0, v1] := by cases args; simp_all
  obtain ⟨rfl, rfl⟩ := trodVars_none hV
  obtain ⟨a0, rfl, rfl, rfl, w0⟩ := open_int Try.underlying25 (hval 0 25 v0 rfl rfl) h0
  obtain ⟨a1, rfl, rfl, rfl, w1⟩ := open_string Try.underlying9 (hval 1 9 v1 rfl rfl) h1
  refine (walk W a0 w0 a1 w1).mono fun e W' ⟨he, hg⟩ => ?_
  subst he
  exact ⟨_, rfl, law_post laidOut rfl hW' (by kernel_rfl) rfl Try.underlying4 rfl (below_of_by hg)⟩

theorem proved : Rows.WireOneSaid :=
  OpenClaim.holds_of_wide 6 Try.f6 rfl rfl rfl rfl rfl rfl rfl ⟨rfl, rfl, rfl, rfl, rfl⟩ rfl rfl rfl rfl rfl (by kernel_rfl) Try.func6 (by kernel_rfl)
    (of_decide_eq_true (by kernel_rfl)) (by unfold Func.isWrapper; first | (rw [if_pos (by decide +kernel)]; kernel_rfl) | (rw [if_neg (by decide +kernel)]; exact ⟨rfl, rfl⟩))
    (fun os started H enc _ => lifted os started H enc)
#print axioms proved
end wireOne
end Go.Proofs.Ytlnlpphhnbodpaa
