/-
  WirePuts: any numbers' rows, and any texts', behind one another, are as the document says (all inputs, no condition).
-/
import Derived.Test.YtlnlpphhnbodpaaWorks
import Derived.Test.YtlnlpphhnbodpaaRow
import Derived.Deep.RegionHeld3
namespace Go.Proofs.Ytlnlpphhnbodpaa
open Go.ChangeShapes Go.WideShapes Go.ChangeAt Go.RowKit

theorem bounds_u64 {z : Int} (h : (Lit.int .u64 z).wf = true) : ∃ n : Nat, z = (n : Int) ∧ n ≤ 18446744073709551615 := by
  simp [Lit.wf, IntKind.min, IntKind.max, IntKind.signed, IntKind.bits] at h
  exact ⟨z.toNat, by omega, by omega⟩
theorem sp_grown {wr w1 w2 : World} {p : Addr} {v : Value} (h : wr.grownBy w1 none ∧ w1.cell? p = some v) (hg : w1.grownBy w2 none) : wr.grownBy w2 none ∧ w2.cell? p = some v := ⟨by_trans h.1 hg (by simp), hg.cell h.2 (by simp)⟩
theorem sp_drew {wr w1 : World} {p : Addr} {v : Value} (h : wr.grownBy w1 none ∧ w1.cell? p = some v) : wr.grownBy w1.drew none ∧ w1.drew.cell? p = some v := ⟨by_drew h.1, h.2⟩
theorem rput_step {w : World} {l : List UInt8} {n : Nat} (hn : n ≤ 18446744073709551615) (hl : l.length ≤ 1000000) :
    Calls Try.prog 9 #[.string ⟨l.toArray⟩, .int .u64 (n : Int)] w fun e w' => e = .returned (.string ⟨(l ++ rowL n).toArray⟩) ∧ w.grownBy w' none := by
  refine (rput_any ⟨l.toArray⟩ n hn (by show l.length ≤ _; omega) w).mono fun e w' ⟨h1, h2⟩ => ⟨?_, h2⟩
  rw [h1]
  congr 2
theorem rputt_step {w : World} {l x : List UInt8} (hx : x.length ≤ 1000000) (hl : l.length ≤ 1000000) :
    Calls Try.prog 11 #[.string ⟨l.toArray⟩, .string ⟨x.toArray⟩] w fun e w' => e = .returned (.string ⟨(l ++ (rowL x.length ++ x)).toArray⟩) ∧ w.grownBy w' none := by
  refine (rputtext_any ⟨l.toArray⟩ ⟨x.toArray⟩ (by show l.length ≤ _; omega) (by show x.length ≤ _; omega) w).mono fun e w' ⟨h1, h2⟩ => ⟨?_, h2⟩
  rw [h1]
  congr 2
  apply ByteArray.ext
  simp [ByteArray.size]
/-- a text cut to so many bytes, as a list -/
def cutL (s : ByteArray) (m : Nat) : List UInt8 := s.data.toList.take m
theorem cutL_len (s : ByteArray) (m : Nat) : (cutL s m).length ≤ m := by unfold cutL; rw [List.length_take]; exact Nat.min_le_left _ _
theorem cutL_ext (s : ByteArray) (m : Nat) : s.extract 0 (min s.size m) = ⟨(cutL s m).toArray⟩ := by
  apply ByteArray.ext
  apply Array.toList_inj.1
  rw [ext_0k]
  unfold cutL
  rw [List.take_eq_take_iff]
  have : s.data.toList.length = s.size := rfl
  rw [this]
  omega

theorem ext_all (s : ByteArray) : s.extract 0 s.size = s := by
  apply ByteArray.ext
  apply Array.toList_inj.1
  rw [ext_0k]
  exact List.take_of_length_le (Nat.le_refl _)

namespace wirePuts

structure P1 (w0 : World) (l : List Int) (k : Nat) (a b i : Value) (wr : World) (j : Nat) (L : List UInt8) : Prop where
  slot : i = .int .i64 (j : Int)
  a_ : a = .string ⟨L.toArray⟩
  b_ : b = .string ⟨L.toArray⟩
  le : j ≤ l.length
  le2 : j ≤ 60
  num : k = l.length - j
  len : L.length ≤ 9 * j
  by_ : w0.grownBy wr none
structure P2 (w0 : World) (l : List ByteArray) (k : Nat) (a b i : Value) (wr : World) (j : Nat) (L : List UInt8) : Prop where
  slot : i = .int .i64 (j : Int)
  a_ : a = .string ⟨L.toArray⟩
  b_ : b = .string ⟨L.toArray⟩
  le : j ≤ l.length
  le2 : j ≤ 20
  num : k = l.length - j
  len : L.length ≤ 540 + 3009 * j
  by_ : w0.grownBy wr none

set_option maxRecDepth 100000 in
set_option maxHeartbeats 4000000 in
theorem walk (w : World) (v : Value) (l : List Int) (hv : Nums w .u64 v l) (hl : l.length ≤ maxLen) (hw : ∀ z ∈ l, (Lit.int .u64 z).wf = true)
    (u : Value) (ts : List ByteArray) (hu : Strs w u ts) (htl : ts.length ≤ maxLen) (hts : ∀ s ∈ ts, s.size ≤ maxLen) :
    Calls Try.prog 3 #[v, u] w fun e w' => e = .returned (.bool true) ∧ w.grownBy w' none := by
  unfold maxLen at hl htl hts
  have HV := Lib.hid (And.intro hv (And.intro hw (And.intro hu hts)))
  obtain ⟨A, c, rfl, hcap, _⟩ := hv
  obtain ⟨B, d, rfl, hcap2, _⟩ := hu
  clear hw hts
  go_enter Try.func3, Try.ntmps3
  go_wp2_with fail
  go_loopg [5, 6, 7] l.length (fun k a b i wr => ∃ j L, P1 w l k a b i wr j L)
  case atStart => exact ⟨0, [], ⟨rfl, rfl, rfl, by omega, by omega, by omega, by simp, by_refl _ _⟩⟩
  case round =>
    obtain ⟨j, L, hr⟩ := hrel
    obtain rfl := hr.slot
    obtain rfl := hr.a_
    obtain rfl := hr.b_
    have hle := hr.le
    have hle2 := hr.le2
    have hlen := hr.len
    have Hr := Lib.hid hr
    clear hr
    by_cases h1 : j < l.length
    · by_cases h2 : j < 60
      · obtain ⟨A', cap', hA, _, hcell⟩ := HV.out.1
        injection hA with hA1 hA2 hA3
        subst hA1; subst hA3
        obtain ⟨b, off, rfl, hb, hc⟩ := hcell (by omega)
        have x0 := hc j h1
        obtain ⟨n, hn, hn2⟩ := bounds_u64 (HV.out.2.1 l[j] (List.getElem_mem h1))
        rw [hn] at x0
        have x1 : wr.cell? ⟨b, off + j, none⟩ = some (.int .u64 (n : Int)) := Hr.out.by_.cell x0 (by simp)
        have hz0 : (0 : Int) ≤ (j : Int) := by omega
        have hz1 : (j : Int) < (l.length : Int) := by omega
        have Hn := Lib.hid (And.intro hn2 x1)
        have Hs0 : wr.grownBy wr.drew none ∧ wr.drew.cell? ⟨b, off + j, none⟩ = some (.int .u64 (n : Int)) := ⟨by_drew (by_refl wr none), x1⟩
        clear hcell hc hb x0 hn hn2 hA2
        go_wp2_with fail
        go_region_held3 (fun w' => wr.grownBy w' none ∧ w'.cell? ⟨b, off + j, none⟩ = some (.int .u64 (n : Int)))
          (first
            | exact Hs0
            | exact sp_grown (by assumption) hgrow
            | exact sp_drew (by assumption))
          (first
            | (go_at_call 8; refine (put_step Hn.out.1 (by omega)).mono ?_; rintro e w2 ⟨rfl, hgrow⟩; dsimp only)
            | (go_at_call 9; refine (rput_step Hn.out.1 (by omega)).mono ?_; rintro e w2 ⟨rfl, hgrow⟩; dsimp only))
        all_goals
          rename_i hh
          have H5 := Lib.hid hh.1
          clear hh hgrow Hs0
          go_wp2
          go_roundg (l.length - (j + 1))
          case measure => have := Hr.out.num; omega
          case rel => exact ⟨j + 1, L ++ rowL n, ⟨by go_num, rfl, rfl, by omega, by omega, rfl, by rw [List.length_append]; have := rowL_le n Hn.out.1; omega, by_trans Hr.out.by_ H5.out (by simp)⟩⟩
      · go_wp2_with fail
        go_loopg [5, 6, 8] ts.length (fun k a b i wr => ∃ j L, P2 w ts k a b i wr j L)
        case atStart => exact ⟨0, L, ⟨rfl, rfl, rfl, by omega, by omega, by omega, by omega, Hr.out.by_⟩⟩
        case round =>
          clear hle hle2 hlen
          have hby0 := Lib.hid True.intro
          obtain ⟨q, M, hr⟩ := hrel
          obtain rfl := hr.slot
          obtain rfl := hr.a_
          obtain rfl := hr.b_
          have hle := hr.le
          have hle2 := hr.le2
          have hlen := hr.len
          have Hq := Lib.hid hr
          clear hr
          by_cases g1 : q < ts.length
          · by_cases g2 : q < 20
            · obtain ⟨B', cap', hA, _, hcell⟩ := HV.out.2.2.1
              injection hA with hA1 hA2 hA3
              subst hA1; subst hA3
              obtain ⟨b, off, rfl, hb, hc⟩ := hcell (by omega)
              have x0 := hc q g1
              have hsz := HV.out.2.2.2 ts[q] (List.getElem_mem g1)
              obtain ⟨T, hT⟩ : ∃ T, ts[q] = T := ⟨_, rfl⟩
              rw [hT] at x0 hsz
              have x1 : wr.cell? ⟨b, off + q, none⟩ = some (.string T) := Hq.out.by_.cell x0 (by simp)
              have hz0 : (0 : Int) ≤ (q : Int) := by omega
              have hz1 : (q : Int) < (ts.length : Int) := by omega
              clear hcell hc hb x0 hA2 hT
              have hx := cutL_len T 3000
              have hxe := cutL_ext T 3000
              obtain ⟨x, hxx⟩ : ∃ x, cutL T 3000 = x := ⟨_, rfl⟩
              rw [hxx] at hx hxe
              have Hx := Lib.hid (And.intro hx (And.intro hxe hxx))
              clear hx hxe hxx
              go_upto_region 9 with fail
              go_cut [9] (fun s9 wx => s9 = .string ⟨x.toArray⟩ ∧ wr.grownBy wx none)
              case first =>
                by_cases hm : T.size ≤ 3000
                · have hmin : min (T.size : Int) 3000 = (T.size : Int) := by omega
                  refine wp_region_still_lit (by kernel_rfl) (by kernel_rfl) ?_
                  repeat still_step
                  refine wpStill_nil ?_
                  change Exit.then _ _ _ _ wr.drew
                  go_wp2_with fail
                  go_meet
                  refine ⟨?_, by_drew (by_refl wr none)⟩
                  rw [← Hx.out.2.1, Nat.min_eq_left hm, ext_all]
                · have hmin : min (T.size : Int) 3000 = 3000 := by omega
                  have hm2 : (3000 : Int) ≤ (T.size : Int) := by omega
                  refine wp_region_still_lit (by kernel_rfl) (by kernel_rfl) ?_
                  repeat still_step
                  refine wpStill_nil ?_
                  change Exit.then _ _ _ _ wr.drew
                  go_wp2_with fail
                  go_meet
                  refine ⟨?_, by_drew (by_refl wr none)⟩
                  rw [← Hx.out.2.1, Nat.min_eq_right (by omega)]
              case rest =>
                obtain ⟨rfl, y5⟩ := hcut
                have H5 := Lib.hid y5
                clear y5 x1
                go_wp2_with fail
                refine (putt_step (by have := Hx.out.1; omega) (by omega)).mono ?_
                rintro e w2 ⟨rfl, y2⟩
                have H2 := Lib.hid y2
                clear y2
                go_wp2_with fail
                refine (rputt_step (by have := Hx.out.1; omega) (by omega)).mono ?_
                rintro e w3 ⟨rfl, y3⟩
                have H3 := Lib.hid (by_trans (by_trans H5.out H2.out (by simp)) y3 (by simp))
                clear y3
                go_wp2
                go_roundg (ts.length - (q + 1))
                case measure => have := Hq.out.num; omega
                case rel => exact ⟨q + 1, M ++ (rowL x.length ++ x), ⟨by go_num, rfl, rfl, by omega, by omega, rfl, by rw [List.length_append, List.length_append]; have h1 := rowL_le x.length (by have := Hx.out.1; omega); have h2 := Hx.out.1; omega, by_trans Hq.out.by_ H3.out (by simp)⟩⟩
            · have Hf := Lib.hid Hq.out.by_
              go_wp2_with fail
              refine (works_any _).mono ?_
              rintro e w9 ⟨rfl, y9⟩
              have H9 := Lib.hid (by_trans Hf.out y9 (by simp))
              clear y9
              go_wp2
              go_ret
              exact ⟨rfl, H9.out⟩
          · have Hf := Lib.hid Hq.out.by_
            go_wp2_with fail
            refine (works_any _).mono ?_
            rintro e w9 ⟨rfl, y9⟩
            have H9 := Lib.hid (by_trans Hf.out y9 (by simp))
            clear y9
            go_wp2
            go_ret
            exact ⟨rfl, H9.out⟩
    · go_wp2_with fail
      go_loopg [5, 6, 8] ts.length (fun k a b i wr => ∃ j L, P2 w ts k a b i wr j L)
      case atStart => exact ⟨0, L, ⟨rfl, rfl, rfl, by omega, by omega, by omega, by omega, Hr.out.by_⟩⟩
      case round =>
        clear hle hle2 hlen
        have hby0 := Lib.hid True.intro
        obtain ⟨q, M, hr⟩ := hrel
        obtain rfl := hr.slot
        obtain rfl := hr.a_
        obtain rfl := hr.b_
        have hle := hr.le
        have hle2 := hr.le2
        have hlen := hr.len
        have Hq := Lib.hid hr
        clear hr
        by_cases g1 : q < ts.length
        · by_cases g2 : q < 20
          · obtain ⟨B', cap', hA, _, hcell⟩ := HV.out.2.2.1
            injection hA with hA1 hA2 hA3
            subst hA1; subst hA3
            obtain ⟨b, off, rfl, hb, hc⟩ := hcell (by omega)
            have x0 := hc q g1
            have hsz := HV.out.2.2.2 ts[q] (List.getElem_mem g1)
            obtain ⟨T, hT⟩ : ∃ T, ts[q] = T := ⟨_, rfl⟩
            rw [hT] at x0 hsz
            have x1 : wr.cell? ⟨b, off + q, none⟩ = some (.string T) := Hq.out.by_.cell x0 (by simp)
            have hz0 : (0 : Int) ≤ (q : Int) := by omega
            have hz1 : (q : Int) < (ts.length : Int) := by omega
            clear hcell hc hb x0 hA2 hT
            have hx := cutL_len T 3000
            have hxe := cutL_ext T 3000
            obtain ⟨x, hxx⟩ : ∃ x, cutL T 3000 = x := ⟨_, rfl⟩
            rw [hxx] at hx hxe
            have Hx := Lib.hid (And.intro hx (And.intro hxe hxx))
            clear hx hxe hxx
            go_upto_region 9 with fail
            go_cut [9] (fun s9 wx => s9 = .string ⟨x.toArray⟩ ∧ wr.grownBy wx none)
            case first =>
              by_cases hm : T.size ≤ 3000
              · have hmin : min (T.size : Int) 3000 = (T.size : Int) := by omega
                refine wp_region_still_lit (by kernel_rfl) (by kernel_rfl) ?_
                repeat still_step
                refine wpStill_nil ?_
                change Exit.then _ _ _ _ wr.drew
                go_wp2_with fail
                go_meet
                refine ⟨?_, by_drew (by_refl wr none)⟩
                rw [← Hx.out.2.1, Nat.min_eq_left hm, ext_all]
              · have hmin : min (T.size : Int) 3000 = 3000 := by omega
                have hm2 : (3000 : Int) ≤ (T.size : Int) := by omega
                refine wp_region_still_lit (by kernel_rfl) (by kernel_rfl) ?_
                repeat still_step
                refine wpStill_nil ?_
                change Exit.then _ _ _ _ wr.drew
                go_wp2_with fail
                go_meet
                refine ⟨?_, by_drew (by_refl wr none)⟩
                rw [← Hx.out.2.1, Nat.min_eq_right (by omega)]
            case rest =>
              obtain ⟨rfl, y5⟩ := hcut
              have H5 := Lib.hid y5
              clear y5 x1
              go_wp2_with fail
              refine (putt_step (by have := Hx.out.1; omega) (by omega)).mono ?_
              rintro e w2 ⟨rfl, y2⟩
              have H2 := Lib.hid y2
              clear y2
              go_wp2_with fail
              refine (rputt_step (by have := Hx.out.1; omega) (by omega)).mono ?_
              rintro e w3 ⟨rfl, y3⟩
              have H3 := Lib.hid (by_trans (by_trans H5.out H2.out (by simp)) y3 (by simp))
              clear y3
              go_wp2
              go_roundg (ts.length - (q + 1))
              case measure => have := Hq.out.num; omega
              case rel => exact ⟨q + 1, M ++ (rowL x.length ++ x), ⟨by go_num, rfl, rfl, by omega, by omega, rfl, by rw [List.length_append, List.length_append]; have h1 := rowL_le x.length (by have := Hx.out.1; omega); have h2 := Hx.out.1; omega, by_trans Hq.out.by_ H3.out (by simp)⟩⟩
          · have Hf := Lib.hid Hq.out.by_
            go_wp2_with fail
            refine (works_any _).mono ?_
            rintro e w9 ⟨rfl, y9⟩
            have H9 := Lib.hid (by_trans Hf.out y9 (by simp))
            clear y9
            go_wp2
            go_ret
            exact ⟨rfl, H9.out⟩
        · have Hf := Lib.hid Hq.out.by_
          go_wp2_with fail
          refine (works_any _).mono ?_
          rintro e w9 ⟨rfl, y9⟩
          have H9 := Lib.hid (by_trans Hf.out y9 (by simp))
          clear y9
          go_wp2
          go_ret
          exact ⟨rfl, H9.out⟩

set_option maxRecDepth 100000 in
theorem lifted (os : Os) (started : os.Started) (H : Type) (enc : TypeId × Value → H) :
    ReturnsInHanded {} Try.checked os 3 .any (Rows.wirePutsSpec.pre6 enc Try.prog Try.f3 Rows.wirePutsRow.domain false) (Rows.wirePutsSpec.post enc Try.prog Try.f3 false true false false) := by
  refine returnsInHanded_of_change (C := Try.checked) own started (by kernel_rfl) Try.func3
    (ChangeSpec.witness6 (enc := enc) (C := Try.checked) false ⟨#[], #[.slice none 0 0, .slice none 0 0], []⟩ 8 (by kernel_rfl) (by kernel_rfl) (by kernel_rfl) (by kernel_rfl)) ?_
  intro W base args ds gs before hval0 hW hcnd _
  have hval : ∀ (j : Nat) t v, Try.f3.params[j]? = some t → args[j]? = some v → Value.okWide Try.prog W .any base t v := hval0
  have hW' := hW
  obtain ⟨p, q, hA0, hV, rfl, hfz, hnd⟩ := hW
  have hA : DataW.TrodAll enc Try.prog W 0 (fun _ => true) true Try.f3.params.toList args.toList ds p := hA0
  rw [Try.params3] at hA hval
  obtain ⟨v0, vs0, d0, ds0, p0, q0, hargs, rfl, rfl, h0, r0⟩ := trodAll_cons hA
  obtain ⟨v1, vs1, d1, ds1, p1, q1, rfl, rfl, rfl, h1, r1⟩ := trodAll_cons r0
  obtain ⟨rfl, rfl, rfl⟩ := trodAll_nil r1
  obtain rfl : args = #[v0, v1] := by cases args; simp_all
  obtain ⟨rfl, rfl⟩ := trodVars_none hV
  obtain ⟨l0, hl0, hm0, hn0⟩ := arg_nums Try.underlying22 Try.underlying25 (by kernel_rfl) (hval 0 22 v0 rfl rfl) h0
  obtain ⟨l1, hl1, hm1, hn1⟩ := arg_strs Try.underlying23 Try.underlying9 (by kernel_rfl) (hval 1 23 v1 rfl rfl) h1
  refine (walk W v0 l0 hl0 hn0 hm0 v1 l1 hl1 hn1 hm1).mono fun e W' ⟨he, hg⟩ => ?_
  subst he
  exact ⟨_, rfl, law_post laidOut rfl hW' (by kernel_rfl) rfl Try.underlying4 rfl (below_of_by hg)⟩

theorem proved : Rows.WirePutsSaid :=
  OpenClaim.holds_of_wide 3 Try.f3 rfl rfl rfl rfl rfl rfl rfl ⟨rfl, rfl, rfl, rfl, rfl⟩ rfl rfl rfl rfl rfl (by kernel_rfl) Try.func3 (by kernel_rfl)
    (of_decide_eq_true (by kernel_rfl)) (by unfold Func.isWrapper; first | (rw [if_pos (by decide +kernel)]; kernel_rfl) | (rw [if_neg (by decide +kernel)]; exact ⟨rfl, rfl⟩))
    (fun os started H enc _ => lifted os started H enc)
#print axioms proved
end wirePuts
end Go.Proofs.Ytlnlpphhnbodpaa
