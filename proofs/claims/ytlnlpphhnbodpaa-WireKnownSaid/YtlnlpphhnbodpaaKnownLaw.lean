/-
  WireKnown: the chapter's examples, and others (a closed statement).
-/
import Derived.Test.YtlnlpphhnbodpaaKnownP
import Derived.Test.YtlnlpphhnbodpaaRow
import Derived.Deep.RegionHeld3
import Derived.Deep.Grids
namespace Go.Proofs.Ytlnlpphhnbodpaa
open Go.ChangeShapes Go.WideShapes Go.ChangeAt Go.RowKit
namespace wireKnown

structure K1 (w0 : World) (gl k : Nat) (i : Value) (wr : World) (j : Nat) : Prop where
  slot : i = .int .i64 (j : Int)
  le : j ≤ 12
  num : k = 12 - j
  row : Blk wr gl 40 kC
  by_ : w0.grownBy wr none
structure K2 (w0 : World) (gl k : Nat) (i : Value) (wr : World) (j : Nat) : Prop where
  slot : i = .int .i64 (j : Int)
  le : j ≤ 8
  num : k = 8 - j
  row : Blk wr gl 9 sC
  by_ : w0.grownBy wr none

set_option maxRecDepth 100000 in
set_option maxHeartbeats 4000000 in
theorem walk (w : World) : Calls Try.prog 7 #[] w fun e w' => e = .returned (.bool true) ∧ w.grownBy w' none := by
  go_enter Try.func7, Try.ntmps7
  go_wp2_with fail
  have hrow : Blk (w.alloc (.cells kC 40)) w.heap.size 40 kC := Blk.new w _ _
  have hby : w.grownBy (w.alloc (.cells kC 40)) none := by_alloc (by_refl _ _) _
  have H0 := Lib.hid (And.intro hrow hby)
  clear hrow hby
  go_loopg [23] 12 (fun k i wr => ∃ j, K1 w w.heap.size k i wr j)
  case atStart => exact ⟨0, ⟨rfl, by omega, rfl, H0.out.1, H0.out.2⟩⟩
  case round =>
    clear H0
    obtain ⟨j, hr⟩ := hrel
    obtain rfl := hr.slot
    have hle := hr.le
    have Hr := Lib.hid hr
    clear hr
    by_cases hlt : j < 12
    · obtain ⟨n, T, hn1, hn2, hn3, hn4⟩ := kC_at j hlt
      have c0 : wr.cell? ⟨w.heap.size, j * 2, none⟩ = some (.int .u64 (n : Int)) := by rw [Hr.out.row.cell]; exact hn3
      have c1 : wr.cell? ⟨w.heap.size, j * 2 + 1, none⟩ = some (.string T) := by rw [Hr.out.row.cell]; exact hn4
      have hz0 : (0 : Int) ≤ (j : Int) := by omega
      have hz1 : (j : Int) < 12 := by omega
      have Hn := Lib.hid (And.intro hn1 hn2)
      clear hn1 hn2 hn3 hn4
      go_wp2_with fail
      have hb2 : Blk (wr.alloc (.cells #[.int .u64 (n : Int), .string T] 40)) wr.heap.size 40 #[.int .u64 (n : Int), .string T] := Blk.new wr _ _
      have hya : wr.grownBy (wr.alloc (.cells #[.int .u64 (n : Int), .string T] 40)) none := by_alloc (by_refl _ _) _
      have Ha := Lib.hid (And.intro hb2 hya)
      clear hb2 hya
      refine (newreader_any _ T).mono ?_
      rintro e w2 ⟨r, rfl, R2, y2, l2⟩
      have hlt1 := Hr.out.row.lt
      have hlt2 := Ha.out.1.lt
      have hsz1 := Ha.out.2.size
      have hsz2 := Hr.out.by_.size
      have hne : wr.heap.size ≠ r := by omega
      have hne2 : w.heap.size ≠ r := by omega
      have hr0 : w.heap.size ≤ r := by omega
      have hg := Ha.out.1.grown y2 (by simp)
      have hrow := (Hr.out.row.grown Ha.out.2 (by simp)).grown y2 (by simp)
      have hby := by_trans (by_trans Hr.out.by_ Ha.out.2 (by simp)) y2 (by simp)
      have d0 : w2.cell? ⟨wr.heap.size, 0, none⟩ = some (.int .u64 (n : Int)) := by rw [hg.cell]; rfl
      have d1 : w2.cell? ⟨wr.heap.size, 1, none⟩ = some (.string T) := by rw [hg.cell]; rfl
      have hTs : T.size ≤ 9 := by rw [Hn.out.2]; exact rowL_le n Hn.out.1
      have Hs0 : KI w2 r wr.heap.size n T w2.drew := ⟨by_drew (by_refl _ _), d0, d1⟩
      have H2 := Lib.hid (And.intro R2 (And.intro hrow (And.intro hby (And.intro hne2 hr0))))
      clear R2 y2 l2 hg hrow hby hne2 hr0 Ha hlt1 hlt2 hsz1 hsz2 c0 c1
      obtain ⟨g, hgg⟩ : ∃ g, wr.heap.size = g := ⟨_, rfl⟩
      rw [hgg] at hne d0 d1 Hs0 ⊢
      clear hgg
      have hadd : ¬ 9223372036854775807 < (⟨#[109]⟩ : ByteArray).size + T.size := by
        show ¬ 9223372036854775807 < 1 + T.size
        omega
      have hadd2 : ¬ 9223372036854775807 < 1 + T.size := by omega
      go_upto_region 5 with fail
      go_cut [49] (fun q wx => q = .bool false ∧ w2.grownBy wx (some r))
      case first =>
        go_region_held3 (fun w' => w2.grownBy w' (some r) ∧ w'.cell? ⟨g, 0, none⟩ = some (.int .u64 (n : Int)) ∧ w'.cell? ⟨g, 1, none⟩ = some (.string T))
          (first
            | exact Hs0
            | assumption
            | exact ki_none (by assumption) hgrow
            | exact ki_some (by assumption) hne hgrow
            | exact ki_drew (by assumption))
          (first
            | (go_at_call 8; refine (put_m Hn.out.2 Hn.out.1 _).mono ?_; rintro e w3 ⟨rfl, hgrow⟩; dsimp only)
            | (go_at_call 14; refine (num_all (H2.out.1.by_ (by_trans (by_drew (by_refl _ none)) hgrow (by simp))) Hn.out.2 Hn.out.1).mono ?_; rintro e w4 ⟨rfl, hgrow, R4⟩; dsimp only)
            | (go_at_call 20; refine (end_any _ r _ false R4).mono ?_; rintro e w5 ⟨rfl, rfl⟩; dsimp only))
        all_goals
          rename_i hh
          have Hf := Lib.hid hh.1
          clear hh
          go_wp2_with fail
          go_meet
          exact ⟨rfl, Hf.out⟩
      case rest =>
        obtain ⟨rfl, y5⟩ := hcut
        have H5 := Lib.hid y5
        clear y5 Hs0 d0 d1
        go_wp2
        go_roundg (12 - (j + 1))
        case measure => have := Hr.out.num; omega
        case rel => exact ⟨j + 1, ⟨by go_num, by omega, rfl, H2.out.2.1.grown H5.out (by simpa using H2.out.2.2.2.1), by_trans H2.out.2.2.1 H5.out (fun x hx => .inr (by cases hx; exact H2.out.2.2.2.2))⟩⟩
    · have Hf := Lib.hid Hr.out.by_
      have hz1 : ¬ (j : Int) < 12 := by omega
      clear hlt hle Hr
      go_wp2_with fail
      have hrow : Blk (wr.alloc (.cells sC 9)) wr.heap.size 9 sC := Blk.new wr _ _
      have hby : w.grownBy (wr.alloc (.cells sC 9)) none := by_alloc Hf.out _
      have hgl : w.heap.size ≤ wr.heap.size := Hf.out.size
      have H0 := Lib.hid (And.intro hrow hby)
      clear hrow hby
      obtain ⟨g, hgg⟩ : ∃ g, wr.heap.size = g := ⟨_, rfl⟩
      rw [hgg] at H0 hgl ⊢
      clear hgg
      go_loopg [55] 8 (fun k i wr => ∃ j, K2 w g k i wr j)
      case atStart => exact ⟨0, ⟨rfl, by omega, rfl, H0.out.1, H0.out.2⟩⟩
      case round =>
        clear H0 Hf
        obtain ⟨j, hr⟩ := hrel
        obtain rfl := hr.slot
        have hle := hr.le
        have Hr := Lib.hid hr
        clear hr
        by_cases hlt : j < 8
        · obtain ⟨T, hN, hT, hc⟩ := sC_at j hlt
          have c0 : _ := Hr.out.row.cell j
          rw [hc] at c0
          have hz0 : (0 : Int) ≤ (j : Int) := by omega
          have hz1 : (j : Int) < 8 := by omega
          have Hn := Lib.hid (And.intro hN hT)
          clear hN hT hc
          go_wp2_with fail
          refine (newreader_any _ T).mono ?_
          rintro e w2 ⟨r, rfl, R2, y2, l2⟩
          have hlt1 := Hr.out.row.lt
          have hne : g ≠ r := by omega
          have hr0 : w.heap.size ≤ r := by omega
          have H2 := Lib.hid (And.intro R2 (And.intro (Hr.out.row.grown y2 (by simp)) (by_trans Hr.out.by_ y2 (by simp))))
          clear R2 y2 l2 hlt1 c0
          go_wp2_with fail
          refine (ok_any w2 r _ _ H2.out.1).mono ?_
          rintro e w3 ⟨rfl, rfl⟩
          go_wp2_with fail
          refine (num_none H2.out.1 Hn.out.1 Hn.out.2).mono ?_
          rintro e w3 ⟨rfl, y3, R3⟩
          have H3 := Lib.hid (And.intro y3 R3)
          clear y3 R3
          go_wp2_with fail
          refine (ok_any w3 r _ _ H3.out.2).mono ?_
          rintro e w4 ⟨rfl, rfl⟩
          go_wp2_with fail
          refine (end_any w3 r _ _ H3.out.2).mono ?_
          rintro e w4 ⟨rfl, rfl⟩
          go_wp2_with fail
          refine (num_none H3.out.2 numR_nil (by decide)).mono ?_
          rintro e w4 ⟨rfl, y4, R4⟩
          have H4 := Lib.hid (And.intro (by_trans H3.out.1 y4 (fun x hx => .inl hx.symm)) R4)
          clear y4 R4
          go_wp2_with fail
          refine (text_none H4.out.2 textR_nil (by decide)).mono ?_
          rintro e w5 ⟨rfl, y5, R5⟩
          have H5 := Lib.hid (by_trans H4.out.1 y5 (fun x hx => .inl hx.symm))
          clear y5 R5
          go_wp2
          go_roundg (8 - (j + 1))
          case measure => have := Hr.out.num; omega
          case rel => exact ⟨j + 1, ⟨by go_num, by omega, rfl, H2.out.2.1.grown H5.out (by simpa using hne), by_trans H2.out.2.2 H5.out (fun x hx => .inr (by cases hx; exact hr0))⟩⟩
        · have Hf := Lib.hid Hr.out.by_
          have hz1 : ¬ (j : Int) < 8 := by omega
          clear hlt hle Hr hgl
          go_wp2_with fail
          refine (newreader_any _ _).mono ?_
          rintro e w2 ⟨r, rfl, R2, y2, l2⟩
          have hr0 : w.heap.size ≤ r := Nat.le_trans Hf.out.size l2
          have H2 := Lib.hid (And.intro R2 (by_trans Hf.out y2 (by simp)))
          clear R2 y2 l2
          go_wp2_with fail
          refine (text_none H2.out.1 textR_ab (by decide)).mono ?_
          rintro e w3 ⟨rfl, y3, R3⟩
          have H3 := Lib.hid (And.intro R3 (by_trans H2.out.2 y3 (fun x hx => .inr (by cases hx; exact hr0))))
          clear R3 y3 H2
          go_wp2_with fail
          refine (ok_any w3 r _ _ H3.out.1).mono ?_
          rintro e w4 ⟨rfl, rfl⟩
          go_wp2_with fail
          refine (putt_nil w3).mono ?_
          rintro e w4 ⟨rfl, y4⟩
          have H4 := Lib.hid (by_trans H3.out.2 y4 (by simp))
          clear y4 H3
          go_wp2_with fail
          refine (putt_ab w4).mono ?_
          rintro e w5 ⟨rfl, y5⟩
          have H5 := Lib.hid (by_trans H4.out y5 (by simp))
          clear y5 H4
          go_wp2_with fail
          refine (num_nil w5).mono ?_
          rintro e w6 ⟨rfl, rfl⟩
          go_wp2_with fail
          refine (text_nil w5).mono ?_
          rintro e w6 ⟨rfl, rfl⟩
          go_wp2_with fail
          refine (ok_nil w5).mono ?_
          rintro e w6 ⟨rfl, rfl⟩
          go_wp2_with fail
          refine (end_nil w5).mono ?_
          rintro e w6 ⟨rfl, rfl⟩
          go_wp2_with fail
          refine (works_any w5).mono ?_
          rintro e w6 ⟨rfl, y6⟩
          have H6 := Lib.hid (by_trans H5.out y6 (by simp))
          clear y6 H5
          go_wp2
          go_ret
          exact ⟨rfl, H6.out⟩

set_option maxRecDepth 100000 in
theorem lifted (os : Os) (started : os.Started) (H : Type) (enc : TypeId × Value → H) :
    ReturnsInHanded {} Try.checked os 7 .any (Rows.wireKnownSpec.pre6 enc Try.prog Try.f7 Rows.wireKnownRow.domain false) (Rows.wireKnownSpec.post enc Try.prog Try.f7 false true false false) := by
  refine returnsInHanded_of_change (C := Try.checked) own started (by kernel_rfl) Try.func7
    (ChangeSpec.witness6 (enc := enc) (C := Try.checked) false ⟨#[], #[], []⟩ 8 (by kernel_rfl) (by kernel_rfl) (by kernel_rfl) (by kernel_rfl)) ?_
  intro W base args ds gs before hval0 hW hcnd _
  have hval : ∀ (j : Nat) t v, Try.f7.params[j]? = some t → args[j]? = some v → Value.okWide Try.prog W .any base t v := hval0
  have hW' := hW
  obtain ⟨p, q, hA0, hV, rfl, hfz, hnd⟩ := hW
  have hA : DataW.TrodAll enc Try.prog W 0 (fun _ => true) true Try.f7.params.toList args.toList ds p := hA0
  rw [Try.params7] at hA hval
  obtain ⟨hargs, rfl, rfl⟩ := trodAll_nil hA
  obtain rfl : args = #[] := by cases args; simp_all
  obtain ⟨rfl, rfl⟩ := trodVars_none hV
  refine (walk W).mono fun e W' ⟨he, hg⟩ => ?_
  subst he
  exact ⟨_, rfl, law_post laidOut rfl hW' (by kernel_rfl) rfl Try.underlying4 rfl (below_of_by hg)⟩

theorem proved : Rows.WireKnownSaid :=
  OpenClaim.holds_of_wide 7 Try.f7 rfl rfl rfl rfl rfl rfl rfl ⟨rfl, rfl, rfl, rfl, rfl⟩ rfl rfl rfl rfl rfl (by kernel_rfl) Try.func7 (by kernel_rfl)
    (of_decide_eq_true (by kernel_rfl)) (by unfold Func.isWrapper; first | (rw [if_pos (by decide +kernel)]; kernel_rfl) | (rw [if_neg (by decide +kernel)]; exact ⟨rfl, rfl⟩))
    (fun os started H enc _ => lifted os started H enc)
#print axioms proved
end wireKnown
end Go.Proofs.Ytlnlpphhnbodpaa
