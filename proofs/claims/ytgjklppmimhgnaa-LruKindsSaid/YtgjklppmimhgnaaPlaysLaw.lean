/-
  LruPlays: whatever is put and looked for, an Lru of ints answers what the document says (all inputs, no condition).
-/
import Derived.Test.YtgjklppmimhgnaaDuo
import Derived.Test.YtgjklppmimhgnaaRow
import Derived.Deep.RegionHeld3
import Derived.StillTailTactics
import Derived.Deep.DeepCutAuto
import Derived.Deep.RegionWith
namespace Go.Proofs.Ytgjklppmimhgnaa
open Go.ChangeShapes Go.WideShapes Go.ChangeAt Go.RowKit

theorem GetV_form (ps : PL) (k : Int) : ∃ x b, GetV ps k = .tuple #[.int .i64 x, .bool b] := by
  unfold GetV
  split
  · exact ⟨_, _, rfl⟩
  · exact ⟨_, _, rfl⟩
theorem runL_get {n : Int} {l : List Act3} {j : Nat} {k v : Int} (h : actAt l j = (true, k, v)) : runL n l (j + 1) = got (runL n l j) k := by
  show stepA n (runL n l j) (actAt l j) = _
  rw [h]; rfl
theorem runL_put {n : Int} {l : List Act3} {j : Nat} {k v : Int} (h : actAt l j = (false, k, v)) : runL n l (j + 1) = putted n (runL n l j) k v := by
  show stepA n (runL n l j) (actAt l j) = _
  rw [h]; rfl
theorem actAt_lt {l : List Act3} {j : Nat} (h : j < l.length) : actAt l j = l[j] := by simp [actAt, h]

/-- a row of ints of the call's own, and it is of no type that matters -/
theorem own_other {w : World} {base n c g : Nat} {xs : List Value} (h : w.ownsRow base 3 1 (.slice (some ⟨g, 0, none⟩) n c) n xs) : Other w g := by
  rcases h.2 with ⟨e, _⟩ | ⟨g', cap, cur, e, _, hh, _⟩
  · cases e
  · injection e with e1 e2 e3
    injection e1 with e1
    injection e1 with e1
    subst e1
    exact ⟨_, _, hh, by decide, by decide, by decide, by decide⟩

theorem own_by_none {w w' : World} {base : Nat} {e : TypeId} {size n : Nat} {v : Value} {xs : List Value} (h : w.ownsRow base e size v n xs) (hg : w.grownBy w' none) : w'.ownsRow base e size v n xs := by
  refine h.kept hg ?_
  by_cases hv : v.ownBlock = none
  · exact .inl hv
  · exact .inr hv

namespace lruPlays

structure Rel (w0 : World) (l : List Act3) (la g n : Nat) (k : Nat) (i : Value) (wr : World) (j : Nat) : Prop where
  slot : i = .int .i64 j
  le : j ≤ l.length
  le2 : j ≤ 200
  num : k = l.length - j
  two : Two w0 wr la g n (runL n l j) (runL n l j)

/-- the inner loop: the keys that were answered are written over -/
structure In (w0 : World) (la g n : Nat) (ps : PL) (base : Nat) (v : Value) (k : Nat) (i : Value) (wr : World) (j : Nat) : Prop where
  slot : i = .int .i64 j
  le : j ≤ ps.length
  num : k = ps.length - j
  two : Two w0 wr la g n ps ps
  own : ∃ xs, wr.ownsRow base 3 1 v ps.length xs

set_option maxRecDepth 100000 in
set_option maxHeartbeats 2000000 in
theorem walk (w : World) (cap : Int) (_wc : (Lit.int .i64 cap).wf = true) (v : Value) (l : List Act3) (hv : Acts w v l) (hw : ∀ x ∈ l, (Lit.int .i64 x.2.1).wf = true ∧ (Lit.int .i64 x.2.2).wf = true) (hl : l.length ≤ maxLen) :
    Calls Try.prog 3 #[.int .i64 cap, v] w fun e w' => e = .returned (.bool true) ∧ w.grownBy w' none := by
  unfold maxLen at hl
  have HV := Lib.hid (And.intro hv hw)
  obtain ⟨A, c, rfl, hcap, _⟩ := hv
  obtain ⟨n, hn⟩ : ∃ n : Nat, max cap 0 = (n : Int) := ⟨(max cap 0).toNat, by omega⟩
  have Hn := Lib.hid hn
  clear hw hn
  go_enter Try.func3, Try.ntmps3
  go_wp2_with fail
  refine (new_one w w cap (by_refl _ _)).mono ?_
  rintro e w1 ⟨la, rfl, S1⟩
  have H1 := Lib.hid S1
  clear S1
  go_wp2_with fail
  refine (new_two w w1 cap la H1.out).mono ?_
  rintro e w2 ⟨g, rfl, S2⟩
  rw [Hn.out] at S2
  have H2 := Lib.hid S2
  clear S2 H1
  go_wp2_with fail
  go_loopg [7] l.length (fun k i wr => ∃ j, Rel w l la g n k i wr j)
  case atStart => exact ⟨0, rfl, by omega, by omega, by omega, H2.out⟩
  case round =>
    clear H2
    obtain ⟨j, hr⟩ := hrel
    obtain rfl := hr.slot
    have hle := hr.le
    have hle2 := hr.le2
    have Hr := Lib.hid hr
    clear hr
    by_cases h1 : j < l.length
    · by_cases h2 : j < 200
      · obtain ⟨A', cap', hA, _, hcell⟩ := HV.out.1
        injection hA with hA1 hA2 hA3
        subst hA1; subst hA3
        obtain ⟨b, off, rfl, hb, hc⟩ := hcell (by omega)
        obtain ⟨x0, x1, x2⟩ := hc j h1
        obtain ⟨isg, k, u, hact⟩ : ∃ isg k u, l[j] = (isg, k, u) := ⟨_, _, _, rfl⟩
        rw [hact] at x0 x1 x2
        have hwf := HV.out.2 l[j] (List.getElem_mem h1)
        rw [hact] at hwf
        have hact2 : actAt l j = (isg, k, u) := by rw [actAt_lt h1, hact]
        have hlt' : (j : Int) < (l.length : Int) := by omega
        have hz0 : (0 : Int) ≤ (j : Int) := by omega
        have hlen := runL_len n l j
        have HH := Lib.hid (And.intro hwf (And.intro hact2 (And.intro (runL_fine n l j) (show (runL n l j).length < 1000000 by omega))))
        have HX := Lib.hid (And.intro x0 (And.intro x1 x2))
        clear hcell hc hb hA2 hact hwf hact2 x0 x1 x2 hlen
        dsimp only at HX
        have z0 : wr.cell? ⟨b, off + j * 3, none⟩ = some (.bool isg) := Hr.out.two.by_.cell HX.out.1 (by simp)
        have z1 : wr.cell? ⟨b, off + j * 3 + 1, none⟩ = some (.int .i64 k) := Hr.out.two.by_.cell HX.out.2.1 (by simp)
        have z2 : wr.cell? ⟨b, off + j * 3 + 2, none⟩ = some (.int .i64 u) := Hr.out.two.by_.cell HX.out.2.2 (by simp)
        go_upto_if 34 with fail
        go_cut [] (fun wx => Two w wx la g n (runL n l (j + 1)) (runL n l (j + 1)))
        case first =>
          cases isg with
          | true =>
            go_wp2_with fail
            refine (Hr.out.two.get HH.out.1.1).mono ?_
            rintro e w3 ⟨rfl, S3⟩
            obtain ⟨x, bx, hx⟩ := GetV_form (runL n l j) k
            have H3 := Lib.hid (And.intro S3 hx)
            have y1 : w3.cell? ⟨b, off + j * 3 + 1, none⟩ = some (.int .i64 k) := S3.by_.cell HX.out.2.1 (by simp)
            clear S3
            rw [hx]
            clear hx
            go_wp2_with fail
            refine (H3.out.1.rget HH.out.2.2.1.keys HH.out.2.2.2).mono ?_
            rintro e w4 ⟨rfl, S4⟩
            rw [H3.out.2]
            rw [← runL_get HH.out.2.1] at S4
            have H4 := Lib.hid S4
            clear S4
            go_wp2_with fail
            go_meet
            exact H4.out
          | false =>
            go_wp2_with fail
            go_still_tail 11, (by kernel_rfl)
            change wpList _ _ _ _ _ wr.drew
            have S0 : Two w wr.drew la g n (runL n l j) (runL n l j) := Hr.out.two.by_none (by_drew (by_refl _ _))
            have H0 := Lib.hid S0
            clear S0 z0 z1 z2
            generalize wr.drew = wq at *
            go_wp2_with fail
            refine (H0.out.put HH.out.1.1 HH.out.2.2.2).mono ?_
            rintro e w3 ⟨rfl, S3⟩
            have z1 : w3.cell? ⟨b, off + j * 3 + 1, none⟩ = some (.int .i64 k) := S3.by_.cell HX.out.2.1 (by simp)
            have z2 : w3.cell? ⟨b, off + j * 3 + 2, none⟩ = some (.int .i64 u) := S3.by_.cell HX.out.2.2 (by simp)
            have H3 := Lib.hid S3
            clear S3
            go_wp2_with fail
            go_still_tail 11, (by kernel_rfl)
            change wpList _ _ _ _ _ w3.drew
            have S4 := H3.out.by_none (by_drew (by_refl w3 none))
            have H4 := Lib.hid S4
            clear S4 z1 z2
            generalize w3.drew = w4 at *
            go_wp2_with fail
            refine (H4.out.rput HH.out.2.2.1.keys HH.out.2.2.2 (by have := HH.out.2.2.1.len; omega)).mono ?_
            rintro e w5 ⟨rfl, S5⟩
            rw [← runL_put HH.out.2.1] at S5
            have H5 := Lib.hid S5
            clear S5
            go_wp2_with fail
            go_meet
            exact H5.out
        case rest =>
          clear z0 z1 z2
          have hlen := runL_len n l (j + 1)
          have HP := Lib.hid (show (runL n l (j + 1)).length < 1000000 by omega)
          clear hlen
          generalize hps : runL n l (j + 1) = ps at *
          have Hps := Lib.hid hps
          clear hps
          obtain ⟨base, hbase⟩ : ∃ b, wc.heap.size = b := ⟨_, rfl⟩
          have hbs := hcut.by_.size
          rw [hbase] at hbs
          go_wp2_with fail
          refine (hcut.keys HP.out).mono ?_
          rintro e w6 ⟨v6, rfl, n6, o6, S6, y6⟩
          rw [hbase] at o6
          have Hbs := Lib.hid hbs
          clear hbase hbs
          obtain ⟨A6, c6, rfl, _⟩ := own_slice o6
          have H6 := Lib.hid (And.intro n6 (And.intro o6 (And.intro S6 y6)))
          have S6' : Two w w6 la g n ps ps := S6
          clear n6 o6 S6 y6
          go_upto_region 15 with fail
          go_cut [103] (fun s9 wx => s9 = .bool false ∧ Two w wx la g n ps ps ∧ w6.grownBy wx none)
          case first =>
            go_region_with (first
              | (go_at_call 16; refine (Two.rkeys (H6.out.2.2.1.by_none (by_drew (by_refl w6 none))) HP.out).mono ?_; rintro e w7 ⟨v7, rfl, n7, S7, y7⟩)
              | (go_at_call 15; refine (ints_same _ _ (ps.map (·.1)) _ (H6.out.1.grown (by_trans (by_drew (by_refl w6 none)) y7 (by simp)) (.inl rfl)) n7 (by have := HP.out; simp; omega)).mono ?_; rintro e w8 ⟨rfl, n8, rfl⟩; have S8 := S7.by_none (by_drewN (by_refl w7 none) n8); obtain ⟨A8, c8, x8⟩ := S8.cell)
              | (go_at_call 17; refine (Two.len S8).mono ?_; rintro e w9 ⟨rfl, rfl⟩))
            all_goals
              have Hf := Lib.hid (And.intro S8 (by_drewN (by_trans (by_drew (by_refl w6 none)) y7 (by simp)) n8))
              clear S7 S8 y7 n7 x8
              go_wp2_with fail
              go_meet
              exact ⟨rfl, Hf.out.1, Hf.out.2⟩
          case rest =>
            obtain ⟨rfl, S9, y9⟩ := hcut
            have o9 := own_by_none H6.out.2.1 y9
            have H9 := Lib.hid (And.intro S9 (And.intro o9 HP.out))
            clear S9 o9 y9 S6' H6
            go_wp2_with fail
            go_loopg [13] ps.length (fun k i wr => ∃ j, In w la g n ps base (.slice A6 ps.length c6) k i wr j)
            case atStart => exact ⟨0, rfl, by omega, by omega, H9.out.1, _, H9.out.2.1⟩
            case round =>
              have HP2 := Lib.hid H9.out.2.2
              clear H9
              obtain ⟨q, hq⟩ := hrel
              obtain rfl := hq.slot
              have hqle := hq.le
              have Hq := Lib.hid hq
              clear hq
              by_cases hlt : q < ps.length
              · obtain ⟨xs, hxs⟩ := Hq.out.own
                obtain ⟨g6, cap6, e6, _, _⟩ := hxs.form (by omega)
                injection e6 with e6 _ e7
                subst e6; subst e7
                have d1 : ∃ u, wr.cell? ⟨g6, q, none⟩ = some u := by
                  rw [hxs.cellAt q (by omega)]
                  have hl6 := hxs.1
                  exact ⟨xs[q]'(by omega), List.getElem?_eq_getElem (by omega)⟩
                obtain ⟨u6, d1⟩ := d1
                have d2 : wr.frozen? ⟨g6, q, none⟩ = false := hxs.frozenAt q
                have hnew := hxs.stored q (.int .i64 (-1))
                have hlt2 : (q : Int) < (ps.length : Int) := by omega
                have hq0 : (0 : Int) ≤ (q : Int) := by omega
                have hq1 : (ps.length : Int) ≤ 1000000 := by have := HP2.out; omega
                have hturn := Hq.out.two.turn hnew.2 (own_other hxs) (by have := (World.ownsRow.lt hxs g6 rfl).1; have := Hbs.out; omega)
                have Hn2 := Lib.hid (And.intro hturn hnew.1)
                clear hturn hnew hxs
                go_wp2
                go_roundg (ps.length - (q + 1))
                case measure => have := Hq.out.num; omega
                case rel => exact ⟨q + 1, by go_num, by omega, rfl, Hn2.out.1, _, Hn2.out.2⟩
              · have hge : decide (q < ps.length) = false := by simpa using hlt
                go_wp2
                go_roundg (l.length - (j + 1))
                case measure => have := Hr.out.num; omega
                case rel => exact ⟨j + 1, by go_num, by omega, by omega, rfl, by rw [Hps.out]; exact Hq.out.two⟩
      · have hj := h2
        have hlen := runL_len n l j
        have HP := Lib.hid (show (runL n l j).length < 1000000 by omega)
        clear hlen
        have S0 := Lib.hid Hr.out.two
        generalize runL n l j = ps at *
        go_wp2_with fail
        refine (S0.out.keys HP.out).mono ?_
        rintro e w6 ⟨v6, rfl, n6, o6, S6, y6⟩
        have H6 := Lib.hid (And.intro n6 S6)
        clear n6 o6 S6 y6
        go_wp2_with fail
        refine (H6.out.2.rkeys HP.out).mono ?_
        rintro e w7 ⟨v7, rfl, n7, S7, y7⟩
        have H7 := Lib.hid (And.intro (H6.out.1.grown y7 (.inl rfl)) (And.intro n7 S7))
        clear n7 S7 y7
        go_wp2_with fail
        refine (ints_same v6 v7 (ps.map (·.1)) _ H7.out.1 H7.out.2.1 (by have := HP.out; simp; omega)).mono ?_
        rintro e w8 ⟨rfl, n8, rfl⟩
        have H8 := Lib.hid (H7.out.2.2.by_none (by_drewN (by_refl w7 none) n8))
        go_wp2_with fail
        refine (works_any _).mono ?_
        rintro e w9 ⟨rfl, y9⟩
        have Hf := Lib.hid (H8.out.by_none y9).by_
        clear y9
        go_wp2
        go_ret
        exact ⟨rfl, Hf.out⟩
    · have hlen := runL_len n l j
      have HP := Lib.hid (show (runL n l j).length < 1000000 by omega)
      clear hlen
      have S0 := Lib.hid Hr.out.two
      generalize runL n l j = ps at *
      go_wp2_with fail
      refine (S0.out.keys HP.out).mono ?_
      rintro e w6 ⟨v6, rfl, n6, o6, S6, y6⟩
      have H6 := Lib.hid (And.intro n6 S6)
      clear n6 o6 S6 y6
      go_wp2_with fail
      refine (H6.out.2.rkeys HP.out).mono ?_
      rintro e w7 ⟨v7, rfl, n7, S7, y7⟩
      have H7 := Lib.hid (And.intro (H6.out.1.grown y7 (.inl rfl)) (And.intro n7 S7))
      clear n7 S7 y7
      go_wp2_with fail
      refine (ints_same v6 v7 (ps.map (·.1)) _ H7.out.1 H7.out.2.1 (by have := HP.out; simp; omega)).mono ?_
      rintro e w8 ⟨rfl, n8, rfl⟩
      have H8 := Lib.hid (H7.out.2.2.by_none (by_drewN (by_refl w7 none) n8))
      go_wp2_with fail
      refine (works_any _).mono ?_
      rintro e w9 ⟨rfl, y9⟩
      have Hf := Lib.hid (H8.out.by_none y9).by_
      clear y9
      go_wp2
      go_ret
      exact ⟨rfl, Hf.out⟩

set_option maxRecDepth 100000 in
theorem lifted (os : Os) (started : os.Started) (H : Type) (enc : TypeId × Value → H) :
    ReturnsInHanded {} Try.checked os 3 .any (Rows.lruPlaysSpec.pre6 enc Try.prog Try.f3 Rows.lruPlaysRow.domain false) (Rows.lruPlaysSpec.post enc Try.prog Try.f3 false true false false) := by
  refine returnsInHanded_of_change (C := Try.checked) own started (by kernel_rfl) Try.func3
    (ChangeSpec.witness6 (enc := enc) (C := Try.checked) false ⟨#[], #[.int .i64 0, .slice none 0 0], []⟩ 8 (by kernel_rfl) (by kernel_rfl) (by kernel_rfl) (by kernel_rfl)) ?_
  intro W base args ds gs before hval0 hW hcnd _
  have hval : ∀ (j : Nat) t v, Try.f3.params[j]? = some t → args[j]? = some v → Value.okWide Try.prog W .any base t v := hval0
  have hW' := hW
  obtain ⟨p, q, hA0, hV, rfl, hfz, hnd⟩ := hW
  have hA : DataW.TrodAll enc Try.prog W 0 (fun _ => true) true Try.f3.params.toList args.toList ds p := hA0
  rw [Try.params3] at hA hval
  obtain ⟨v0, vs0, d0, ds0, p0, q0, hargs, rfl, rfl, h0, r0⟩ := trodAll_cons hA
  obtain ⟨v1, vs1, d1, ds1, p1, q1, rfl, rfl, rfl, h1, r1⟩ := trodAll_cons r0
  obtain ⟨rfl, rfl, rfl⟩ := trodAll_nil r1
  obtain rfl : args = #[v0, v1] := by cases args; simp_all
  obtain ⟨rfl, rfl⟩ := trodVars_none hV
  obtain ⟨a0, rfl, rfl, rfl, w0⟩ := open_int Try.underlying3 (hval 0 3 v0 rfl rfl) h0
  obtain ⟨l1, hl1, hm1, hn1⟩ := arg_acts (hval 1 22 v1 rfl rfl) h1
  refine (walk W a0 w0 v1 l1 hl1 hm1 hn1).mono fun e W' ⟨he, hg⟩ => ?_
  subst he
  exact ⟨_, rfl, law_post laidOut rfl hW' (by kernel_rfl) rfl Try.underlying4 rfl (below_of_by hg)⟩

theorem proved : Rows.LruPlaysSaid :=
  OpenClaim.holds_of_wide 3 Try.f3 rfl rfl rfl rfl rfl rfl rfl ⟨rfl, rfl, rfl, rfl, rfl⟩ rfl rfl rfl rfl rfl (by kernel_rfl) Try.func3 (by kernel_rfl)
    (of_decide_eq_true (by kernel_rfl)) (by unfold Func.isWrapper; first | (rw [if_pos (by decide +kernel)]; kernel_rfl) | (rw [if_neg (by decide +kernel)]; exact ⟨rfl, rfl⟩))
    (fun os started H enc _ => lifted os started H enc)
#print axioms proved
end lruPlays
end Go.Proofs.Ytgjklppmimhgnaa
