/-
  WireBack: two rows of things, put one behind the other, are the row of all things (all inputs, no condition).
-/
import Derived.Test.YtlnlpphhnbodpaaBackP
import Derived.Test.YtlnlpphhnbodpaaReadsLaw
namespace Go.Proofs.Ytlnlpphhnbodpaa
open Go.ChangeShapes Go.WideShapes Go.ChangeAt Go.RowKit

theorem text_step2 {w : World} {r : Nat} {x t : List UInt8} {E : ByteArray} {bad : Bool} (h : Rd w r ⟨(rowL x.length ++ (x ++ t)).toArray⟩ bad) (hx : x.length ≤ 1000000) (ht : t.length ≤ 1000000) (hE : E = ⟨x.toArray⟩) :
    Calls Try.prog 16 #[.pointer (some ⟨r, 0, none⟩)] w fun e w' => e = .returned (.string E) ∧ w.grownBy w' (some r) ∧ Rd w' r ⟨t.toArray⟩ bad := by
  rw [hE]; exact text_step h hx ht
theorem sr_grown {wr w1 w2 : World} {p : Addr} {v : Value} {r : Nat} (h : wr.grownBy w1 (some r) ∧ w1.cell? p = some v) (hp : p.block ≠ r) (hg : w1.grownBy w2 (some r)) : wr.grownBy w2 (some r) ∧ w2.cell? p = some v :=
  ⟨by_trans h.1 hg (fun x hx => .inl hx.symm), hg.cell h.2 (by simpa using hp)⟩
theorem sr_drew {wr w1 : World} {p : Addr} {v : Value} {r : Nat} (h : wr.grownBy w1 (some r) ∧ w1.cell? p = some v) : wr.grownBy w1.drew (some r) ∧ w1.drew.cell? p = some v := ⟨by_drew h.1, h.2⟩

namespace wireBack
structure B (w0 : World) (len k : Nat) (a b i : Value) (wr : World) (j : Nat) (P Q : List UInt8) : Prop where
  slot : i = .int .i64 (j : Int)
  a_ : a = .string ⟨P.toArray⟩
  b_ : b = .string ⟨Q.toArray⟩
  le : j ≤ len
  num : k = len - j
  by_ : w0.grownBy wr none
structure C (w0 : World) (r len k : Nat) (i : Value) (wr : World) (j : Nat) (P : List UInt8) : Prop where
  slot : i = .int .i64 (j : Int)
  le : j ≤ len
  num : k = len - j
  rd : Rd wr r ⟨P.toArray⟩ false
  by_ : w0.grownBy wr none

set_option maxRecDepth 100000 in
set_option maxHeartbeats 8000000 in
theorem walk (w : World) (v0 : Value) (l : List Int) (hv : Nums w .u64 v0 l) (_hl : l.length ≤ maxLen) (hw : ∀ z ∈ l, (Lit.int .u64 z).wf = true)
    (v1 : Value) (m : List Int) (hv1 : Nums w .u64 v1 m) (_hl1 : m.length ≤ maxLen) (hw1 : ∀ z ∈ m, (Lit.int .u64 z).wf = true)
    (v2 : Value) (ts : List ByteArray) (hu : Strs w v2 ts) (_htl : ts.length ≤ maxLen) (hts : ∀ s ∈ ts, s.size ≤ maxLen) :
    Calls Try.prog 5 #[v0, v1, v2] w fun e w' => e = .returned (.bool true) ∧ w.grownBy w' none := by
  unfold maxLen at _hl _hl1 _htl
  have hv' := hv
  have hv1' := hv1
  have hu' := hu
  obtain ⟨A, c, rfl, hcap, _⟩ := hv'
  obtain ⟨A', c', rfl, hcap', _⟩ := hv1'
  obtain ⟨A2, c2, rfl, hcap2, _⟩ := hu'
  obtain ⟨m0, hm0⟩ : ∃ m0, m0 = min l.length 40 := ⟨_, rfl⟩
  obtain ⟨m1, hm1⟩ : ∃ m1, m1 = min m.length 40 := ⟨_, rfl⟩
  obtain ⟨m2, hm2⟩ : ∃ m2, m2 = min ts.length 15 := ⟨_, rfl⟩
  obtain ⟨Z0, s0, n0⟩ := nums_cut hv (m := m0) (by omega)
  obtain ⟨Z1, s1, n1⟩ := nums_cut hv1 (m := m1) (by omega)
  obtain ⟨Z2, s2, n2⟩ := strs_cut hu (m := m2) (by omega)
  have e0 : (l.take m0).length = m0 := by rw [List.length_take]; omega
  have e1 : (m.take m1).length = m1 := by rw [List.length_take]; omega
  have e2 : (ts.take m2).length = m2 := by rw [List.length_take]; omega
  rw [e0] at n0
  rw [e1] at n1
  rw [e2] at n2
  have hmin0 : min (l.length : Int) 40 = (m0 : Int) := by omega
  have hmin1 : min (m.length : Int) 40 = (m1 : Int) := by omega
  have hmin2 : min (ts.length : Int) 15 = (m2 : Int) := by omega
  have b0 : m0 ≤ 40 := by omega
  have b1 : m1 ≤ 40 := by omega
  have b2 : m2 ≤ 15 := by omega
  have HV := Lib.hid (And.intro n0 (And.intro n1 (And.intro n2 (And.intro (show ∀ z ∈ l.take m0, (Lit.int .u64 z).wf = true from fun z hz => hw z (List.mem_of_mem_take hz)) (And.intro (show ∀ z ∈ m.take m1, (Lit.int .u64 z).wf = true from fun z hz => hw1 z (List.mem_of_mem_take hz)) (And.intro (show ∀ s ∈ ts.take m2, s.size ≤ maxLen from fun s hs => hts s (List.mem_of_mem_take hs)) (And.intro e0 (And.intro e1 e2))))))))
  clear hm0 hm1 hm2 n0 n1 n2 e0 e1 e2 hv hv1 hu hw hw1 hts
  go_enter Try.func5, Try.ntmps5
  go_upto_region 1 with fail
  go_cut [0, 1, 2] (fun q0 q1 q2 wx => q0 = .slice Z0 m0 c ∧ q1 = .slice Z1 m1 c' ∧ q2 = .slice Z2 m2 c2 ∧ w.grownBy wx none)
  case first =>
    refine wp_region_still_lit (by kernel_rfl) (by kernel_rfl) ?_
    repeat still_step
    refine wpStill_nil ?_
    change Exit.then _ _ _ _ w.drew
    go_wp2_with fail
    go_meet
    exact ⟨rfl, rfl, rfl, by_drew (by_refl w none)⟩
  case rest =>
    obtain ⟨rfl, rfl, rfl, y0⟩ := hcut
    obtain ⟨L, hL⟩ : ∃ L, L = l.take m0 := ⟨_, rfl⟩
    obtain ⟨M, hM⟩ : ∃ M, M = m.take m1 := ⟨_, rfl⟩
    obtain ⟨S, hS⟩ : ∃ S, S = ts.take m2 := ⟨_, rfl⟩
    rw [← hL, ← hM, ← hS] at HV
    have e0 := HV.out.2.2.2.2.2.2.1
    have e1 := HV.out.2.2.2.2.2.2.2.1
    have e2 := HV.out.2.2.2.2.2.2.2.2
    subst e0
    subst e1
    subst e2
    clear s0 s1 s2 hmin0 hmin1 hmin2 hL hM hS
    have H0 := Lib.hid y0
    clear y0
    have t1 := rowsL_le (nats L) (nats_ok HV.out.2.2.2.1)
    have t2 := rowsL_le (nats M) (nats_ok HV.out.2.2.2.2.1)
    have t3 := txtL_le (cuts S) cuts_ok
    rw [nats_len] at t1 t2
    rw [cuts_len] at t3
    have HT := Lib.hid (And.intro t1 (And.intro t2 t3))
    clear t1 t2 t3
    go_wp2_with fail
    go_loopg [7, 9, 10] L.length (fun k a b i wr => ∃ j, B w L.length k a b i wr j (rowsL ((nats L).take j)) (rowsL ((nats L).take j)))
    case atStart => exact ⟨0, ⟨rfl, rfl, rfl, by omega, by omega, H0.out⟩⟩
    case round =>
      clear H0
      obtain ⟨j, hr⟩ := hrel
      obtain rfl := hr.slot
      obtain rfl := hr.a_
      obtain rfl := hr.b_
      have hle := hr.le
      have Hr := Lib.hid hr
      clear hr
      by_cases hlt : j < L.length
      · obtain ⟨X', cap', hA, _, hcell⟩ := HV.out.1
        injection hA with hA1 hA2 hA3
        subst hA1; subst hA3
        obtain ⟨b, off, rfl, hb, hc⟩ := hcell (by omega)
        have x0 := hc j hlt
        obtain ⟨n, hn, hn2, hn3⟩ := nats_at HV.out.2.2.2.1 hlt
        rw [hn] at x0
        have x1 : wr.cell? ⟨b, off + j, none⟩ = some (.int .u64 (n : Int)) := Hr.out.by_.cell x0 (by simp)
        have hz0 : (0 : Int) ≤ (j : Int) := by omega
        have hz1 : (j : Int) < (L.length : Int) := by omega
        have hR := rowsL_le ((nats L).take j) (fun q hq => nats_ok HV.out.2.2.2.1 q (List.mem_of_mem_take hq))
        have hR2 : ((nats L).take j).length ≤ 40 := by rw [List.length_take, nats_len]; omega
        have hT := HT.out
        obtain ⟨P, hP⟩ : ∃ P, P = rowsL ((nats L).take j) := ⟨_, rfl⟩
        obtain ⟨Q, hQ⟩ : ∃ Q, Q = rowsL ((nats L).take j) := ⟨_, rfl⟩
        have hPl : P.length ≤ 1000000 := by rw [hP]; (try simp only [List.length_append]); omega
        have hQl : Q.length ≤ 1000000 := by rw [hQ]; (try simp only [List.length_append]); omega
        rw [← hP]
        try rw [← hQ]
        have Hn := Lib.hid (And.intro hn2 (And.intro hn3 (And.intro hP hQ)))
        have Hs0 : wr.grownBy wr.drew none ∧ wr.drew.cell? ⟨b, off + j, none⟩ = some (.int .u64 (n : Int)) := ⟨by_drew (by_refl wr none), x1⟩
        clear hcell hc hb x0 hn hn2 hn3 hA2 hR hR2 hT hP hQ
        go_wp2_with fail
        go_region_held3 (fun w' => wr.grownBy w' none ∧ w'.cell? ⟨b, off + j, none⟩ = some (.int .u64 (n : Int)))
          (first
            | exact Hs0
            | exact sp_grown (by assumption) hgrow
            | exact sp_drew (by assumption))
          (first | (go_at_call 8; refine (put_step Hn.out.1 (by first | exact hPl | exact hQl)).mono ?_; rintro e w2 ⟨rfl, hgrow⟩; dsimp only))
        all_goals
          rename_i hh
          have H5 := Lib.hid hh.1
          clear hh hgrow Hs0
          go_wp2
          go_roundg (L.length - (j + 1))
          case measure => have := Hr.out.num; omega
          case rel => exact ⟨j + 1, ⟨by go_num, by rw [take_at' Hn.out.2.1, rowsL_snoc, Hn.out.2.2.1], by rw [take_at' Hn.out.2.1, rowsL_snoc, Hn.out.2.2.1], by omega, rfl, by_trans Hr.out.by_ H5.out (by simp)⟩⟩
      · obtain rfl : j = L.length := by omega
        rw [List.take_of_length_le (by rw [nats_len]; exact Nat.le_refl _)]
        have H0 := Lib.hid Hr.out.by_
        clear hlt hle Hr
        obtain ⟨RL, hRL⟩ : ∃ RL, RL = rowsL (nats L) := ⟨_, rfl⟩
        rw [← hRL]
        rw [← hRL] at HT
        have HRL := Lib.hid hRL
        clear hRL
        go_wp2_with fail
        go_loopg [8, 9, 11] S.length (fun k a b i wr => ∃ j, B w S.length k a b i wr j (txtL ((cuts S).take j)) (RL ++ txtL ((cuts S).take j)))
        case atStart => exact ⟨0, ⟨rfl, rfl, by simp [txtL], by omega, by omega, H0.out⟩⟩
        case round =>
          clear H0
          obtain ⟨j, hr⟩ := hrel
          obtain rfl := hr.slot
          obtain rfl := hr.a_
          obtain rfl := hr.b_
          have hle := hr.le
          have Hr := Lib.hid hr
          clear hr
          by_cases hlt : j < S.length
          · obtain ⟨X', cap', hA, _, hcell⟩ := HV.out.2.2.1
            injection hA with hA1 hA2 hA3
            subst hA1; subst hA3
            obtain ⟨b, off, rfl, hb, hc⟩ := hcell (by omega)
            have x0 := hc j hlt
            have hsz := HV.out.2.2.2.2.2.1 S[j] (List.getElem_mem hlt)
            have hxj := cuts_at hlt
            obtain ⟨T, hT⟩ : ∃ T, S[j] = T := ⟨_, rfl⟩
            rw [hT] at x0 hsz hxj
            unfold maxLen at hsz
            have x1 : wr.cell? ⟨b, off + j, none⟩ = some (.string T) := Hr.out.by_.cell x0 (by simp)
            have hz0 : (0 : Int) ≤ (j : Int) := by omega
            have hz1 : (j : Int) < (S.length : Int) := by omega
            have hx := cutL_len T 3000
            have hxe := cutL_ext T 3000
            obtain ⟨x, hxx⟩ : ∃ x, cutL T 3000 = x := ⟨_, rfl⟩
            rw [hxx] at hx hxe hxj
            have hR := txtL_le ((cuts S).take j) (fun q hq => cuts_ok q (List.mem_of_mem_take hq))
            have hR2 : ((cuts S).take j).length ≤ 15 := by rw [List.length_take, cuts_len]; omega
            have hT2 := HT.out
            obtain ⟨P, hP⟩ : ∃ P, P = txtL ((cuts S).take j) := ⟨_, rfl⟩
            rw [← hP] at hR ⊢
            have hPl : P.length ≤ 1000000 := by omega
            have hQl : (RL ++ P).length ≤ 1000000 := by rw [List.length_append]; omega
            have Hx := Lib.hid (And.intro hx (And.intro hxe (And.intro hxj hP)))
            clear hcell hc hb x0 hA2 hT hx hxe hxx hxj hR hR2 hT2 hP
            go_upto_region 10 with fail
            go_cut [12] (fun s12 wx => s12 = .string ⟨x.toArray⟩ ∧ wr.grownBy wx none)
            case first =>
              by_cases hm : T.size ≤ 3000
              · have hmin : min (T.size : Int) 3000 = (T.size : Int) := by omega
                refine wp_region_still_lit (by kernel_rfl) (by kernel_rfl) ?_
                repeat still_step
                refine wpStill_nil ?_
                change Exit.then _ _ _ _ wr.drew
                go_wp2_with fail
                go_meet
                refine ⟨?_, by_drew (by_refl wr none)⟩
                rw [← Hx.out.2.1, Nat.min_eq_left hm, ext_all]
              · have hmin : min (T.size : Int) 3000 = 3000 := by omega
                have hm2 : (3000 : Int) ≤ (T.size : Int) := by omega
                refine wp_region_still_lit (by kernel_rfl) (by kernel_rfl) ?_
                repeat still_step
                refine wpStill_nil ?_
                change Exit.then _ _ _ _ wr.drew
                go_wp2_with fail
                go_meet
                refine ⟨?_, by_drew (by_refl wr none)⟩
                rw [← Hx.out.2.1, Nat.min_eq_right (by omega)]
            case rest =>
              obtain ⟨rfl, y5⟩ := hcut
              have H5 := Lib.hid y5
              clear y5 x1
              go_wp2_with fail
              refine (putt_step (by have := Hx.out.1; omega) hPl).mono ?_
              rintro e w2 ⟨rfl, y2⟩
              have H2 := Lib.hid y2
              clear y2
              go_wp2_with fail
              refine (putt_step (by have := Hx.out.1; omega) hQl).mono ?_
              rintro e w3 ⟨rfl, y3⟩
              have H3 := Lib.hid (by_trans (by_trans H5.out H2.out (by simp)) y3 (by simp))
              clear y3
              go_wp2
              go_roundg (S.length - (j + 1))
              case measure => have := Hr.out.num; omega
              case rel => exact ⟨j + 1, ⟨by go_num, by rw [take_at' Hx.out.2.2.1, txtL_snoc, Hx.out.2.2.2], by rw [take_at' Hx.out.2.2.1, txtL_snoc, Hx.out.2.2.2], by omega, rfl, by_trans Hr.out.by_ H3.out (by simp)⟩⟩
          · obtain rfl : j = S.length := by omega
            rw [List.take_of_length_le (by rw [cuts_len]; exact Nat.le_refl _)]
            have H0 := Lib.hid Hr.out.by_
            clear hlt hle Hr
            obtain ⟨TX, hTX⟩ : ∃ TX, TX = txtL (cuts S) := ⟨_, rfl⟩
            rw [← hTX]
            rw [← hTX] at HT
            have HTX := Lib.hid hTX
            clear hTX
            go_wp2_with fail
            go_loopg [8, 9, 13] M.length (fun k a b i wr => ∃ j, B w M.length k a b i wr j (TX ++ rowsL ((nats M).take j)) (RL ++ (TX ++ rowsL ((nats M).take j))))
            case atStart => exact ⟨0, ⟨rfl, by simp [rowsL], by simp [rowsL], by omega, by omega, H0.out⟩⟩
            case round =>
              clear H0
              obtain ⟨j, hr⟩ := hrel
              obtain rfl := hr.slot
              obtain rfl := hr.a_
              obtain rfl := hr.b_
              have hle := hr.le
              have Hr := Lib.hid hr
              clear hr
              by_cases hlt : j < M.length
              · obtain ⟨X', cap', hA, _, hcell⟩ := HV.out.2.1
                injection hA with hA1 hA2 hA3
                subst hA1; subst hA3
                obtain ⟨b, off, rfl, hb, hc⟩ := hcell (by omega)
                have x0 := hc j hlt
                obtain ⟨n, hn, hn2, hn3⟩ := nats_at HV.out.2.2.2.2.1 hlt
                rw [hn] at x0
                have x1 : wr.cell? ⟨b, off + j, none⟩ = some (.int .u64 (n : Int)) := Hr.out.by_.cell x0 (by simp)
                have hz0 : (0 : Int) ≤ (j : Int) := by omega
                have hz1 : (j : Int) < (M.length : Int) := by omega
                have hR := rowsL_le ((nats M).take j) (fun q hq => nats_ok HV.out.2.2.2.2.1 q (List.mem_of_mem_take hq))
                have hR2 : ((nats M).take j).length ≤ 40 := by rw [List.length_take, nats_len]; omega
                have hT := HT.out
                obtain ⟨P, hP⟩ : ∃ P, P = TX ++ rowsL ((nats M).take j) := ⟨_, rfl⟩
                obtain ⟨Q, hQ⟩ : ∃ Q, Q = RL ++ (TX ++ rowsL ((nats M).take j)) := ⟨_, rfl⟩
                have hPl : P.length ≤ 1000000 := by rw [hP]; (try simp only [List.length_append]); omega
                have hQl : Q.length ≤ 1000000 := by rw [hQ]; (try simp only [List.length_append]); omega
                rw [← hQ]
                rw [← hP]
                have Hn := Lib.hid (And.intro hn2 (And.intro hn3 (And.intro hP hQ)))
                have Hs0 : wr.grownBy wr.drew none ∧ wr.drew.cell? ⟨b, off + j, none⟩ = some (.int .u64 (n : Int)) := ⟨by_drew (by_refl wr none), x1⟩
                clear hcell hc hb x0 hn hn2 hn3 hA2 hR hR2 hT hP hQ
                go_wp2_with fail
                go_region_held3 (fun w' => wr.grownBy w' none ∧ w'.cell? ⟨b, off + j, none⟩ = some (.int .u64 (n : Int)))
                  (first
                    | exact Hs0
                    | exact sp_grown (by assumption) hgrow
                    | exact sp_drew (by assumption))
                  (first | (go_at_call 8; refine (put_step Hn.out.1 (by first | exact hPl | exact hQl)).mono ?_; rintro e w2 ⟨rfl, hgrow⟩; dsimp only))
                all_goals
                  rename_i hh
                  have H5 := Lib.hid hh.1
                  clear hh hgrow Hs0
                  go_wp2
                  go_roundg (M.length - (j + 1))
                  case measure => have := Hr.out.num; omega
                  case rel => exact ⟨j + 1, ⟨by go_num, by rw [take_at' Hn.out.2.1, rowsL_snoc, Hn.out.2.2.1, List.append_assoc], by rw [take_at' Hn.out.2.1, rowsL_snoc, Hn.out.2.2.2, List.append_assoc, List.append_assoc], by omega, rfl, by_trans Hr.out.by_ H5.out (by simp)⟩⟩
              · obtain rfl : j = M.length := by omega
                rw [List.take_of_length_le (by rw [nats_len]; exact Nat.le_refl _)]
                have H0 := Lib.hid Hr.out.by_
                clear hlt hle Hr
                obtain ⟨RM, hRM⟩ : ∃ RM, RM = rowsL (nats M) := ⟨_, rfl⟩
                rw [← hRM]
                rw [← hRM] at HT
                have HRM := Lib.hid hRM
                clear hRM
                have hT2 := HT.out
                obtain ⟨U, hU⟩ : ∃ U : ByteArray, U = ⟨RL.toArray⟩ := ⟨_, rfl⟩
                obtain ⟨V, hV⟩ : ∃ V : ByteArray, V = ⟨(TX ++ RM).toArray⟩ := ⟨_, rfl⟩
                obtain ⟨W, hW⟩ : ∃ W : ByteArray, W = ⟨(RL ++ (TX ++ RM)).toArray⟩ := ⟨_, rfl⟩
                have hUV : U ++ V = W := by
                  rw [hU, hV, hW]
                  apply ByteArray.ext
                  simp
                have hUs : U.size = RL.length := by rw [hU]; rfl
                have hVs : V.size = TX.length + RM.length := by rw [hV]; show (TX ++ RM).length = _; rw [List.length_append]
                have hcc : U.size + V.size ≤ 9223372036854775807 := by omega
                rw [← hU, ← hV, ← hW]
                have HW := Lib.hid hW
                clear hU hV hW hUs hVs hT2
                go_wp2_with fail
                refine (newreader_any _ W).mono ?_
                rintro e w2 ⟨r, rfl, R2, y2, l2⟩
                have hrd : Rd w2 r ⟨(rowsL ((nats L).drop 0) ++ (TX ++ RM)).toArray⟩ false := by
                  rw [List.drop_zero, ← HRL.out, ← HW.out]; exact R2
                have hr0 : w.heap.size ≤ r := by have := H0.out.size; omega
                have H2 := Lib.hid (And.intro hrd (And.intro (by_trans H0.out y2 (by simp)) hr0))
                clear R2 y2 l2 hrd hcc hUV H0 hr0
                go_wp2_with fail
                go_loopg [15] L.length (fun k i wr => ∃ j, C w r L.length k i wr j (rowsL ((nats L).drop j) ++ (TX ++ RM)))
                case atStart => exact ⟨0, ⟨rfl, by omega, by omega, H2.out.1, H2.out.2.1⟩⟩
                case round =>
                  have hr0 := H2.out.2.2
                  clear H2
                  obtain ⟨j, hr⟩ := hrel
                  obtain rfl := hr.slot
                  have hle := hr.le
                  have Hr := Lib.hid hr
                  clear hr
                  by_cases hlt : j < L.length
                  · obtain ⟨X', cap', hA, _, hcell⟩ := HV.out.1
                    injection hA with hA1 hA2 hA3
                    subst hA1; subst hA3
                    obtain ⟨b, off, rfl, hb, hc⟩ := hcell (by omega)
                    have x0 := hc j hlt
                    obtain ⟨n, hn, hn2, hn3⟩ := nats_at HV.out.2.2.2.1 hlt
                    rw [hn] at x0
                    have x1 : wr.cell? ⟨b, off + j, none⟩ = some (.int .u64 (n : Int)) := Hr.out.by_.cell x0 (by simp)
                    have hz0 : (0 : Int) ≤ (j : Int) := by omega
                    have hz1 : (j : Int) < (L.length : Int) := by omega
                    have hbr : b ≠ r := by omega
                    have hR := rowsL_le ((nats L).drop (j + 1)) (fun q hq => nats_ok HV.out.2.2.2.1 q (List.mem_of_mem_drop hq))
                    have hR2 : ((nats L).drop (j + 1)).length ≤ 40 := by rw [List.length_drop, nats_len]; omega
                    have hT := HT.out
                    have hrd := Hr.out.rd
                    rw [drop_at' hn3, rowsL_cons, List.append_assoc] at hrd
                    have hlen : (rowsL ((nats L).drop (j + 1)) ++ (TX ++ RM)).length ≤ 1000000 := by simp only [List.length_append, List.length_nil]; omega
                    have Hn := Lib.hid (And.intro hn2 (And.intro hrd hlen))
                    clear hcell hc hb x0 hn hn2 hn3 hA2 hR hR2 hT hrd hlen
                    go_upto_region 22 with fail
                    go_cut [113] (fun q wx => q = .bool false ∧ wr.grownBy wx (some r) ∧ Rd wx r ⟨(rowsL ((nats L).drop (j + 1)) ++ (TX ++ RM)).toArray⟩ false)
                    case first =>
                      go_region_with (go_at_call 14; refine (num_step (Rd.by_ Hn.out.2.1 (by_drew (by_refl wr none))) Hn.out.1 Hn.out.2.2).mono ?_; rintro e w4 ⟨rfl, y4, R4⟩; (have c4 : w4.cell? ⟨b, off + j, none⟩ = some (.int .u64 (n : Int)) := y4.cell x1 (by simp; exact hbr)))
                      all_goals
                        have Hf := Lib.hid (And.intro y4 R4)
                        clear y4 R4
                        go_wp2_with fail
                        go_meet
                        exact ⟨rfl, by_trans (by_drew (by_refl wr (some r))) Hf.out.1 (fun x hx => .inl hx.symm), Hf.out.2⟩
                    case rest =>
                      obtain ⟨rfl, y5, R5⟩ := hcut
                      have H5 := Lib.hid (And.intro y5 R5)
                      clear y5 R5 x1
                      go_wp2
                      go_roundg (L.length - (j + 1))
                      case measure => have := Hr.out.num; omega
                      case rel => exact ⟨j + 1, ⟨by go_num, by omega, rfl, H5.out.2, by_trans Hr.out.by_ H5.out.1 (fun x hx => .inr (by cases hx; exact hr0))⟩⟩
                  · obtain rfl : j = L.length := by omega
                    have hrd := Hr.out.rd
                    rw [List.drop_of_length_le (by rw [nats_len]; exact Nat.le_refl _)] at hrd
                    have hrd2 : Rd wr r ⟨(txtL ((cuts S).drop 0) ++ RM).toArray⟩ false := by rw [List.drop_zero, ← HTX.out]; exact hrd
                    have H2 := Lib.hid (And.intro hrd2 Hr.out.by_)
                    clear hlt hle hrd hrd2 Hr
                    go_wp2_with fail
                    go_loopg [16] S.length (fun k i wr => ∃ j, C w r S.length k i wr j (txtL ((cuts S).drop j) ++ RM))
                    case atStart => exact ⟨0, ⟨rfl, by omega, by omega, H2.out.1, H2.out.2⟩⟩
                    case round =>
                      clear H2
                      obtain ⟨j, hr⟩ := hrel
                      obtain rfl := hr.slot
                      have hle := hr.le
                      have Hr := Lib.hid hr
                      clear hr
                      by_cases hlt : j < S.length
                      · obtain ⟨X', cap', hA, _, hcell⟩ := HV.out.2.2.1
                        injection hA with hA1 hA2 hA3
                        subst hA1; subst hA3
                        obtain ⟨b, off, rfl, hb, hc⟩ := hcell (by omega)
                        have x0 := hc j hlt
                        have hsz := HV.out.2.2.2.2.2.1 S[j] (List.getElem_mem hlt)
                        have hxj := cuts_at hlt
                        obtain ⟨T, hT⟩ : ∃ T, S[j] = T := ⟨_, rfl⟩
                        rw [hT] at x0 hsz hxj
                        unfold maxLen at hsz
                        have x1 : wr.cell? ⟨b, off + j, none⟩ = some (.string T) := Hr.out.by_.cell x0 (by simp)
                        have hz0 : (0 : Int) ≤ (j : Int) := by omega
                        have hz1 : (j : Int) < (S.length : Int) := by omega
                        have hbr : b ≠ r := by omega
                        have hx := cutL_len T 3000
                        have hxe := cutL_ext T 3000
                        obtain ⟨x, hxx⟩ : ∃ x, cutL T 3000 = x := ⟨_, rfl⟩
                        rw [hxx] at hx hxe hxj
                        have hR := txtL_le ((cuts S).drop (j + 1)) (fun q hq => cuts_ok q (List.mem_of_mem_drop hq))
                        have hR2 : ((cuts S).drop (j + 1)).length ≤ 15 := by rw [List.length_drop, cuts_len]; omega
                        have hT2 := HT.out
                        have hrd := Hr.out.rd
                        rw [drop_at' hxj, txtL_cons, List.append_assoc, List.append_assoc] at hrd
                        have hlen : (txtL ((cuts S).drop (j + 1)) ++ RM).length ≤ 1000000 := by rw [List.length_append]; omega
                        have Hx := Lib.hid (And.intro hx (And.intro hxe (And.intro hrd hlen)))
                        have Hs0 : wr.grownBy wr.drew (some r) ∧ wr.drew.cell? ⟨b, off + j, none⟩ = some (.string T) := ⟨by_drew (by_refl wr (some r)), x1⟩
                        clear hcell hc hb x0 hA2 hT hx hxe hxx hxj hR hR2 hT2 hrd hlen
                        go_upto_region 27 with fail
                        go_cut [133] (fun q wx => q = .bool false ∧ wr.grownBy wx (some r) ∧ Rd wx r ⟨(txtL ((cuts S).drop (j + 1)) ++ RM).toArray⟩ false)
                        case first =>
                          by_cases hm : T.size ≤ 3000
                          · have hmin : min (T.size : Int) 3000 = (T.size : Int) := by omega
                            have hE : T = ⟨x.toArray⟩ := by rw [← Hx.out.2.1, Nat.min_eq_left hm, ext_all]
                            have HE := Lib.hid hE
                            clear hE
                            go_region_held3 (fun w' => wr.grownBy w' (some r) ∧ w'.cell? ⟨b, off + j, none⟩ = some (.string T))
                              (first
                                | exact Hs0
                                | exact sr_grown (by assumption) hbr hgrow
                                | exact sr_drew (by assumption))
                              (first | (go_at_call 16; refine (text_step2 (Rd.by_ Hx.out.2.2.1 (by_drew (by_refl wr none))) (by have := Hx.out.1; omega) Hx.out.2.2.2 HE.out).mono ?_; rintro e w4 ⟨rfl, hgrow, R4⟩; dsimp only))
                            all_goals
                              rename_i hh
                              have Hf := Lib.hid (And.intro hh.1 R4)
                              clear hh hgrow R4 Hs0
                              go_wp2_with fail
                              go_meet
                              exact ⟨rfl, Hf.out.1, Hf.out.2⟩
                          · have hmin : min (T.size : Int) 3000 = 3000 := by omega
                            have hm2 : (3000 : Int) ≤ (T.size : Int) := by omega
                            have hE : T.extract 0 3000 = ⟨x.toArray⟩ := by rw [← Hx.out.2.1, Nat.min_eq_right (by omega)]
                            have HE := Lib.hid hE
                            clear hE
                            go_region_held3 (fun w' => wr.grownBy w' (some r) ∧ w'.cell? ⟨b, off + j, none⟩ = some (.string T))
                              (first
                                | exact Hs0
                                | exact sr_grown (by assumption) hbr hgrow
                                | exact sr_drew (by assumption))
                              (first | (go_at_call 16; refine (text_step2 (Rd.by_ Hx.out.2.2.1 (by_drew (by_refl wr none))) (by have := Hx.out.1; omega) Hx.out.2.2.2 HE.out).mono ?_; rintro e w4 ⟨rfl, hgrow, R4⟩; dsimp only))
                            all_goals
                              rename_i hh
                              have Hf := Lib.hid (And.intro hh.1 R4)
                              clear hh hgrow R4 Hs0
                              go_wp2_with fail
                              go_meet
                              exact ⟨rfl, Hf.out.1, Hf.out.2⟩
                        case rest =>
                          obtain ⟨rfl, y5, R5⟩ := hcut
                          have H5 := Lib.hid (And.intro y5 R5)
                          clear y5 R5 x1 Hs0
                          go_wp2
                          go_roundg (S.length - (j + 1))
                          case measure => have := Hr.out.num; omega
                          case rel => exact ⟨j + 1, ⟨by go_num, by omega, rfl, H5.out.2, by_trans Hr.out.by_ H5.out.1 (fun x hx => .inr (by cases hx; exact hr0))⟩⟩
                      · obtain rfl : j = S.length := by omega
                        have hrd := Hr.out.rd
                        rw [List.drop_of_length_le (by rw [cuts_len]; exact Nat.le_refl _)] at hrd
                        have hrd2 : Rd wr r ⟨(rowsL ((nats M).drop 0) ++ []).toArray⟩ false := by rw [List.drop_zero, ← HRM.out, List.append_nil]; exact hrd
                        have H2 := Lib.hid (And.intro hrd2 Hr.out.by_)
                        clear hlt hle hrd hrd2 Hr
                        go_wp2_with fail
                        go_loopg [17] M.length (fun k i wr => ∃ j, C w r M.length k i wr j (rowsL ((nats M).drop j) ++ []))
                        case atStart => exact ⟨0, ⟨rfl, by omega, by omega, H2.out.1, H2.out.2⟩⟩
                        case round =>
                          clear H2
                          obtain ⟨j, hr⟩ := hrel
                          obtain rfl := hr.slot
                          have hle := hr.le
                          have Hr := Lib.hid hr
                          clear hr
                          by_cases hlt : j < M.length
                          · obtain ⟨X', cap', hA, _, hcell⟩ := HV.out.2.1
                            injection hA with hA1 hA2 hA3
                            subst hA1; subst hA3
                            obtain ⟨b, off, rfl, hb, hc⟩ := hcell (by omega)
                            have x0 := hc j hlt
                            obtain ⟨n, hn, hn2, hn3⟩ := nats_at HV.out.2.2.2.2.1 hlt
                            rw [hn] at x0
                            have x1 : wr.cell? ⟨b, off + j, none⟩ = some (.int .u64 (n : Int)) := Hr.out.by_.cell x0 (by simp)
                            have hz0 : (0 : Int) ≤ (j : Int) := by omega
                            have hz1 : (j : Int) < (M.length : Int) := by omega
                            have hbr : b ≠ r := by omega
                            have hR := rowsL_le ((nats M).drop (j + 1)) (fun q hq => nats_ok HV.out.2.2.2.2.1 q (List.mem_of_mem_drop hq))
                            have hR2 : ((nats M).drop (j + 1)).length ≤ 40 := by rw [List.length_drop, nats_len]; omega
                            have hT := HT.out
                            have hrd := Hr.out.rd
                            rw [drop_at' hn3, rowsL_cons, List.append_assoc] at hrd
                            have hlen : (rowsL ((nats M).drop (j + 1)) ++ []).length ≤ 1000000 := by simp only [List.length_append, List.length_nil]; omega
                            have Hn := Lib.hid (And.intro hn2 (And.intro hrd hlen))
                            clear hcell hc hb x0 hn hn2 hn3 hA2 hR hR2 hT hrd hlen
                            go_upto_region 32 with fail
                            go_cut [146] (fun q wx => q = .bool false ∧ wr.grownBy wx (some r) ∧ Rd wx r ⟨(rowsL ((nats M).drop (j + 1)) ++ []).toArray⟩ false)
                            case first =>
                              go_region_with (go_at_call 14; refine (num_step (Rd.by_ Hn.out.2.1 (by_drew (by_refl wr none))) Hn.out.1 Hn.out.2.2).mono ?_; rintro e w4 ⟨rfl, y4, R4⟩; (have c4 : w4.cell? ⟨b, off + j, none⟩ = some (.int .u64 (n : Int)) := y4.cell x1 (by simp; exact hbr)))
                              all_goals
                                have Hf := Lib.hid (And.intro y4 R4)
                                clear y4 R4
                                go_wp2_with fail
                                go_meet
                                exact ⟨rfl, by_trans (by_drew (by_refl wr (some r))) Hf.out.1 (fun x hx => .inl hx.symm), Hf.out.2⟩
                            case rest =>
                              obtain ⟨rfl, y5, R5⟩ := hcut
                              have H5 := Lib.hid (And.intro y5 R5)
                              clear y5 R5 x1
                              go_wp2
                              go_roundg (M.length - (j + 1))
                              case measure => have := Hr.out.num; omega
                              case rel => exact ⟨j + 1, ⟨by go_num, by omega, rfl, H5.out.2, by_trans Hr.out.by_ H5.out.1 (fun x hx => .inr (by cases hx; exact hr0))⟩⟩
                          · obtain rfl : j = M.length := by omega
                            have hrd := Hr.out.rd
                            rw [List.drop_of_length_le (by rw [nats_len]; exact Nat.le_refl _)] at hrd
                            have hrd3 : Rd wr r ⟨#[]⟩ false := hrd
                            have Hf := Lib.hid (And.intro Hr.out.by_ hrd3)
                            clear hlt hle hrd hrd3 Hr
                            go_wp2_with fail
                            refine (end_any wr r _ false Hf.out.2).mono ?_
                            rintro e w5 ⟨rfl, rfl⟩
                            go_wp2_with fail
                            refine (works_any _).mono ?_
                            rintro e w9 ⟨rfl, y9⟩
                            have H9 := Lib.hid (by_trans Hf.out.1 y9 (by simp))
                            clear y9
                            go_wp2
                            go_ret
                            exact ⟨rfl, H9.out⟩

set_option maxRecDepth 100000 in
theorem lifted (os : Os) (started : os.Started) (H : Type) (enc : TypeId × Value → H) :
    ReturnsInHanded {} Try.checked os 5 .any (Rows.wireBackSpec.pre6 enc Try.prog Try.f5 Rows.wireBackRow.domain false) (Rows.wireBackSpec.post enc Try.prog Try.f5 false true false false) := by
  refine returnsInHanded_of_change (C := Try.checked) own started (by kernel_rfl) Try.func5
    (ChangeSpec.witness6 (enc := enc) (C := Try.checked) false ⟨#[], #[.slice none 0 0, .slice none 0 0, .slice none 0 0], []⟩ 8 (by kernel_rfl) (by kernel_rfl) (by kernel_rfl) (by kernel_rfl)) ?_
  intro W base args ds gs before hval0 hW hcnd _
  have hval : ∀ (j : Nat) t v, Try.f5.params[j]? = some t → args[j]? = some v → Value.okWide Try.prog W .any base t v := hval0
  have hW' := hW
  obtain ⟨p, q, hA0, hV, rfl, hfz, hnd⟩ := hW
  have hA : DataW.TrodAll enc Try.prog W 0 (fun _ => true) true Try.f5.params.toList args.toList ds p := hA0
  rw [Try.params5] at hA hval
  obtain ⟨v0, vs0, d0, ds0, p0, q0, hargs, rfl, rfl, h0, r0⟩ := trodAll_cons hA
  obtain ⟨v1, vs1, d1, ds1, p1, q1, rfl, rfl, rfl, h1, r1⟩ := trodAll_cons r0
  obtain ⟨v2, vs2, d2, ds2, p2, q2, rfl, rfl, rfl, h2, r2⟩ := trodAll_cons r1
  obtain ⟨rfl, rfl, rfl⟩ := trodAll_nil r2
  obtain rfl : args = #[v0, v1, v2] := by cases args; simp_all
  obtain ⟨rfl, rfl⟩ := trodVars_none hV
  obtain ⟨l0, hl0, hm0, hn0⟩ := arg_nums Try.underlying22 Try.underlying25 (by kernel_rfl) (hval 0 22 v0 rfl rfl) h0
  obtain ⟨l1, hl1, hm1, hn1⟩ := arg_nums Try.underlying22 Try.underlying25 (by kernel_rfl) (hval 1 22 v1 rfl rfl) h1
  obtain ⟨l2, hl2, hm2, hn2⟩ := arg_strs Try.underlying23 Try.underlying9 (by kernel_rfl) (hval 2 23 v2 rfl rfl) h2
  refine (walk W v0 l0 hl0 hn0 hm0 v1 l1 hl1 hn1 hm1 v2 l2 hl2 hn2 hm2).mono fun e W' ⟨he, hg⟩ => ?_
  subst he
  exact ⟨_, rfl, law_post laidOut rfl hW' (by kernel_rfl) rfl Try.underlying4 rfl (below_of_by hg)⟩

theorem proved : Rows.WireBackSaid :=
  OpenClaim.holds_of_wide 5 Try.f5 rfl rfl rfl rfl rfl rfl rfl ⟨rfl, rfl, rfl, rfl, rfl⟩ rfl rfl rfl rfl rfl (by kernel_rfl) Try.func5 (by kernel_rfl)
    (of_decide_eq_true (by kernel_rfl)) (by unfold Func.isWrapper; first | (rw [if_pos (by decide +kernel)]; kernel_rfl) | (rw [if_neg (by decide +kernel)]; exact ⟨rfl, rfl⟩))
    (fun os started H enc _ => lifted os started H enc)
#print axioms proved
end wireBack
end Go.Proofs.Ytlnlpphhnbodpaa
