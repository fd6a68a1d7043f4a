/-
  LruLast: never more pairs than the capacity; what is got was put last (all inputs, no condition).
-/
import Derived.Test.YtgjklppmimhgnaaMoreLaw
namespace Go.Proofs.Ytgjklppmimhgnaa
open Go.ChangeShapes Go.WideShapes Go.ChangeAt Go.RowKit

theorem Acts.cut {w : World} {A : Option Addr} {n q c : Nat} {l : List Act3} (h : Acts w (.slice A n c) l) (hq : q ≤ l.length) : Acts w (.slice A q c) (l.take q) := by
  obtain ⟨A', c', h1, h2, h3⟩ := h
  injection h1 with e1 e2 e3
  subst e1; subst e3
  have hlen : (l.take q).length = q := by rw [List.length_take]; omega
  refine ⟨A, c, by rw [hlen], by rw [hlen]; omega, fun hp => ?_⟩
  rw [hlen] at hp
  obtain ⟨b, off, rfl, hb, hc⟩ := h3 (by omega)
  refine ⟨b, off, rfl, hb, fun i hi => ?_⟩
  rw [hlen] at hi
  obtain ⟨a1, a2, a3⟩ := hc i (by omega)
  simp only [List.getElem_take]
  exact ⟨a1, a2, a3⟩

/-- what a look answers -/
theorem GetV_cases (ps : PL) (k : Int) : ∃ x b, GetV ps k = .tuple #[.int .i64 x, .bool b] ∧ ((b = true ∧ look ps k = some x) ∨ (b = false ∧ x = 0 ∧ look ps k = none)) := by
  unfold GetV
  cases h : look ps k with
  | some x => exact ⟨x, true, rfl, .inl ⟨rfl, rfl⟩⟩
  | none => exact ⟨0, false, rfl, .inr ⟨rfl, rfl, rfl⟩⟩

namespace lruLast

structure Rel (w0 : World) (l : List Act3) (la n : Nat) (k : Nat) (i : Value) (wr : World) (j : Nat) : Prop where
  slot : i = .int .i64 j
  le : j ≤ l.length
  num : k = l.length - j
  one : One w0 wr la n (runL n l j)

/-- back from an act: jj of those ahead of it are still to be seen -/
structure In (w3 : World) (l : List Act3) (K : Int) (j : Nat) (m : Nat) (s10 s11 s12 : Value) (wr : World) (jj : Nat) (o : List Int) (kk pp : Int) : Prop where
  k_ : s12 = .int .i64 kk
  kk_ : kk = (jj : Int) - 1
  num : m = jj
  le : jj ≤ j
  put : s10 = .int .i64 pp
  own : wr.ownsRow w3.heap.size 3 1 s11 o.length (o.map (.int .i64))
  olen : o.length + jj ≤ j
  by_ : w3.grownBy wr none
  st : (pp = -1 ∧ scanL l K jj o = scanL l K j []) ∨ (∃ p : Nat, pp = (p : Int) ∧ p < j ∧ scanL l K j [] = (some p, o))

theorem scan_succ_same {l : List Act3} {K : Int} {d : Nat} {o : List Int} {v : Int} (h : actAt l d = (false, K, v)) : scanL l K (d + 1) o = (some d, o) := by
  conv => lhs; unfold scanL; rw [h]
  simp
theorem scan_succ_get {l : List Act3} {K : Int} {d : Nat} {o : List Int} {v : Int} (h : actAt l d = (true, K, v)) : scanL l K (d + 1) o = scanL l K d o := by
  conv => lhs; unfold scanL; rw [h]
  simp
theorem scan_succ_in {l : List Act3} {K k : Int} {d : Nat} {o : List Int} {g : Bool} {v : Int} (h : actAt l d = (g, k, v)) (hk : k ≠ K) (ho : k ∈ o) : scanL l K (d + 1) o = scanL l K d o := by
  conv => lhs; unfold scanL; rw [h]
  simp [hk, ho]
theorem scan_succ_new {l : List Act3} {K k : Int} {d : Nat} {o : List Int} {g : Bool} {v : Int} (h : actAt l d = (g, k, v)) (hk : k ≠ K) (ho : k ∉ o) : scanL l K (d + 1) o = scanL l K d (o ++ [k]) := by
  conv => lhs; unfold scanL; rw [h]
  simp [hk, ho]

set_option maxRecDepth 100000 in
set_option maxHeartbeats 4000000 in
theorem walk (w : World) (cap : Int) (wc : (Lit.int .u8 cap).wf = true) (v : Value) (l0 : List Act3) (hv0 : Acts w v l0) (hw0 : ∀ x ∈ l0, (Lit.int .i64 x.2.1).wf = true ∧ (Lit.int .i64 x.2.2).wf = true) (hl0 : l0.length ≤ maxLen) :
    Calls Try.prog 5 #[.int .u8 cap, v] w fun e w' => e = .returned (.bool true) ∧ w.grownBy w' none := by
  unfold maxLen at hl0
  obtain ⟨b10, b11⟩ : 0 ≤ cap ∧ cap ≤ 255 := bounds_u8 wc
  obtain ⟨n, hn⟩ : ∃ n : Nat, cap % 21 = (n : Int) := ⟨(cap % 21).toNat, by omega⟩
  have hn21 : n ≤ 20 := by omega
  obtain ⟨A, c, rfl, hcap, hx⟩ := hv0
  obtain ⟨q, hq⟩ : ∃ q, q = min l0.length 150 := ⟨_, rfl⟩
  have hq1 : q ≤ l0.length := by omega
  have hq2 : q ≤ 150 := by omega
  have hv : Acts w (.slice A q c) (l0.take q) := Acts.cut (n := l0.length) ⟨A, c, rfl, hcap, hx⟩ hq1
  obtain ⟨l, hl⟩ : ∃ l, l = l0.take q := ⟨_, rfl⟩
  have hlq : l.length = q := by rw [hl, List.length_take]; omega
  rw [← hl] at hv
  have hw : ∀ x ∈ l, (Lit.int .i64 x.2.1).wf = true ∧ (Lit.int .i64 x.2.2).wf = true := fun x hx => hw0 x (by rw [hl] at hx; exact List.mem_of_mem_take hx)
  have hqc : q ≤ c := by omega
  have hmin : min (l0.length : Int) 150 = (q : Int) := by omega
  have HV := Lib.hid (And.intro hv (And.intro hw hlq))
  have Hq := Lib.hid (And.intro hq2 hn21)
  clear hw0 hw hv hlq hl hx hq hq2 hn21 wc hq1 hcap
  go_enter Try.func5, Try.ntmps5
  go_wp2_with fail
  refine (new_one w w n (by_refl _ _)).mono ?_
  rintro e w3 ⟨la, rfl, S3⟩
  rw [show max (n : Int) 0 = (n : Int) by omega] at S3
  have H3 := Lib.hid S3
  clear S3 hn
  go_wp2_with fail
  clear hmin hqc hl0
  go_loopg [7] q (fun k i wr => ∃ j, Rel w l la n k i wr j)
  case atStart => exact ⟨0, rfl, by omega, by rw [HV.out.2.2]; omega, H3.out⟩
  case round =>
    clear H3
    obtain ⟨j, hr⟩ := hrel
    obtain rfl := hr.slot
    have hle := hr.le
    rw [HV.out.2.2] at hle
    have Hr := Lib.hid hr
    clear hr
    by_cases h1 : j < q
    · obtain ⟨A', cap', hA, _, hcell⟩ := HV.out.1
      injection hA with hA1 hA2 hA3
      subst hA1; subst hA3
      obtain ⟨b, off, rfl, hb, hc⟩ := hcell (by rw [HV.out.2.2]; omega)
      have hjl : j < l.length := by rw [HV.out.2.2]; exact h1
      have cells : ∀ d, d < l.length → ∃ g k u, actAt l d = (g, k, u) ∧ w.cell? ⟨b, off + d * 3, none⟩ = some (.bool g) ∧ w.cell? ⟨b, off + d * 3 + 1, none⟩ = some (.int .i64 k) ∧ w.cell? ⟨b, off + d * 3 + 2, none⟩ = some (.int .i64 u) ∧ (Lit.int .i64 k).wf = true := by
        intro d hd
        obtain ⟨x0, x1, x2⟩ := hc d hd
        exact ⟨l[d].1, l[d].2.1, l[d].2.2, by rw [actAt_lt hd], x0, x1, x2, (HV.out.2.1 l[d] (List.getElem_mem hd)).1⟩
      have HC := Lib.hid cells
      obtain ⟨isg, K, u, hact, x0, x1, x2, hwf⟩ := cells j hjl
      have hlt' : (j : Int) < (q : Int) := by omega
      have hz0 : (0 : Int) ≤ (j : Int) := by omega
      have hj150 : (j : Int) ≤ 150 := by have := Hq.out.1; omega
      have hlen := runL_len n l j
      have HH := Lib.hid (And.intro hwf (And.intro hact (And.intro (runL_fine n l j) (And.intro (runL_fine n l (j + 1)) (show (runL n l j).length < 1000000 by omega)))))
      have HX := Lib.hid (And.intro x0 (And.intro x1 x2))
      have Hj := Lib.hid hjl
      clear hcell hc hb hA2 hact hwf x0 x1 x2 hlen cells hjl
      have z0 : wr.cell? ⟨b, off + j * 3, none⟩ = some (.bool isg) := Hr.out.one.by_.cell HX.out.1 (by simp)
      have z1 : wr.cell? ⟨b, off + j * 3 + 1, none⟩ = some (.int .i64 K) := Hr.out.one.by_.cell HX.out.2.1 (by simp)
      have z2 : wr.cell? ⟨b, off + j * 3 + 2, none⟩ = some (.int .i64 u) := Hr.out.one.by_.cell HX.out.2.2 (by simp)
      cases isg with
      | false =>
        go_wp2_with fail
        go_still_tail 11, (by kernel_rfl)
        change wpList _ _ _ _ _ wr.drew
        have H0 := Lib.hid (Hr.out.one.by_none (by_drew (by_refl wr none)))
        clear z0 z1 z2
        generalize wr.drew = wq at *
        go_wp2_with fail
        refine (H0.out.put HH.out.1 HH.out.2.2.2.2).mono ?_
        rintro e w5 ⟨rfl, S5⟩
        rw [← runL_put HH.out.2.1] at S5
        have H5 := Lib.hid S5
        clear S5
        go_wp2_with fail
        refine (H5.out.len).mono ?_
        rintro e w6 ⟨rfl, rfl⟩
        have hlen : (runL n l (j + 1)).length ≤ n := HH.out.2.2.2.1.len
        have hlen2 : ¬ (n : Int) < ((runL n l (j + 1)).length : Int) := by omega
        generalize (runL n l (j + 1)).length = q9 at *
        go_wp2_with fail
        go_roundg (q - (j + 1))
        case measure => have := Hr.out.num; rw [HV.out.2.2] at this; omega
        case rel => exact ⟨j + 1, by go_num, Hj.out, by rw [HV.out.2.2], H5.out⟩
      | true =>
        go_wp2_with fail
        refine (Hr.out.one.get HH.out.1).mono ?_
        rintro e w4 ⟨rfl, S4⟩
        obtain ⟨x, bx, hx, hbx⟩ := GetV_cases (runL n l j) K
        rw [← runL_get HH.out.2.1] at S4
        have H4 := Lib.hid (And.intro S4 (And.intro hbx (last_inv n l j K)))
        rw [hx]
        clear S4 hx hbx z0 z1 z2
        go_wp2_with fail
        have hO := World.ownsRow_nil w4 w4.heap.size 3 1
        have HO := Lib.hid hO
        clear hO
        go_loopg [10, 11, 12] j (fun m s10 s11 s12 wr2 => ∃ jj o kk pp, In w4 l K j m s10 s11 s12 wr2 jj o kk pp)
        case atStart => exact ⟨j, [], (j : Int) - 1, -1, rfl, rfl, rfl, Nat.le_refl _, rfl, HO.out, by simp, by_refl _ _, .inl ⟨rfl, rfl⟩⟩
        case round =>
          clear HO
          obtain ⟨jj, o, kk, pp, hi⟩ := hrel
          obtain rfl := hi.k_
          obtain rfl := hi.put
          have hkk := hi.kk_
          have hjle := hi.le
          rcases hi.st with ⟨hpp, hsc⟩ | ⟨p, hpp, hpj, hsc⟩
          · cases jj with
            | zero =>
              have hk1 : kk = -1 := by omega
              subst hk1
              subst hpp
              have hs : scanL l K j [] = (none, o) := by rw [← hsc]; rfl
              have hL := H4.out.2.2
              unfold LastInv at hL
              rw [hs] at hL
              simp only at hL
              have hbf : bx = false ∧ x = 0 := by
                rcases H4.out.2.1 with ⟨_, h⟩ | ⟨h1, h2, _⟩
                · rw [hL] at h; cases h
                · exact ⟨h1, h2⟩
              obtain ⟨rfl, rfl⟩ := hbf
              have Hi := Lib.hid hi
              clear hi hsc hs hL hkk
              go_wp2_with fail
              go_roundg (q - (j + 1))
              case measure => have := Hr.out.num; rw [HV.out.2.2] at this; omega
              case rel => exact ⟨j + 1, by go_num, Hj.out, by rw [HV.out.2.2], H4.out.1.by_none Hi.out.by_⟩
            | succ d =>
              have hk1 : kk = (d : Int) := by omega
              subst hk1
              subst hpp
              obtain ⟨g', k', u', hact', y0, y1, y2, _⟩ := HC.out d (by have := Hj.out; omega)
              have hby := by_trans H4.out.1.by_ hi.by_ (by simp)
              have t0 : wr.cell? ⟨b, off + d * 3, none⟩ = some (.bool g') := hby.cell y0 (by simp)
              have t1 : wr.cell? ⟨b, off + d * 3 + 1, none⟩ = some (.int .i64 k') := hby.cell y1 (by simp)
              have s1 : wr.cell? ⟨b, off + j * 3 + 1, none⟩ = some (.int .i64 K) := hby.cell HX.out.2.1 (by simp)
              have hd0 : (0 : Int) ≤ (d : Int) := by omega
              have hdq : (d : Int) < (q : Int) := by omega
              have hd1 : (d : Int) ≤ 1000 := by omega
              have hdj : d < j := by omega
              have Hi := Lib.hid (And.intro hi (And.intro hsc (And.intro hact' hby)))
              clear hi hsc hact' hby y0 y1 y2 hkk hjle
              by_cases hkK : k' = K
              · subst hkK
                cases g' with
                | false =>
                  go_wp2_with fail
                  go_quiet (fail)
                  go_wp2_with fail
                  go_roundg d
                  case measure => have := Hi.out.1.num; omega
                  case rel =>
                    obtain ⟨hi, hsc, hact', hby⟩ := Hi.out
                    exact ⟨d, o, (d : Int) - 1, (d : Int), rfl, rfl, rfl, by omega, rfl, own_drewN hi.own nq, by have := hi.olen; omega, by_drewN hi.by_ nq, .inr ⟨d, rfl, hdj, by rw [← hsc, scan_succ_same hact']⟩⟩
                | true =>
                  go_wp2_with fail
                  go_quiet (fail)
                  have t1' : (wr.drewN nq).cell? ⟨b, off + d * 3 + 1, none⟩ = some (.int .i64 k') := t1
                  have s1' : (wr.drewN nq).cell? ⟨b, off + j * 3 + 1, none⟩ = some (.int .i64 k') := s1
                  have Ho := Lib.hid (And.intro (own_drewN Hi.out.1.own nq) (by_drewN Hi.out.1.by_ nq))
                  generalize wr.drewN nq = wz at *
                  go_wp2_with fail
                  go_quiet (fail)
                  go_wp2_with fail
                  go_roundg d
                  case measure => have := Hi.out.1.num; omega
                  case rel =>
                    obtain ⟨hi, hsc, hact', hby⟩ := Hi.out
                    exact ⟨d, o, (d : Int) - 1, -1, rfl, rfl, rfl, by omega, rfl, own_drewN Ho.out.1 _, by have := hi.olen; omega, by_drewN Ho.out.2 _, .inl ⟨rfl, by rw [← hsc, scan_succ_get hact']⟩⟩
              · go_wp2_with fail
                go_quiet (fail)
                have t1' : (wr.drewN nq).cell? ⟨b, off + d * 3 + 1, none⟩ = some (.int .i64 k') := t1
                have s1' : (wr.drewN nq).cell? ⟨b, off + j * 3 + 1, none⟩ = some (.int .i64 K) := s1
                have Ho := Lib.hid (And.intro (own_drewN Hi.out.1.own nq) (by_drewN Hi.out.1.by_ nq))
                generalize wr.drewN nq = wz at *
                clear t0 t1 s1
                have Hnums := Lib.hid (And.intro (Nums.of_own (k := .i64) (l := o) Ho.out.1) (show o.length ≤ 1000 by have := Hi.out.1.olen; omega))
                by_cases ho : k' ∈ o
                · have hdec : decide (k' ∈ o) = true := by simpa using ho
                  go_wp2_with fail
                  go_quiet ((go_at_call 28; exact Calls.quiet_of_same ((has_any _ o k' _ (Hnums.out.1.drewN _) (by have := Hnums.out.2; omega)).mono fun _ _ ⟨a, b⟩ => ⟨a, b.symm⟩)))
                  go_wp2_with fail
                  go_roundg d
                  case measure => have := Hi.out.1.num; omega
                  case rel =>
                    obtain ⟨hi, hsc, hact', hby⟩ := Hi.out
                    exact ⟨d, o, (d : Int) - 1, -1, rfl, rfl, rfl, by omega, rfl, own_drewN Ho.out.1 _, by have := hi.olen; omega, by_drewN Ho.out.2 _, .inl ⟨rfl, by rw [← hsc, scan_succ_in hact' hkK ho]⟩⟩
                · have hdec : decide (k' ∈ o) = false := by simpa using ho
                  go_wp2_with fail
                  go_quiet ((go_at_call 28; exact Calls.quiet_of_same ((has_any _ o k' _ (Hnums.out.1.drewN _) (by have := Hnums.out.2; omega)).mono fun _ _ ⟨a, b⟩ => ⟨a, b.symm⟩)))
                  have t2 : (wz.drewN nq).cell? ⟨b, off + d * 3 + 1, none⟩ = some (.int .i64 k') := t1'
                  have Ho2 := Lib.hid (And.intro (own_drewN Ho.out.1 nq) (by_drewN Ho.out.2 nq))
                  generalize wz.drewN nq = wy at *
                  clear t1' s1' Hnums
                  obtain ⟨i0, hi0, hz1, hz2, hz3⟩ := info_parts infoI
                  have hown2 := Ho2.out.1
                  have hol := Hi.out.1.olen
                  have hbase := Ho2.out.2.size
                  go_wp2_with (at_builtin; refine wpList_append_own _ rfl _ _ 32 rfl (w4.heap.size) 3 i0 (.int .i64 0) 1 8 Try.underlying32 hi0 hz1 hz2 hz3 rfl (by decide) _ _ _ rfl (hown2.alloc _) ⟨wy.heap.size, 0, none⟩ 1 1 [.int .i64 k'] rfl rfl ?c1 ?c2 ?c3 ?c4 ?c5 ?_)
                  case c1 => exact cell_one_new _ _ _
                  case c2 => simp [Value.oneCell']
                  case c3 => unfold maxLen; omega
                  case c4 => omega
                  case c5 => simp; omega
                  intro v' wx hown3 hby3 _
                  have H5 := Lib.hid (And.intro hown3 hby3)
                  clear hown3 hby3
                  go_wp2_with fail
                  go_roundg d
                  case measure => have := Hi.out.1.num; omega
                  case rel =>
                    obtain ⟨hi, hsc, hact', hby⟩ := Hi.out
                    obtain ⟨hown3, hby3⟩ := H5.out
                    have h5 := World.ownsRow.lt hown2
                    exact ⟨d, o ++ [k'], (d : Int) - 1, -1, rfl, rfl, rfl, by omega, rfl, by simpa using hown3, by simp; omega, by_trans (by_alloc Ho2.out.2 _) hby3 (fun x hx => .inr (h5 x hx).1), .inl ⟨rfl, by rw [← hsc, scan_succ_new hact' hkK ho]⟩⟩
          · subst hpp
            have hL := H4.out.2.2
            unfold LastInv at hL
            rw [hsc] at hL
            simp only at hL
            obtain ⟨A11, c11, rfl, _⟩ := own_slice hi.own
            obtain ⟨g', k', u', hact', _, _, y2, _⟩ := HC.out p (by have := Hj.out; omega)
            have hby := by_trans H4.out.1.by_ hi.by_ (by simp)
            have t2 : wr.cell? ⟨b, off + p * 3 + 2, none⟩ = some (.int .i64 u') := hby.cell y2 (by simp)
            have hp0 : (0 : Int) ≤ (p : Int) := by omega
            have hpq : (p : Int) < (q : Int) := by omega
            have hp1 : (p : Int) ≤ 1000 := by omega
            have hkr : (kk = -1 ∨ 0 ≤ kk) := by omega
            have hk1000 : kk ≤ 1000 := by omega
            have Hf := Lib.hid (H4.out.1.by_none hi.by_)
            have hend : (bx = true ∧ x = u') ∨ (bx = false ∧ x = 0 ∧ n ≤ o.length) := by
              rcases hL with ⟨pre, post, e, _⟩ | ⟨h1, h2⟩
              · have hkey := (runL_fine n l j).keys
                rw [e] at hkey
                have hlk := (look_at hkey).1
                rw [← e, hact'] at hlk
                rcases H4.out.2.1 with ⟨hb1, h⟩ | ⟨_, _, h⟩
                · rw [hlk] at h
                  injection h with h
                  exact .inl ⟨hb1, h.symm⟩
                · rw [hlk] at h; cases h
              · rcases H4.out.2.1 with ⟨_, h⟩ | ⟨hb1, hb2, _⟩
                · rw [h1] at h; cases h
                · exact .inr ⟨hb1, hb2, h2⟩
            have Hend := Lib.hid hend
            clear hL hi hsc hact' y2 hby hend hkk hpj
            generalize o.length = ol at *
            rcases Hend.out with ⟨rfl, rfl⟩ | ⟨rfl, rfl, hno⟩
            · rcases hkr with rfl | hkr
              all_goals
                go_wp2_with fail
                go_roundg (q - (j + 1))
                case measure => have := Hr.out.num; rw [HV.out.2.2] at this; omega
                case rel => exact ⟨j + 1, by go_num, Hj.out, by rw [HV.out.2.2], Hf.out⟩
            · have hnl : decide (ol < n) = false := by simpa using hno
              have hnl2 : ¬ (ol : Int) < (n : Int) := by omega
              rcases hkr with rfl | hkr
              all_goals
                go_wp2_with fail
                go_roundg (q - (j + 1))
                case measure => have := Hr.out.num; rw [HV.out.2.2] at this; omega
                case rel => exact ⟨j + 1, by go_num, Hj.out, by rw [HV.out.2.2], Hf.out⟩
    · have hlen : (runL n l j).length ≤ n := (runL_fine n l j).len
      have S0 := Lib.hid Hr.out.one
      have hlen2 : ((runL n l j).length : Int) ≤ (n : Int) := by omega
      generalize runL n l j = ps at *
      go_wp2_with fail
      refine (S0.out.len).mono ?_
      rintro e w6 ⟨rfl, rfl⟩
      generalize ps.length = q9 at *
      go_wp2_with fail
      refine (works_any _).mono ?_
      rintro e w7 ⟨rfl, y7⟩
      have Hf := Lib.hid (by_trans S0.out.by_ y7 (by simp))
      clear y7
      go_wp2
      go_ret
      exact ⟨rfl, Hf.out⟩

set_option maxRecDepth 100000 in
theorem lifted (os : Os) (started : os.Started) (H : Type) (enc : TypeId × Value → H) :
    ReturnsInHanded {} Try.checked os 5 .any (Rows.lruLastSpec.pre6 enc Try.prog Try.f5 Rows.lruLastRow.domain false) (Rows.lruLastSpec.post enc Try.prog Try.f5 false true false false) := by
  refine returnsInHanded_of_change (C := Try.checked) own started (by kernel_rfl) Try.func5
    (ChangeSpec.witness6 (enc := enc) (C := Try.checked) false ⟨#[], #[.int .u8 0, .slice none 0 0], []⟩ 8 (by kernel_rfl) (by kernel_rfl) (by kernel_rfl) (by kernel_rfl)) ?_
  intro W base args ds gs before hval0 hW hcnd _
  have hval : ∀ (j : Nat) t v, Try.f5.params[j]? = some t → args[j]? = some v → Value.okWide Try.prog W .any base t v := hval0
  have hW' := hW
  obtain ⟨p, q, hA0, hV, rfl, hfz, hnd⟩ := hW
  have hA : DataW.TrodAll enc Try.prog W 0 (fun _ => true) true Try.f5.params.toList args.toList ds p := hA0
  rw [Try.params5] at hA hval
  obtain ⟨v0, vs0, d0, ds0, p0, q0, hargs, rfl, rfl, h0, r0⟩ := trodAll_cons hA
  obtain ⟨v1, vs1, d1, ds1, p1, q1, rfl, rfl, rfl, h1, r1⟩ := trodAll_cons r0
  obtain ⟨rfl, rfl, rfl⟩ := trodAll_nil r1
  obtain rfl : args = #[v0, v1] := by cases args; simp_all
  obtain ⟨rfl, rfl⟩ := trodVars_none hV
  obtain ⟨a0, rfl, rfl, rfl, w0⟩ := open_int Try.underlying5 (hval 0 5 v0 rfl rfl) h0
  obtain ⟨l1, hl1, hm1, hn1⟩ := arg_acts (hval 1 22 v1 rfl rfl) h1
  refine (walk W a0 w0 v1 l1 hl1 hm1 hn1).mono fun e W' ⟨he, hg⟩ => ?_
  subst he
  exact ⟨_, rfl, law_post laidOut rfl hW' (by kernel_rfl) rfl Try.underlying4 rfl (below_of_by hg)⟩

theorem proved : Rows.LruLastSaid :=
  OpenClaim.holds_of_wide 5 Try.f5 rfl rfl rfl rfl rfl rfl rfl ⟨rfl, rfl, rfl, rfl, rfl⟩ rfl rfl rfl rfl rfl (by kernel_rfl) Try.func5 (by kernel_rfl)
    (of_decide_eq_true (by kernel_rfl)) (by unfold Func.isWrapper; first | (rw [if_pos (by decide +kernel)]; kernel_rfl) | (rw [if_neg (by decide +kernel)]; exact ⟨rfl, rfl⟩))
    (fun os started H enc _ => lifted os started H enc)
#print axioms proved
end lruLast
end Go.Proofs.Ytgjklppmimhgnaa
