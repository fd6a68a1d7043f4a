/-
  LruKinds: keys of other kinds are told apart, and values of other kinds kept, as numbers are (all inputs, no condition).
-/
import Derived.Test.YtgjklppmimhgnaaKinds
import Derived.Test.YtgjklppmimhgnaaPlaysLaw
namespace Go.Proofs.Ytgjklppmimhgnaa
open Go.ChangeShapes Go.WideShapes Go.ChangeAt Go.RowKit
namespace lruKinds
open kinds

def kk (k : Int) : Int := if k.tmod 1000 < 0 then - k.tmod 1000 else k.tmod 1000
theorem tmod_bd (k m : Int) (hm : 0 < m) : -m < k.tmod m ∧ k.tmod m < m := by
  constructor
  · have := Int.lt_tmod_of_pos k hm; exact this
  · exact Int.tmod_lt_of_pos k hm
theorem kk_ok (k : Int) : 0 ≤ kk k ∧ kk k < 1000 := by
  have := tmod_bd k 1000 (by omega)
  unfold kk
  split <;> omega
def turned (l : List Act3) : List Act3 := l.map fun x => (x.1, kk x.2.1, x.2.2)

/-- both Lrus and the reference, hanging together -/
def All (w0 w : World) (la lb g n : Nat) (pc : PL) : Prop := ∃ pu pb, St w0 w la lb g n pu pb pc ∧ Inv n pu pb pc

theorem all_new (w0 w1 w2 w3 : World) (la lb g n : Nat) (h1 : iStrInts.NewQ w0 n (.returned (.pointer (some ⟨la, 0, none⟩))) w1) (h2 : iKeyStr.NewQ w1 n (.returned (.pointer (some ⟨lb, 0, none⟩))) w2)
    (h3 : RefAt w3 g n []) (h4 : w2.grownBy w3 none) (h5 : w2.heap.size ≤ g) : All w0 w3 la lb g n [] := by
  obtain ⟨la', oa, e1, a1, a2, a3⟩ := h1
  obtain ⟨lb', ob, e2, b1, b2, b3⟩ := h2
  injection e1 with e1; injection e1 with e1; injection e1 with e1; injection e1 with e1
  injection e2 with e2; injection e2 with e2; injection e2 with e2; injection e2 with e2
  subst e1; subst e2
  refine ⟨[], [], ⟨oa, ob, [], ⟨(a1.by_none b2).by_none h4, trivial, b1.by_none h4, h3, ?_, by_trans (by_trans a2 b2 (by simp)) h4 (by simp), a3, ?_, ?_⟩⟩, Inv.start n⟩
  · intro x hx hx2
    have := a1.lt x hx
    have := b3 x hx2
    omega
  · intro x hx
    have := a2.size
    have := b3 x hx
    omega
  · have := a2.size
    have := b2.size
    omega

theorem All.by_ {w0 w : World} {la lb g n : Nat} {pc : PL} (h : All w0 w la lb g n pc) : w0.grownBy w none := by obtain ⟨_, _, h, _⟩ := h; exact h.by_
theorem All.by_none {w0 w w' : World} {la lb g n : Nat} {pc : PL} (h : All w0 w la lb g n pc) (hg : w.grownBy w' none) : All w0 w' la lb g n pc := by
  obtain ⟨pu, pb, h, hi⟩ := h
  exact ⟨pu, pb, h.by_none hg, hi⟩

structure Rel (w0 : World) (l : List Act3) (la lb g n : Nat) (k : Nat) (i : Value) (wr : World) (j : Nat) : Prop where
  slot : i = .int .i64 j
  le : j ≤ l.length
  le2 : j ≤ 100
  num : k = l.length - j
  all : All w0 wr la lb g n (runL n (turned l) j)

set_option maxRecDepth 100000 in
set_option maxHeartbeats 2000000 in
theorem walk (w : World) (cap : Int) (_wc : (Lit.int .i64 cap).wf = true) (v : Value) (l : List Act3) (hv : Acts w v l) (hw : ∀ x ∈ l, (Lit.int .i64 x.2.1).wf = true ∧ (Lit.int .i64 x.2.2).wf = true) (hl : l.length ≤ maxLen) :
    Calls Try.prog 4 #[.int .i64 cap, v] w fun e w' => e = .returned (.bool true) ∧ w.grownBy w' none := by
  unfold maxLen at hl
  have HV := Lib.hid (And.intro hv hw)
  obtain ⟨A, c, rfl, hcap, _⟩ := hv
  obtain ⟨n, hn⟩ : ∃ n : Nat, max cap 0 = (n : Int) := ⟨(max cap 0).toNat, by omega⟩
  have Hn := Lib.hid hn
  clear hw hn
  go_enter Try.func4, Try.ntmps4
  go_wp2_with fail
  refine (iStrInts.new_any w cap).mono ?_
  intro e w1 hq1
  rw [Hn.out] at hq1
  have hq1' := hq1
  obtain ⟨la, _, rfl, _⟩ := hq1'
  have H1 := Lib.hid hq1
  clear hq1
  go_wp2_with fail
  refine (iKeyStr.new_any w1 cap).mono ?_
  intro e w2 hq2
  rw [Hn.out] at hq2
  have hq2' := hq2
  obtain ⟨lb, _, rfl, _⟩ := hq2'
  have H2 := Lib.hid hq2
  clear hq2
  go_wp2_with fail
  refine (rnew_any w2 cap).mono ?_
  rintro e w3 ⟨g, rfl, k1, k2, k3⟩
  rw [Hn.out] at k1
  have H3 := Lib.hid (all_new w w1 w2 w3 la lb g n H1.out H2.out k1 k2 k3)
  clear H1 H2 k1 k2 k3
  go_wp2_with fail
  go_loopg [9] l.length (fun k i wr => ∃ j, Rel w l la lb g n k i wr j)
  case atStart => exact ⟨0, rfl, by omega, by omega, by omega, H3.out⟩
  case round =>
    clear H3
    obtain ⟨j, hr⟩ := hrel
    obtain rfl := hr.slot
    have hle := hr.le
    have hle2 := hr.le2
    have Hr := Lib.hid hr
    clear hr
    by_cases h1 : j < l.length
    · by_cases h2 : j < 100
      · obtain ⟨A', cap', hA, _, hcell⟩ := HV.out.1
        injection hA with hA1 hA2 hA3
        subst hA1; subst hA3
        obtain ⟨b, off, rfl, hb, hc⟩ := hcell (by omega)
        obtain ⟨x0, x1, x2⟩ := hc j h1
        obtain ⟨isg, k, u, hact⟩ : ∃ isg k u, l[j] = (isg, k, u) := ⟨_, _, _, rfl⟩
        rw [hact] at x0 x1 x2
        have hwf := HV.out.2 l[j] (List.getElem_mem h1)
        rw [hact] at hwf
        have hact2 : actAt (turned l) j = (isg, kk k, u) := by
          have hlt : j < (turned l).length := by simp [turned, h1]
          rw [actAt_lt hlt]
          simp [turned, hact]
        have hlt' : (j : Int) < (l.length : Int) := by omega
        have hz0 : (0 : Int) ≤ (j : Int) := by omega
        have hfine := runL_fine n (turned l) j
        have hlen := runL_len n (turned l) j
        have HH := Lib.hid (And.intro hwf (And.intro hact2 (And.intro hfine (show (runL n (turned l) j).length < 1000000 by omega))))
        have HX := Lib.hid (And.intro x0 (And.intro x1 x2))
        clear hcell hc hb hA2 hact hwf hact2 x0 x1 x2 hlen hfine
        dsimp only at HX
        have z1 : wr.cell? ⟨b, off + j * 3 + 1, none⟩ = some (.int .i64 k) := Hr.out.all.by_.cell HX.out.2.1 (by simp)
        have z0 : wr.cell? ⟨b, off + j * 3, none⟩ = some (.bool isg) := Hr.out.all.by_.cell HX.out.1 (by simp)
        obtain ⟨hs1, hs2⟩ := tmod_bd k 1000 (by omega)
        have hkk : kk k = if k.tmod 1000 < 0 then - k.tmod 1000 else k.tmod 1000 := rfl
        generalize hs : k.tmod 1000 = s at hkk hs1 hs2
        have Hkk := Lib.hid hkk
        clear hkk
        go_upto_if 46 with fail
        go_cut [10] (fun s10 wx => s10 = .int .i64 (kk k) ∧ wr = wx)
        case first =>
          by_cases hneg : s < 0
          · have e : kk k = -s := by rw [Hkk.out, if_pos hneg]
            have He := Lib.hid e
            clear e
            go_wp2_with fail
            go_meet
            exact ⟨by rw [He.out], rfl⟩
          · have e : kk k = s := by rw [Hkk.out, if_neg hneg]
            have He := Lib.hid e
            clear e
            go_wp2_with fail
            go_meet
            exact ⟨by rw [He.out], rfl⟩
        case rest =>
          obtain ⟨rfl, rfl⟩ := hcut
          obtain ⟨hk0, hk1⟩ := kk_ok k
          obtain ⟨ht1, ht2⟩ := tmod_bd u 500 (by omega)
          obtain ⟨t, ht⟩ : ∃ t, u.tmod 500 = t := ⟨_, rfl⟩
          rw [ht] at ht1 ht2
          obtain ⟨q, hq⟩ : ∃ q, kk k = q := ⟨_, rfl⟩
          rw [hq] at hk0 hk1
          have Hq := Lib.hid (And.intro hq ht)
          rw [hq]
          clear hq z1 hs Hkk hs1 hs2
          obtain ⟨pu, pb, S0, I0⟩ := Hr.out.all
          have z2 : wr.cell? ⟨b, off + j * 3 + 2, none⟩ = some (.int .i64 u) := Hr.out.all.by_.cell HX.out.2.2 (by simp)
          have hlenU : pu.length < 1000000 := by have := I0.a.len; have := HH.out.2.2.2; omega
          have hlenB : pb.length < 1000000 := by have := I0.b.len; have := HH.out.2.2.2; omega
          have HS := Lib.hid (And.intro S0 (And.intro I0 (And.intro hlenU (And.intro hlenB (And.intro hk0 hk1)))))
          clear S0 I0 hlenU hlenB
          cases isg with
          | false =>
            go_wp2_with fail
            clear z0
            go_upto_region 12 with fail
            go_cut [] (fun wx => St w wx la lb g n (gput n pu (nm q) u) pb (runL n (turned l) j))
            case first =>
              go_region_with (first
                | (go_at_call 21; refine (name_any _ q HS.out.2.2.2.2.1 HS.out.2.2.2.2.2).mono ?_; rintro e w4 ⟨rfl, y4⟩; (have z4 : w4.cell? ⟨b, off + j * 3 + 2, none⟩ = some (.int .i64 u) := by first | exact (by_trans (by_drew HS.out.1.by_) y4 (by simp)).cell HX.out.2.2 (by simp) | exact (by_trans (by_drew (by_alloc HS.out.1.by_ _)) y4 (by simp)).cell HX.out.2.2 (by simp)))
                | (go_at_call 22; refine (St.putA (HS.out.1.by_none (by_alloc (by_trans (by_drew (by_refl wr none)) y4 (by simp)) _)) (show iStrInts.WfI (nm q) from by unfold iStrInts.WfI; rw [nm_size]; decide) HS.out.2.2.1 (Blk.new _ _ _)).mono ?_; rintro e w5 ⟨rfl, S5⟩)
                | (go_at_call 22; refine (St.putA (HS.out.1.by_none (by_trans (by_drew (by_alloc (by_refl wr none) _)) y4 (by simp))) (show iStrInts.WfI (nm q) from by unfold iStrInts.WfI; rw [nm_size]; decide) HS.out.2.2.1 ((Blk.new wr 3 #[.int .i64 u]).drew.grown y4 (by simp))).mono ?_; rintro e w5 ⟨rfl, S5⟩))
              all_goals
                have Hf := Lib.hid S5
                clear S5
                go_wp2_with fail
                go_meet
                exact Hf.out
            case rest =>
              have hw1 : -499 ≤ t := by omega
              have hw2 : t ≤ 499 := by omega
              have z2 : wc.cell? ⟨b, off + j * 3 + 2, none⟩ = some (.int .i64 u) := hcut.by_.cell HX.out.2.2 (by simp)
              have ht := Hq.out.2
              have HC := Lib.hid hcut
              clear hcut
              go_wp2_with fail
              refine (name_any _ (t + 500) (by omega) (by omega)).mono ?_
              rintro e w4 ⟨rfl, y4⟩
              have z4 : w4.cell? ⟨b, off + j * 3 + 2, none⟩ = some (.int .i64 u) := y4.cell z2 (by simp)
              have H4 := Lib.hid (HC.out.by_none y4)
              clear y4 z2
              go_wp2_with fail
              refine (St.putB (k := (⟨#[107, 101, 121]⟩, q)) (v := nm (t + 500)) H4.out (show iKeyStr.WfI (⟨#[107, 101, 121]⟩, q) from ⟨by show (⟨#[107, 101, 121]⟩ : ByteArray).size ≤ maxLen; decide, WalkArith.wf_i64 (by have := HS.out.2.2.2.2; omega)⟩) HS.out.2.2.2.1).mono ?_
              rintro e w5 ⟨rfl, S5⟩
              have z5 : w5.cell? ⟨b, off + j * 3 + 2, none⟩ = some (.int .i64 u) := S5.by_.cell HX.out.2.2 (by simp)
              have H5 := Lib.hid S5
              clear S5 z4
              go_wp2_with fail
              refine (St.putC (k := q) (v := u) H5.out HH.out.2.2.1.keys HH.out.2.2.2 (by have := HH.out.2.2.1.len; omega)).mono ?_
              rintro e w6 ⟨rfl, S6⟩
              have I6 := HS.out.2.1.put (k := q) ⟨HS.out.2.2.2.2.1, HS.out.2.2.2.2.2⟩ u
              have hact3 : actAt (turned l) j = (false, q, u) := by rw [HH.out.2.1, Hq.out.1]
              rw [← runL_put hact3] at S6 I6
              rw [Hq.out.2] at I6
              have H6 : Hid (All w w6 la lb g n (runL n (turned l) (j + 1))) := Lib.hid ⟨_, _, S6, I6⟩
              clear S6 I6 hact3 z5
              go_wp2
              go_roundg (l.length - (j + 1))
              case measure => have := Hr.out.num; omega
              case rel => exact ⟨j + 1, by go_num, by omega, by omega, rfl, H6.out⟩
          | true =>
            clear z2
            go_wp2_with fail
            refine (name_any _ q HS.out.2.2.2.2.1 HS.out.2.2.2.2.2).mono ?_
            rintro e w4 ⟨rfl, y4⟩
            have H4 := Lib.hid (HS.out.1.by_none y4)
            clear y4
            go_wp2_with fail
            refine (St.getA H4.out (show iStrInts.WfI (nm q) from by unfold iStrInts.WfI; rw [nm_size]; decide)).mono ?_
            rintro e w5 ⟨V, bA, rfl, hA, S5⟩
            rw [HS.out.2.1.lookA ⟨HS.out.2.2.2.2.1, HS.out.2.2.2.2.2⟩] at hA
            have H5 := Lib.hid (And.intro S5 hA)
            clear S5 hA
            go_wp2_with fail
            refine (St.getB (k := (⟨#[107, 101, 121]⟩, q)) H5.out.1 (show iKeyStr.WfI (⟨#[107, 101, 121]⟩, q) from ⟨by show (⟨#[107, 101, 121]⟩ : ByteArray).size ≤ maxLen; decide, WalkArith.wf_i64 (by have := HS.out.2.2.2.2; omega)⟩)).mono ?_
            intro e w6 hq6
            have hact3 : actAt (turned l) j = (true, q, u) := by rw [HH.out.2.1, Hq.out.1]
            have I6 := HS.out.2.1.got (k := q) ⟨HS.out.2.2.2.2.1, HS.out.2.2.2.2.2⟩
            rw [← runL_get hact3] at I6
            rw [HS.out.2.1.lookB] at hq6
            cases hlk : look (runL n (turned l) j) q with
            | some x9 =>
              rw [hlk] at hq6
              obtain ⟨rfl, S6, K6⟩ := hq6
              have hG : GetV (runL n (turned l) j) q = .tuple #[.int .i64 x9, .bool true] := by unfold GetV; rw [hlk]
              have hA := H5.out.2
              rw [hlk] at hA
              obtain ⟨rfl, xb, rfl, hxb⟩ := hA
              have H6 := Lib.hid (And.intro S6 (And.intro hxb (And.intro K6 (And.intro I6 hact3))))
              clear S6 K6 hxb I6 hact3 hlk
              dsimp only [Option.map_some]
              go_wp2_with fail
              refine (St.getC (k := q) H6.out.1 HH.out.2.2.1.keys HH.out.2.2.2).mono ?_
              rintro e w7 ⟨rfl, S7, K7⟩
              rw [hG]
              have c7 : w7.cell? ⟨xb, 0, none⟩ = some (.int .i64 x9) := (K7 _ _ (H6.out.2.2.1 _ _ H6.out.2.1)).cell 0
              rw [← runL_get H6.out.2.2.2.2] at S7
              have H7 := Lib.hid S7
              clear S7 K7 hG
              obtain ⟨hv1, hv2⟩ := tmod_bd x9 500 (by omega)
              obtain ⟨t9, ht9⟩ : ∃ t9, x9.tmod 500 = t9 := ⟨_, rfl⟩
              rw [ht9] at hv1 hv2
              rw [ht9]
              have hv3 : -499 ≤ t9 := by omega
              have hv4 : t9 ≤ 499 := by omega
              go_wp2_with fail
              refine (name_any _ (t9 + 500) (by omega) (by omega)).mono ?_
              rintro e w8 ⟨rfl, y8⟩
              have H8 : Hid (All w w8 la lb g n (runL n (turned l) (j + 1))) := Lib.hid ⟨_, _, H7.out.by_none y8, H6.out.2.2.2.1⟩
              clear y8 c7
              go_wp2
              go_roundg (l.length - (j + 1))
              case measure => have := Hr.out.num; omega
              case rel => exact ⟨j + 1, by go_num, by omega, by omega, rfl, H8.out⟩
            | none =>
              rw [hlk] at hq6
              obtain ⟨rfl, S6, _⟩ := hq6
              have hG : GetV (runL n (turned l) j) q = .tuple #[.int .i64 0, .bool false] := by unfold GetV; rw [hlk]
              have hA := H5.out.2
              rw [hlk] at hA
              obtain ⟨rfl, rfl⟩ := hA
              have H6 := Lib.hid (And.intro S6 (And.intro I6 hact3))
              clear S6 I6 hact3 hlk
              dsimp only [Option.map_none]
              go_wp2_with fail
              refine (St.getC (k := q) H6.out.1 HH.out.2.2.1.keys HH.out.2.2.2).mono ?_
              rintro e w7 ⟨rfl, S7, _⟩
              rw [hG]
              rw [← runL_get H6.out.2.2] at S7
              have H8 : Hid (All w w7 la lb g n (runL n (turned l) (j + 1))) := Lib.hid ⟨_, _, S7, H6.out.2.1⟩
              clear S7 hG
              go_wp2
              go_roundg (l.length - (j + 1))
              case measure => have := Hr.out.num; omega
              case rel => exact ⟨j + 1, by go_num, by omega, by omega, rfl, H8.out⟩
      · have hlen := runL_len n (turned l) j
        obtain ⟨pu, pb, S0, I0⟩ := Hr.out.all
        obtain ⟨A9, c9, x9⟩ := S0.cell
        have la9 := I0.a.len
        have lb9 := I0.b.len
        have HS := Lib.hid S0
        have H9 := Lib.hid (And.intro la9 (And.intro lb9 hlen))
        clear S0 I0 la9 lb9 hlen
        have eU : pu.length = (runL n (turned l) j).length := H9.out.1
        have eB : pb.length = (runL n (turned l) j).length := H9.out.2.1
        generalize hP : (runL n (turned l) j).length = P at *
        have HP := Lib.hid hP
        clear hP
        have HU := Lib.hid (And.intro eU eB)
        clear eU eB
        go_wp2_with fail
        have hcA := (St.lenA (HS.out.by_none (by_drew (by_refl wr none)))).mono (R' := fun e w' => e = .returned (.int .i64 (P : Nat)) ∧ w' = wr.drew) (by rintro e w9 ⟨rfl, rfl⟩; exact ⟨by rw [HU.out.1], rfl⟩)
        have hcB := (St.lenB (HS.out.by_none (by_drew (by_refl wr none)))).mono (R' := fun e w' => e = .returned (.int .i64 (P : Nat)) ∧ w' = wr.drew) (by rintro e w9 ⟨rfl, rfl⟩; exact ⟨by rw [HU.out.2], rfl⟩)
        have HcA := Lib.hid hcA
        have HcB := Lib.hid hcB
        clear hcA hcB
        refine wp_region_still_tail 19 (by kernel_rfl) (by kernel_rfl) ?_
        simp only [List.take_succ_cons, List.take_zero, List.drop_succ_cons, List.drop_zero]
        repeat still_step
        still_call HcA.out
        repeat still_step
        still_call HcB.out
        repeat still_step
        refine wpStill_nil ?_
        change wpList _ _ _ _ _ wr.drew
        have Hby := Lib.hid (by_drew HS.out.by_)
        clear x9
        generalize wr.drew = wq at *
        go_wp2_with fail
        refine (works_any _).mono ?_
        rintro e w9 ⟨rfl, y9⟩
        have Hf := Lib.hid (by_trans Hby.out y9 (by simp))
        clear y9
        go_wp2
        go_ret
        exact ⟨rfl, Hf.out⟩
    · have hlen := runL_len n (turned l) j
      obtain ⟨pu, pb, S0, I0⟩ := Hr.out.all
      obtain ⟨A9, c9, x9⟩ := S0.cell
      have la9 := I0.a.len
      have lb9 := I0.b.len
      have HS := Lib.hid S0
      have H9 := Lib.hid (And.intro la9 (And.intro lb9 hlen))
      clear S0 I0 la9 lb9 hlen
      have eU : pu.length = (runL n (turned l) j).length := H9.out.1
      have eB : pb.length = (runL n (turned l) j).length := H9.out.2.1
      generalize hP : (runL n (turned l) j).length = P at *
      have HP := Lib.hid hP
      clear hP
      have HU := Lib.hid (And.intro eU eB)
      clear eU eB
      go_wp2_with fail
      have hcA := (St.lenA (HS.out.by_none (by_drew (by_refl wr none)))).mono (R' := fun e w' => e = .returned (.int .i64 (P : Nat)) ∧ w' = wr.drew) (by rintro e w9 ⟨rfl, rfl⟩; exact ⟨by rw [HU.out.1], rfl⟩)
      have hcB := (St.lenB (HS.out.by_none (by_drew (by_refl wr none)))).mono (R' := fun e w' => e = .returned (.int .i64 (P : Nat)) ∧ w' = wr.drew) (by rintro e w9 ⟨rfl, rfl⟩; exact ⟨by rw [HU.out.2], rfl⟩)
      have HcA := Lib.hid hcA
      have HcB := Lib.hid hcB
      clear hcA hcB
      refine wp_region_still_tail 19 (by kernel_rfl) (by kernel_rfl) ?_
      simp only [List.take_succ_cons, List.take_zero, List.drop_succ_cons, List.drop_zero]
      repeat still_step
      still_call HcA.out
      repeat still_step
      still_call HcB.out
      repeat still_step
      refine wpStill_nil ?_
      change wpList _ _ _ _ _ wr.drew
      have Hby := Lib.hid (by_drew HS.out.by_)
      clear x9
      generalize wr.drew = wq at *
      go_wp2_with fail
      refine (works_any _).mono ?_
      rintro e w9 ⟨rfl, y9⟩
      have Hf := Lib.hid (by_trans Hby.out y9 (by simp))
      clear y9
      go_wp2
      go_ret
      exact ⟨rfl, Hf.out⟩

set_option maxRecDepth 100000 in
theorem lifted (os : Os) (started : os.Started) (H : Type) (enc : TypeId × Value → H) :
    ReturnsInHanded {} Try.checked os 4 .any (Rows.lruKindsSpec.pre6 enc Try.prog Try.f4 Rows.lruKindsRow.domain false) (Rows.lruKindsSpec.post enc Try.prog Try.f4 false true false false) := by
  refine returnsInHanded_of_change (C := Try.checked) own started (by kernel_rfl) Try.func4
    (ChangeSpec.witness6 (enc := enc) (C := Try.checked) false ⟨#[], #[.int .i64 0, .slice none 0 0], []⟩ 8 (by kernel_rfl) (by kernel_rfl) (by kernel_rfl) (by kernel_rfl)) ?_
  intro W base args ds gs before hval0 hW hcnd _
  have hval : ∀ (j : Nat) t v, Try.f4.params[j]? = some t → args[j]? = some v → Value.okWide Try.prog W .any base t v := hval0
  have hW' := hW
  obtain ⟨p, q, hA0, hV, rfl, hfz, hnd⟩ := hW
  have hA : DataW.TrodAll enc Try.prog W 0 (fun _ => true) true Try.f4.params.toList args.toList ds p := hA0
  rw [Try.params4] at hA hval
  obtain ⟨v0, vs0, d0, ds0, p0, q0, hargs, rfl, rfl, h0, r0⟩ := trodAll_cons hA
  obtain ⟨v1, vs1, d1, ds1, p1, q1, rfl, rfl, rfl, h1, r1⟩ := trodAll_cons r0
  obtain ⟨rfl, rfl, rfl⟩ := trodAll_nil r1
  obtain rfl : args = #[v0, v1] := by cases args; simp_all
  obtain ⟨rfl, rfl⟩ := trodVars_none hV
  obtain ⟨a0, rfl, rfl, rfl, w0⟩ := open_int Try.underlying3 (hval 0 3 v0 rfl rfl) h0
  obtain ⟨l1, hl1, hm1, hn1⟩ := arg_acts (hval 1 22 v1 rfl rfl) h1
  refine (walk W a0 w0 v1 l1 hl1 hm1 hn1).mono fun e W' ⟨he, hg⟩ => ?_
  subst he
  exact ⟨_, rfl, law_post laidOut rfl hW' (by kernel_rfl) rfl Try.underlying4 rfl (below_of_by hg)⟩

theorem proved : Rows.LruKindsSaid :=
  OpenClaim.holds_of_wide 4 Try.f4 rfl rfl rfl rfl rfl rfl rfl ⟨rfl, rfl, rfl, rfl, rfl⟩ rfl rfl rfl rfl rfl (by kernel_rfl) Try.func4 (by kernel_rfl)
    (of_decide_eq_true (by kernel_rfl)) (by unfold Func.isWrapper; first | (rw [if_pos (by decide +kernel)]; kernel_rfl) | (rw [if_neg (by decide +kernel)]; exact ⟨rfl, rfl⟩))
    (fun os started H enc _ => lifted os started H enc)
#print axioms proved
end lruKinds
end Go.Proofs.Ytgjklppmimhgnaa
