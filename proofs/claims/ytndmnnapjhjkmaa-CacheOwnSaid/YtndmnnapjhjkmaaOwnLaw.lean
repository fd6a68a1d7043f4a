/-
  CacheOwn: what was handed in, and what was got, may be changed, and what is kept stays (ownlaw.py).
-/
import Derived.Test.YtndmnnapjhjkmaaSpoil
import Derived.Test.YtndmnnapjhjkmaaRow
namespace Go.Proofs.Ytndmnnapjhjkmaa
open Go.ChangeShapes Go.WideShapes Go.ChangeAt Go.RowKit iStrRes
namespace cacheOwn
theorem notRes {W : World} {n b : Nat} {rv : RV} {G : VG} {cs : Array Value} (h : Val W rv n G) (hb : Blk W b 38 cs) : ¬ G.inL n b := by
  rintro ⟨hn, hx⟩
  obtain ⟨_, _, bd, _⟩ := h.d.at_ hn
  obtain ⟨_, _, bv, _⟩ := h.v.at_ hn
  obtain ⟨_, _, bt, _⟩ := h.t.at_ hn
  rcases hx with hx | hx | hx
  · exact hb.ne_ bd (by decide) hx
  · exact hb.ne_ bv (by decide) hx
  · exact hb.ne_ bt (by decide) hx
set_option maxRecDepth 100000 in
set_option maxHeartbeats 4000000 in
theorem walkN (w : World) (n : Nat) (hn : n < 256) : Calls Try.prog 5 #[.int .u8 (n : Int)] w fun e w' => e = .returned (.bool true) ∧ w.grownBy w' none := by
  go_enter Try.func5, Try.ntmps5
  go_wp2_with fail
  refine (works_any w).mono ?_
  rintro e w1 ⟨rfl, y1⟩
  go_wp2_with fail
  refine (ccnew_any w1 3).mono ?_
  rintro e w2 ⟨c, M, K, rfl, hC, y2, hM, hK⟩
  have H2 := Lib.hid (And.intro hC (And.intro (by_trans y1 y2 (by simp)) (And.intro y1.size hM)))
  clear hC y2 hM hK y1
  go_wp2_with fail
  refine (result_any w2 n hn).mono ?_
  rintro e w3 ⟨r, G, rfl, hv, y3, hL, hT⟩
  obtain ⟨w4, hw4⟩ : ∃ W, W = w3.alloc (.cells #[.slice r.d.1 r.d.2.1 r.d.2.2, .string r.p, .bool r.b, .slice r.vs.1 r.vs.2.1 r.vs.2.2, .slice r.ts.1 r.ts.2.1 r.ts.2.2, .int .u64 r.c] 38) := ⟨_, rfl⟩
  have y4 : w3.grownBy w4 none := by rw [hw4]; exact by_alloc (by_refl _ _) _
  have hb4 : Blk w4 w3.heap.size 38 #[.slice r.d.1 r.d.2.1 r.d.2.2, .string r.p, .bool r.b, .slice r.vs.1 r.vs.2.1 r.vs.2.2, .slice r.ts.1 r.ts.2.1 r.ts.2.2, .int .u64 r.c] := by rw [hw4]; exact Blk.new _ _ _
  have H4 := Lib.hid (And.intro (hv.grown y4) (And.intro hb4 (And.intro (by_trans y3 y4 (by simp)) hL)))
  have Hw4 := Lib.hid hw4
  clear hw4 y4 hb4 hv y3 hL hT
  go_wp2_with fail
  rw [← Hw4.out]
  have hC4 := H2.out.1.grown H4.out.2.2.1
  have hg4 := by_trans H2.out.2.1 H4.out.2.2.1 (by simp)
  have hsz : w.heap.size ≤ w2.heap.size := H2.out.2.1.size
  have Hc4 := Lib.hid (And.intro hC4 (And.intro hg4 hsz))
  clear hC4 hg4 hsz
  refine (own1_put (B := w.heap.size) (w := w) Hc4.out.1 (Chg.of_none Hc4.out.2.1) (fun b hb => Nat.le_trans H2.out.2.2.1 (H2.out.2.2.2 b hb)) Hc4.out.2.1.size (by unfold WfI maxLen; decide) H4.out.1 (fun b hb => Nat.le_trans Hc4.out.2.2 (H4.out.2.2.2 b hb))).mono ?_
  rintro e w5 ⟨rfl, hO, t5⟩
  have hb5 := t5.res _ _ H4.out.2.1
  have HO := Lib.hid hO
  have Hb := Lib.hid (And.intro hb5 (notRes hO.val hb5))
  clear hO t5 hb5 Hc4 H4 H2 Hw4
  go_wp2_with fail
  go_loopg [5] (n % 4) (fun m i wr => ∃ j : Nat, j ≤ n % 4 ∧ m = n % 4 - j ∧ i = .int .i64 (j : Nat) ∧ Sp w5 wr n r G)
  case atStart => exact ⟨0, Nat.zero_le _, rfl, rfl, Sp.start HO.out.val⟩
  case round =>
    obtain ⟨j, hj, hm, rfl, hs⟩ := hrel
    have hb := Hb.out.1.chg hs.chg Hb.out.2
    have c0 := hb.cell 0
    simp only [List.getElem?_toArray, List.getElem?_cons_zero] at c0
    have e2 : r.d.2.1 = n % 4 := HO.out.val.d.n_
    have e3 : r.vs.2.1 = n % 4 := HO.out.val.v.n_
    have e4 : r.ts.2.1 = n % 4 := HO.out.val.t.n_
    have hk4 : n % 4 < 4 := Nat.mod_lt _ (by omega)
    rw [e2] at c0
    rcases Nat.lt_or_ge j (n % 4) with hlt | hge
    · obtain ⟨ed, ev, et, ⟨ua, k0⟩, z0, b1, ⟨ub, k1⟩, z1, b2, ⟨uc, k2⟩, z2, hs2⟩ := hs.turn hlt hb (.int .i64 (-1)) (.string ⟨#[120]⟩) (.string ⟨#[120]⟩)
      have c3 := b1.cell 3
      have c4 := b2.cell 4
      simp only [List.getElem?_toArray, List.getElem?_cons_zero, List.getElem?_cons_succ] at c3 c4
      rw [e3, ev] at c3
      rw [e4, et] at c4
      rw [ed] at c0
      have Hs := Lib.hid (And.intro hs2 (And.intro hm hlt))
      clear hs hs2 hb b1 b2 ed ev et hm e2 e3 e4 hj
      obtain ⟨k, hk⟩ : ∃ k, n % 4 = k := ⟨_, rfl⟩
      rw [hk] at c0 c3 c4 hk4 hlt
      have Hk := Lib.hid hk
      clear hk
      have hI : (j : Int) < (k : Int) := by omega
      have hI0 : (0 : Int) ≤ (j : Int) := by omega
      have hI4 : (k : Int) ≤ 4 := by omega
      go_wp2
      go_roundg (n % 4 - (j + 1))
      case measure => have h1 := Hs.out.2; omega
      case rel => exact ⟨j + 1, by have h1 := Hs.out.2; omega, rfl, by go_num, Hs.out.1⟩
    · obtain rfl : j = n % 4 := by omega
      have hI : ¬ ((n % 4 : Nat) : Int) < ((n % 4 : Nat) : Int) := by omega
      have hIn : ¬ (n : Int) % 4 < (n : Int) % 4 := by omega
      obtain ⟨M5, K5, hC5, hg5, hM5⟩ := HO.out.spoil hs
      have hO2 := own1_get (B := w.heap.size) (w := w) hC5 hg5 hM5 (hg5.size) (by unfold WfI maxLen; decide : WfI ⟨#[107]⟩)
      have HG := Lib.hid hO2
      clear hO2 hC5 hg5 hM5 hs hb e2 e3 e4 hm hj hge
      go_wp2_with fail
      refine HG.out.mono ?_
      rintro e w6 ⟨r2, G2, rfl, hO6, t6⟩
      obtain ⟨w7, hw7⟩ : ∃ W, W = w6.alloc (.cells #[.slice r2.d.1 r2.d.2.1 r2.d.2.2, .string r2.p, .bool r2.b, .slice r2.vs.1 r2.vs.2.1 r2.vs.2.2, .slice r2.ts.1 r2.ts.2.1 r2.ts.2.2, .int .u64 r2.c] 38) := ⟨_, rfl⟩
      have y7 : w6.grownBy w7 none := by rw [hw7]; exact by_alloc (by_refl _ _) _
      have hb7 : Blk w7 w6.heap.size 38 #[.slice r2.d.1 r2.d.2.1 r2.d.2.2, .string r2.p, .bool r2.b, .slice r2.vs.1 r2.vs.2.1 r2.vs.2.2, .slice r2.ts.1 r2.ts.2.1 r2.ts.2.2, .int .u64 r2.c] := by rw [hw7]; exact Blk.new _ _ _
      have HO7 := Lib.hid (And.intro (hO6.grown y7) hb7)
      have Hw7 := Lib.hid hw7
      clear hw7 y7 hb7 hO6 t6 c0
      go_wp2_with fail
      rw [← Hw7.out]
      refine (is_any w7 r2 n G2 hn HO7.out.1.val).mono ?_
      rintro e w8 ⟨rfl, y8⟩
      have hO8 := HO7.out.1.grown y8
      have hb8 := HO7.out.2.grown y8 (by simp)
      have HO8 := Lib.hid hO8
      have Hb8 := Lib.hid (And.intro hb8 (notRes hO8.val hb8))
      clear hO8 hb8 y8 HO7 Hw7 HG
      go_wp2_with fail
      go_loopg [8] (n % 4) (fun m i wr => ∃ j : Nat, j ≤ n % 4 ∧ m = n % 4 - j ∧ i = .int .i64 (j : Nat) ∧ Sp w8 wr n r2 G2)
      case atStart => exact ⟨0, Nat.zero_le _, rfl, rfl, Sp.start HO8.out.val⟩
      case round =>
        obtain ⟨j, hj, hm, rfl, hs⟩ := hrel
        have hb := Hb8.out.1.chg hs.chg Hb8.out.2
        have c0 := hb.cell 0
        simp only [List.getElem?_toArray, List.getElem?_cons_zero] at c0
        have e2 : r2.d.2.1 = n % 4 := HO8.out.val.d.n_
        have e3 : r2.vs.2.1 = n % 4 := HO8.out.val.v.n_
        have e4 : r2.ts.2.1 = n % 4 := HO8.out.val.t.n_
        have hk4 : n % 4 < 4 := Nat.mod_lt _ (by omega)
        rw [e2] at c0
        rcases Nat.lt_or_ge j (n % 4) with hlt | hge
        · obtain ⟨ed, ev, et, ⟨ua, k0⟩, z0, b1, ⟨ub, k1⟩, z1, b2, ⟨uc, k2⟩, z2, hs2⟩ := hs.turn hlt hb (.int .i64 (-2)) (.string ⟨#[121]⟩) (.string ⟨#[121]⟩)
          have c3 := b1.cell 3
          have c4 := b2.cell 4
          simp only [List.getElem?_toArray, List.getElem?_cons_zero, List.getElem?_cons_succ] at c3 c4
          rw [e3, ev] at c3
          rw [e4, et] at c4
          rw [ed] at c0
          have Hs := Lib.hid (And.intro hs2 (And.intro hm hlt))
          clear hs hs2 hb b1 b2 ed ev et hm e2 e3 e4 hj
          obtain ⟨k, hk⟩ : ∃ k, n % 4 = k := ⟨_, rfl⟩
          rw [hk] at c0 c3 c4 hk4 hlt
          have Hk := Lib.hid hk
          clear hk
          have hI : (j : Int) < (k : Int) := by omega
          have hI0 : (0 : Int) ≤ (j : Int) := by omega
          have hI4 : (k : Int) ≤ 4 := by omega
          go_wp2
          go_roundg (n % 4 - (j + 1))
          case measure => have h1 := Hs.out.2; omega
          case rel => exact ⟨j + 1, by have h1 := Hs.out.2; omega, rfl, by go_num, Hs.out.1⟩
        · obtain rfl : j = n % 4 := by omega
          have hI : ¬ ((n % 4 : Nat) : Int) < ((n % 4 : Nat) : Int) := by omega
          have hIn : ¬ (n : Int) % 4 < (n : Int) % 4 := by omega
          obtain ⟨M9, K9, hC9, hg9, hM9⟩ := HO8.out.spoil hs
          have hO2 := own1_get (B := w.heap.size) (w := w) hC9 hg9 hM9 (hg9.size) (by unfold WfI maxLen; decide : WfI ⟨#[107]⟩)
          have HG := Lib.hid hO2
          clear hO2 hC9 hg9 hM9 hs hb e2 e3 e4 hm hj hge
          go_wp2_with fail
          refine HG.out.mono ?_
          rintro e wa ⟨r3, G3, rfl, hOa, ta⟩
          obtain ⟨wb, hwb⟩ : ∃ W, W = wa.alloc (.cells #[.slice r3.d.1 r3.d.2.1 r3.d.2.2, .string r3.p, .bool r3.b, .slice r3.vs.1 r3.vs.2.1 r3.vs.2.2, .slice r3.ts.1 r3.ts.2.1 r3.ts.2.2, .int .u64 r3.c] 38) := ⟨_, rfl⟩
          have yb : wa.grownBy wb none := by rw [hwb]; exact by_alloc (by_refl _ _) _
          have HOb := Lib.hid (hOa.grown yb)
          have Hwb := Lib.hid hwb
          clear hwb yb hOa ta c0
          go_wp2_with fail
          rw [← Hwb.out]
          refine (is_any wb r3 n G3 hn HOb.out.val).mono ?_
          rintro e wc ⟨rfl, yc⟩
          obtain ⟨_, _, _, _, hge, _⟩ := HOb.out
          have hfin := by_trans (hge.none_ fun _ h => h) yc (by simp)
          have HF := Lib.hid hfin
          clear hfin hge yc
          go_wp2
          go_ret
          exact ⟨rfl, HF.out⟩
theorem walk (w : World) (a : Int) (wa : (Lit.int .u8 a).wf = true) : Calls Try.prog 5 #[.int .u8 a] w fun e w' => e = .returned (.bool true) ∧ w.grownBy w' none := by
  have h : 0 ≤ a ∧ a ≤ 255 := bounds_u8 wa
  obtain ⟨n, rfl⟩ := Int.eq_ofNat_of_zero_le h.1
  exact walkN w n (by omega)

set_option maxRecDepth 100000 in
theorem lifted (os : Os) (started : os.Started) (H : Type) (enc : TypeId × Value → H) :
    ReturnsInHanded {} Try.checked os 5 .any (Rows.cacheOwnSpec.pre6 enc Try.prog Try.f5 Rows.cacheOwnRow.domain false) (Rows.cacheOwnSpec.post enc Try.prog Try.f5 false true false false) := by
  refine returnsInHanded_of_change (C := Try.checked) own started (by kernel_rfl) Try.func5
    (ChangeSpec.witness6 (enc := enc) (C := Try.checked) false ⟨#[], #[.int .u8 0], []⟩ 8 (by kernel_rfl) (by kernel_rfl) (by kernel_rfl) (by kernel_rfl)) ?_
  intro W base args ds gs before hval0 hW hcnd _
  have hval : ∀ (j : Nat) t v, Try.f5.params[j]? = some t → args[j]? = some v → Value.okWide Try.prog W .any base t v := hval0
  have hW' := hW
  obtain ⟨p, q, hA0, hV, rfl, hfz, hnd⟩ := hW
  have hA : DataW.TrodAll enc Try.prog W 0 (fun _ => true) true Try.f5.params.toList args.toList ds p := hA0
  rw [Try.params5] at hA hval
  obtain ⟨v0, vs0, d0, ds0, p0, q0, hargs, rfl, rfl, h0, r0⟩ := trodAll_cons hA
  obtain ⟨rfl, rfl, rfl⟩ := trodAll_nil r0
  obtain rfl : args = #[v0] := by cases args; simp_all
  obtain ⟨rfl, rfl⟩ := trodVars_none hV
  obtain ⟨a0, rfl, rfl, rfl, w0⟩ := open_int Try.underlying5 (hval 0 5 v0 rfl rfl) h0
  refine (walk W a0 w0).mono fun e W' ⟨he, hg⟩ => ?_
  subst he
  exact ⟨_, rfl, law_post laidOut rfl hW' (by kernel_rfl) rfl Try.underlying4 rfl (below_of_by hg)⟩

theorem proved : Rows.CacheOwnSaid :=
  OpenClaim.holds_of_wide 5 Try.f5 rfl rfl rfl rfl rfl rfl rfl ⟨rfl, rfl, rfl, rfl, rfl⟩ rfl rfl rfl rfl rfl (by kernel_rfl) Try.func5 (by kernel_rfl)
    (of_decide_eq_true (by kernel_rfl)) (by unfold Func.isWrapper; first | (rw [if_pos (by decide +kernel)]; kernel_rfl) | (rw [if_neg (by decide +kernel)]; exact ⟨rfl, rfl⟩))
    (fun os started H enc _ => lifted os started H enc)
#print axioms proved
end cacheOwn
end Go.Proofs.Ytndmnnapjhjkmaa
