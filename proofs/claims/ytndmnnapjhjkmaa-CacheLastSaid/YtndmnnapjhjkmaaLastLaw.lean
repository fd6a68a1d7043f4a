/-
  CacheLast: what is got is what was put last under just that key; and if there is room for all keys, all of it is there.
-/
import Derived.Test.YtndmnnapjhjkmaaLastS
import Derived.Test.YtndmnnapjhjkmaaRow
import Derived.StillTailTactics
import Derived.Deep.RegionHeld3
import Derived.Deep.DeepCutAuto
import Derived.Deep.RegionWith
namespace Go.Proofs.Ytndmnnapjhjkmaa
open Go.ChangeShapes Go.WideShapes Go.ChangeAt Go.RowKit iStrRes
namespace cacheLast

structure Rel (w : World) (c mb C q m : Nat) (i : Value) (wr : World) (j : Nat) (ps mp : List (ByteArray × Nat)) : Prop where
  slot : i = .int .i64 (j : Int)
  le : j ≤ q
  le2 : j ≤ 100
  num : m = q - j
  st : St w wr c mb C ps mp
  fine : Fine C ps mp
  ml : mp.length ≤ j
def turnP (C : Nat) (p : Bool) (ps : List (ByteArray × Nat)) (k : ByteArray) (n : Nat) : List (ByteArray × Nat) := if p then gput (C : Int) ps k n else ps
def turnM (p : Bool) (mp : List (ByteArray × Nat)) (k : ByteArray) (n : Nat) : List (ByteArray × Nat) := if p then mput mp k n else mp
theorem mput_len (mp : List (ByteArray × Nat)) (k : ByteArray) (n : Nat) : (mput mp k n).length ≤ mp.length + 1 := by
  have : (gless mp k).length ≤ mp.length := List.length_filter_le _ _
  simp only [mput, List.length_cons]
  omega
theorem turnM_len (p : Bool) (mp : List (ByteArray × Nat)) (k : ByteArray) (n : Nat) : (turnM p mp k n).length ≤ mp.length + 1 := by
  unfold turnM
  cases p with
  | true => exact mput_len mp k n
  | false => simp
theorem chg_cell {w W : World} {a : Addr} {u : Value} (h : Chg w W (fun b => w.heap.size ≤ b)) (hc : w.cell? a = some u) : W.cell? a = some u := by
  have hlt := World.block_lt_of_cell? w a hc
  exact (World.cell?_of_block (h.block a.block hlt (by omega))).trans hc

set_option maxRecDepth 100000 in
set_option maxHeartbeats 4000000 in
theorem walk (w : World) (v : Value) (l : List Act3) (hv : Acts w v l) (hw : ∀ x ∈ l, x.2.1.size ≤ maxLen ∧ (Lit.int .u8 x.2.2).wf = true) (hl : l.length ≤ maxLen) (cap : Int) (_wc : (Lit.int .i64 cap).wf = true) :
    Calls Try.prog 4 #[v, .int .i64 cap] w fun e w' => e = .returned (.bool true) ∧ w.grownBy w' none := by
  unfold maxLen at hl
  have HV := Lib.hid (And.intro hv hw)
  obtain ⟨A, cp, rfl, hcap, _⟩ := hv
  obtain ⟨C, hC⟩ : ∃ C : Nat, max cap 0 = (C : Int) := ⟨(max cap 0).toNat, by omega⟩
  have HC := Lib.hid hC
  clear hw hC
  go_enter Try.func4, Try.ntmps4
  go_wp2_with fail
  refine (works_any w).mono ?_
  rintro e w1 ⟨rfl, y1⟩
  go_wp2_with fail
  refine (ccnew_any w1 cap).mono ?_
  rintro e w2 ⟨c, M, K, rfl, hC2, y2, hM, hK⟩
  rw [HC.out] at hC2
  have hmk : (Instr.makeMap 46 none).run Try.prog w2 = .ok (.map (some w2.heap.size)) (w2.alloc (.map #[] 0)) := run_makeMap _ w2
  have hS := St.start hC2 y1 y2 hM
  obtain ⟨w3, hw3⟩ : ∃ w3, w3 = w2.alloc (.map #[] 0) := ⟨_, rfl⟩
  obtain ⟨mb, hmb⟩ : ∃ mb, mb = w2.heap.size := ⟨_, rfl⟩
  rw [← hw3, ← hmb] at hS
  rw [← hw3, ← hmb] at hmk
  have H3 := Lib.hid hS
  clear hS y1 y2 hM hK hC2 hw3 hmb
  go_wp2_with fail
  clear hmk
  go_loopg [7] l.length (fun k i wr => ∃ j ps mp, Rel w c mb C l.length k i wr j ps mp)
  case atStart => exact ⟨0, [], [], rfl, by omega, by omega, by omega, H3.out, Fine.nil C, Nat.le_refl _⟩
  case round =>
    clear H3
    obtain ⟨j, ps, mp, hr⟩ := hrel
    obtain rfl := hr.slot
    have hle := hr.le
    have hle2 := hr.le2
    have Hr := Lib.hid hr
    clear hr
    by_cases h1 : j < l.length
    · by_cases h2 : j < 100
      · obtain ⟨A', cap', hA, _, hcell⟩ := HV.out.1
        injection hA with hA1 hA2 hA3
        subst hA1; subst hA3
        obtain ⟨b, off, rfl, hb, hc⟩ := hcell (by omega)
        obtain ⟨x0, x1, x2⟩ := hc j h1
        obtain ⟨isg, k, u, hact⟩ : ∃ isg k u, l[j] = (isg, k, u) := ⟨_, _, _, rfl⟩
        rw [hact] at x0 x1 x2
        have hwf := HV.out.2 l[j] (List.getElem_mem h1)
        rw [hact] at hwf
        dsimp only at hwf
        obtain ⟨n, rfl⟩ := Int.eq_ofNat_of_zero_le (bounds_u8 hwf.2).1
        have hn : n < 256 := by have := (bounds_u8 hwf.2).2; omega
        have hk : WfI k := hwf.1
        have hlt' : (j : Int) < (l.length : Int) := by omega
        have hz0 : (0 : Int) ≤ (j : Int) := by omega
        have hz1 : (j : Int) < 100 := by omega
        have HH := Lib.hid (And.intro hk hn)
        have HX := Lib.hid (And.intro x0 (And.intro x1 x2))
        clear hcell hc hb hA2 hact hwf x0 x1 x2 hk hn
        dsimp only at HX
        have z0 : wr.cell? ⟨b, off + j * 3, none⟩ = some (.bool isg) := chg_cell Hr.out.st.chg HX.out.1
        have z1 : wr.cell? ⟨b, off + j * 3 + 1, none⟩ = some (.string k) := chg_cell Hr.out.st.chg HX.out.2.1
        have z2 : wr.cell? ⟨b, off + j * 3 + 2, none⟩ = some (.int .u8 (n : Int)) := chg_cell Hr.out.st.chg HX.out.2.2
        have hfine2 : Fine C (turnP C isg ps k n) (turnM isg mp k n) := by
          unfold turnP turnM
          cases isg with
          | true => exact Hr.out.fine.put Hr.out.st.keys k n
          | false => exact Hr.out.fine
        have HF := Lib.hid (And.intro hfine2 (show (turnM isg mp k n).length ≤ j + 1 from Nat.le_trans (turnM_len _ _ _ _) (by have := Hr.out.ml; omega)))
        clear hfine2
        go_upto_if 31 with fail
        go_cut [] (fun wx => St w wx c mb C (turnP C isg ps k n) (turnM isg mp k n))
        case first =>
          cases isg with
          | false =>
            go_wp2_with fail
            go_meet
            exact Hr.out.st
          | true =>
            have hlen : ps.length < 1000000 := by have h1 := Hr.out.fine.lens Hr.out.st.keys; have h2 := Hr.out.ml; omega
            have hlm : mp.length < 1000000 := by have h2 := Hr.out.ml; omega
            have Hl := Lib.hid (And.intro hlen hlm)
            clear hlen hlm
            go_wp2_with fail
            have S0 := Hr.out.st.grown (by_drew (by_refl wr none))
            refine wp_region_noPanic ?_
            refine wp_region_held_drew (S := fun W => Chg w W (fun b => w.heap.size ≤ b)) (by kernel_rfl) (S0.chg) (fun hHeld => ?_)
            refine wpAnyH_take (i := 0) (oi := _) (v := _) rfl (by kernel_rfl) (by kernel_rfl) (by kernel_rfl) (fun _ _ _ h => h) (Or.inl ⟨by rfl, fun _ _ => by go_simp; try rfl⟩) hHeld ?_
            try simp only [Act.put, List.getElem_toArray, List.getElem_cons_zero, List.getElem_cons_succ, List.setIfInBounds_toArray, List.set_cons_zero, List.set_cons_succ]
            refine wpAnyH_take (i := 1) (oi := _) (v := _) rfl (by kernel_rfl) (by kernel_rfl) (by kernel_rfl) (fun _ _ _ h => h) (Or.inl ⟨by rfl, fun _ _ => by go_simp; try rfl⟩) hHeld ?_
            try simp only [Act.put, List.getElem_toArray, List.getElem_cons_zero, List.getElem_cons_succ, List.setIfInBounds_toArray, List.set_cons_zero, List.set_cons_succ]
            refine wpAnyH_take (i := 2) (oi := _) (v := _) rfl (by kernel_rfl) (by kernel_rfl) (by kernel_rfl) (fun _ _ _ h => h) (Or.inl ⟨by rfl, fun _ _ => by go_simp; try rfl⟩) hHeld ?_
            try simp only [Act.put, List.getElem_toArray, List.getElem_cons_zero, List.getElem_cons_succ, List.setIfInBounds_toArray, List.set_cons_zero, List.set_cons_succ]
            refine wpAnyH_take (i := 3) (oi := _) (v := _) rfl (by kernel_rfl) (by kernel_rfl) (by kernel_rfl) (fun _ _ _ h => h) (Or.inl ⟨by rfl, fun _ _ => by go_simp; try rfl⟩) hHeld ?_
            try simp only [Act.put, List.getElem_toArray, List.getElem_cons_zero, List.getElem_cons_succ, List.setIfInBounds_toArray, List.set_cons_zero, List.set_cons_succ]
            refine wpAnyH_take (i := 4) (oi := _) (v := _) rfl (by kernel_rfl) (by kernel_rfl) (by kernel_rfl) (fun _ _ _ h => h) (Or.inl ⟨by rfl, fun _ _ => by go_simp; try rfl⟩) hHeld ?_
            try simp only [Act.put, List.getElem_toArray, List.getElem_cons_zero, List.getElem_cons_succ, List.setIfInBounds_toArray, List.set_cons_zero, List.set_cons_succ]
            refine wpAnyH_take (i := 5) (oi := _) (v := _) rfl (by kernel_rfl) (by kernel_rfl) (by kernel_rfl) (fun _ _ _ h => h) (Or.inl ⟨by rfl, fun _ h => by have hx := chg_cell h HX.out.2.1; (try simp only [List.getElem_toArray, List.getElem_cons_zero, List.getElem_cons_succ]); go_simp; try rfl⟩) hHeld ?_
            try simp only [Act.put, List.getElem_toArray, List.getElem_cons_zero, List.getElem_cons_succ, List.setIfInBounds_toArray, List.set_cons_zero, List.set_cons_succ]
            refine wpAnyH_take (i := 6) (oi := _) (v := _) rfl (by kernel_rfl) (by kernel_rfl) (by kernel_rfl) (fun _ _ _ h => h) (Or.inl ⟨by rfl, fun _ _ => by go_simp; try rfl⟩) hHeld ?_
            try simp only [Act.put, List.getElem_toArray, List.getElem_cons_zero, List.getElem_cons_succ, List.setIfInBounds_toArray, List.set_cons_zero, List.set_cons_succ]
            refine wpAnyH_take (i := 7) (oi := _) (v := _) rfl (by kernel_rfl) (by kernel_rfl) (by kernel_rfl) (fun _ _ _ h => h) (Or.inl ⟨by rfl, fun _ _ => by go_simp; try rfl⟩) hHeld ?_
            try simp only [Act.put, List.getElem_toArray, List.getElem_cons_zero, List.getElem_cons_succ, List.setIfInBounds_toArray, List.set_cons_zero, List.set_cons_succ]
            refine wpAnyH_take (i := 8) (oi := _) (v := _) rfl (by kernel_rfl) (by kernel_rfl) (by kernel_rfl) (fun _ _ _ h => h) (Or.inl ⟨by rfl, fun _ _ => by go_simp; try rfl⟩) hHeld ?_
            try simp only [Act.put, List.getElem_toArray, List.getElem_cons_zero, List.getElem_cons_succ, List.setIfInBounds_toArray, List.set_cons_zero, List.set_cons_succ]
            refine wpAnyH_take (i := 9) (oi := _) (v := _) rfl (by kernel_rfl) (by kernel_rfl) (by kernel_rfl) (fun _ _ _ h => h) (Or.inl ⟨by rfl, fun _ _ => by go_simp; try rfl⟩) hHeld ?_
            try simp only [Act.put, List.getElem_toArray, List.getElem_cons_zero, List.getElem_cons_succ, List.setIfInBounds_toArray, List.set_cons_zero, List.set_cons_succ]
            refine wpAnyH_take (i := 10) (oi := _) (v := _) rfl (by kernel_rfl) (by kernel_rfl) (by kernel_rfl) (fun _ _ _ h => h) (Or.inl ⟨by rfl, fun _ h => by have hx := chg_cell h HX.out.2.2; (try simp only [List.getElem_toArray, List.getElem_cons_zero, List.getElem_cons_succ]); go_simp; try rfl⟩) hHeld ?_
            try simp only [Act.put, List.getElem_toArray, List.getElem_cons_zero, List.getElem_cons_succ, List.setIfInBounds_toArray, List.set_cons_zero, List.set_cons_succ]
            refine wpAnyH_ready (rs := [11]) (by kernel_rfl) (by simp) ?_
            refine AllReadyH.cons (o := _) rfl (fun K hK => ?_) AllReadyH.nil
            go_simp
            refine (res_at _ n _ rfl HH.out.2).mono ?_
            rintro e w4 ⟨rv, G, rfl, hv4, y4, _, _⟩
            dsimp only
            refine hK.out _ _ (hHeld.trans (Chg.of_none (S := fun _ => False) y4) (fun _ h => h.elim)) (fun hHeld => ?_)
            clear hK K
            try simp only [Act.put, List.getElem_toArray, List.getElem_cons_zero, List.getElem_cons_succ, List.setIfInBounds_toArray, List.set_cons_zero, List.set_cons_succ]
            have S4 := S0.grown y4
            have H4 := Lib.hid (And.intro S4 hv4)
            clear S4 hv4 y4 S0
            refine wpAnyH_ready (rs := [12]) (by kernel_rfl) (by simp) ?_
            refine AllReadyH.cons (o := _) rfl (fun K hK => ?_) AllReadyH.nil
            go_simp
            refine (H4.out.1.put HH.out.1 Hl.out.1 H4.out.2).mono ?_
            rintro e w5 ⟨rfl, S5⟩
            dsimp only
            refine hK.out _ _ (S5.chg) (fun hHeld => ?_)
            clear hK K
            try simp only [Act.put, List.getElem_toArray, List.getElem_cons_zero, List.getElem_cons_succ, List.setIfInBounds_toArray, List.set_cons_zero, List.set_cons_succ]
            have H5 := Lib.hid S5
            clear S5 hHeld H4
            refine wpAnyH_done (by kernel_rfl) (NoPanic.normal ?_) _
            have z1 : w5.cell? ⟨b, off + j * 3 + 1, none⟩ = some (.string k) := chg_cell H5.out.chg HX.out.2.1
            have z2 : w5.cell? ⟨b, off + j * 3 + 2, none⟩ = some (.int .u8 (n : Int)) := chg_cell H5.out.chg HX.out.2.2
            obtain ⟨w6, hrun, S6⟩ := (H5.out.grown (by_drew (by_refl w5 none))).mapPut HH.out.1 HH.out.2 Hl.out.2 Hr.out.fine.mkeys
            have Hrun := Lib.hid hrun
            have H6 := Lib.hid S6
            clear hrun S6 z0
            go_wp2_with fail
            go_still_tail 11, (by kernel_rfl)
            change wpList _ _ _ _ _ w5.drew
            go_wp2_with (at_mapUpdate; refine wpList_mapUpdate_run rfl _ _ _ _ rfl rfl rfl rfl Hrun.out ?_)
            go_meet
            exact H6.out
        case rest =>
          clear z0 z1 z2
          generalize turnP C isg ps k n = p1 at *
          generalize turnM isg mp k n = m1 at *
          have z1 : wc.cell? ⟨b, off + j * 3 + 1, none⟩ = some (.string k) := chg_cell hcut.chg HX.out.2.1
          have HS := Lib.hid hcut
          clear hcut
          go_wp2_with fail
          refine (HS.out.get HH.out.1).mono ?_
          rintro e w7 ⟨S7, hg⟩
          have hle3 : (ggot p1 k).length ≤ C := (HF.out.1.got k).le
          have hle4 : (ggot p1 k).length ≤ m1.length := (HF.out.1.got k).lens S7.keys
          have hC := HC.out
          rcases hg with ⟨n2, rv, G, hl1, rfl, hv7⟩ | ⟨hl1, rfl⟩
          · have hl2 := HF.out.1.sub k n2 hl1
            obtain ⟨w8, hw8⟩ : ∃ W, W = w7.alloc (.cells #[.slice rv.d.1 rv.d.2.1 rv.d.2.2, .string rv.p, .bool rv.b, .slice rv.vs.1 rv.vs.2.1 rv.vs.2.2, .slice rv.ts.1 rv.ts.2.1 rv.ts.2.2, .int .u64 rv.c] 38) := ⟨_, rfl⟩
            have y8 : w7.grownBy w8 none := by rw [hw8]; exact by_alloc (by_refl _ _) _
            have hb8 : Blk w8 w7.heap.size 38 #[.slice rv.d.1 rv.d.2.1 rv.d.2.2, .string rv.p, .bool rv.b, .slice rv.vs.1 rv.vs.2.1 rv.vs.2.2, .slice rv.ts.1 rv.ts.2.1 rv.ts.2.2, .int .u64 rv.c] := by rw [hw8]; exact Blk.new _ _ _
            have hlook := (S7.grown y8).look HH.out.1
            rw [hl2] at hlook
            simp only at hlook
            have z2 : w8.cell? ⟨b, off + j * 3 + 1, none⟩ = some (.string k) := chg_cell (S7.grown y8).chg HX.out.2.1
            have z0 : w7.cell? ⟨b, off + j * 3 + 1, none⟩ = some (.string k) := chg_cell S7.chg HX.out.2.1
            rw [hw8] at hlook z2
            have hn2 : n2 < 256 := by
              obtain ⟨⟨_, _, _, ⟨D, hD⟩, _, _⟩, _, _⟩ := S7
              exact (hD.wf _ (glook_mem hl2)).2
            have H8 := Lib.hid (And.intro (S7.grown y8) (And.intro (hv7.grown y8) (And.intro hb8 (And.intro hn2 (And.intro hle3 hle4)))))
            have Hw8 := Lib.hid hw8
            clear hw8 y8 hb8 S7 hv7 hn2 hl1 hl2 hle3 hle4
            go_wp2_with (rw [← Hw8.out]; refine wpList_load_row_g rfl 38 (.tmp 8) rfl w7.heap.size rfl 38 #[.slice rv.d.1 rv.d.2.1 rv.d.2.2, .string rv.p, .bool rv.b, .slice rv.vs.1 rv.vs.2.1 rv.vs.2.2, .slice rv.ts.1 rv.ts.2.1 rv.ts.2.2, .int .u64 rv.c] (0, 0) _ H8.out.2.2.1 Try.underlying38 rfl (sz6 rv) ?_)
            refine (is_any w8 rv n2 G H8.out.2.2.2.1 H8.out.2.1).mono ?_
            rintro e w9 ⟨rfl, y9⟩
            have S9 := H8.out.1.grown y9
            have hle3 := H8.out.2.2.2.2.1
            have hle4 := H8.out.2.2.2.2.2
            clear hlook z0 z1 z2 y9
            have hml := S9.mlen
            have Hlen := Lib.hid S9.len
            have HS9 := Lib.hid S9
            clear S9
            obtain ⟨q1, hq1⟩ : ∃ q, (ggot p1 k).length = q := ⟨_, rfl⟩
            obtain ⟨q2, hq2⟩ : ∃ q, m1.length = q := ⟨_, rfl⟩
            rw [hq1] at Hlen hle3 hle4
            rw [hq2] at hml hle4
            have hn1 : ¬ (C : Int) < (q1 : Int) := by omega
            have hn2 : ¬ (q2 : Int) < (q1 : Int) := by omega
            clear hq1 hq2
            go_wp2_with fail
            refine Hlen.out.mono ?_
            rintro e wx ⟨rfl, rfl⟩
            go_wp2_with fail
            refine Hlen.out.mono ?_
            rintro e wx ⟨rfl, rfl⟩
            go_wp2
            go_roundg (l.length - (j + 1))
            case measure => have := Hr.out.num; omega
            case rel => exact ⟨j + 1, _, m1, by go_num, by omega, by omega, rfl, HS9.out, HF.out.1.got k, HF.out.2⟩
          · obtain ⟨w8, hw8⟩ : ∃ W, W = w7.alloc (.cells #[.slice none 0 0, .string ⟨#[]⟩, .bool false, .slice none 0 0, .slice none 0 0, .int .u64 0] 38) := ⟨_, rfl⟩
            have y8 : w7.grownBy w8 none := by rw [hw8]; exact by_alloc (by_refl _ _) _
            have S9 := S7.grown y8
            have hlook := S9.look HH.out.1
            have z2 : w8.cell? ⟨b, off + j * 3 + 1, none⟩ = some (.string k) := chg_cell S9.chg HX.out.2.1
            have hml := S9.mlen
            have Hlen := Lib.hid S9.len
            have HS9 := Lib.hid S9
            have hroom : ∀ n2, glook m1 k = some n2 → ¬ (m1.length : Int) ≤ cap := fun n2 h2 hc => by
              have h3 := HF.out.1.all (by have := HC.out; omega) k n2 h2
              rw [hl1] at h3; cases h3
            obtain ⟨q1, hq1⟩ : ∃ q, (ggot p1 k).length = q := ⟨_, rfl⟩
            obtain ⟨q2, hq2⟩ : ∃ q, m1.length = q := ⟨_, rfl⟩
            rw [hq1] at Hlen hle3 hle4
            rw [hq2] at hml hle4 hroom
            have hn1 : ¬ (C : Int) < (q1 : Int) := by omega
            have hn2 : ¬ (q2 : Int) < (q1 : Int) := by omega
            rw [hw8] at hlook z2 hml
            have Hw8 := Lib.hid hw8
            clear hw8 y8 S7 hl1 hle3 hle4 S9 hq1 hq2
            cases hl2 : glook m1 k with
            | none =>
              rw [hl2] at hlook
              simp only at hlook
              clear hroom hl2
              go_wp2_with fail
              rw [← Hw8.out]
              refine Hlen.out.mono ?_
              rintro e wx ⟨rfl, rfl⟩
              rw [← Hw8.out] at hml
              go_wp2_with fail
              refine Hlen.out.mono ?_
              rintro e wx ⟨rfl, rfl⟩
              go_wp2
              go_roundg (l.length - (j + 1))
              case measure => have := Hr.out.num; omega
              case rel => exact ⟨j + 1, _, m1, by go_num, by omega, by omega, rfl, HS9.out, HF.out.1.got k, HF.out.2⟩
            | some n2 =>
              rw [hl2] at hlook
              simp only at hlook
              have hno := hroom n2 hl2
              clear hroom hl2
              go_wp2_with fail
              rw [← Hw8.out]
              refine Hlen.out.mono ?_
              rintro e wx ⟨rfl, rfl⟩
              rw [← Hw8.out] at hml
              go_wp2_with fail
              refine Hlen.out.mono ?_
              rintro e wx ⟨rfl, rfl⟩
              go_wp2
              go_roundg (l.length - (j + 1))
              case measure => have := Hr.out.num; omega
              case rel => exact ⟨j + 1, _, m1, by go_num, by omega, by omega, rfl, HS9.out, HF.out.1.got k, HF.out.2⟩
      · have hnot : ¬ (j : Int) < 100 := by omega
        have hlt' : (j : Int) < (l.length : Int) := by omega
        have hz0 : (0 : Int) ≤ (j : Int) := by omega
        have HE := Lib.hid Hr.out.st.by_
        clear hle hle2
        go_wp2
        go_ret
        exact ⟨rfl, HE.out⟩
    · have hnot : ¬ (j : Int) < (l.length : Int) := by omega
      have hz0 : (0 : Int) ≤ (j : Int) := by omega
      have HE := Lib.hid Hr.out.st.by_
      clear hle hle2
      go_wp2
      go_ret
      exact ⟨rfl, HE.out⟩

set_option maxRecDepth 100000 in
theorem lifted (os : Os) (started : os.Started) (H : Type) (enc : TypeId × Value → H) :
    ReturnsInHanded {} Try.checked os 4 .any (Rows.cacheLastSpec.pre6 enc Try.prog Try.f4 Rows.cacheLastRow.domain false) (Rows.cacheLastSpec.post enc Try.prog Try.f4 false true false false) := by
  refine returnsInHanded_of_change (C := Try.checked) own started (by kernel_rfl) Try.func4
    (ChangeSpec.witness6 (enc := enc) (C := Try.checked) false ⟨#[], #[.slice none 0 0, .int .i64 0], []⟩ 8 (by kernel_rfl) (by kernel_rfl) (by kernel_rfl) (by kernel_rfl)) ?_
  intro W base args ds gs before hval0 hW hcnd _
  have hval : ∀ (j : Nat) t v, Try.f4.params[j]? = some t → args[j]? = some v → Value.okWide Try.prog W .any base t v := hval0
  have hW' := hW
  obtain ⟨p, q, hA0, hV, rfl, hfz, hnd⟩ := hW
  have hA : DataW.TrodAll enc Try.prog W 0 (fun _ => true) true Try.f4.params.toList args.toList ds p := hA0
  rw [Try.params4] at hA hval
  obtain ⟨v0, vs0, d0, ds0, p0, q0, hargs, rfl, rfl, h0, r0⟩ := trodAll_cons hA
  obtain ⟨v1, vs1, d1, ds1, p1, q1, rfl, rfl, rfl, h1, r1⟩ := trodAll_cons r0
  obtain ⟨rfl, rfl, rfl⟩ := trodAll_nil r1
  obtain rfl : args = #[v0, v1] := by cases args; simp_all
  obtain ⟨rfl, rfl⟩ := trodVars_none hV
  obtain ⟨l0, hl0, hm0, hn0⟩ := arg_acts (hval 0 22 v0 rfl rfl) h0
  obtain ⟨a1, rfl, rfl, rfl, w1⟩ := open_int Try.underlying3 (hval 1 3 v1 rfl rfl) h1
  refine (walk W v0 l0 hl0 hm0 hn0 a1 w1).mono fun e W' ⟨he, hg⟩ => ?_
  subst he
  exact ⟨_, rfl, law_post laidOut rfl hW' (by kernel_rfl) rfl Try.underlying4 rfl (below_of_by hg)⟩

theorem proved : Rows.CacheLastSaid :=
  OpenClaim.holds_of_wide 4 Try.f4 rfl rfl rfl rfl rfl rfl rfl ⟨rfl, rfl, rfl, rfl, rfl⟩ rfl rfl rfl rfl rfl (by kernel_rfl) Try.func4 (by kernel_rfl)
    (of_decide_eq_true (by kernel_rfl)) (by unfold Func.isWrapper; first | (rw [if_pos (by decide +kernel)]; kernel_rfl) | (rw [if_neg (by decide +kernel)]; exact ⟨rfl, rfl⟩))
    (fun os started H enc _ => lifted os started H enc)
#print axioms proved
end cacheLast
end Go.Proofs.Ytndmnnapjhjkmaa
