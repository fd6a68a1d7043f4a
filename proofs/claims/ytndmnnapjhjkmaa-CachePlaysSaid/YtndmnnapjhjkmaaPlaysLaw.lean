/-
  CachePlays: whatever is put and got, a cache answers what the document says.
-/
import Derived.Test.YtndmnnapjhjkmaaPlaysS
import Derived.Test.YtndmnnapjhjkmaaRow
import Derived.Deep.RegionHeld3
import Derived.Deep.DeepCutAuto
import Derived.Deep.RegionWith
namespace Go.Proofs.Ytndmnnapjhjkmaa
open Go.ChangeShapes Go.WideShapes Go.ChangeAt Go.RowKit iStrRes
namespace cachePlays

structure Rel (w : World) (c r C : Nat) (cap : Int) (q m : Nat) (i : Value) (wr : World) (j : Nat) (qs : List (ByteArray × Ent)) : Prop where
  slot : i = .int .i64 (j : Int)
  le : j ≤ q
  le2 : j ≤ 100
  num : m = q - j
  st : SP w wr c r C cap qs
  ml : qs.length ≤ j
theorem chg_cell {w W : World} {a : Addr} {u : Value} (h : Chg w W (fun b => w.heap.size ≤ b)) (hc : w.cell? a = some u) : W.cell? a = some u := by
  have hlt := World.block_lt_of_cell? w a hc
  exact (World.cell?_of_block (h.block a.block hlt (by omega))).trans hc
theorem gput_len1 {α : Type} {cap : Int} {ps : List (ByteArray × α)} {k : ByteArray} {v : α} : (gput cap ps k v).length ≤ ps.length + 1 := by
  unfold gput
  have h1 : (gless ps k).length ≤ ps.length := List.length_filter_le _ _
  cases glook ps k with
  | some u => simp only [List.length_cons]; omega
  | none =>
    by_cases h0 : cap = 0
    · simp [h0]
    · by_cases h1 : ((ps.length : Nat) : Int) = cap
      · simp only [if_neg h0, if_pos h1, List.length_cons, List.length_dropLast]; omega
      · simp only [if_neg h0, if_neg h1, List.length_cons]; omega
theorem SH.chgOf {w W : World} {c r C : Nat} {cap : Int} {qs : List (ByteArray × Ent)} {ps : List (ByteArray × Nat)} (h : SH w W c r C cap qs ps) : Chg w W (fun b => w.heap.size ≤ b) := h.chg

set_option maxRecDepth 100000 in
set_option maxHeartbeats 4000000 in
theorem walk (w : World) (v : Value) (l : List Act3) (hv : Acts w v l) (hw : ∀ x ∈ l, x.2.1.size ≤ maxLen ∧ (Lit.int .u8 x.2.2).wf = true) (hl : l.length ≤ maxLen) (cap : Int) (_wc : (Lit.int .i64 cap).wf = true) :
    Calls Try.prog 3 #[v, .int .i64 cap] w fun e w' => e = .returned (.bool true) ∧ w.grownBy w' none := by
  unfold maxLen at hl
  have HV := Lib.hid (And.intro hv hw)
  obtain ⟨A, cp, rfl, hcap, _⟩ := hv
  obtain ⟨C, hC⟩ : ∃ C : Nat, max cap 0 = (C : Int) := ⟨(max cap 0).toNat, by omega⟩
  have HC := Lib.hid hC
  clear hw hC
  go_enter Try.func3, Try.ntmps3
  go_wp2_with fail
  refine (ccnew_any w cap).mono ?_
  rintro e w2 ⟨c, M, K, rfl, hC2, y2, hM, hK⟩
  rw [HC.out] at hC2
  have hS := SP.start (cap := cap) hC2 y2 hM
  obtain ⟨w3, hw3⟩ : ∃ w3, w3 = w2.alloc (.cells #[.int .i64 cap, .slice none 0 0] 28) := ⟨_, rfl⟩
  obtain ⟨r, hr⟩ : ∃ r, r = w2.heap.size := ⟨_, rfl⟩
  rw [← hw3, ← hr] at hS
  have H3 := Lib.hid hS
  have Hw3 := Lib.hid (And.intro hw3 hr)
  clear hS y2 hM hK hC2 hw3 hr
  go_wp2_with fail
  rw [← Hw3.out.1, ← Hw3.out.2]
  clear Hw3
  go_loopg [7] l.length (fun k i wr => ∃ j qs, Rel w c r C cap l.length k i wr j qs)
  case atStart => exact ⟨0, [], rfl, by omega, by omega, by omega, H3.out, Nat.le_refl _⟩
  case round =>
    clear H3
    obtain ⟨j, qs, hr⟩ := hrel
    obtain rfl := hr.slot
    have hle := hr.le
    have hle2 := hr.le2
    have Hr := Lib.hid hr
    clear hr
    by_cases h1 : j < l.length
    · by_cases h2 : j < 100
      · obtain ⟨A', cap', hA, _, hcell⟩ := HV.out.1
        injection hA with hA1 hA2 hA3
        subst hA1; subst hA3
        obtain ⟨b, off, rfl, hb, hc⟩ := hcell (by omega)
        obtain ⟨x0, x1, x2⟩ := hc j h1
        obtain ⟨isg, k, u, hact⟩ : ∃ isg k u, l[j] = (isg, k, u) := ⟨_, _, _, rfl⟩
        rw [hact] at x0 x1 x2
        have hwf := HV.out.2 l[j] (List.getElem_mem h1)
        rw [hact] at hwf
        dsimp only at hwf
        obtain ⟨n, rfl⟩ := Int.eq_ofNat_of_zero_le (bounds_u8 hwf.2).1
        have hn : n < 256 := by have := (bounds_u8 hwf.2).2; omega
        have hk : WfI k := hwf.1
        have hlt' : (j : Int) < (l.length : Int) := by omega
        have hz0 : (0 : Int) ≤ (j : Int) := by omega
        have hz1 : (j : Int) < 100 := by omega
        have HH := Lib.hid (And.intro hk (And.intro hn (show qs.length < 1000000 by have := Hr.out.ml; omega)))
        have HX := Lib.hid (And.intro x0 (And.intro x1 x2))
        clear hcell hc hb hA2 hact hwf x0 x1 x2 hk hn
        dsimp only at HX
        have z0 : wr.cell? ⟨b, off + j * 3, none⟩ = some (.bool isg) := chg_cell Hr.out.st.chg HX.out.1
        have z1 : wr.cell? ⟨b, off + j * 3 + 1, none⟩ = some (.string k) := chg_cell Hr.out.st.chg HX.out.2.1
        have z2 : wr.cell? ⟨b, off + j * 3 + 2, none⟩ = some (.int .u8 (n : Int)) := chg_cell Hr.out.st.chg HX.out.2.2
        go_upto_if 31 with fail
        go_cut [] (fun wx => ∃ qs', SP w wx c r C cap qs' ∧ qs'.length ≤ j + 1)
        case first =>
          cases isg with
          | true =>
            go_wp2_with fail
            have S0 := Hr.out.st.grown (by_drew (by_refl wr none))
            refine wp_region_noPanic ?_
            refine wp_region_held_drew (S := fun W => Chg w W (fun b => w.heap.size ≤ b)) (by kernel_rfl) (S0.chg) (fun hHeld => ?_)
            refine wpAnyH_take (i := 0) (oi := _) (v := _) rfl (by kernel_rfl) (by kernel_rfl) (by kernel_rfl) (fun _ _ _ h => h) (Or.inl ⟨by rfl, fun _ _ => by go_simp; try rfl⟩) hHeld ?_
            try simp only [Act.put, List.getElem_toArray, List.getElem_cons_zero, List.getElem_cons_succ, List.setIfInBounds_toArray, List.set_cons_zero, List.set_cons_succ]
            refine wpAnyH_take (i := 1) (oi := _) (v := _) rfl (by kernel_rfl) (by kernel_rfl) (by kernel_rfl) (fun _ _ _ h => h) (Or.inl ⟨by rfl, fun _ _ => by go_simp; try rfl⟩) hHeld ?_
            try simp only [Act.put, List.getElem_toArray, List.getElem_cons_zero, List.getElem_cons_succ, List.setIfInBounds_toArray, List.set_cons_zero, List.set_cons_succ]
            refine wpAnyH_take (i := 2) (oi := _) (v := _) rfl (by kernel_rfl) (by kernel_rfl) (by kernel_rfl) (fun _ _ _ h => h) (Or.inl ⟨by rfl, fun _ _ => by go_simp; try rfl⟩) hHeld ?_
            try simp only [Act.put, List.getElem_toArray, List.getElem_cons_zero, List.getElem_cons_succ, List.setIfInBounds_toArray, List.set_cons_zero, List.set_cons_succ]
            refine wpAnyH_take (i := 3) (oi := _) (v := _) rfl (by kernel_rfl) (by kernel_rfl) (by kernel_rfl) (fun _ _ _ h => h) (Or.inl ⟨by rfl, fun _ _ => by go_simp; try rfl⟩) hHeld ?_
            try simp only [Act.put, List.getElem_toArray, List.getElem_cons_zero, List.getElem_cons_succ, List.setIfInBounds_toArray, List.set_cons_zero, List.set_cons_succ]
            refine wpAnyH_take (i := 4) (oi := _) (v := _) rfl (by kernel_rfl) (by kernel_rfl) (by kernel_rfl) (fun _ _ _ h => h) (Or.inl ⟨by rfl, fun _ _ => by go_simp; try rfl⟩) hHeld ?_
            try simp only [Act.put, List.getElem_toArray, List.getElem_cons_zero, List.getElem_cons_succ, List.setIfInBounds_toArray, List.set_cons_zero, List.set_cons_succ]
            refine wpAnyH_take (i := 5) (oi := _) (v := _) rfl (by kernel_rfl) (by kernel_rfl) (by kernel_rfl) (fun _ _ _ h => h) (Or.inl ⟨by rfl, fun _ h => by have hx := chg_cell h HX.out.2.1; (try simp only [List.getElem_toArray, List.getElem_cons_zero, List.getElem_cons_succ]); go_simp; try rfl⟩) hHeld ?_
            try simp only [Act.put, List.getElem_toArray, List.getElem_cons_zero, List.getElem_cons_succ, List.setIfInBounds_toArray, List.set_cons_zero, List.set_cons_succ]
            refine wpAnyH_take (i := 6) (oi := _) (v := _) rfl (by kernel_rfl) (by kernel_rfl) (by kernel_rfl) (fun _ _ _ h => h) (Or.inl ⟨by rfl, fun _ _ => by go_simp; try rfl⟩) hHeld ?_
            try simp only [Act.put, List.getElem_toArray, List.getElem_cons_zero, List.getElem_cons_succ, List.setIfInBounds_toArray, List.set_cons_zero, List.set_cons_succ]
            refine wpAnyH_take (i := 7) (oi := _) (v := _) rfl (by kernel_rfl) (by kernel_rfl) (by kernel_rfl) (fun _ _ _ h => h) (Or.inl ⟨by rfl, fun _ _ => by go_simp; try rfl⟩) hHeld ?_
            try simp only [Act.put, List.getElem_toArray, List.getElem_cons_zero, List.getElem_cons_succ, List.setIfInBounds_toArray, List.set_cons_zero, List.set_cons_succ]
            refine wpAnyH_take (i := 8) (oi := _) (v := _) rfl (by kernel_rfl) (by kernel_rfl) (by kernel_rfl) (fun _ _ _ h => h) (Or.inl ⟨by rfl, fun _ _ => by go_simp; try rfl⟩) hHeld ?_
            try simp only [Act.put, List.getElem_toArray, List.getElem_cons_zero, List.getElem_cons_succ, List.setIfInBounds_toArray, List.set_cons_zero, List.set_cons_succ]
            refine wpAnyH_take (i := 9) (oi := _) (v := _) rfl (by kernel_rfl) (by kernel_rfl) (by kernel_rfl) (fun _ _ _ h => h) (Or.inl ⟨by rfl, fun _ _ => by go_simp; try rfl⟩) hHeld ?_
            try simp only [Act.put, List.getElem_toArray, List.getElem_cons_zero, List.getElem_cons_succ, List.setIfInBounds_toArray, List.set_cons_zero, List.set_cons_succ]
            refine wpAnyH_take (i := 10) (oi := _) (v := _) rfl (by kernel_rfl) (by kernel_rfl) (by kernel_rfl) (fun _ _ _ h => h) (Or.inl ⟨by rfl, fun _ h => by have hx := chg_cell h HX.out.2.2; (try simp only [List.getElem_toArray, List.getElem_cons_zero, List.getElem_cons_succ]); go_simp; try rfl⟩) hHeld ?_
            try simp only [Act.put, List.getElem_toArray, List.getElem_cons_zero, List.getElem_cons_succ, List.setIfInBounds_toArray, List.set_cons_zero, List.set_cons_succ]
            refine wpAnyH_ready (rs := [11]) (by kernel_rfl) (by simp) ?_
            refine AllReadyH.cons (o := _) rfl (fun K hK => ?_) AllReadyH.nil
            go_simp
            refine (res_at _ n _ rfl HH.out.2.1).mono ?_
            rintro e w4 ⟨rv, G, rfl, hv4, y4, _, _⟩
            dsimp only
            refine hK.out _ _ (hHeld.trans (Chg.of_none (S := fun _ => False) y4) (fun _ h => h.elim)) (fun hHeld => ?_)
            clear hK K
            try simp only [Act.put, List.getElem_toArray, List.getElem_cons_zero, List.getElem_cons_succ, List.setIfInBounds_toArray, List.set_cons_zero, List.set_cons_succ]
            have S4 := S0.grown y4
            have H4 := Lib.hid (And.intro S4 hv4)
            clear S4 hv4 y4 S0
            refine wpAnyH_ready (rs := [12]) (by kernel_rfl) (by simp) ?_
            refine AllReadyH.cons (o := _) rfl (fun K hK => ?_) AllReadyH.nil
            go_simp
            refine (H4.out.1.cput HH.out.1 HH.out.2.2 H4.out.2).mono ?_
            rintro e w5 ⟨rfl, S5⟩
            dsimp only
            refine hK.out _ _ (S5.chg) (fun hHeld => ?_)
            clear hK K
            try simp only [Act.put, List.getElem_toArray, List.getElem_cons_zero, List.getElem_cons_succ, List.setIfInBounds_toArray, List.set_cons_zero, List.set_cons_succ]
            have H5 := Lib.hid S5
            clear S5 hHeld H4
            refine wpAnyH_done (by kernel_rfl) (NoPanic.normal ?_) _
            clear z0 z1 z2
            go_wp2_with fail
            have S0 := H5.out.grown (by_drew (by_refl w5 none))
            refine wp_region_noPanic ?_
            refine wp_region_held_drew (S := fun W => Chg w W (fun b => w.heap.size ≤ b)) (by kernel_rfl) (S0.chg) (fun hHeld => ?_)
            refine wpAnyH_take (i := 0) (oi := _) (v := _) rfl (by kernel_rfl) (by kernel_rfl) (by kernel_rfl) (fun _ _ _ h => h) (Or.inl ⟨by rfl, fun _ _ => by go_simp; try rfl⟩) hHeld ?_
            try simp only [Act.put, List.getElem_toArray, List.getElem_cons_zero, List.getElem_cons_succ, List.setIfInBounds_toArray, List.set_cons_zero, List.set_cons_succ]
            refine wpAnyH_take (i := 1) (oi := _) (v := _) rfl (by kernel_rfl) (by kernel_rfl) (by kernel_rfl) (fun _ _ _ h => h) (Or.inl ⟨by rfl, fun _ _ => by go_simp; try rfl⟩) hHeld ?_
            try simp only [Act.put, List.getElem_toArray, List.getElem_cons_zero, List.getElem_cons_succ, List.setIfInBounds_toArray, List.set_cons_zero, List.set_cons_succ]
            refine wpAnyH_take (i := 2) (oi := _) (v := _) rfl (by kernel_rfl) (by kernel_rfl) (by kernel_rfl) (fun _ _ _ h => h) (Or.inl ⟨by rfl, fun _ _ => by go_simp; try rfl⟩) hHeld ?_
            try simp only [Act.put, List.getElem_toArray, List.getElem_cons_zero, List.getElem_cons_succ, List.setIfInBounds_toArray, List.set_cons_zero, List.set_cons_succ]
            refine wpAnyH_take (i := 3) (oi := _) (v := _) rfl (by kernel_rfl) (by kernel_rfl) (by kernel_rfl) (fun _ _ _ h => h) (Or.inl ⟨by rfl, fun _ _ => by go_simp; try rfl⟩) hHeld ?_
            try simp only [Act.put, List.getElem_toArray, List.getElem_cons_zero, List.getElem_cons_succ, List.setIfInBounds_toArray, List.set_cons_zero, List.set_cons_succ]
            refine wpAnyH_take (i := 4) (oi := _) (v := _) rfl (by kernel_rfl) (by kernel_rfl) (by kernel_rfl) (fun _ _ _ h => h) (Or.inl ⟨by rfl, fun _ _ => by go_simp; try rfl⟩) hHeld ?_
            try simp only [Act.put, List.getElem_toArray, List.getElem_cons_zero, List.getElem_cons_succ, List.setIfInBounds_toArray, List.set_cons_zero, List.set_cons_succ]
            refine wpAnyH_take (i := 5) (oi := _) (v := _) rfl (by kernel_rfl) (by kernel_rfl) (by kernel_rfl) (fun _ _ _ h => h) (Or.inl ⟨by rfl, fun _ h => by have hx := chg_cell h HX.out.2.1; (try simp only [List.getElem_toArray, List.getElem_cons_zero, List.getElem_cons_succ]); go_simp; try rfl⟩) hHeld ?_
            try simp only [Act.put, List.getElem_toArray, List.getElem_cons_zero, List.getElem_cons_succ, List.setIfInBounds_toArray, List.set_cons_zero, List.set_cons_succ]
            refine wpAnyH_take (i := 6) (oi := _) (v := _) rfl (by kernel_rfl) (by kernel_rfl) (by kernel_rfl) (fun _ _ _ h => h) (Or.inl ⟨by rfl, fun _ _ => by go_simp; try rfl⟩) hHeld ?_
            try simp only [Act.put, List.getElem_toArray, List.getElem_cons_zero, List.getElem_cons_succ, List.setIfInBounds_toArray, List.set_cons_zero, List.set_cons_succ]
            refine wpAnyH_take (i := 7) (oi := _) (v := _) rfl (by kernel_rfl) (by kernel_rfl) (by kernel_rfl) (fun _ _ _ h => h) (Or.inl ⟨by rfl, fun _ _ => by go_simp; try rfl⟩) hHeld ?_
            try simp only [Act.put, List.getElem_toArray, List.getElem_cons_zero, List.getElem_cons_succ, List.setIfInBounds_toArray, List.set_cons_zero, List.set_cons_succ]
            refine wpAnyH_take (i := 8) (oi := _) (v := _) rfl (by kernel_rfl) (by kernel_rfl) (by kernel_rfl) (fun _ _ _ h => h) (Or.inl ⟨by rfl, fun _ _ => by go_simp; try rfl⟩) hHeld ?_
            try simp only [Act.put, List.getElem_toArray, List.getElem_cons_zero, List.getElem_cons_succ, List.setIfInBounds_toArray, List.set_cons_zero, List.set_cons_succ]
            refine wpAnyH_take (i := 9) (oi := _) (v := _) rfl (by kernel_rfl) (by kernel_rfl) (by kernel_rfl) (fun _ _ _ h => h) (Or.inl ⟨by rfl, fun _ _ => by go_simp; try rfl⟩) hHeld ?_
            try simp only [Act.put, List.getElem_toArray, List.getElem_cons_zero, List.getElem_cons_succ, List.setIfInBounds_toArray, List.set_cons_zero, List.set_cons_succ]
            refine wpAnyH_take (i := 10) (oi := _) (v := _) rfl (by kernel_rfl) (by kernel_rfl) (by kernel_rfl) (fun _ _ _ h => h) (Or.inl ⟨by rfl, fun _ h => by have hx := chg_cell h HX.out.2.2; (try simp only [List.getElem_toArray, List.getElem_cons_zero, List.getElem_cons_succ]); go_simp; try rfl⟩) hHeld ?_
            try simp only [Act.put, List.getElem_toArray, List.getElem_cons_zero, List.getElem_cons_succ, List.setIfInBounds_toArray, List.set_cons_zero, List.set_cons_succ]
            refine wpAnyH_ready (rs := [11]) (by kernel_rfl) (by simp) ?_
            refine AllReadyH.cons (o := _) rfl (fun K hK => ?_) AllReadyH.nil
            go_simp
            refine (res_at _ n _ rfl HH.out.2.1).mono ?_
            rintro e w6 ⟨rv2, G2, rfl, hv6, y6, _, _⟩
            dsimp only
            refine hK.out _ _ (hHeld.trans (Chg.of_none (S := fun _ => False) y6) (fun _ h => h.elim)) (fun hHeld => ?_)
            clear hK K
            try simp only [Act.put, List.getElem_toArray, List.getElem_cons_zero, List.getElem_cons_succ, List.setIfInBounds_toArray, List.set_cons_zero, List.set_cons_succ]
            have S6 := S0.grown y6
            have H6 := Lib.hid (And.intro S6 hv6)
            clear S6 hv6 y6 S0
            refine wpAnyH_ready (rs := [12]) (by kernel_rfl) (by simp) ?_
            refine AllReadyH.cons (o := _) rfl (fun K hK => ?_) AllReadyH.nil
            go_simp
            refine (H6.out.1.rput HC.out HH.out.2.2 Hr.out.st.len Hr.out.st.keys H6.out.2).mono ?_
            rintro e w7 ⟨rfl, S7⟩
            dsimp only
            refine hK.out _ _ (S7.chg) (fun hHeld => ?_)
            clear hK K
            try simp only [Act.put, List.getElem_toArray, List.getElem_cons_zero, List.getElem_cons_succ, List.setIfInBounds_toArray, List.set_cons_zero, List.set_cons_succ]
            have H7 := Lib.hid S7
            clear S7 hHeld H6
            refine wpAnyH_done (by kernel_rfl) (NoPanic.normal ?_) _
            go_wp2_with fail
            go_meet
            exact ⟨_, H7.out, Nat.le_trans gput_len1 (by have := Hr.out.ml; omega)⟩
          | false =>
            go_wp2_with fail
            refine (Hr.out.st.cget HH.out.1).mono ?_
            rintro e w4 ⟨S4, hg⟩
            rcases hg with ⟨ent, rv, G, hl1, rfl, hv4⟩ | ⟨hl1, rfl⟩
            · obtain ⟨w5, hw5⟩ : ∃ W, W = w4.alloc (.cells #[.slice rv.d.1 rv.d.2.1 rv.d.2.2, .string rv.p, .bool rv.b, .slice rv.vs.1 rv.vs.2.1 rv.vs.2.2, .slice rv.ts.1 rv.ts.2.1 rv.ts.2.2, .int .u64 rv.c] 38) := ⟨_, rfl⟩
              have y5 : w4.grownBy w5 none := by rw [hw5]; exact by_alloc (by_refl _ _) _
              have hb5 : Blk w5 w4.heap.size 38 #[.slice rv.d.1 rv.d.2.1 rv.d.2.2, .string rv.p, .bool rv.b, .slice rv.vs.1 rv.vs.2.1 rv.vs.2.2, .slice rv.ts.1 rv.ts.2.1 rv.ts.2.2, .int .u64 rv.c] := by rw [hw5]; exact Blk.new _ _ _
              have S5 := S4.grown y5
              have z3 : w5.cell? ⟨b, off + j * 3 + 1, none⟩ = some (.string k) := chg_cell S5.chg HX.out.2.1
              rw [hw5] at z3
              have H5 := Lib.hid (And.intro S5 (And.intro (hv4.grown y5) (And.intro hb5 hl1)))
              have Hw5 := Lib.hid hw5
              clear hw5 y5 hb5 S5 S4 hv4 hl1 z0 z1 z2
              go_wp2_with fail
              rw [← Hw5.out]
              refine (H5.out.1.rget HC.out HH.out.2.2 Hr.out.st.len Hr.out.st.keys).mono ?_
              rintro e w6 ⟨y6, S6, hg⟩
              rcases hg with ⟨ent2, hl2, hv6, rfl⟩ | ⟨hl2, _⟩
              · have ee : ent2 = ent := by rw [H5.out.2.2.2] at hl2; cases hl2; rfl
                subst ee
                obtain ⟨vr, hbr, _⟩ := H5.out.1.ref
                have hv56 := H5.out.2.1.chg (Chg.of_by (S := fun b => b = r) y6 fun g e => by cases e; rfl) (fun b h e => (H5.out.2.1.notTy hbr (.inl rfl)).1 (e ▸ h)) (fun b h e => (H5.out.2.1.notTy hbr (.inl rfl)).2 (e ▸ h))
                have hb6 := H5.out.2.2.1.grown y6 (fun e => H5.out.2.2.1.ne_ hbr (by decide) (by injection e))
                obtain ⟨w7, hw7⟩ : ∃ W, W = w6.alloc (.cells #[.slice ent2.rv.d.1 ent2.rv.d.2.1 ent2.rv.d.2.2, .string ent2.rv.p, .bool ent2.rv.b, .slice ent2.rv.vs.1 ent2.rv.vs.2.1 ent2.rv.vs.2.2, .slice ent2.rv.ts.1 ent2.rv.ts.2.1 ent2.rv.ts.2.2, .int .u64 ent2.rv.c] 38) := ⟨_, rfl⟩
                have y7 : w6.grownBy w7 none := by rw [hw7]; exact by_alloc (by_refl _ _) _
                have hb7 : Blk w7 w6.heap.size 38 #[.slice ent2.rv.d.1 ent2.rv.d.2.1 ent2.rv.d.2.2, .string ent2.rv.p, .bool ent2.rv.b, .slice ent2.rv.vs.1 ent2.rv.vs.2.1 ent2.rv.vs.2.2, .slice ent2.rv.ts.1 ent2.rv.ts.2.1 ent2.rv.ts.2.2, .int .u64 ent2.rv.c] := by rw [hw7]; exact Blk.new _ _ _
                have H7 := Lib.hid (And.intro (S6.grown y7) (And.intro ((hv56.grown y7).twin (hv6.grown y7)) (And.intro (hb6.grown y7 (by simp)) hb7)))
                have Hw7 := Lib.hid hw7
                clear hw7 y7 hb7 hb6 hv56 hbr S6 y6 hv6 hl2
                go_wp2_with (first | (rw [← Hw7.out]; refine wpList_load_row_g rfl 38 (.tmp 8) rfl w4.heap.size rfl 38 #[.slice rv.d.1 rv.d.2.1 rv.d.2.2, .string rv.p, .bool rv.b, .slice rv.vs.1 rv.vs.2.1 rv.vs.2.2, .slice rv.ts.1 rv.ts.2.1 rv.ts.2.2, .int .u64 rv.c] (0, 0) _ H7.out.2.2.1 Try.underlying38 rfl (sz6 rv) ?_) | (refine wpList_load_row_g rfl 38 (.tmp 10) rfl w6.heap.size rfl 38 #[.slice ent2.rv.d.1 ent2.rv.d.2.1 ent2.rv.d.2.2, .string ent2.rv.p, .bool ent2.rv.b, .slice ent2.rv.vs.1 ent2.rv.vs.2.1 ent2.rv.vs.2.2, .slice ent2.rv.ts.1 ent2.rv.ts.2.1 ent2.rv.ts.2.2, .int .u64 ent2.rv.c] (0, 0) _ H7.out.2.2.2 Try.underlying38 rfl (sz6 ent2.rv) ?_))
                refine (same24_any w7 rv ent2.rv H7.out.2.1).mono ?_
                rintro e w8 ⟨rfl, y8⟩
                have H8 := Lib.hid (H7.out.1.grown y8)
                clear y8 H7
                go_wp2_with fail
                go_meet
                exact ⟨_, H8.out, Nat.le_trans (ggot_len _ _) (by have := Hr.out.ml; omega)⟩
              · exact absurd (H5.out.2.2.2.symm.trans hl2) (by simp)
            · obtain ⟨w5, hw5⟩ : ∃ W, W = w4.alloc (.cells #[.slice none 0 0, .string ⟨#[]⟩, .bool false, .slice none 0 0, .slice none 0 0, .int .u64 0] 38) := ⟨_, rfl⟩
              have y5 : w4.grownBy w5 none := by rw [hw5]; exact by_alloc (by_refl _ _) _
              have hb5 : Blk w5 w4.heap.size 38 #[.slice none 0 0, .string ⟨#[]⟩, .bool false, .slice none 0 0, .slice none 0 0, .int .u64 0] := by rw [hw5]; exact Blk.new _ _ _
              have S5 := S4.grown y5
              have z3 : w5.cell? ⟨b, off + j * 3 + 1, none⟩ = some (.string k) := chg_cell S5.chg HX.out.2.1
              rw [hw5] at z3
              have H5 := Lib.hid (And.intro S5 (And.intro hb5 hl1))
              have Hw5 := Lib.hid hw5
              clear hw5 y5 hb5 S5 S4 hl1 z0 z1 z2
              go_wp2_with fail
              rw [← Hw5.out]
              refine (H5.out.1.rget HC.out HH.out.2.2 Hr.out.st.len Hr.out.st.keys).mono ?_
              rintro e w6 ⟨y6, S6, hg⟩
              rcases hg with ⟨ent2, hl2, _⟩ | ⟨_, rfl⟩
              · exact absurd (H5.out.2.2.symm.trans hl2) (by simp)
              · obtain ⟨vr, hbr, _⟩ := H5.out.1.ref
                have hb6 := H5.out.2.1.grown y6 (fun e => H5.out.2.1.ne_ hbr (by decide) (by injection e))
                obtain ⟨w7, hw7⟩ : ∃ W, W = w6.alloc (.cells #[.slice none 0 0, .string ⟨#[]⟩, .bool false, .slice none 0 0, .slice none 0 0, .int .u64 0] 38) := ⟨_, rfl⟩
                have y7 : w6.grownBy w7 none := by rw [hw7]; exact by_alloc (by_refl _ _) _
                have hb7 : Blk w7 w6.heap.size 38 #[.slice none 0 0, .string ⟨#[]⟩, .bool false, .slice none 0 0, .slice none 0 0, .int .u64 0] := by rw [hw7]; exact Blk.new _ _ _
                have H7 := Lib.hid (And.intro (S6.grown y7) (And.intro (twin_zero w7) (And.intro (hb6.grown y7 (by simp)) (And.intro hb7 (sz6 RV0)))))
                have Hw7 := Lib.hid hw7
                clear hw7 y7 hb7 hb6 hbr S6 y6
                go_wp2_with (first | (rw [← Hw7.out]; refine wpList_load_row_g rfl 38 (.tmp 8) rfl w4.heap.size rfl 38 #[.slice none 0 0, .string ⟨#[]⟩, .bool false, .slice none 0 0, .slice none 0 0, .int .u64 0] (0, 0) _ H7.out.2.2.1 Try.underlying38 rfl H7.out.2.2.2.2 ?_) | (refine wpList_load_row_g rfl 38 (.tmp 10) rfl w6.heap.size rfl 38 #[.slice none 0 0, .string ⟨#[]⟩, .bool false, .slice none 0 0, .slice none 0 0, .int .u64 0] (0, 0) _ H7.out.2.2.2.1 Try.underlying38 rfl H7.out.2.2.2.2 ?_))
                refine (same24_any w7 RV0 RV0 H7.out.2.1).mono ?_
                rintro e w8 ⟨rfl, y8⟩
                have H8 := Lib.hid (H7.out.1.grown y8)
                clear y8 H7
                go_wp2_with fail
                go_meet
                exact ⟨_, H8.out, Nat.le_trans (ggot_len _ _) (by have := Hr.out.ml; omega)⟩
        case rest =>
          clear z0 z1 z2
          obtain ⟨qs', S9, hm9⟩ := hcut
          obtain ⟨A9, cp9, x9⟩ := S9.rlen
          have H9 := Lib.hid (And.intro S9 hm9)
          have Hlen := Lib.hid (fun m => (S9.grown (by_drewN (by_refl wc none) m)).clen)
          obtain ⟨q9, hq9⟩ : ∃ q, q = qs'.length := ⟨_, rfl⟩
          rw [← hq9] at x9 Hlen
          clear S9 hm9 hq9
          go_wp2_with fail
          go_quiet ((go_at_call 14; exact Calls.quiet_of_same ((Hlen.out _).mono (fun _ _ h => ⟨h.1, h.2.symm⟩))))
          go_wp2
          go_roundg (l.length - (j + 1))
          case measure => have := Hr.out.num; omega
          case rel => exact ⟨j + 1, qs', by go_num, by omega, by omega, rfl, H9.out.1.grown (by_drewN (by_refl _ _) _), H9.out.2⟩
      · have hnot : ¬ (j : Int) < 100 := by omega
        have hlt' : (j : Int) < (l.length : Int) := by omega
        have hz0 : (0 : Int) ≤ (j : Int) := by omega
        have HE := Lib.hid Hr.out.st.by_
        clear hle hle2
        go_wp2_with fail
        refine (works_any wr).mono ?_
        rintro e w9 ⟨rfl, y9⟩
        have HE9 := Lib.hid (by_trans HE.out y9 (by simp))
        clear y9
        go_wp2
        go_ret
        exact ⟨rfl, HE9.out⟩
    · have hnot : ¬ (j : Int) < (l.length : Int) := by omega
      have hz0 : (0 : Int) ≤ (j : Int) := by omega
      have HE := Lib.hid Hr.out.st.by_
      clear hle hle2
      go_wp2_with fail
      refine (works_any wr).mono ?_
      rintro e w9 ⟨rfl, y9⟩
      have HE9 := Lib.hid (by_trans HE.out y9 (by simp))
      clear y9
      go_wp2
      go_ret
      exact ⟨rfl, HE9.out⟩

set_option maxRecDepth 100000 in
theorem lifted (os : Os) (started : os.Started) (H : Type) (enc : TypeId × Value → H) :
    ReturnsInHanded {} Try.checked os 3 .any (Rows.cachePlaysSpec.pre6 enc Try.prog Try.f3 Rows.cachePlaysRow.domain false) (Rows.cachePlaysSpec.post enc Try.prog Try.f3 false true false false) := by
  refine returnsInHanded_of_change (C := Try.checked) own started (by kernel_rfl) Try.func3
    (ChangeSpec.witness6 (enc := enc) (C := Try.checked) false ⟨#[], #[.slice none 0 0, .int .i64 0], []⟩ 8 (by kernel_rfl) (by kernel_rfl) (by kernel_rfl) (by kernel_rfl)) ?_
  intro W base args ds gs before hval0 hW hcnd _
  have hval : ∀ (j : Nat) t v, Try.f3.params[j]? = some t → args[j]? = some v → Value.okWide Try.prog W .any base t v := hval0
  have hW' := hW
  obtain ⟨p, q, hA0, hV, rfl, hfz, hnd⟩ := hW
  have hA : DataW.TrodAll enc Try.prog W 0 (fun _ => true) true Try.f3.params.toList args.toList ds p := hA0
  rw [Try.params3] at hA hval
  obtain ⟨v0, vs0, d0, ds0, p0, q0, hargs, rfl, rfl, h0, r0⟩ := trodAll_cons hA
  obtain ⟨v1, vs1, d1, ds1, p1, q1, rfl, rfl, rfl, h1, r1⟩ := trodAll_cons r0
  obtain ⟨rfl, rfl, rfl⟩ := trodAll_nil r1
  obtain rfl : args = #[v0, v1] := by cases args; simp_all
  obtain ⟨rfl, rfl⟩ := trodVars_none hV
  obtain ⟨l0, hl0, hm0, hn0⟩ := arg_acts (hval 0 22 v0 rfl rfl) h0
  obtain ⟨a1, rfl, rfl, rfl, w1⟩ := open_int Try.underlying3 (hval 1 3 v1 rfl rfl) h1
  refine (walk W v0 l0 hl0 hm0 hn0 a1 w1).mono fun e W' ⟨he, hg⟩ => ?_
  subst he
  exact ⟨_, rfl, law_post laidOut rfl hW' (by kernel_rfl) rfl Try.underlying4 rfl (below_of_by hg)⟩

theorem proved : Rows.CachePlaysSaid :=
  OpenClaim.holds_of_wide 3 Try.f3 rfl rfl rfl rfl rfl rfl rfl ⟨rfl, rfl, rfl, rfl, rfl⟩ rfl rfl rfl rfl rfl (by kernel_rfl) Try.func3 (by kernel_rfl)
    (of_decide_eq_true (by kernel_rfl)) (by unfold Func.isWrapper; first | (rw [if_pos (by decide +kernel)]; kernel_rfl) | (rw [if_neg (by decide +kernel)]; exact ⟨rfl, rfl⟩))
    (fun os started H enc _ => lifted os started H enc)
#print axioms proved
end cachePlays
end Go.Proofs.Ytndmnnapjhjkmaa
