/-
  What a row says: the walk of wire.says, with a reader's cut.
-/
import Derived.Test.YtlnlpphhnbodpaaRead
import Derived.Test.YtlnlpphhnbodpaaSaysP
import Derived.Deep.DeepCutAuto
import Derived.BigRegionIn
import Derived.StillTactics
import Derived.Laws.Bits64b
namespace Go.Proofs.Ytlnlpphhnbodpaa
open Go.RowKit Go.Shelf

attribute [local go_sem] Oper.semAt_some

theorem walks_drew (W : World) : KeepsWalks W W.drew := ⟨Nat.le_refl _, fun _ _ h _ => h⟩
def SaysQ (w : World) (r : Nat) (s : ByteArray) (bad : Bool) (e : Ending) (w' : World) : Prop :=
  w.grownBy w' (some r) ∧
  match saysN s with
  | none => e = .returned (.tuple #[.int .u64 0, .string ⟨#[]⟩, .bool false]) ∧ Rd w' r ⟨#[]⟩ true
  | some (n, k) => e = .returned (.tuple #[.int .u64 (n : Int), .string (s.extract 0 k), .bool true]) ∧ Rd w' r (s.extract k s.size) bad

/-- between two rounds -/
structure SaI (w1 : World) (bh bx : Nat) (A : Option Addr) (b : Int) (pre : List Srt) (W : World) : Prop where
  head : Blk W bh 45 #[.slice A 1 1]
  out : Blk W bx 43 (cellS (lastS pre))
  le : ∀ y ∈ pre, y.2.2.1 ≤ b
  below : Below w1.heap.size w1 W
structure SaX (w1 : World) (bh bx : Nat) (A : Option Addr) (b : Int) (c : Code) (pre : List Srt) (W : World) : Prop where
  c_ : c = .exit 0
  head : Blk W bh 45 #[.slice A 1 1]
  is : ∃ pre' x, pre = pre' ++ [x] ∧ (∀ y ∈ pre', y.2.2.1 ≤ b) ∧ b < x.2.2.1 ∧ Blk W bx 43 (cellS (lastS pre'))
  below : Below w1.heap.size w1 W

set_option maxRecDepth 100000 in
set_option maxHeartbeats 4000000 in
theorem says_any (w : World) (r : Nat) (s : ByteArray) (bad : Bool) (h : Rd w r s bad) (hs : s.size ≤ 140737488355328) :
    Calls Try.prog 24 #[.func (.func 25) #[.pointer (some ⟨r, 0, none⟩)] #[]] w (SaysQ w r s bad) := by
  refine (callsIn_wide (n := 6)).1 ?_
  have h1 : 1 ≤ 6 := by omega
  have hro : Fence.wide.round = none := rfl
  refine callsIn_of_wp_marks Try.func24 rfl trivial ?_ hro
  simp only [Try.ntmps24, List.size_toArray, List.length_cons, List.length_nil, Nat.reduceAdd, Nat.reduceSub, Array.replicate_succ, Array.replicate_zero, List.push_toArray, List.append_toArray, List.nil_append, List.cons_append]
  by_cases h0 : s.size = 0
  · have hq : saysN s = none := by
      unfold saysN
      have : s.data.toList = [] := by
        apply List.eq_nil_of_length_eq_zero
        exact h0
      rw [this]
    gi_wp2_with (refine ⟨trivial, ?_⟩; gi_at_call 25; refine (callsIn_wide.2 (cut_no w r s bad 1 h hs (by omega) (by decide))).mono ?_; rintro e w1 ⟨rfl, y1, R1⟩)
    refine ⟨_, results_tmp3 rfl _ _ _, by_alloc y1 _, ?_⟩
    rw [hq]
    exact ⟨rfl, R1.by_ (by_alloc (by_refl _ _) _)⟩
  · obtain ⟨b0, l0, hl0⟩ : ∃ b l, s.data.toList = b :: l := by
      cases e : s.data.toList with
      | nil => exact absurd (show s.data.toList.length = 0 by rw [e]; rfl) h0
      | cons b l => exact ⟨b, l, rfl⟩
    have hb0 := b0.toNat_lt
    gi_wp2_with (first | (refine ⟨trivial, ?_⟩; gi_at_call 25; refine (callsIn_wide.2 (cut_yes w r s bad 1 h hs (by omega))).mono ?_; rintro e w1 ⟨A1, rfl, y1, t1, a1, R1⟩) | (refine ⟨trivial, ?_⟩; gi_at_call 28; refine (sorts_in Fence.wide 5 trivial rfl _).mono ?_; rintro e w' ⟨rfl, rfl⟩))
    obtain ⟨W0, hW0⟩ : ∃ W0, (w1.alloc (.cells #[.slice A1 1 1] 45)).alloc (.cells #[.int .u64 0, .int .u64 0, .int .u8 0, .int .i64 0] 43) = W0 := ⟨_, rfl⟩
    have hb : Below w1.heap.size w1 W0 := by rw [← hW0]; exact ((Below.refl _ w1).alloc (Nat.le_refl _) _).alloc (by simp) _
    have hsz : W0.heap.size = w1.heap.size + 2 := by rw [← hW0]; simp
    have hn0 : Blk W0 w1.heap.size 45 #[.slice A1 1 1] := by rw [← hW0]; exact (Blk.new w1 _ _).alloc _
    have ho0 : Blk W0 (w1.heap.size + 1) 43 (cellS (lastS [])) := by
      rw [← hW0]
      have := Blk.new (w1.alloc (.cells #[.slice A1 1 1] 45)) 43 #[.int .u64 0, .int .u64 0, .int .u8 0, .int .i64 0]
      rw [World.size_alloc] at this
      exact this
    obtain ⟨bb, off, rfl, hbb, hcc⟩ := t1.2 (by decide)
    have hc0 : w1.cell? ⟨bb, off, none⟩ = some (.int .u8 (b0.toNat : Int)) := by
      have e : s[0 + 0]'(by omega) = b0 := by
        have hx : 0 < s.data.toList.length := by rw [hl0]; simp
        have h7 : s.data.toList[0]'hx = b0 := by simp [hl0]
        rw [Array.getElem_toList] at h7
        exact h7
      have h9 := hcc 0 (by rw [t1.1]; decide)
      rw [ext_get s 0 1 0 (by rw [t1.1]; decide) (by omega), e] at h9
      exact h9
    rw [hW0]
    clear hW0
    have H1 := Lib.hid (And.intro y1 (And.intro t1 (And.intro a1 R1)))
    clear y1 t1 a1 R1 hcc
    rename_i K hKK
    have tail : ∀ (D : Nat) (W : World), W0.heap.size ≤ D → Blk W (w1.heap.size + 1) 43 (cellS (sortB (b0.toNat : Int))) → Blk W w1.heap.size 45 #[.slice (some ⟨bb, off, none⟩) 1 1] → Below w1.heap.size w1 W → W.heap[D]? = some (.deferred (some [])) →
        K { tmps := #[.func (.func 25) #[.pointer (some ⟨r, 0, none⟩)] #[], undef, .int .u64 0, .string ⟨#[]⟩, .bool true, .pointer (some ⟨w1.heap.size, 0, none⟩), .pointer (some ⟨w1.heap.size + 1, 0, none⟩), undef, undef, undef, undef, .tuple #[.slice (some ⟨bb, off, none⟩) 1 1, .bool true], .func (.func 25) #[.pointer (some ⟨r, 0, none⟩)] #[], .tuple #[.slice (some ⟨bb, off, none⟩) 1 1, .bool true], .slice (some ⟨bb, off, none⟩) 1 1, .bool true, .bool true, .bool false, .agg #[.int .u64 0, .int .u64 0, .int .u8 0, .int .i64 0], .func (.func 29) #[] #[], undef, undef, undef, undef, undef, undef, undef, undef, undef, undef, undef, undef, undef, undef, undef, undef, undef, undef, undef, undef, undef, undef, undef, undef, undef, undef, undef, undef, undef, undef, undef, undef, undef, undef, undef, undef, undef, undef, undef, undef, undef, undef, undef, undef, undef, undef], defers := [{ target := .collected D, args := #[] }] } W := by
      as_aux_lemma =>
        intro D W hD hX hH hBel hK
        refine hKK _ _ ?_
        have hRW : Rd W r (s.extract 1 s.size) bad := H1.out.2.2.2.by_ (by_of_below hBel)
        have hyW : w.grownBy W (some r) := by_trans H1.out.1 (by_of_below hBel) (by simp)
        have hDr : D ≠ r := by have := H1.out.2.2.2.lt; have := hb.size; omega
        have hrs : r < w.heap.size := h.lt
        have hwD : w.heap.size ≤ D := by have := H1.out.1.size; omega
        have es : (s.extract 1 s.size).size = l0.length := by
          rw [ext_size _ _ _ (Nat.le_refl _)]
          have : s.size = s.data.toList.length := rfl
          rw [this, hl0]; simp
        have hsy := saysN_cons hl0
        have hsl : s.size = l0.length + 1 := by
          have : s.size = s.data.toList.length := rfl
          rw [this, hl0]; simp
        obtain ⟨q1, q2, t0, q3⟩ := srtB_ok b0.toNat (by omega)
        have q4 := srtB_bd b0.toNat (by omega)
        rw [q3] at hX
        generalize (srtB b0.toNat).1 = f at *
        generalize (srtB b0.toNat).2.1 = a at *
        generalize (srtB b0.toNat).2.2 = k at *
        have x0 : W.cell? ⟨w1.heap.size + 1, 0, none⟩ = some (.int .u64 (f : Int)) := hX.cell 0
        have x2 : W.cell? ⟨w1.heap.size + 1, 2, none⟩ = some (.int .u8 (a : Int)) := hX.cell 2
        have x3 : W.cell? ⟨w1.heap.size + 1, 3, none⟩ = some (.int .i64 (k : Int)) := hX.cell 3
        have HT := Lib.hid (And.intro hRW (And.intro hyW (And.intro hX (And.intro hH (And.intro hBel (And.intro hsy (And.intro es q3)))))))
        have hlr : r < w1.heap.size := H1.out.2.2.2.lt
        clear hRW hyW hX hH hBel hsy es q3
        by_cases hk : l0.length < k
        · gi_wp2_with (refine ⟨trivial, ?_⟩; gi_at_call 25; refine (callsIn_wide.2 (cut_no W r (s.extract 1 s.size) bad k HT.out.1 (by rw [HT.out.2.2.2.2.2.2.1]; omega) (by rw [HT.out.2.2.2.2.2.2.1]; exact hk) (by omega))).mono ?_; rintro e w2 ⟨rfl, y2, R2⟩)
          have hK2 : w2.heap[D]? = some (.deferred (some [])) := (y2.block D (Array.getElem?_eq_some_iff.1 hK).1 (by simp; exact hDr)).trans hK
          refine ⟨by simp, .inl ⟨_, _, rfl, run_takeDeferred hK2, ?_⟩⟩
          refine ⟨_, results_tmp3 rfl _ _ _, by_trans (by_trans HT.out.2.1 y2 (fun g hg => .inl hg.symm)) (grownBy_putObj' w2 D _) (fun g hg => .inr (by cases hg; exact hwD)), ?_⟩
          rw [HT.out.2.2.2.2.2.1, if_pos hk]
          exact ⟨rfl, R2.put hK2 rfl⟩
        · gi_wp2_with (refine ⟨trivial, ?_⟩; gi_at_call 25; refine (callsIn_wide.2 (cut_yes W r (s.extract 1 s.size) bad k HT.out.1 (by rw [HT.out.2.2.2.2.2.2.1]; omega) (by rw [HT.out.2.2.2.2.2.2.1]; omega))).mono ?_; rintro e w2 ⟨A2, rfl, y2, t2, a2, R2⟩)
          have hbr : bb ≠ r := by
            intro e
            subst e
            exact H1.out.2.2.1 rfl
          have ch : w2.cell? ⟨w1.heap.size, 0, none⟩ = some (.slice (some ⟨bb, off, none⟩) 1 1) := (HT.out.2.2.2.1.grown y2 (by simp; omega)).cell 0
          have hX2 := HT.out.2.2.1.grown y2 (by simp; omega)
          have cx0 : w2.cell? ⟨w1.heap.size + 1, 0, none⟩ = some (.int .u64 (f : Int)) := hX2.cell 0
          have cx2 : w2.cell? ⟨w1.heap.size + 1, 2, none⟩ = some (.int .u8 (a : Int)) := hX2.cell 2
          have cb : w2.cell? ⟨bb, off, none⟩ = some (.int .u8 (b0.toNat : Int)) := y2.cell ((by_of_below HT.out.2.2.2.2.1).cell hc0 (by simp)) (by simp; exact hbr)
          have hK2 : w2.heap[D]? = some (.deferred (some [])) := (y2.block D (Array.getElem?_eq_some_iff.1 hK).1 (by simp; exact hDr)).trans hK
          obtain ⟨p, hp⟩ : ∃ p, b0.toNat - a = p := ⟨_, rfl⟩
          have hp8 : p < 256 := by omega
          have hsub : IntKind.u8.wrap ((b0.toNat : Int) - (a : Int)) = (p : Int) := by
            rw [← hp]; simp [IntKind.wrap, IntKind.signed, IntKind.bits]; omega
          have H2 := Lib.hid (And.intro y2 (And.intro t2 (And.intro a2 (And.intro R2 (And.intro hK2 hp)))))
          have hmx : Try.prog.follows .mixedOrders = true := by kernel_rfl
          clear y2 t2 a2 R2 hK2 hX2 x0 x2 x3 hK
          rw [hp] at q4
          clear hp
          gi_region
          all_goals gi_wp2
          clear ch cx0 cx2 cb hsub
          obtain ⟨y2, t2, a2, R2, hK2, hp⟩ := H2.out
          have H3 := Lib.hid (And.intro (by_drew y2) (And.intro t2.drew (And.intro (R2.by_ (by_drew (by_refl w2 none))) (And.intro (show w2.drew.heap[D]? = some (.deferred (some [])) from hK2) hp))))
          have HB := Lib.hid (And.intro (HT.out.2.2.2.1.grown (by_drew y2) (by simp; omega)) (And.intro (HT.out.2.2.1.grown (by_drew y2) (by simp; omega)) ((by_drew y2).cell ((by_of_below HT.out.2.2.2.2.1).cell hc0 (by simp)) (by simp; exact hbr))))
          clear y2 t2 R2 hK2 hp H2
          generalize w2.drew = w3 at *
          gi_loopw [2, 47] (fun n i wr => ∃ j : Nat, j ≤ k ∧ i = .int .i64 (j : Int) ∧ n = .int .u64 ((acc p (l0.take j) : Nat) : Int) ∧ w3 = wr) (fun _ i _ => k - (intOf i).toNat)
          case atStart => exact ⟨0, Nat.zero_le _, rfl, rfl, rfl⟩
          case round =>
            obtain ⟨j, hj, rfl, rfl, rfl⟩ := hrel
            by_cases hlt : j < k
            · obtain ⟨b2, off2, rfl, hb2, hc2⟩ := H3.out.2.1.2 (by omega)
              have hjl : j < l0.length := by omega
              have cj : w3.cell? ⟨b2, off2 + j, none⟩ = some (.int .u8 ((l0[j]).toNat : Int)) := by
                have h7 := hc2 j (by rw [H3.out.2.1.1]; exact hlt)
                rw [ext_get _ _ _ _ _ (by rw [HT.out.2.2.2.2.2.2.1]; omega)] at h7
                have h8 := ext_get s 1 s.size (0 + j) (by rw [HT.out.2.2.2.2.2.2.1]; omega) (by omega)
                rw [h8] at h7
                rw [h7]
                have hx : 1 + (0 + j) < s.data.toList.length := by rw [hl0]; simp; omega
                have h9 : s.data.toList[1 + (0 + j)]'hx = l0[j] := by
                  have e1 : s.data.toList[1 + (0 + j)]? = some l0[j] := by
                    rw [hl0, show 1 + (0 + j) = j + 1 by omega, List.getElem?_cons_succ, List.getElem?_eq_getElem hjl]
                  exact (List.getElem?_eq_some_iff.1 e1).2
                rw [Array.getElem_toList] at h9
                rw [← h9]
                rfl
              have hacc : acc p (l0.take (j + 1)) = acc p (l0.take j) * 256 + (l0[j]).toNat := by
                rw [List.take_add_one, List.getElem?_eq_getElem hjl]; exact acc_snoc _ _ _
              have hbd : acc p (l0.take (j + 1)) < 18446744073709551616 := by
                have h1 := acc_lt (l0.take (j + 1)) p
                rw [List.length_take, Nat.min_eq_left (by omega)] at h1
                have h2 : 256 ^ (j + 1) ≤ 256 ^ k := Nat.pow_le_pow_right (by omega) hlt
                have h3 : (p + 1) * 256 ^ (j + 1) ≤ (p + 1) * 256 ^ k := Nat.mul_le_mul_left _ h2
                omega
              have hor := or_byte (acc p (l0.take j)) l0[j] (by omega)
              have HA := Lib.hid hacc
              have hz0 : (0 : Int) ≤ (j : Int) := by omega
              have hz1 : (j : Int) < (k : Int) := by omega
              have hz2 : (k : Int) ≤ 8 := by omega
              obtain ⟨N, hN⟩ : ∃ N, acc p (l0.take j) = N := ⟨_, rfl⟩
              obtain ⟨c, hc⟩ : ∃ c, (l0[j]).toNat = c := ⟨_, rfl⟩
              have hc8 : c < 256 := by rw [← hc]; exact (l0[j]).toNat_lt
              rw [hN, hc] at hor
              rw [hacc, hN, hc] at hbd
              rw [hc] at cj
              rw [hN]
              have Hc := Lib.hid (And.intro hN hc)
              clear hacc hN hc hc2
              gi_wp2
              go_roundw
              case rel =>
                obtain ⟨hN, hc⟩ := Hc.out
                refine ⟨j + 1, by omega, by go_num, ?_, trivial⟩
                have e := bits_or_u64_nat (N * 256) c (by omega) (by omega)
                rw [hor] at e
                rw [HA.out, hN, hc, ← e]
                rfl
              case measure => simp [intOf]; omega
            · have hjk : j = k := by omega
              subst hjk
              clear hlt
              have hcv1 := conv_str w3.drew 45 5 9 Try.underlying45 Try.underlying5 Try.underlying9 (some ⟨bb, off, none⟩) 1 1 (s.extract 0 1) (H1.out.2.1.by_ (by_drew (by_trans (by_of_none (by_of_below HT.out.2.2.2.2.1) (some r)) H3.out.1 (fun g hg => .inl hg.symm))) (by intro g hg; cases hg; simp; exact hbr))
              have hcv2 := conv_str w3.drew 45 5 9 Try.underlying45 Try.underlying5 Try.underlying9 A2 j j _ H3.out.2.1.drew
              have ch : w3.cell? ⟨w1.heap.size, 0, none⟩ = some (.slice (some ⟨bb, off, none⟩) 1 1) := HB.out.1.cell 0
              have cx0 : w3.cell? ⟨w1.heap.size + 1, 0, none⟩ = some (.int .u64 (f : Int)) := HB.out.2.1.cell 0
              obtain ⟨M, hM⟩ : ∃ M, acc p (l0.take j) = M := ⟨_, rfl⟩
              have hbd : M + f < 18446744073709551616 := by
                have h1 := acc_lt (l0.take j) p
                rw [List.length_take, Nat.min_eq_left (by omega), hM] at h1
                omega
              have hsum : IntKind.u64.wrap ((M : Int) + (f : Int)) = ((f + M : Nat) : Int) := by
                simp [IntKind.wrap, IntKind.signed, IntKind.bits]; omega
              obtain ⟨S1, hS1⟩ : ∃ S1, S1 = s.extract 0 1 := ⟨_, rfl⟩
              obtain ⟨S2, hS2⟩ : ∃ S2, S2 = (s.extract 1 s.size).extract 0 j := ⟨_, rfl⟩
              have z1 : S1.size ≤ 1 := by rw [hS1, ext_size _ _ _ (by omega)]; omega
              have z2 : S2.size ≤ 8 := by rw [hS2, ext_size _ _ _ (by rw [HT.out.2.2.2.2.2.2.1]; omega)]; omega
              have hcc : S1.size + S2.size ≤ 9223372036854775807 := by omega
              have hcc3 : ¬ 9223372036854775807 < S1.size + S2.size := by omega
              rw [← hS1] at hcv1
              rw [← hS2] at hcv2
              rw [hM]
              have HM := Lib.hid (And.intro hM (And.intro hS1 hS2))
              clear hM hS1 hS2
              gi_wp2
              refine wpIn_wide.2 ?_
              refine wp_region_still_lit (by kernel_rfl) (by kernel_rfl) ?_
              repeat still_step
              refine wpStill_nil ?_
              change Exit.then _ _ _ _ w3.drew
              gi_wp2
              have hK4 : w3.drew.heap[D]? = some (.deferred (some [])) := H3.out.2.2.2.1
              refine ⟨by simp, .inl ⟨_, _, rfl, run_takeDeferred hK4, ?_⟩⟩
              refine ⟨_, results_tmp3 rfl _ _ _, by_trans (by_drew (by_trans HT.out.2.1 H3.out.1 (fun g hg => .inl hg.symm))) (grownBy_putObj' w3.drew D _) (fun g hg => .inr (by cases hg; exact hwD)), ?_⟩
              rw [HT.out.2.2.2.2.2.1, if_neg (by omega)]
              have s1 : S1 ++ S2 = s.extract 0 (1 + j) := by
                rw [HM.out.2.1, HM.out.2.2, ByteArray.extract_extract, Nat.min_eq_left (by omega), Nat.add_zero, ByteArray.extract_append_extract, Nat.min_eq_left (by omega), Nat.max_eq_right (by omega)]
              have s2 : (s.extract 1 s.size).extract j (s.extract 1 s.size).size = s.extract (1 + j) s.size := by
                rw [HT.out.2.2.2.2.2.2.1, ByteArray.extract_extract, Nat.min_eq_right (by omega)]
              have hR := H3.out.2.2.1
              rw [s2] at hR
              have hM := HM.out.1
              have hp := H3.out.2.2.2.2
              refine ⟨?_, (hR.by_ (by_drew (by_refl w3 none))).put hK4 rfl⟩
              show Ending.returned (.tuple #[.int .u64 ((f : Int) + (M : Int)), .string (S1 ++ S2), .bool true]) = _
              rw [s1, hp, hM]
              rfl
    refine wpIn_rangeFunc_ownH hro h1 (gf := 29) (lb := #[]) rfl trivial (enters_of Try.func29 (by kernel_rfl) rfl)
      (sorts_stops Fence.wide 5 trivial hro (by omega) W0) walksK_t (walksK_b (w := W0)) (Below.refl _ _) (fun _ => rfl)
      (fun pre W => SaI w1 w1.heap.size (w1.heap.size + 1) (some ⟨bb, off, none⟩) (b0.toNat : Int) pre W)
      (fun c pre W => SaX w1 w1.heap.size (w1.heap.size + 1) (some ⟨bb, off, none⟩) (b0.toNat : Int) c pre W)
      (fun pre X Y row hs hg hr => ⟨blk_own hs.head hg fun r e => (hr r e).2, blk_own hs.out hg fun r e => (hr r e).2, hs.le, ownFrom_below (β := Unit) (Nat.le_refl _) (by omega) () X Y row hs.below hg hr⟩)
      (fun c pre X Y row hs hg hr => ⟨hs.c_, blk_own hs.head hg fun r e => (hr r e).2, by
        obtain ⟨pre', x, k1, k2, k3, k4⟩ := hs.is
        exact ⟨pre', x, k1, k2, k3, blk_own k4 hg fun r e => (hr r e).2⟩, ownFrom_below (β := Unit) (Nat.le_refl _) (by omega) () X Y row hs.below hg hr⟩)
      ⟨hn0, ho0, by simp, hb⟩
      (fun x a' W => ∃ By, w1.heap.size + 1 < By ∧ Blk W By 43 (cellS x) ∧ a' = { tmps := #[.func (.func 25) #[.pointer (some ⟨r, 0, none⟩)] #[], undef, .int .u64 0, .string ⟨#[]⟩, .bool true, .pointer (some ⟨w1.heap.size, 0, none⟩), .pointer (some ⟨w1.heap.size + 1, 0, none⟩), .pointer (some ⟨By, 0, none⟩), undef, undef, undef, .tuple #[.slice (some ⟨bb, off, none⟩) 1 1, .bool true], .func (.func 25) #[.pointer (some ⟨r, 0, none⟩)] #[], .tuple #[.slice (some ⟨bb, off, none⟩) 1 1, .bool true], .slice (some ⟨bb, off, none⟩) 1 1, .bool true, .bool true, .bool false, .agg #[.int .u64 0, .int .u64 0, .int .u8 0, .int .i64 0], .func (.func 29) #[] #[], encS x, undef, undef, undef, undef, undef, undef, undef, undef, undef, undef, undef, undef, undef, undef, undef, undef, undef, undef, undef, undef, undef, undef, undef, undef, undef, undef, undef, undef, undef, undef, undef, undef, undef, undef, undef, undef, undef, undef, undef, undef, undef, undef, undef, undef, undef], defers := [] })
      (fun x a' _ X Y row hs hg hr => by obtain ⟨By, h1, h2, h3⟩ := hs; exact ⟨By, h1, blk_own h2 hg fun r e => (hr r e).2, h3⟩)
      ?assign ?body ?done ?stop
    case assign =>
      rintro l pre x W K hi hK
      have hs := hi.below.size
      have hlt := hi.out.lt
      dsimp only [encS]
      gi_wp2
      exact hK _ _ ((KeepsOthers.alloc _ _).from _) (KeepsWalks.alloc _ _) ⟨hi.head.alloc _, hi.out.alloc _, hi.le, hi.below.alloc hs _⟩ ⟨W.heap.size, hlt, Blk.new W _ _, rfl⟩
    case body =>
      as_aux_lemma =>
        rintro l pre x a' W hl ⟨r, hr⟩ hi ⟨By, hBy, bY, rfl⟩ hlt
        obtain ⟨x1, x2, x3, x4⟩ := x
        have hmx : Try.prog.follows .mixedOrders = true := by kernel_rfl
        have Hi := Lib.hid (And.intro hi bY)
        have n0 := hi.head.cell 0
        have cb : W.cell? ⟨bb, off, none⟩ = some (.int .u8 (b0.toNat : Int)) := (by_of_below hi.below).cell hc0 (by simp)
        have o0 := hi.out.cell 0
        have o1 := hi.out.cell 1
        have o2 := hi.out.cell 2
        have o3 := hi.out.cell 3
        have f0 := hi.out.frozen 0
        have f1 := hi.out.frozen 1
        have f2 := hi.out.frozen 2
        have f3 := hi.out.frozen 3
        have b0' := bY.cell 0
        have b1 := bY.cell 1
        have b2 := bY.cell 2
        have b3 := bY.cell 3
        simp [cellS] at n0 o0 o1 o2 o3 b0' b1 b2 b3
        clear hi bY hr
        dsimp only [encS]
        by_cases hle : x3 ≤ (b0.toNat : Int)
        · have hd : decide ((b0.toNat : Int) < x3) = false := decide_eq_false (by omega)
          gi_wp2
          gi_region_with_o (fail)
          all_goals gi_wp2
          all_goals
            obtain ⟨hi, bY⟩ := Hi.out
            have hs := hi.below.size
            refine ⟨(((((KeepsOthers.setCell _ _ _).trans (KeepsOthers.setCell _ _ _)).trans (KeepsOthers.setCell _ _ _)).trans (KeepsOthers.setCell _ _ _)).trans (KeepsOthers.drew _)).from _,
              ((((KeepsWalks.setCell _ _ _).trans (KeepsWalks.setCell _ _ _)).trans (KeepsWalks.setCell _ _ _)).trans (KeepsWalks.setCell _ _ _)).trans (walks_drew _), ?_⟩
            refine ⟨((((hi.head.far (by simp) _).far (by simp) _).far (by simp) _).far (by simp) _).drew, by rw [lastS_snoc]; exact (blk_store hi.out (x1, x2, x3, x4)).drew, fun y hy => ?_, (below_store hi.below (by omega) _ _ _ _).drew⟩
            rcases List.mem_append.1 hy with hy | hy
            · exact hi.le y hy
            · simp at hy; subst hy; exact hle
        · have hd : decide ((b0.toNat : Int) < x3) = true := decide_eq_true (by omega)
          gi_wp2
          gi_region_with_o (fail)
          all_goals gi_wp2
          all_goals
            obtain ⟨hi, bY⟩ := Hi.out
            exact ⟨(KeepsOthers.drew _).from _, rfl, hi.head.drew, ⟨pre, _, rfl, hi.le, by omega, hi.out.drew⟩, hi.below.drew⟩
    case done =>
      rintro D zs W hD rfl hi hK
      have hX : Blk W (w1.heap.size + 1) 43 (cellS (sortB (b0.toNat : Int))) := by
        unfold sortB
        rw [take_all hi.le]
        exact hi.out
      exact tail D W hD hX hi.head hi.below hK
    case stop =>
      rintro D c pre W hD hSp hx hK
      obtain ⟨rfl, hH, ⟨pre', x, rfl, k1, k2, k3⟩, hBel⟩ := hx
      have hX : Blk W (w1.heap.size + 1) 43 (cellS (sortB (b0.toNat : Int))) := by
        unfold sortB
        rw [take_pre hSp k1 k2]
        exact k3
      have ht := tail D W hD hX hH hBel hK
      clear tail hKK
      gi_wp2
      exact ht
end Go.Proofs.Ytlnlpphhnbodpaa
