/-
  ShaApart: the digits of 32 bytes tell them (all inputs, no condition).
-/
import Derived.Test.YtgpafmkhkepjbaaEq
import Derived.Test.YtgpafmkhkepjbaaArr
import Derived.Deep.RegionHeld3
import Derived.BigQuiet
namespace Go.Proofs.Ytgpafmkhkepjbaa.shaApart
open Go.ChangeShapes Go.WideShapes Go.ChangeAt Go.RowKit

def val16 (c : UInt8) : Int := if 48 ≤ c.toNat ∧ c.toNat ≤ 57 then (c.toNat : Int) - 48 else if 97 ≤ c.toNat ∧ c.toNat ≤ 102 then (c.toNat : Int) - 87 else -1
theorem value_any (c : UInt8) (w : World) : Calls Try.prog 19 #[.int .u8 (c.toNat : Int)] w fun e w' => e = .returned (.int .i64 (val16 c)) ∧ w' = w := by
  have hc := c.toNat_lt
  go_enter Try.func19, Try.ntmps19
  by_cases h1 : 48 ≤ c.toNat ∧ c.toNat ≤ 57
  · have hv : val16 c = (c.toNat : Int) - 48 := by rw [val16, if_pos h1]
    obtain ⟨h1, h2⟩ := h1
    go_wp2
    go_ret
    exact ⟨by first | rfl | (rw [hv]; rfl), rfl⟩
  · by_cases h2 : 97 ≤ c.toNat ∧ c.toNat ≤ 102
    · have hv : val16 c = (c.toNat : Int) - 97 + 10 := by rw [val16, if_neg h1, if_pos h2]; omega
      obtain ⟨h2, h3⟩ := h2
      have h4 : ¬ (c.toNat : Int) ≤ 57 := by omega
      clear h1
      go_wp2
      go_ret
      exact ⟨by first | rfl | (rw [hv]; rfl), rfl⟩
    · have hv : val16 c = -1 := by rw [val16, if_neg h1, if_neg h2]
      rcases Nat.lt_or_ge c.toNat 48 with h3 | h3
      · clear h1 h2
        go_wp2
        go_ret
        exact ⟨by first | rfl | (rw [hv]; rfl), rfl⟩
      · have h4 : ¬ (c.toNat : Int) ≤ 57 := by omega
        clear h1
        rcases Nat.lt_or_ge c.toNat 97 with h5 | h5
        · clear h2
          go_wp2
          go_ret
          exact ⟨by first | rfl | (rw [hv]; rfl), rfl⟩
        · have h6 : ¬ (c.toNat : Int) ≤ 102 := by omega
          clear h2
          go_wp2
          go_ret
          exact ⟨by first | rfl | (rw [hv]; rfl), rfl⟩
theorem val_dig : ∀ n : Nat, n < 16 → val16 (dig n) = (n : Int) := by decide
theorem two_inj : ∀ b c : UInt8, two b = two c → b = c := fun b c h => by
  have hd : ∀ m n : Nat, m < 16 → n < 16 → dig m = dig n → m = n := fun m n hm hn e => by
    have h1 := val_dig m hm
    have h2 := val_dig n hn
    rw [e, h2] at h1
    omega
  simp only [two, List.cons.injEq, and_true] at h
  have hb := b.toNat_lt
  have hc := c.toNat_lt
  have h1 := hd _ _ (by omega) (by omega) h.1
  have h2 := hd _ _ (by omega) (by omega) h.2
  rw [← UInt8.toNat_inj]; omega
theorem hexL_inj : ∀ xs ys : List UInt8, hexL xs = hexL ys → xs = ys
  | [], [], _ => rfl
  | [], y :: ys, h => by simp [hexL, two] at h
  | x :: xs, [], h => by simp [hexL, two] at h
  | x :: xs, y :: ys, h => by
    rw [hexL, hexL, List.flatMap_cons, List.flatMap_cons] at h
    have h1 := List.append_inj h rfl
    rw [two_inj _ _ h1.1, hexL_inj xs ys h1.2]
theorem hexL_get : ∀ (l : List UInt8) (i : Nat), i < l.length → (hexL l)[2 * i]? = some (dig ((l.getD i 0).toNat / 16)) ∧ (hexL l)[2 * i + 1]? = some (dig ((l.getD i 0).toNat % 16))
  | [], _, h => by simp at h
  | b :: t, 0, _ => by simp [hexL, two]
  | b :: t, i + 1, h => by
    have := hexL_get t i (by simpa using h)
    rw [show hexL (b :: t) = dig (b.toNat / 16) :: dig (b.toNat % 16) :: hexL t from rfl]
    rw [show 2 * (i + 1) = 2 * i + 1 + 1 by omega]
    simpa using this

/-- the two arrays lie where they were boxed -/
structure Two (w0 : World) (g1 g2 : Nat) (LA LB : List Value) (W : World) : Prop where
  a : Blk W g1 22 LA.toArray
  b : Blk W g2 22 LB.toArray
  by_ : w0.grownBy W none
theorem Two.range {w0 : World} {g1 g2 : Nat} {LA LB : List Value} {W : World} (h : Two w0 g1 g2 LA LB W) : W.rangeAt g1 0 LA ∧ W.rangeAt g2 0 LB ∧ Two w0 g1 g2 LA LB W :=
  ⟨fun j v hv => by rw [Nat.zero_add, h.a.cell]; simpa using hv, fun j v hv => by rw [Nat.zero_add, h.b.cell]; simpa using hv, h⟩
theorem Two.drew {w0 : World} {g1 g2 : Nat} {LA LB : List Value} {W : World} (h : Two w0 g1 g2 LA LB W) : Two w0 g1 g2 LA LB W.drew := ⟨h.a.drew, h.b.drew, by_drew h.by_⟩
theorem Two.grown {w0 : World} {g1 g2 : Nat} {LA LB : List Value} {W W' : World} (h : Two w0 g1 g2 LA LB W) (y : W.grownBy W' none) : Two w0 g1 g2 LA LB W' := ⟨h.a.grown y (by simp), h.b.grown y (by simp), by_trans h.by_ y (by simp)⟩
theorem Two.again {w0 : World} {g1 g2 : Nat} {LA LB : List Value} {W W' : World} (h : W.rangeAt g1 0 LA ∧ W.rangeAt g2 0 LB ∧ Two w0 g1 g2 LA LB W) (y : W.grownBy W' none) : W'.rangeAt g1 0 LA ∧ W'.rangeAt g2 0 LB ∧ Two w0 g1 g2 LA LB W' :=
  (h.2.2.grown y).range

structure PL (w0 : World) (g1 g2 : Nat) (LA LB : List Value) (k : Nat) (c : Value) (wr : World) (i : Nat) : Prop where
  slot : c = .int .i64 i
  le : i ≤ 32
  num : k = 32 - i
  two : Two w0 g1 g2 LA LB wr
theorem str_index (s : ByteArray) (W : World) (k : Nat) (b : UInt8) (h : s.data.toList[k]? = some b) (z : Int) (hz : z = (k : Int)) : (Instr.index 9 (.string s) (.int .i64 z)).run Try.prog W = .ok (.int .u8 (b.toNat : Int)) W := by
  subst hz
  obtain ⟨h1, h2⟩ := List.getElem?_eq_some_iff.1 h
  have hk : k < s.size := by simpa using h1
  rw [run_index_string W 9 _ .i64 _ Try.underlying9, dif_pos ⟨by omega, by omega⟩]
  have e : (k : Int).toNat = k := by omega
  simp only [e]
  rw [← h2]
  rfl

set_option maxRecDepth 100000 in
set_option maxHeartbeats 1000000 in
theorem walk (w : World) (la : List UInt8) (hla : la.length = 32) (lb : List UInt8) (hlb : lb.length = 32) :
    Calls Try.prog 6 #[.agg (u8s la).toArray, .agg (u8s lb).toArray] w fun e w' => e = .returned (.bool true) ∧ w.grownBy w' none := by
  have hcA : ∀ W, Calls Try.prog 17 #[.agg (u8s la).toArray] W fun e w' => e = .returned (.string ⟨(hexL la).toArray⟩) ∧ W.grownBy w' none := fun W => hex_any la hla W
  have hcB : ∀ W, Calls Try.prog 17 #[.agg (u8s lb).toArray] W fun e w' => e = .returned (.string ⟨(hexL lb).toArray⟩) ∧ W.grownBy w' none := fun W => hex_any lb hlb W
  obtain ⟨LA, hLA⟩ : ∃ L, L = u8s la := ⟨_, rfl⟩
  obtain ⟨LB, hLB⟩ : ∃ L, L = u8s lb := ⟨_, rfl⟩
  have hlA : LA.length = 32 := by rw [hLA]; simp [u8s, hla]
  have hlB : LB.length = 32 := by rw [hLB]; simp [u8s, hlb]
  obtain ⟨sa, hsa⟩ : ∃ x : ByteArray, x = ⟨(hexL la).toArray⟩ := ⟨_, rfl⟩
  obtain ⟨sb, hsb⟩ : ∃ x : ByteArray, x = ⟨(hexL lb).toArray⟩ := ⟨_, rfl⟩
  have hqA := eq_row la la hla hla
  have hqB := eq_row la lb hla hlb
  rw [← hLA, ← hLB] at hqB
  rw [← hLA, ← hsa] at hcA
  rw [← hLB, ← hsb] at hcB
  rw [← hLA, ← hLB]
  have Hc := Lib.hid (And.intro hcA hcB)
  have hgu : Try.prog.eqGuardType Try.prog.depth 22 = false := by kernel_rfl
  have hsz : sa.size = 64 := by rw [hsa]; show (hexL la).toArray.size = 64; simp [hexL_len, hla]
  have hsq : (sa.toList == sb.toList) = decide (la = lb) := by
    rw [Bool.eq_iff_iff]
    simp only [beq_iff_eq, decide_eq_true_eq]
    constructor
    · intro h
      have e : sa.data.toList = sb.data.toList := by rw [← ByteArray.toList_eq, ← ByteArray.toList_eq]; exact h
      rw [hsa, hsb] at e
      exact hexL_inj la lb e
    · intro h; rw [hsa, hsb, h]
  have Hq := Lib.hid (And.intro hqB (And.intro hgu (And.intro hsz hsq)))
  have hA : Two w w.heap.size (w.heap.size + 1) LA LB ((w.alloc (.cells LA.toArray 22)).alloc (.cells LB.toArray 22)) := by
    refine ⟨(Blk.new w 22 _).alloc _, ?_, by_alloc (by_alloc (by_refl _ _) _) _⟩
    have h := Blk.new (w.alloc (.cells LA.toArray 22)) 22 LB.toArray
    simpa using h
  obtain ⟨W, hW⟩ : ∃ W, W = (w.alloc (.cells LA.toArray 22)).alloc (.cells LB.toArray 22) := ⟨_, rfl⟩
  rw [← hW] at hA
  have HA := Lib.hid hA
  have HW := Lib.hid hW
  have HL := Lib.hid (And.intro hLA (And.intro hLB (And.intro hsa hsb)))
  clear hcA hcB hqA hqB hA hW hLA hLB hsa hsb hgu hsz hsq
  have hu := Try.underlying22
  have hiA : (Try.prog.info? 22).map (·.size) = some LA.length := by rw [info22, hlA]
  have hiB : (Try.prog.info? 22).map (·.size) = some LB.length := by rw [info22, hlB]
  go_enter Try.func6, Try.ntmps6
  go_wp2
  rw [← HW.out]
  refine wp_region_noPanic ?_
  refine wp_region_held_drew (S := fun W => Two w w.heap.size (w.heap.size + 1) LA LB W) (by kernel_rfl) (HA.out.drew) (fun hHeld => ?_)
  refine wpAnyH_take (i := 0) (oi := _) (v := _) rfl (by kernel_rfl) (by kernel_rfl) (by kernel_rfl) (fun _ _ _ h => h) (yieldsIf_load_mid (by rfl) _ _ rfl _ _ rfl LA _ (fun _ h => h.range.1) hu rfl hiA) hHeld ?_
  try simp only [Act.put, List.getElem_toArray, List.getElem_cons_zero, List.getElem_cons_succ, List.setIfInBounds_toArray, List.set_cons_zero, List.set_cons_succ]
  refine wpAnyH_take (i := 2) (oi := _) (v := _) rfl (by kernel_rfl) (by kernel_rfl) (by kernel_rfl) (fun _ _ _ h => h) (yieldsIf_load_mid (by rfl) _ _ rfl _ _ rfl LB _ (fun _ h => h.range.2.1) hu rfl hiB) hHeld ?_
  try simp only [Act.put, List.getElem_toArray, List.getElem_cons_zero, List.getElem_cons_succ, List.setIfInBounds_toArray, List.set_cons_zero, List.set_cons_succ]
  refine wpAnyH_ready (rs := [1]) (by kernel_rfl) (by simp) ?_
  refine AllReadyH.cons (o := _) rfl (fun K hK => ?_) AllReadyH.nil
  go_simp
  refine (Hc.out.1 _).mono ?_
  rintro e w2 ⟨rfl, y2⟩
  dsimp only
  refine hK.out _ _ (hHeld.grown y2) (fun hHeld => ?_)
  clear hK K
  try simp only [Act.put, List.getElem_toArray, List.getElem_cons_zero, List.getElem_cons_succ, List.setIfInBounds_toArray, List.set_cons_zero, List.set_cons_succ]
  refine wpAnyH_ready (rs := [3]) (by kernel_rfl) (by simp) ?_
  refine AllReadyH.cons (o := _) rfl (fun K hK => ?_) AllReadyH.nil
  go_simp
  refine (Hc.out.2 _).mono ?_
  rintro e w3 ⟨rfl, y3⟩
  dsimp only
  refine hK.out _ _ (hHeld.grown y3) (fun hHeld => ?_)
  clear hK K
  try simp only [Act.put, List.getElem_toArray, List.getElem_cons_zero, List.getElem_cons_succ, List.setIfInBounds_toArray, List.set_cons_zero, List.set_cons_succ]
  refine wpAnyH_take (i := 4) (oi := _) (v := _) rfl (by kernel_rfl) (by kernel_rfl) (by kernel_rfl) (fun _ _ _ h => h) (Or.inl ⟨by rfl, fun _ _ => by go_simp; try rfl⟩) hHeld ?_
  try simp only [Act.put, List.getElem_toArray, List.getElem_cons_zero, List.getElem_cons_succ, List.setIfInBounds_toArray, List.set_cons_zero, List.set_cons_succ]
  refine wpAnyH_take (i := 5) (oi := _) (v := _) rfl (by kernel_rfl) (by kernel_rfl) (by kernel_rfl) (fun _ _ _ h => h) (Or.inl ⟨by rfl, fun _ _ => by go_simp; try rfl⟩) hHeld ?_
  try simp only [Act.put, List.getElem_toArray, List.getElem_cons_zero, List.getElem_cons_succ, List.setIfInBounds_toArray, List.set_cons_zero, List.set_cons_succ]
  refine wpAnyH_done (by kernel_rfl) (NoPanic.normal ?_) _
  have H3 := Lib.hid hHeld
  clear hHeld
  obtain ⟨hqB, hgu, hsz, hsq⟩ := Hq.out
  obtain ⟨d, hd⟩ : ∃ d, d = decide (la = lb) := ⟨_, rfl⟩
  rw [← hd] at hqB hsq
  clear hd
  go_wp2_with (first | (refine wpList_load_row_g rfl 22 (.tmp 2) rfl w.heap.size rfl 22 LA.toArray (0, 0) _ H3.out.a Try.underlying22 rfl (by rw [info22]; simp [hlA]) ?_) | (refine wpList_load_row_g rfl 22 (.tmp 3) rfl (w.heap.size + 1) rfl 22 LB.toArray (0, 0) _ H3.out.b Try.underlying22 rfl (by rw [info22]; simp [hlB]) ?_))
  go_loopg [7] 32 (fun k c wr => ∃ i, PL w w.heap.size (w.heap.size + 1) LA LB k c wr i)
  case atStart => exact ⟨0, rfl, by omega, by omega, H3.out⟩
  case round =>
    clear H3 hqB hgu hsq
    obtain ⟨i, hr⟩ := hrel
    obtain rfl := hr.slot
    have hle := hr.le
    have Hr := Lib.hid hr
    clear hr
    by_cases hlt : i < 32
    · have hg1 := hexL_get la i (by omega)
      obtain ⟨b, hb⟩ : ∃ b, b = la.getD i 0 := ⟨_, rfl⟩
      rw [← hb] at hg1
      have h1 : ∀ W, (Instr.index 9 (.string sa) (.int .i64 (2 * (i : Int)))).run Try.prog W = .ok (.int .u8 ((dig (b.toNat / 16)).toNat : Int)) W := fun W => str_index sa W (2 * i) _ (by rw [HL.out.2.2.1]; simpa using hg1.1) _ (by omega)
      have h2 : ∀ W, (Instr.index 9 (.string sa) (.int .i64 (2 * (i : Int) + 1))).run Try.prog W = .ok (.int .u8 ((dig (b.toNat % 16)).toNat : Int)) W := fun W => str_index sa W (2 * i + 1) _ (by rw [HL.out.2.2.1]; simpa using hg1.2) _ (by omega)
      have hb255 := b.toNat_lt
      have v1 := val_dig (b.toNat / 16) (by omega)
      have v2 := val_dig (b.toNat % 16) (by omega)
      have hcell : wr.cell? ⟨w.heap.size, i, none⟩ = some (.int .u8 (b.toNat : Int)) := by rw [Hr.out.two.a.cell, HL.out.1, hb]; simpa using u8s_get la i (by omega)
      have q1 : ((b.toNat / 16 : Nat) : Int) < 16 := by omega
      have q2 : ((b.toNat % 16 : Nat) : Int) < 16 := by omega
      have q3 : 16 * ((b.toNat / 16 : Nat) : Int) + ((b.toNat % 16 : Nat) : Int) = (b.toNat : Int) := by omega
      have c1 : ∀ W, Calls Try.prog 19 #[.int .u8 ((dig (b.toNat / 16)).toNat : Int)] W fun e w' => e = .returned (.int .i64 ((b.toNat / 16 : Nat) : Int)) ∧ w' = W := fun W => by rw [← v1]; exact value_any _ W
      have c2 : ∀ W, Calls Try.prog 19 #[.int .u8 ((dig (b.toNat % 16)).toNat : Int)] W fun e w' => e = .returned (.int .i64 ((b.toNat % 16 : Nat) : Int)) ∧ w' = W := fun W => by rw [← v2]; exact value_any _ W
      have Hcc := Lib.hid (And.intro c1 c2)
      clear c1 c2 v1 v2 hg1 hb hb255
      generalize (dig (b.toNat / 16)).toNat = x1 at *
      generalize (dig (b.toNat % 16)).toNat = x2 at *
      generalize b.toNat / 16 = n1 at *
      generalize b.toNat % 16 = n2 at *
      generalize b.toNat = n at *
      have p0 : (0 : Int) ≤ (i : Int) := by omega
      have p1 : (i : Int) < 32 := by omega
      have w1 : IntKind.i64.wrap (2 * (i : Int)) = 2 * (i : Int) := by rw [IntKind.wrap_i64]; omega
      have w2 : IntKind.i64.wrap (2 * (i : Int) + 1) = 2 * (i : Int) + 1 := by rw [IntKind.wrap_i64]; omega
      have w3 : IntKind.i64.wrap (16 * (n1 : Int)) = 16 * (n1 : Int) := by rw [IntKind.wrap_i64]; omega
      have w4 : IntKind.i64.wrap (16 * (n1 : Int) + (n2 : Int)) = 16 * (n1 : Int) + (n2 : Int) := by rw [IntKind.wrap_i64]; omega
      have wx : IntKind.i64.wrap ((i : Int) + 1) = (i : Int) + 1 := by rw [IntKind.wrap_i64]; omega
      go_wp2
      refine wp_region_still_lit (by kernel_rfl) (by kernel_rfl) ?_
      repeat still_step
      still_call (Hcc.out.1 _)
      repeat still_step
      still_call (Hcc.out.2 _)
      repeat still_step
      refine wpStill_nil ?_
      change Exit.then _ _ _ _ wr.drew
      have hc5 : wr.drew.cell? ⟨w.heap.size, i, none⟩ = some (.int .u8 (n : Int)) := hcell
      have Ht5 := Lib.hid (And.intro Hr.out.two.drew Hr.out.num)
      clear hcell h1 h2 Hr
      generalize wr.drew = w5 at *
      go_wp2
      go_roundg (31 - i)
      case measure => have := Ht5.out.2; omega
      case rel => exact ⟨i + 1, rfl, by omega, by omega, Ht5.out.1⟩
    · have hi : i = 32 := by omega
      subst hi
      have hy := Hr.out.two.by_
      have Hy := Lib.hid hy
      clear hy Hr
      go_wp2_with fail
      refine (works_any wr).mono ?_
      rintro e w6 ⟨rfl, y6⟩
      go_wp2
      go_ret
      exact ⟨rfl, by_trans Hy.out y6 (by simp)⟩

set_option maxRecDepth 100000 in
theorem lifted (os : Os) (started : os.Started) (H : Type) (enc : TypeId × Value → H) :
    ReturnsInHanded {} Try.checked os 6 .any (Rows.shaApartSpec.pre6 enc Try.prog Try.f6 Rows.shaApartRow.domain false) (Rows.shaApartSpec.post enc Try.prog Try.f6 false true false false) := by
  refine returnsInHanded_of_change (C := Try.checked) own started (by kernel_rfl) Try.func6
    (ChangeSpec.witness6 (enc := enc) (C := Try.checked) false ⟨#[], #[.agg #[.int .u8 0, .int .u8 0, .int .u8 0, .int .u8 0, .int .u8 0, .int .u8 0, .int .u8 0, .int .u8 0, .int .u8 0, .int .u8 0, .int .u8 0, .int .u8 0, .int .u8 0, .int .u8 0, .int .u8 0, .int .u8 0, .int .u8 0, .int .u8 0, .int .u8 0, .int .u8 0, .int .u8 0, .int .u8 0, .int .u8 0, .int .u8 0, .int .u8 0, .int .u8 0, .int .u8 0, .int .u8 0, .int .u8 0, .int .u8 0, .int .u8 0, .int .u8 0], .agg #[.int .u8 0, .int .u8 0, .int .u8 0, .int .u8 0, .int .u8 0, .int .u8 0, .int .u8 0, .int .u8 0, .int .u8 0, .int .u8 0, .int .u8 0, .int .u8 0, .int .u8 0, .int .u8 0, .int .u8 0, .int .u8 0, .int .u8 0, .int .u8 0, .int .u8 0, .int .u8 0, .int .u8 0, .int .u8 0, .int .u8 0, .int .u8 0, .int .u8 0, .int .u8 0, .int .u8 0, .int .u8 0, .int .u8 0, .int .u8 0, .int .u8 0, .int .u8 0]], []⟩ 8 (by kernel_rfl) (by kernel_rfl) (by kernel_rfl) (by kernel_rfl)) ?_
  intro W base args ds gs before hval0 hW hcnd _
  have hval : ∀ (j : Nat) t v, Try.f6.params[j]? = some t → args[j]? = some v → Value.okWide Try.prog W .any base t v := hval0
  have hW' := hW
  obtain ⟨p, q, hA0, hV, rfl, hfz, hnd⟩ := hW
  have hA : DataW.TrodAll enc Try.prog W 0 (fun _ => true) true Try.f6.params.toList args.toList ds p := hA0
  rw [Try.params6] at hA hval
  obtain ⟨v0, vs0, d0, ds0, p0, q0, hargs, rfl, rfl, h0, r0⟩ := trodAll_cons hA
  obtain ⟨v1, vs1, d1, ds1, p1, q1, rfl, rfl, rfl, h1, r1⟩ := trodAll_cons r0
  obtain ⟨rfl, rfl, rfl⟩ := trodAll_nil r1
  obtain rfl : args = #[v0, v1] := by cases args; simp_all
  obtain ⟨rfl, rfl⟩ := trodVars_none hV
  obtain ⟨l0, hl0, rfl⟩ := arg_bytes Try.underlying22 Try.underlying5 (by kernel_rfl) (by kernel_rfl) (hval 0 22 v0 rfl rfl) h0
  obtain ⟨l1, hl1, rfl⟩ := arg_bytes Try.underlying22 Try.underlying5 (by kernel_rfl) (by kernel_rfl) (hval 1 22 v1 rfl rfl) h1
  refine (walk W l0 hl0 l1 hl1).mono fun e W' ⟨he, hg⟩ => ?_
  subst he
  exact ⟨_, rfl, law_post laidOut rfl hW' (by kernel_rfl) rfl Try.underlying4 rfl (below_of_by hg)⟩

theorem proved : Rows.ShaApartSaid :=
  OpenClaim.holds_of_wide 6 Try.f6 rfl rfl rfl rfl rfl rfl rfl ⟨rfl, rfl, rfl, rfl, rfl⟩ rfl rfl rfl rfl rfl (by kernel_rfl) Try.func6 (by kernel_rfl)
    (of_decide_eq_true (by kernel_rfl)) (by unfold Func.isWrapper; first | (rw [if_pos (by decide +kernel)]; kernel_rfl) | (rw [if_neg (by decide +kernel)]; exact ⟨rfl, rfl⟩))
    (fun os started H enc _ => lifted os started H enc)
#print axioms proved
end Go.Proofs.Ytgpafmkhkepjbaa.shaApart
