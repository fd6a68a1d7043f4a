/-
  ShaFills: texts of lengths at which a block more is filled have the sums that the document says (all inputs, no condition).
-/
import Derived.Test.YtgpafmkhkepjbaaRefSum
import Derived.Test.YtgpafmkhkepjbaaEq
import Derived.Test.YtgpafmkhkepjbaaRow
import Derived.Laws.MakeOwn
namespace Go.Proofs.Ytgpafmkhkepjbaa.shaFills
open Go.ChangeShapes Go.WideShapes Go.ChangeAt Go.RowKit

theorem conv_row {W : World} {g n : Nat} {l : List UInt8} (hl : l.length = n) (h : Blk W g 5 (u8s l).toArray) : (convert 28 9 (.slice (some ⟨g, 0, none⟩) n n)).run Try.prog W = .ok (.string ⟨l.toArray⟩) W := by
  rw [run_convert_bytes_arg (P := Try.prog) W 28 5 Try.underlying28 Try.underlying5 g 0 n n (l.map fun b => (b.toNat : Int)) (by simp [hl]) (fun j hj => by
    rw [Nat.zero_add, h.cell]
    have := u8s_get l j (by omega)
    rw [List.getElem?_toArray, this]
    simp [List.getD, List.getElem?_eq_getElem (show j < l.length by omega)]) 9 Try.underlying9]
  have : strOfNums (l.map fun b => (b.toNat : Int)) = ⟨l.toArray⟩ := by simp [strOfNums, Function.comp_def]
  rw [this]
/-- n bytes, of which the first i are c -/
def fillL (c : UInt8) (n i : Nat) : List UInt8 := List.replicate i c ++ List.replicate (n - i) 0
theorem fill_len (c : UInt8) (n i : Nat) (h : i ≤ n) : (fillL c n i).length = n := by simp [fillL]; omega
theorem fill_set (c : UInt8) (n i : Nat) (h : i < n) : (u8s (fillL c n i)).toArray.setIfInBounds i (.int .u8 (c.toNat : Int)) = (u8s (fillL c n (i + 1))).toArray := by
  rw [List.setIfInBounds_toArray]
  congr 1
  rw [show (Value.int IntKind.u8 (c.toNat : Int)) = (fun b : UInt8 => Value.int IntKind.u8 (b.toNat : Int)) c from rfl]
  unfold u8s
  rw [← List.map_set]
  congr 1
  unfold fillL
  obtain ⟨m, rfl⟩ : ∃ m, n = i + (m + 1) := ⟨n - i - 1, by omega⟩
  rw [show i + (m + 1) - i = m + 1 by omega, show i + (m + 1) - (i + 1) = m by omega, List.replicate_succ, List.set_append_right _ _ (by simp)]
  simp [List.replicate_succ']

structure F1 (w0 : World) (g n : Nat) (c : UInt8) (k : Nat) (v : Value) (wr : World) (i : Nat) : Prop where
  slot : v = .int .i64 i
  le : i ≤ n
  num : k = n - i
  b : Blk wr g 5 (u8s (fillL c n i)).toArray
  by_ : w0.grownBy wr none
structure F2 (w0 : World) (n : Nat) (k : Nat) (v d : Value) (wr : World) (i : Nat) (l : List UInt8) : Prop where
  slot7 : v = .string ⟨l.toArray⟩
  slot : d = .int .i64 i
  le : i ≤ 33
  num : k = 33 - i
  len : l.length = n + i
  by_ : w0.grownBy wr none

set_option maxRecDepth 100000 in
set_option maxHeartbeats 1000000 in
theorem walk (w : World) (c : Int) (wc : (Lit.int .u8 c).wf = true) (bl : Int) (wb : (Lit.int .u8 bl).wf = true) :
    Calls Try.prog 5 #[.int .u8 c, .int .u8 bl] w fun e w' => e = .returned (.bool true) ∧ w.grownBy w' none := by
  obtain ⟨c, rfl⟩ : ∃ b : UInt8, c = (b.toNat : Int) := by
    simp only [Lit.wf, Bool.and_eq_true, decide_eq_true_eq] at wc
    have h0 : 0 ≤ c := wc.1
    have h1 : c ≤ 255 := wc.2
    exact ⟨UInt8.ofNat c.toNat, by rw [UInt8.toNat_ofNat']; omega⟩
  have hb : 0 ≤ bl ∧ bl ≤ 255 := by
    simp only [Lit.wf, Bool.and_eq_true, decide_eq_true_eq] at wb
    exact ⟨wb.1, wb.2⟩
  clear wc wb
  obtain ⟨hb0, hb1⟩ := hb
  obtain ⟨m, hm, hm30⟩ : ∃ m : Nat, bl % 30 = (m : Int) ∧ m < 30 := ⟨(bl % 30).toNat, by omega, by omega⟩
  obtain ⟨n, hn⟩ : ∃ n : Nat, n = 64 * m + 40 := ⟨_, rfl⟩
  have e1 : bl.tmod 30 = (m : Int) := by rw [Int.tmod_eq_emod_of_nonneg hb0]; exact hm
  have e2 : IntKind.i64.wrap (64 * (m : Int)) = 64 * (m : Int) := by rw [IntKind.wrap_i64]; omega
  have e3 : IntKind.i64.wrap (64 * (m : Int) + 40) = (n : Int) := by rw [IntKind.wrap_i64]; omega
  have e4 : 64 * (m : Int) + 40 = (n : Int) := by omega
  have hn2 : n ≤ 2000 := by omega
  obtain ⟨i0, hi, hz0, hz1, hz2⟩ : ∃ i, Try.prog.info? 5 = some i ∧ i.zero = some (.int .u8 0) ∧ i.size = 1 ∧ i.bytes = 1 := ⟨_, rfl, rfl, rfl, rfl⟩
  have hmk : (Instr.makeSlice 28 (.int .i64 (n : Int)) (.int .i64 (n : Int))).run Try.prog w = .ok (.slice (some ⟨w.heap.size, 0, none⟩) n n) (w.alloc (.cells (u8s (fillL c n 0)).toArray 5)) := by
    have h := run_make (P := Try.prog) w 28 5 i0 (.int .u8 0) Try.underlying28 hi hz0 .i64 .i64 n n (by omega) (by omega) (by rw [hz2]; omega) (by omega)
    rw [h, hz1, Nat.mul_one]
    have e : madeCells (Value.int .u8 0).cells (n : Int).toNat = (u8s (fillL c n 0)).toArray := by
      have : (n : Int).toNat = n := by omega
      rw [this]
      have hr : fillL c n 0 = List.replicate n 0 := by simp [fillL]
      rw [hr]
      apply Array.ext
      · simp [madeCells, u8s]
      · intro i h1 h2
        simp only [madeCells, Array.getElem_map, u8s, List.map_replicate, List.getElem_toArray, List.getElem_replicate]
        show #[Value.int IntKind.u8 0][_ % 1]! = _
        rw [Nat.mod_one]
        rfl
    rw [e]
    rfl
  have h1 := Blk.new w 5 (u8s (fillL c n 0)).toArray
  have h2 := by_alloc (by_refl w none) (.cells (u8s (fillL c n 0)).toArray 5)
  have H0 := Lib.hid (And.intro h1 h2)
  have He := Lib.hid (And.intro hn hm30)
  clear h1 h2 hi hz0 hz1 hz2 hn
  go_enter Try.func5, Try.ntmps5
  go_wp2
  go_loopg [6] n (fun k v wr => ∃ i, F1 w w.heap.size n c k v wr i)
  case atStart => exact ⟨0, rfl, by omega, by omega, H0.out.1, H0.out.2⟩
  case round =>
    clear H0 hmk e1 e2 e3 e4 hm
    obtain ⟨i, hr⟩ := hrel
    obtain rfl := hr.slot
    have hle := hr.le
    have Hr := Lib.hid hr
    clear hr
    by_cases hlt : i < n
    · have hb := Hr.out.b
      have hlen := fill_len c n i hle
      have d0 : ∃ u, wr.cell? ⟨w.heap.size, i, none⟩ = some u := ⟨_, by rw [hb.cell]; exact Array.getElem?_eq_getElem (by simp [u8s, hlen]; omega)⟩
      obtain ⟨u0, d0⟩ := d0
      have f0 : wr.frozen? ⟨w.heap.size, i, none⟩ = false := hb.frozen i
      have hset := hb.set_ i (.int .u8 (c.toNat : Int))
      rw [fill_set c n i hlt] at hset
      have h3 := by_set Hr.out.by_ (p := ⟨w.heap.size, i, none⟩) (.inr (Nat.le_refl _)) (.int .u8 (c.toNat : Int))
      have hrel : F1 w w.heap.size n c (n - (i + 1)) (.int .i64 ((i : Int) + 1)) (wr.setCell ⟨w.heap.size, i, none⟩ (.int .u8 (c.toNat : Int))) (i + 1) := ⟨by simp, by omega, by omega, hset, h3⟩
      have Hn := Lib.hid (And.intro hrel (show n - (i + 1) < gk by have := Hr.out.num; omega))
      clear hb hlen hset h3 hrel Hr
      have p0 : (0 : Int) ≤ (i : Int) := by omega
      have p1 : (i : Int) < (n : Int) := by omega
      have wx : IntKind.i64.wrap ((i : Int) + 1) = (i : Int) + 1 := by rw [IntKind.wrap_i64]; omega
      go_wp2
      go_roundg (n - (i + 1))
      case measure => exact Hn.out.2
      case rel => exact ⟨i + 1, Hn.out.1⟩
    · have hi : i = n := by omega
      subst hi
      have hcv := conv_row (fill_len c i i (Nat.le_refl _)) Hr.out.b
      have hby := Hr.out.by_
      have Hb := Lib.hid hby
      have hll := fill_len c i i (Nat.le_refl _)
      clear Hr hby
      generalize hl0 : fillL c i i = l0 at *
      clear hl0
      obtain ⟨M, hM⟩ : ∃ M : ByteArray, M = ⟨l0.toArray⟩ := ⟨_, rfl⟩
      rw [← hM] at hcv
      have HM := Lib.hid (And.intro hM hll)
      clear hM hll
      go_wp2
      go_loopg [7, 8] 33 (fun k v d wr => ∃ j l, F2 w i k v d wr j l)
      case atStart => exact ⟨0, l0, by rw [HM.out.1], rfl, by omega, by omega, HM.out.2, Hb.out⟩
      case round =>
        clear HM Hb hcv
        obtain ⟨j, l, hr⟩ := hrel
        obtain rfl := hr.slot7
        obtain rfl := hr.slot
        have hle := hr.le
        have hlen := hr.len
        have Hr := Lib.hid hr
        clear hr
        by_cases hlt : j < 33
        · obtain ⟨b, hbb⟩ : ∃ b : UInt8, b = UInt8.ofNat (c.toNat + j) := ⟨_, rfl⟩
          have w1 : IntKind.u8.wrap (j : Int) = (j : Int) := by rw [IntKind.wrap_u8]; omega
          have w2 : IntKind.u8.wrap ((c.toNat : Int) + (j : Int)) = (b.toNat : Int) := by rw [hbb, UInt8.toNat_ofNat', IntKind.wrap_u8]; omega
          have ha : ∀ W, (Op.stringOp .add ⟨l.toArray⟩ ⟨[b].toArray⟩).run Try.prog W = .ok (.string ⟨(l ++ [b]).toArray⟩) W := fun W => add_run l [b] (by rw [hlen]; simp; omega) W
          have hsz : (⟨l.toArray⟩ : ByteArray).size ≤ 536870912 := by show l.toArray.size ≤ _; simp; omega
          have hl2 : (l ++ [b]).length = i + (j + 1) := by rw [List.length_append, hlen]; simp; omega
          have Hl2 := Lib.hid hl2
          clear hl2 hbb hlen
          generalize l ++ [b] = l2 at *
          have Hby := Lib.hid (And.intro Hr.out.by_ Hr.out.num)
          clear Hr
          obtain ⟨M, hM⟩ : ∃ M : ByteArray, M = ⟨l.toArray⟩ := ⟨_, rfl⟩
          obtain ⟨M2, hM2⟩ : ∃ M : ByteArray, M = ⟨l2.toArray⟩ := ⟨_, rfl⟩
          obtain ⟨B, hB⟩ : ∃ M : ByteArray, M = ⟨[b].toArray⟩ := ⟨_, rfl⟩
          have hbs := fun W => byte_string W b
          rw [← hM, ← hM2, ← hB] at ha
          rw [← hB] at hbs
          rw [← hM] at hsz ⊢
          have HM2 := Lib.hid hM2
          have Hbs := Lib.hid hbs
          clear hM hM2 hB hbs
          have p0 : (j : Int) ≤ 32 := by omega
          have wx : IntKind.i64.wrap ((j : Int) + 1) = (j : Int) + 1 := by rw [IntKind.wrap_i64]; omega
          go_wp2_with fail
          refine (sum_bytes M wr hsz).mono ?_
          rintro e w1 ⟨rfl, y1⟩
          go_wp2_with fail
          refine (rsum_any M w1 hsz).mono ?_
          rintro e w2 ⟨rfl, y2⟩
          rw [rowOut_sumB]
          have hq := eq_row (sumB (sumOf M)) (sumB (sumOf M)) (sumB_len _) (sumB_len _)
          have hgu : Try.prog.eqGuardType Try.prog.depth 22 = false := by kernel_rfl
          rw [decide_eq_true rfl] at hq
          have Hy := Lib.hid (by_trans (by_trans Hby.out.1 y1 (by simp)) y2 (by simp))
          clear y1 y2
          generalize (u8s (sumB (sumOf M))).toArray = A at *
          have hb2 := Hbs.out w2
          go_wp2
          go_roundg (32 - j)
          case measure => have := Hby.out.2; omega
          case rel => exact ⟨j + 1, l2, by rw [HM2.out], by simp, by omega, by omega, Hl2.out, by_alloc Hy.out _⟩
        · have hj : j = 33 := by omega
          subst hj
          have Hby := Lib.hid Hr.out.by_
          clear Hr hlen
          go_wp2_with fail
          refine (works_any wr).mono ?_
          rintro e w3 ⟨rfl, y3⟩
          go_wp2
          go_ret
          exact ⟨rfl, by_trans Hby.out y3 (by simp)⟩

set_option maxRecDepth 100000 in
theorem lifted (os : Os) (started : os.Started) (H : Type) (enc : TypeId × Value → H) :
    ReturnsInHanded {} Try.checked os 5 .any (Rows.shaFillsSpec.pre6 enc Try.prog Try.f5 Rows.shaFillsRow.domain false) (Rows.shaFillsSpec.post enc Try.prog Try.f5 false true false false) := by
  refine returnsInHanded_of_change (C := Try.checked) own started (by kernel_rfl) Try.func5
    (ChangeSpec.witness6 (enc := enc) (C := Try.checked) false ⟨#[], #[.int .u8 0, .int .u8 0], []⟩ 8 (by kernel_rfl) (by kernel_rfl) (by kernel_rfl) (by kernel_rfl)) ?_
  intro W base args ds gs before hval0 hW hcnd _
  have hval : ∀ (j : Nat) t v, Try.f5.params[j]? = some t → args[j]? = some v → Value.okWide Try.prog W .any base t v := hval0
  have hW' := hW
  obtain ⟨p, q, hA0, hV, rfl, hfz, hnd⟩ := hW
  have hA : DataW.TrodAll enc Try.prog W 0 (fun _ => true) true Try.f5.params.toList args.toList ds p := hA0
  rw [Try.params5] at hA hval
  obtain ⟨v0, vs0, d0, ds0, p0, q0, hargs, rfl, rfl, h0, r0⟩ := trodAll_cons hA
  obtain ⟨v1, vs1, d1, ds1, p1, q1, rfl, rfl, rfl, h1, r1⟩ := trodAll_cons r0
  obtain ⟨rfl, rfl, rfl⟩ := trodAll_nil r1
  obtain rfl : args = #[v0, v1] := by cases args; simp_all
  obtain ⟨rfl, rfl⟩ := trodVars_none hV
  obtain ⟨a0, rfl, rfl, rfl, w0⟩ := open_int Try.underlying5 (hval 0 5 v0 rfl rfl) h0
  obtain ⟨a1, rfl, rfl, rfl, w1⟩ := open_int Try.underlying5 (hval 1 5 v1 rfl rfl) h1
  refine (walk W a0 w0 a1 w1).mono fun e W' ⟨he, hg⟩ => ?_
  subst he
  exact ⟨_, rfl, law_post laidOut rfl hW' (by kernel_rfl) rfl Try.underlying4 rfl (below_of_by hg)⟩

theorem proved : Rows.ShaFillsSaid :=
  OpenClaim.holds_of_wide 5 Try.f5 rfl rfl rfl rfl rfl rfl rfl ⟨rfl, rfl, rfl, rfl, rfl⟩ rfl rfl rfl rfl rfl (by kernel_rfl) Try.func5 (by kernel_rfl)
    (of_decide_eq_true (by kernel_rfl)) (by unfold Func.isWrapper; first | (rw [if_pos (by decide +kernel)]; kernel_rfl) | (rw [if_neg (by decide +kernel)]; exact ⟨rfl, rfl⟩))
    (fun os started H enc _ => lifted os started H enc)
#print axioms proved
end Go.Proofs.Ytgpafmkhkepjbaa.shaFills
