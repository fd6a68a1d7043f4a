/-
  The reference's reader: the walks of spend, low, OK, End, Num, Text.
-/
import Derived.Test.YtlnlpphhnbodpaaSaysP
import Derived.Test.YtlnlpphhnbodpaaRefPut
import Derived.Deep.CutBlock
namespace Go.Proofs.Ytlnlpphhnbodpaa
open Go.RowKit

/-- what is read as a number: it, and how many bytes its row has -/
def numR (s : ByteArray) : Option (Nat × Nat) :=
  match saysN s with
  | none => none
  | some (n, k) => if rowL n = s.data.toList.take k then some (n, k) else none
theorem val_snoc (l : List UInt8) (c : UInt8) : val (l ++ [c]) = val l * 256 + c.toNat := by simp [val]
theorem val_lt (l : List UInt8) : val l < 256 ^ l.length := by have := acc_lt l 0; simpa [acc, val] using this

def RRd (w : World) (g : Nat) (s : ByteArray) (bad : Bool) : Prop := Blk w g 34 #[.string s, .bool bad]

set_option maxHeartbeats 400000 in
theorem spend_any (w : World) (g : Nat) (s : ByteArray) (bad : Bool) (h : RRd w g s bad) :
    Calls Try.prog 26 #[.pointer (some ⟨g, 0, none⟩)] w fun e w' => e = .returned (.int .u64 0) ∧ RRd w' g ⟨#[]⟩ true ∧ w.grownBy w' (some g) := by
  have h' : Blk w g 34 #[.string s, .bool bad] := h
  have c0 : w.cell? ⟨g, 0, none⟩ = some (.string s) := h'.cell 0
  have c1 : w.cell? ⟨g, 1, none⟩ = some (.bool bad) := h'.cell 1
  have f0 : w.frozen? ⟨g, 0, none⟩ = false := h'.frozen 0
  have f1 : w.frozen? ⟨g, 1, none⟩ = false := h'.frozen 1
  have hfin : RRd ((w.setCell ⟨g, 0, none⟩ (.string ⟨#[]⟩)).setCell ⟨g, 1, none⟩ (.bool true)) g ⟨#[]⟩ true := by
    have := (h'.set_ 0 (.string ⟨#[]⟩)).set_ 1 (.bool true)
    exact this
  have Hfin := Lib.hid hfin
  clear hfin h h'
  go_enter Try.func26, Try.ntmps26
  go_wp2
  go_ret
  exact ⟨rfl, Hfin.out, by_set (by_set (by_refl w (some g)) (.inl rfl) _) (.inl rfl) _⟩
set_option maxHeartbeats 400000 in
theorem rok_any (w : World) (g : Nat) (s : ByteArray) (bad : Bool) (h : RRd w g s bad) :
    Calls Try.prog 19 #[.pointer (some ⟨g, 0, none⟩)] w fun e w' => e = .returned (.bool (!bad)) ∧ w = w' := by
  have h' : Blk w g 34 #[.string s, .bool bad] := h
  have c1 : w.cell? ⟨g, 1, none⟩ = some (.bool bad) := h'.cell 1
  clear h h'
  go_enter Try.func19, Try.ntmps19
  go_wp2
  go_ret
  exact ⟨rfl, rfl⟩
set_option maxHeartbeats 400000 in
theorem rend_any (w : World) (g : Nat) (s : ByteArray) (bad : Bool) (h : RRd w g s bad) :
    Calls Try.prog 21 #[.pointer (some ⟨g, 0, none⟩)] w fun e w' => e = .returned (.bool (!bad && decide (s.size = 0))) ∧ w = w' := by
  have h' : Blk w g 34 #[.string s, .bool bad] := h
  have c0 : w.cell? ⟨g, 0, none⟩ = some (.string s) := h'.cell 0
  have c1 : w.cell? ⟨g, 1, none⟩ = some (.bool bad) := h'.cell 1
  clear h h'
  have hs : s.data.toList.length = s.size := rfl
  by_cases h0 : s.size = 0
  · have e1 : s.toList = [] := by rw [ByteArray.toList_eq]; exact List.eq_nil_of_length_eq_zero (by omega)
    have Hd := Lib.hid h0
    cases bad <;> go_enter Try.func21, Try.ntmps21 <;> go_wp2 <;> go_ret <;> exact ⟨by simp [Hd.out], rfl⟩
  · have e1 : s.toList.isEmpty = false := by
      rw [ByteArray.toList_eq]
      cases e : s.data.toList with
      | nil => rw [e] at hs; exact absurd hs.symm h0
      | cons => rfl
    have Hd := Lib.hid h0
    cases bad <;> go_enter Try.func21, Try.ntmps21 <;> go_wp2 <;> go_ret <;> exact ⟨by simp [Hd.out], rfl⟩

set_option maxHeartbeats 400000 in
theorem low_any (t : ByteArray) (ht : t.size ≤ 8) (w : World) :
    Calls Try.prog 27 #[.string t] w fun e w' => e = .returned (.int .u64 ((val t.data.toList : Nat) : Int)) ∧ w = w' := by
  have hlen : t.data.toList.length = t.size := rfl
  go_enter Try.func27, Try.ntmps27
  go_wp2
  go_loop [3, 4] (fun n i => ∃ j : Nat, j ≤ t.size ∧ i = .int .i64 (j : Int) ∧ n = .int .u64 ((val (t.data.toList.take j) : Nat) : Int)) (fun _ i => t.size - (intOf i).toNat)
  case atStart => exact ⟨0, Nat.zero_le _, rfl, rfl⟩
  case round =>
    obtain ⟨j, hj, rfl, rfl⟩ := hrel
    by_cases hlt : j < t.size
    · have hv : val (t.data.toList.take (j + 1)) = val (t.data.toList.take j) * 256 + (t[j]).toNat := by
        rw [List.take_add_one, List.getElem?_eq_getElem (by rw [hlen]; exact hlt)]
        exact val_snoc _ _
      have hb := val_lt (t.data.toList.take (j + 1))
      rw [List.length_take, Nat.min_eq_left (by omega), hv] at hb
      have h2 : 256 ^ (j + 1) ≤ 256 ^ 8 := Nat.pow_le_pow_right (by omega) (by omega)
      have h3 : (256 : Nat) ^ 8 = 18446744073709551616 := by decide
      have hb2 : val (t.data.toList.take j) * 256 + (t[j]).toNat < 18446744073709551616 := by omega
      have HV := Lib.hid hv
      clear hv hb h2 h3
      generalize hN : val (t.data.toList.take j) = N at *
      have HN := Lib.hid hN
      clear hN
      go_wp2
      go_round
      case rel =>
        refine ⟨j + 1, by omega, by go_num, ?_⟩
        rw [HV.out]
        exact congrArg (Value.int .u64) (by omega)
      case measure => simp [intOf]; omega
    · have hjt : j = t.size := by omega
      have hge : decide (j < t.size) = false := decide_eq_false hlt
      have HJ := Lib.hid hjt
      clear hjt hlt
      go_wp2
      go_ret
      refine ⟨?_, rfl⟩
      show Ending.returned (.int .u64 ((val (t.data.toList.take j) : Nat) : Int)) = _
      rw [List.take_of_length_le (by have := HJ.out; omega)]

def RNumQ (w : World) (g : Nat) (s : ByteArray) (bad : Bool) (e : Ending) (w' : World) : Prop :=
  w.grownBy w' (some g) ∧
  match numR s with
  | none => e = .returned (.int .u64 0) ∧ RRd w' g ⟨#[]⟩ true
  | some (n, k) => e = .returned (.int .u64 (n : Int)) ∧ RRd w' g (s.extract k s.size) bad

theorem size_of_cons {s : ByteArray} {b : UInt8} {l : List UInt8} (h : s.data.toList = b :: l) : s.size = l.length + 1 := by
  have : s.size = s.data.toList.length := rfl
  rw [this, h]; simp
theorem first_of_cons {s : ByteArray} {b : UInt8} {l : List UInt8} (h : s.data.toList = b :: l) : s[0]'(by rw [size_of_cons h]; omega) = b := by
  have hx : 0 < s.data.toList.length := by rw [h]; simp
  have h7 : s.data.toList[0]'hx = b := by simp [h]
  rw [Array.getElem_toList] at h7
  exact h7
theorem slice_1k (s : ByteArray) (k : Nat) (h : 1 + k ≤ s.size) (W : World) : (Instr.slice 9 (.string s) (some (.int .i64 1)) (some (.int .i64 (1 + (k : Int)))) none).run Try.prog W = .ok (.string (s.extract 1 (1 + k))) W := by
  rw [run_slice_string_if W 9 s .i64 .i64 _ _ Try.underlying9, if_pos ⟨by omega, by omega⟩, if_pos ⟨by omega, by omega⟩]
  congr 3
theorem ext_1k {s : ByteArray} {b : UInt8} {l : List UInt8} (h : s.data.toList = b :: l) (k : Nat) : (s.extract 1 (1 + k)).data.toList = l.take k := by
  rw [ByteArray.data_extract, Array.toList_extract, List.extract_eq_take_drop]
  rw [h]
  simp
theorem ext_0k (s : ByteArray) (k : Nat) : (s.extract 0 k).data.toList = s.data.toList.take k := by
  rw [ByteArray.data_extract, Array.toList_extract, List.extract_eq_take_drop]
  simp

theorem row_cmp (M k : Nat) (s : ByteArray) : ((⟨#[]⟩ ++ ⟨(rowL M).toArray⟩ : ByteArray).toList == (s.extract 0 (1 + k)).toList) = decide (rowL M = s.data.toList.take (1 + k)) := by
  rw [ByteArray.toList_eq, ByteArray.toList_eq, ext_0k, Bool.eq_iff_iff]
  simp
theorem srtB_cases (b : Nat) : (b ≤ 240 ∧ srtB b = (0, 0, 0)) ∨ (240 < b ∧ b < 249 ∧ srtB b = (240, 241, 1)) ∨ (b = 249 ∧ srtB b = (2288, 249, 2)) ∨ (249 < b ∧ srtB b = (0, b, b - 247)) := by
  unfold srtB
  by_cases h1 : b ≤ 240
  · exact .inl ⟨h1, if_pos h1⟩
  · by_cases h2 : b < 249
    · exact .inr (.inl ⟨by omega, h2, by rw [if_neg h1, if_pos h2]⟩)
    · by_cases h3 : b = 249
      · exact .inr (.inr (.inl ⟨h3, by rw [if_neg h1, if_neg h2, if_pos h3]⟩))
      · exact .inr (.inr (.inr ⟨by omega, by rw [if_neg h1, if_neg h2, if_neg h3]⟩))

set_option maxRecDepth 20000 in
set_option maxHeartbeats 2000000 in
theorem rnum_any (w : World) (g : Nat) (s : ByteArray) (bad : Bool) (h : RRd w g s bad) (hs : s.size ≤ 140737488355328) :
    Calls Try.prog 15 #[.pointer (some ⟨g, 0, none⟩)] w (RNumQ w g s bad) := by
  have h' : Blk w g 34 #[.string s, .bool bad] := h
  have c0 : w.cell? ⟨g, 0, none⟩ = some (.string s) := h'.cell 0
  have H := Lib.hid h
  clear h h'
  cases hl : s.data.toList with
  | nil =>
    have e1 : s.toList = [] := by rw [ByteArray.toList_eq]; exact hl
    have hq : numR s = none := by unfold numR saysN; rw [hl]
    have Hq := Lib.hid hq
    clear hq hl
    go_enter Try.func15, Try.ntmps15
    go_wp2_with fail
    refine (spend_any w g s bad H.out).mono ?_
    rintro e w1 ⟨rfl, R1, y1⟩
    have Hf := Lib.hid (And.intro R1 y1)
    clear R1 y1
    go_wp2
    go_ret
    refine ⟨Hf.out.2, ?_⟩
    rw [Hq.out]
    exact ⟨rfl, Hf.out.1⟩
  | cons b l =>
    have e1 : s.toList.isEmpty = false := by rw [ByteArray.toList_eq, hl]; rfl
    have hsz := size_of_cons hl
    have hb := b.toNat_lt
    have hi : ∀ W : World, (Instr.index 9 (.string s) (.int .i64 0)).run Try.prog W = .ok (.int .u8 (b.toNat : Int)) W := fun W => by
      rw [run_index_string W 9 _ .i64 _ Try.underlying9, dif_pos ⟨by omega, by omega⟩]
      have := first_of_cons hl
      show Result.ok (Value.int .u8 ((s[0]'_).toNat : Int)) W = _
      rw [this]
    have hsy := saysN_cons hl
    have HL := Lib.hid (And.intro hl hsy)
    clear hl hsy
    go_enter Try.func15, Try.ntmps15
    have hcs := srtB_cases b.toNat
    obtain ⟨k, hk⟩ : ∃ k, (srtB b.toNat).2.2 = k := ⟨_, rfl⟩
    have HK := Lib.hid (And.intro hcs hk)
    have hk8 : k ≤ 8 := by rw [← hk]; exact (srtB_ok b.toNat (by omega)).1
    clear hcs hk
    go_upto_block 0 with fail
    go_cut [4] (fun s4 wx => s4 = .int .i64 (k : Int) ∧ w = wx)
    case first =>
      obtain ⟨hcs, hk⟩ := HK.out
      rcases hcs with ⟨h1, h2⟩ | ⟨h1, h2, h3⟩ | ⟨h1, h2⟩ | ⟨h1, h2⟩
      · rw [h2] at hk
        have hd1 : decide ((249 : Int) < (b.toNat : Int)) = false := decide_eq_false (by omega)
        have hd2 : ((b.toNat : Int) == 249) = false := by simp; omega
        have hd3 : decide ((240 : Int) < (b.toNat : Int)) = false := decide_eq_false (by omega)
        have Hk := Lib.hid hk
        clear h1 h2 hk
        go_wp2_with fail
        go_meet
        exact ⟨by rw [← Hk.out]; rfl, rfl⟩
      · rw [h3] at hk
        have hd1 : decide ((249 : Int) < (b.toNat : Int)) = false := decide_eq_false (by omega)
        have hd2 : ((b.toNat : Int) == 249) = false := by simp; omega
        have hd3 : decide ((240 : Int) < (b.toNat : Int)) = true := decide_eq_true (by omega)
        have Hk := Lib.hid hk
        clear h1 h2 h3 hk
        go_wp2_with fail
        go_meet
        exact ⟨by rw [← Hk.out]; rfl, rfl⟩
      · rw [h2] at hk
        have hd1 : decide ((249 : Int) < (b.toNat : Int)) = false := decide_eq_false (by omega)
        have hd2 : ((b.toNat : Int) == 249) = true := by simp; omega
        have Hk := Lib.hid hk
        clear h1 h2 hk
        go_wp2_with fail
        go_meet
        exact ⟨by rw [← Hk.out]; rfl, rfl⟩
      · rw [h2] at hk
        have hd1 : decide ((249 : Int) < (b.toNat : Int)) = true := decide_eq_true (by omega)
        have Hk := Lib.hid (And.intro hk h1)
        clear h2 hk
        go_wp2_with fail
        go_meet
        exact ⟨by rw [← Hk.out.1]; exact congrArg (Value.int .i64) (by have := Hk.out.2; omega), rfl⟩
    case rest =>
      obtain ⟨rfl, rfl⟩ := hcut
      by_cases hlk : l.length < k
      · have hq : numR s = none := by unfold numR; rw [HL.out.2, HK.out.2, if_pos hlk]
        have Hq := Lib.hid hq
        clear hq
        have hd : decide ((s.size : Int) < 1 + (k : Int)) = true := decide_eq_true (by omega)
        go_wp2_with fail
        refine (spend_any w g s bad H.out).mono ?_
        rintro e w1 ⟨rfl, R1, y1⟩
        have Hf := Lib.hid (And.intro R1 y1)
        clear R1 y1
        go_wp2
        go_ret
        refine ⟨Hf.out.2, ?_⟩
        rw [Hq.out]
        exact ⟨rfl, Hf.out.1⟩
      · have hsl := slice_1k s k (by omega)
        have ht := ext_1k HL.out.1 k
        have hts : (s.extract 1 (1 + k)).size ≤ 8 := by rw [ext_size _ _ _ (by omega)]; omega
        have Ht := Lib.hid (And.intro ht hts)
        clear ht hts
        go_wp2_with fail
        refine (low_any _ Ht.out.2 w).mono ?_
        rintro e w1 ⟨rfl, rfl⟩
        rw [Ht.out.1]
        go_upto_block 1 with fail
        go_cut [5] (fun s5 wx => s5 = .int .u64 (((srtB b.toNat).1 + acc (b.toNat - (srtB b.toNat).2.1) (l.take (srtB b.toNat).2.2) : Nat) : Int) ∧ w = wx)
        case first =>
          obtain ⟨hcs, hk⟩ := HK.out
          have hv := acc_val (l.take k) (b.toNat - (srtB b.toNat).2.1)
          have hv2 := val_lt (l.take k)
          rw [List.length_take, Nat.min_eq_left (by omega)] at hv hv2
          obtain ⟨N, hN⟩ : ∃ N, val (l.take k) = N := ⟨_, rfl⟩
          rw [hN] at hv hv2 ⊢
          rcases hcs with ⟨h1, h2⟩ | ⟨h1, h2, h3⟩ | ⟨h1, h2⟩ | ⟨h1, h2⟩
          · rw [h2] at hk hv
            dsimp only at hk hv
            subst hk
            have hd1 : decide ((b.toNat : Int) ≤ 240) = true := decide_eq_true (by omega)
            have HV := Lib.hid (And.intro hv (And.intro hv2 h2))
            clear hv hv2 h1 h2
            go_wp2_with fail
            go_meet
            refine ⟨?_, rfl⟩
            obtain ⟨hv, hv2, h2⟩ := HV.out
            rw [h2]
            dsimp only
            rw [hv]
            simp at hv2
            subst hv2
            simp
          · rw [h3] at hk hv
            dsimp only at hk hv
            subst hk
            have hd1 : decide ((b.toNat : Int) ≤ 240) = false := decide_eq_false (by omega)
            have hd2 : decide ((b.toNat : Int) < 249) = true := decide_eq_true (by omega)
            have hN256 : N < 256 := by simpa using hv2
            have HV := Lib.hid (And.intro hv h3)
            clear hv hv2 h3
            go_wp2_with fail
            go_meet
            refine ⟨?_, rfl⟩
            obtain ⟨hv, h3⟩ := HV.out
            rw [h3]
            dsimp only
            rw [hv]
            exact congrArg (Value.int .u64) (by omega)
          · rw [h2] at hk hv
            dsimp only at hk hv
            subst hk
            have hd1 : decide ((b.toNat : Int) ≤ 240) = false := decide_eq_false (by omega)
            have hd2 : decide ((b.toNat : Int) < 249) = false := decide_eq_false (by omega)
            have hd3 : ((b.toNat : Int) == 249) = true := by simp; omega
            have hN256 : N < 65536 := by simpa using hv2
            have HV := Lib.hid (And.intro hv (And.intro h1 h2))
            clear hv hv2 h1 h2
            go_wp2_with fail
            go_meet
            refine ⟨?_, rfl⟩
            obtain ⟨hv, h1, h2⟩ := HV.out
            rw [h2]
            dsimp only
            rw [hv, h1]
            exact congrArg (Value.int .u64) (by omega)
          · rw [h2] at hk hv
            dsimp only at hk hv
            have hd1 : decide ((b.toNat : Int) ≤ 240) = false := decide_eq_false (by omega)
            have hd2 : decide ((b.toNat : Int) < 249) = false := decide_eq_false (by omega)
            have hd3 : ((b.toNat : Int) == 249) = false := by simp; omega
            have HV := Lib.hid (And.intro hv (And.intro h1 (And.intro h2 hk)))
            clear hv hv2 h1 h2 hk
            go_wp2_with fail
            go_meet
            refine ⟨?_, rfl⟩
            obtain ⟨hv, h1, h2, hk⟩ := HV.out
            rw [h2]
            dsimp only
            rw [hk, hv]
            simp
        case rest =>
          obtain ⟨rfl, rfl⟩ := hcut
          have hbd := srtB_bd b.toNat (by omega)
          have hlt := acc_lt (l.take k) (b.toNat - (srtB b.toNat).2.1)
          rw [List.length_take, Nat.min_eq_left (by omega)] at hlt
          have hsy := HL.out.2
          rw [HK.out.2, if_neg hlk] at hsy
          rw [HK.out.2] at hbd ⊢
          obtain ⟨M, hM⟩ : ∃ M, (srtB b.toNat).1 + acc (b.toNat - (srtB b.toNat).2.1) (l.take k) = M := ⟨_, rfl⟩
          rw [hM] at hsy ⊢
          have hM2 : M ≤ 18446744073709551615 := by omega
          have hnum : numR s = if rowL M = s.data.toList.take (1 + k) then some (M, 1 + k) else none := by unfold numR; rw [hsy]
          have hsl0 : ∀ W : World, (Instr.slice 9 (.string s) none (some (.int .i64 (1 + (k : Int)))) none).run Try.prog W = .ok (.string (s.extract 0 (1 + k))) W := fun W => by
            rw [run_slice_string_to_if W 9 s .i64 _ Try.underlying9, if_pos ⟨by omega, by omega⟩]
            congr 3
          have Hn := Lib.hid hnum
          clear hbd hlt hsy hM hnum
          go_wp2_with fail
          obtain ⟨E, hE⟩ : ∃ E, E = s.extract 0 (1 + k) := ⟨_, rfl⟩
          rw [← hE] at hsl0
          have HE := Lib.hid hE
          clear hE
          go_upto_region 20 with fail
          go_cut [77] (fun s77 wx => s77 = .bool (!decide (rowL M = s.data.toList.take (1 + k))) ∧ w.grownBy wx none)
          case first =>
            have hw1 : IntKind.i64.wrap (1 + (k : Int)) = 1 + (k : Int) := by rw [IntKind.wrap_i64]; omega
            go_region_with (go_at_call 9; refine (rput_any ⟨#[]⟩ M hM2 (by decide) _).mono ?_; rintro e w4 ⟨rfl, y4⟩; (have c4 : w4.cell? ⟨g, 0, none⟩ = some (.string s) := y4.cell c0 (by simp)))
            all_goals
              go_wp2_with fail
              go_meet
              refine ⟨?_, by_trans (by_drew (by_refl w none)) y4 (by simp)⟩
              rw [HE.out, row_cmp]
          case rest =>
            obtain ⟨rfl, y5⟩ := hcut
            have c5 : wc.cell? ⟨g, 0, none⟩ = some (.string s) := y5.cell c0 (by simp)
            have R5 : RRd wc g s bad := Blk.grown H.out y5 (by simp)
            have f5 : wc.frozen? ⟨g, 0, none⟩ = false := Blk.frozen R5 0
            have H5 := Lib.hid (And.intro R5 y5)
            clear R5 y5 c0
            by_cases hrow : rowL M = s.data.toList.take (1 + k)
            · have hq : numR s = some (M, 1 + k) := by rw [Hn.out, if_pos hrow]
              have Hq := Lib.hid hq
              have hd : decide (rowL M = s.data.toList.take (1 + k)) = true := decide_eq_true hrow
              rw [hd]
              clear hq hd hrow hsl0
              have hslk : ∀ W : World, (Instr.slice 9 (.string s) (some (.int .i64 (1 + (k : Int)))) none none).run Try.prog W = .ok (.string (s.extract (1 + k) s.size)) W := fun W => by
                rw [run_slice_string_from_if W 9 s .i64 _ Try.underlying9, if_pos ⟨by omega, by omega⟩]
                congr 3
              go_wp2
              go_ret
              refine ⟨by_trans (by_of_none H5.out.2 (some g)) (by_set (by_refl wc (some g)) (.inl rfl) _) (fun x hx => .inl hx.symm), ?_⟩
              rw [Hq.out]
              refine ⟨rfl, ?_⟩
              have h9 := Blk.set_ H5.out.1 0 (.string (s.extract (1 + k) (l.length + 1)))
              rw [← hsz] at h9 ⊢
              exact h9
            · have hq : numR s = none := by rw [Hn.out, if_neg hrow]
              have Hq := Lib.hid hq
              have hd : decide (rowL M = s.data.toList.take (1 + k)) = false := decide_eq_false hrow
              rw [hd]
              clear hq hd hrow hsl0
              go_wp2_with fail
              refine (spend_any wc g s bad H5.out.1).mono ?_
              rintro e w6 ⟨rfl, R6, y6⟩
              have Hf := Lib.hid (And.intro R6 (by_trans (by_of_none H5.out.2 (some g)) y6 (fun x hx => .inl hx.symm)))
              clear R6 y6
              go_wp2
              go_ret
              refine ⟨Hf.out.2, ?_⟩
              rw [Hq.out]
              exact ⟨rfl, Hf.out.1⟩

/-- what is read as a text: it, and what stands behind it -/
def textR (s : ByteArray) : Option (ByteArray × ByteArray) :=
  match numR s with
  | none => none
  | some (n, k) => if n ≤ (s.extract k s.size).size then some ((s.extract k s.size).extract 0 n, (s.extract k s.size).extract n (s.extract k s.size).size) else none
def RTextQ (w : World) (g : Nat) (s : ByteArray) (bad : Bool) (e : Ending) (w' : World) : Prop :=
  w.grownBy w' (some g) ∧
  match textR s with
  | none => e = .returned (.string ⟨#[]⟩) ∧ RRd w' g ⟨#[]⟩ true
  | some (t, r) => e = .returned (.string t) ∧ RRd w' g r bad

theorem ext_le (s : ByteArray) (k : Nat) : (s.extract k s.size).size ≤ s.size := by rw [ext_size _ _ _ (Nat.le_refl _)]; omega

set_option maxRecDepth 20000 in
set_option maxHeartbeats 1000000 in
theorem rtext_any (w : World) (g : Nat) (s : ByteArray) (bad : Bool) (h : RRd w g s bad) (hs : s.size ≤ 140737488355328) :
    Calls Try.prog 17 #[.pointer (some ⟨g, 0, none⟩)] w (RTextQ w g s bad) := by
  have H := Lib.hid h
  clear h
  go_enter Try.func17, Try.ntmps17
  go_wp2_with fail
  refine (rnum_any w g s bad H.out hs).mono ?_
  rintro e w1 ⟨y1, hq⟩
  cases hn : numR s with
  | none =>
    rw [hn] at hq
    obtain ⟨rfl, R1⟩ := hq
    have hR : Blk w1 g 34 #[.string ⟨#[]⟩, .bool true] := R1
    have c0 : w1.cell? ⟨g, 0, none⟩ = some (.string ⟨#[]⟩) := hR.cell 0
    have f0 : w1.frozen? ⟨g, 0, none⟩ = false := hR.frozen 0
    have hq : textR s = none := by unfold textR; rw [hn]
    have Hf := Lib.hid (And.intro y1 (And.intro hR hq))
    clear R1 hR y1 hn hq
    go_wp2
    go_ret
    refine ⟨by_trans Hf.out.1 (by_set (by_refl w1 (some g)) (.inl rfl) _) (fun x hx => .inl hx.symm), ?_⟩
    rw [Hf.out.2.2]
    exact ⟨rfl, Blk.set_ Hf.out.2.1 0 _⟩
  | some q =>
    obtain ⟨n, k⟩ := q
    rw [hn] at hq
    obtain ⟨rfl, R1⟩ := hq
    obtain ⟨r, hr⟩ : ∃ r, r = s.extract k s.size := ⟨_, rfl⟩
    have hrs : r.size ≤ 140737488355328 := by rw [hr]; exact Nat.le_trans (ext_le s k) hs
    rw [← hr] at R1
    have hR : Blk w1 g 34 #[.string r, .bool bad] := R1
    have c0 : w1.cell? ⟨g, 0, none⟩ = some (.string r) := hR.cell 0
    have f0 : w1.frozen? ⟨g, 0, none⟩ = false := hR.frozen 0
    have ht : textR s = if n ≤ r.size then some (r.extract 0 n, r.extract n r.size) else none := by unfold textR; rw [hn, hr]
    have Hf := Lib.hid (And.intro y1 (And.intro hR ht))
    clear R1 hR y1 hn ht hr
    by_cases hle : n ≤ r.size
    · have hd : decide ((r.size : Int) < (n : Int)) = false := decide_eq_false (by omega)
      have hn64 : n ≤ 140737488355328 := by omega
      have hs1 : ∀ W : World, (Instr.slice 9 (.string r) none (some (.int .u64 (n : Int))) none).run Try.prog W = .ok (.string (r.extract 0 n)) W := fun W => by
        rw [run_slice_string_to_if W 9 r .u64 _ Try.underlying9, if_pos ⟨by omega, by omega⟩]
        congr 3
      have hs2 : ∀ W : World, (Instr.slice 9 (.string r) (some (.int .u64 (n : Int))) none none).run Try.prog W = .ok (.string (r.extract n r.size)) W := fun W => by
        rw [run_slice_string_from_if W 9 r .u64 _ Try.underlying9, if_pos ⟨by omega, by omega⟩]
        congr 3
      go_wp2
      go_ret
      refine ⟨by_trans Hf.out.1 (by_set (by_refl w1 (some g)) (.inl rfl) _) (fun x hx => .inl hx.symm), ?_⟩
      rw [Hf.out.2.2, if_pos hle]
      exact ⟨rfl, Blk.set_ Hf.out.2.1 0 _⟩
    · have hd : decide ((r.size : Int) < (n : Int)) = true := decide_eq_true (by omega)
      have hle2 : r.size < n := by omega
      go_wp2_with fail
      refine (spend_any w1 g r bad Hf.out.2.1).mono ?_
      rintro e w2 ⟨rfl, R2, y2⟩
      have H2 := Lib.hid (And.intro R2 (by_trans Hf.out.1 y2 (fun x hx => .inl hx.symm)))
      clear R2 y2
      go_wp2
      go_ret
      refine ⟨H2.out.2, ?_⟩
      rw [Hf.out.2.2, if_neg hle]
      exact ⟨rfl, H2.out.1⟩
end Go.Proofs.Ytlnlpphhnbodpaa
