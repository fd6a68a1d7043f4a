/-
  The reader's Num, Text; NewReader.
-/
import Derived.Test.YtlnlpphhnbodpaaSays
import Derived.Test.YtlnlpphhnbodpaaRefRead
namespace Go.Proofs.Ytlnlpphhnbodpaa
open Go.RowKit

def NumQ (w : World) (r : Nat) (s : ByteArray) (bad : Bool) (e : Ending) (w' : World) : Prop :=
  w.grownBy w' (some r) ∧
  match numR s with
  | none => e = .returned (.int .u64 0) ∧ Rd w' r ⟨#[]⟩ true
  | some (n, k) => e = .returned (.int .u64 (n : Int)) ∧ Rd w' r (s.extract k s.size) bad
def TextQ (w : World) (r : Nat) (s : ByteArray) (bad : Bool) (e : Ending) (w' : World) : Prop :=
  w.grownBy w' (some r) ∧
  match textR s with
  | none => e = .returned (.string ⟨#[]⟩) ∧ Rd w' r ⟨#[]⟩ true
  | some (t, q) => e = .returned (.string t) ∧ Rd w' r q bad

theorem saysN_bd {s : ByteArray} {n k : Nat} (h : saysN s = some (n, k)) : n ≤ 18446744073709551615 ∧ k ≤ s.size ∧ 1 ≤ k := by
  cases hl : s.data.toList with
  | nil => unfold saysN at h; rw [hl] at h; cases h
  | cons b l =>
    rw [saysN_cons hl] at h
    split at h
    · cases h
    · rename_i hlk
      injection h with h
      injection h with h1 h2
      have hb := b.toNat_lt
      have h3 := srtB_bd b.toNat (by omega)
      have h4 := acc_lt (l.take (srtB b.toNat).2.2) (b.toNat - (srtB b.toNat).2.1)
      rw [List.length_take, Nat.min_eq_left (by omega)] at h4
      have h5 := size_of_cons hl
      exact ⟨by omega, by omega, by omega⟩
theorem row_cmp2 (M k : Nat) (s : ByteArray) : ((⟨#[]⟩ ++ ⟨(rowL M).toArray⟩ : ByteArray).toList == (s.extract 0 k).toList) = decide (rowL M = s.data.toList.take k) := by
  rw [ByteArray.toList_eq, ByteArray.toList_eq, ext_0k, Bool.eq_iff_iff]
  simp

set_option maxRecDepth 20000 in
set_option maxHeartbeats 1000000 in
theorem num_any (w : World) (r : Nat) (s : ByteArray) (bad : Bool) (h : Rd w r s bad) (hs : s.size ≤ 140737488355328) :
    Calls Try.prog 14 #[.pointer (some ⟨r, 0, none⟩)] w (NumQ w r s bad) := by
  have H := Lib.hid h
  clear h
  go_enter Try.func14, Try.ntmps14
  go_wp2_with fail
  refine (says_any w r s bad H.out hs).mono ?_
  rintro e w1 ⟨y1, hq⟩
  cases hn : saysN s with
  | none =>
    rw [hn] at hq
    obtain ⟨rfl, R1⟩ := hq
    have hN : numR s = none := by unfold numR; rw [hn]
    have Hf := Lib.hid (And.intro y1 (And.intro R1 hN))
    clear R1 y1 hn hN
    go_wp2
    go_ret
    refine ⟨Hf.out.1, ?_⟩
    rw [Hf.out.2.2]
    exact ⟨rfl, Hf.out.2.1⟩
  | some q =>
    obtain ⟨n, k⟩ := q
    have hN : numR s = if rowL n = s.data.toList.take k then some (n, k) else none := by unfold numR; rw [hn]
    obtain ⟨hn64, hks, hk1⟩ := saysN_bd hn
    rw [hn] at hq
    obtain ⟨rfl, R1⟩ := hq
    obtain ⟨E, hE⟩ : ∃ E, E = s.extract 0 k := ⟨_, rfl⟩
    rw [← hE]
    have hcmp := row_cmp2 n k s
    rw [← hE] at hcmp
    have Hf := Lib.hid (And.intro y1 (And.intro R1 (And.intro hN hE)))
    clear R1 y1 hn hN hE hks hk1
    go_wp2_with fail
    refine (put_any ⟨#[]⟩ n hn64 (by decide) w1).mono ?_
    rintro e w2 ⟨rfl, y2⟩
    obtain ⟨R, hR⟩ : ∃ R : ByteArray, R = ⟨#[]⟩ ++ ⟨(rowL n).toArray⟩ := ⟨_, rfl⟩
    rw [← hR] at hcmp ⊢
    clear hR
    by_cases hrow : rowL n = s.data.toList.take k
    · rw [decide_eq_true hrow] at hcmp
      have hq : numR s = some (n, k) := by rw [Hf.out.2.2.1, if_pos hrow]
      have H2 := Lib.hid (And.intro y2 hq)
      clear y2 hq hrow
      go_wp2
      go_ret
      refine ⟨by_trans Hf.out.1 H2.out.1 (by simp), ?_⟩
      rw [H2.out.2]
      exact ⟨rfl, Hf.out.2.1.by_ H2.out.1⟩
    · rw [decide_eq_false hrow] at hcmp
      have hq : numR s = none := by rw [Hf.out.2.2.1, if_neg hrow]
      have hRd := Hf.out.2.1.by_ y2
      obtain ⟨A, c, g1, g2, g3, g4, g5⟩ := hRd
      have c0 := g2.cell 0
      have c1 : w2.cell? ⟨r, 1, none⟩ = some (.bool bad) := g2.cell 1
      have f0 := g2.frozen 0
      have f1 := g2.frozen 1
      have H2 := Lib.hid (And.intro y2 (And.intro hq g2))
      clear y2 hq hrow g1 g2 g3 g4 g5
      obtain ⟨z, hz⟩ : ∃ z, (s.extract k s.size).size = z := ⟨_, rfl⟩
      rw [hz] at c0
      replace c0 : w2.cell? ⟨r, 0, none⟩ = some (.slice A z c) := c0
      clear hz
      go_wp2
      go_ret
      refine ⟨by_trans (by_trans Hf.out.1 H2.out.1 (by simp)) (by_set (by_set (by_refl w2 (some r)) (.inl rfl) _) (.inl rfl) _) (fun x hx => .inl hx.symm), ?_⟩
      rw [H2.out.2.1]
      exact ⟨rfl, rd_spent H2.out.2.2⟩

set_option maxRecDepth 20000 in
set_option maxHeartbeats 1000000 in
theorem text_any (w : World) (r : Nat) (s : ByteArray) (bad : Bool) (h : Rd w r s bad) (hs : s.size ≤ 140737488355328) :
    Calls Try.prog 16 #[.pointer (some ⟨r, 0, none⟩)] w (TextQ w r s bad) := by
  have H := Lib.hid h
  clear h
  go_enter Try.func16, Try.ntmps16
  go_wp2_with fail
  refine (num_any w r s bad H.out hs).mono ?_
  rintro e w1 ⟨y1, hq⟩
  cases hn : numR s with
  | none =>
    rw [hn] at hq
    obtain ⟨rfl, R1⟩ := hq
    have hT : textR s = none := by unfold textR; rw [hn]
    have Hf := Lib.hid (And.intro y1 (And.intro R1 hT))
    clear R1 y1 hn hT
    go_wp2_with fail
    refine (cut_yes w1 r ⟨#[]⟩ true 0 Hf.out.2.1 (by decide) (by decide)).mono ?_
    rintro e w2 ⟨A, rfl, y2, t2, a2, R2⟩
    have hcv := conv_str w2 45 5 9 Try.underlying45 Try.underlying5 Try.underlying9 A 0 0 _ t2
    have e0 : ((⟨#[]⟩ : ByteArray)).extract 0 0 = ⟨#[]⟩ := rfl
    rw [e0] at hcv
    have H2 := Lib.hid (And.intro y2 R2)
    clear y2 t2 a2 R2 e0
    go_wp2
    go_ret
    refine ⟨by_trans Hf.out.1 H2.out.1 (fun x hx => .inl hx.symm), ?_⟩
    rw [Hf.out.2.2]
    exact ⟨rfl, H2.out.2⟩
  | some q =>
    obtain ⟨n, k⟩ := q
    rw [hn] at hq
    obtain ⟨rfl, R1⟩ := hq
    have hn64 : n ≤ 18446744073709551615 := by
      unfold numR at hn
      cases h1 : saysN s with
      | none => rw [h1] at hn; cases hn
      | some q =>
        obtain ⟨n', k'⟩ := q
        rw [h1] at hn
        dsimp only at hn
        split at hn
        · injection hn with hn
          injection hn with hn1 hn2
          rw [← hn1]; exact (saysN_bd h1).1
        · cases hn
    obtain ⟨t, ht⟩ : ∃ t, t = s.extract k s.size := ⟨_, rfl⟩
    have hts : t.size ≤ 140737488355328 := by rw [ht]; exact Nat.le_trans (ext_le s k) hs
    have hT : textR s = if n ≤ t.size then some (t.extract 0 n, t.extract n t.size) else none := by unfold textR; rw [hn, ht]
    rw [← ht] at R1
    have Hf := Lib.hid (And.intro y1 (And.intro R1 hT))
    clear R1 y1 hn hT ht
    by_cases hle : n ≤ t.size
    · go_wp2_with fail
      refine (cut_yes w1 r t bad n Hf.out.2.1 hts hle).mono ?_
      rintro e w2 ⟨A, rfl, y2, t2, a2, R2⟩
      have hcv := conv_str w2 45 5 9 Try.underlying45 Try.underlying5 Try.underlying9 A n n _ t2
      have H2 := Lib.hid (And.intro y2 R2)
      clear y2 t2 a2 R2
      go_wp2
      go_ret
      refine ⟨by_trans Hf.out.1 H2.out.1 (fun x hx => .inl hx.symm), ?_⟩
      rw [Hf.out.2.2, if_pos hle]
      exact ⟨rfl, H2.out.2⟩
    · go_wp2_with fail
      refine (cut_no w1 r t bad n Hf.out.2.1 hts (by omega) hn64).mono ?_
      rintro e w2 ⟨rfl, y2, R2⟩
      have hcv := conv_str w2 45 5 9 Try.underlying45 Try.underlying5 Try.underlying9 none 0 0 ⟨#[]⟩ ⟨rfl, fun h0 => absurd h0 (by decide)⟩
      have H2 := Lib.hid (And.intro y2 R2)
      clear y2 R2
      go_wp2
      go_ret
      refine ⟨by_trans Hf.out.1 H2.out.1 (fun x hx => .inl hx.symm), ?_⟩
      rw [Hf.out.2.2, if_neg hle]
      exact ⟨rfl, H2.out.2⟩

set_option maxHeartbeats 400000 in
theorem num_nil (w : World) : Calls Try.prog 14 #[.pointer none] w fun e w' => e = .returned (.int .u64 0) ∧ w = w' := by
  go_enter Try.func14, Try.ntmps14
  go_wp2
  go_ret
  exact ⟨rfl, rfl⟩
set_option maxHeartbeats 400000 in
theorem text_nil (w : World) : Calls Try.prog 16 #[.pointer none] w fun e w' => e = .returned (.string ⟨#[]⟩) ∧ w = w' := by
  go_enter Try.func16, Try.ntmps16
  go_wp2_with fail
  refine (num_nil w).mono ?_
  rintro e w1 ⟨rfl, rfl⟩
  go_wp2
  go_ret
  exact ⟨rfl, rfl⟩

set_option maxHeartbeats 400000 in
theorem newreader_any (w : World) (s : ByteArray) :
    Calls Try.prog 13 #[.string s] w fun e w' => ∃ r, e = .returned (.pointer (some ⟨r, 0, none⟩)) ∧ Rd w' r s false ∧ w.grownBy w' none ∧ w.heap.size ≤ r := by
  have kc := Lib.run_convert_string_bytes (P := Try.prog) w 9 45 5 s Try.underlying9 Try.underlying45 Try.underlying5
  have hby := bytesWorld_by w 5 s none
  have hcell := bytesWorld_cellAt w 5 s
  have hsz := Lib.bytesWorld_size w 5 s
  generalize Lib.bytesWorld w 5 s = w1 at *
  generalize hcap : grownCap w s.size 0 5 = cap at *
  have hcap2 : s.size ≤ cap := by rw [← hcap]; exact grownCap_ge _ _ _ _
  have hS : StrAt w1 (some ⟨w.heap.size, 0, none⟩) s.size s := by
    refine ⟨rfl, fun _ => ⟨w.heap.size, 0, rfl, by rw [hsz]; omega, fun j hj => ?_⟩⟩
    rw [Nat.zero_add]
    exact hcell j hj
  have hb := Blk.new w1 49 #[.slice (some ⟨w.heap.size, 0, none⟩) s.size cap, .bool false]
  have hfin : Rd (w1.alloc (.cells #[.slice (some ⟨w.heap.size, 0, none⟩) s.size cap, .bool false] 49)) w1.heap.size s false := by
    refine ⟨_, cap, hcap2, hb, hS.by_ (by_alloc (by_refl w1 none) _) (by simp), ?_, by simp⟩
    simp
    omega
  have Hf := Lib.hid (And.intro hfin (And.intro (by_alloc hby (.cells #[.slice (some ⟨w.heap.size, 0, none⟩) s.size cap, .bool false] 49)) hby.size))
  clear hby hcell hsz hcap hcap2 hS hb hfin
  go_enter Try.func13, Try.ntmps13
  go_wp2
  go_ret
  exact ⟨_, rfl, Hf.out.1, Hf.out.2.1, Hf.out.2.2⟩
end Go.Proofs.Ytlnlpphhnbodpaa
