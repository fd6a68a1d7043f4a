/-
  The law's works: numbers of each sort, and a text, there and back.
-/
import Derived.Test.YtlnlpphhnbodpaaNum
import Derived.Test.YtlnlpphhnbodpaaRowsP
namespace Go.Proofs.Ytlnlpphhnbodpaa
open Go.RowKit

theorem num_step {w : World} {r : Nat} {n : Nat} {t : List UInt8} {bad : Bool} (h : Rd w r ⟨(rowL n ++ t).toArray⟩ bad) (hn : n ≤ 18446744073709551615) (ht : t.length ≤ 1000000) :
    Calls Try.prog 14 #[.pointer (some ⟨r, 0, none⟩)] w fun e w' => e = .returned (.int .u64 (n : Int)) ∧ w.grownBy w' (some r) ∧ Rd w' r ⟨t.toArray⟩ bad := by
  have h9 := rowL_le n hn
  refine (num_any w r _ bad h (by show (rowL n ++ t).length ≤ _; rw [List.length_append]; omega)).mono fun e w' ⟨h1, h2⟩ => ?_
  rw [num_row n hn] at h2
  obtain ⟨h2, h3⟩ := h2
  rw [ext_row] at h3
  exact ⟨h2, h1, h3⟩
theorem text_step {w : World} {r : Nat} {x t : List UInt8} {bad : Bool} (h : Rd w r ⟨(rowL x.length ++ (x ++ t)).toArray⟩ bad) (hx : x.length ≤ 1000000) (ht : t.length ≤ 1000000) :
    Calls Try.prog 16 #[.pointer (some ⟨r, 0, none⟩)] w fun e w' => e = .returned (.string ⟨x.toArray⟩) ∧ w.grownBy w' (some r) ∧ Rd w' r ⟨t.toArray⟩ bad := by
  have h9 := rowL_le x.length (by omega)
  refine (text_any w r _ bad h (by show (rowL x.length ++ (x ++ t)).length ≤ _; rw [List.length_append, List.length_append]; omega)).mono fun e w' ⟨h1, h2⟩ => ?_
  rw [text_row x t (by omega)] at h2
  exact ⟨h2.1, h1, h2.2⟩
theorem put_step {w : World} {l : List UInt8} {n : Nat} (hn : n ≤ 18446744073709551615) (hl : l.length ≤ 1000000) :
    Calls Try.prog 8 #[.string ⟨l.toArray⟩, .int .u64 (n : Int)] w fun e w' => e = .returned (.string ⟨(l ++ rowL n).toArray⟩) ∧ w.grownBy w' none := by
  refine (put_any ⟨l.toArray⟩ n hn (by show l.length ≤ _; omega) w).mono fun e w' ⟨h1, h2⟩ => ⟨?_, h2⟩
  rw [h1]
  congr 2
theorem putt_step {w : World} {l x : List UInt8} (hx : x.length ≤ 1000000) (hl : l.length ≤ 1000000) :
    Calls Try.prog 10 #[.string ⟨l.toArray⟩, .string ⟨x.toArray⟩] w fun e w' => e = .returned (.string ⟨(l ++ (rowL x.length ++ x)).toArray⟩) ∧ w.grownBy w' none := by
  refine (puttext_any ⟨l.toArray⟩ ⟨x.toArray⟩ (by show l.length ≤ _; omega) (by show x.length ≤ _; omega) w).mono fun e w' ⟨h1, h2⟩ => ⟨?_, h2⟩
  rw [h1]
  congr 2
  apply ByteArray.ext
  simp [ByteArray.size]

def wL : List Nat := [240, 241, 2288, 67824]
def wC : Array Value := #[.int .u64 240, .int .u64 241, .int .u64 2288, .int .u64 67824]
theorem wL_at (j : Nat) (h : j < 4) : ∃ n, n ≤ 100000 ∧ wL[j]? = some n ∧ wC[j]? = some (.int .u64 (n : Int)) := by
  have : j = 0 ∨ j = 1 ∨ j = 2 ∨ j = 3 := by omega
  rcases this with rfl | rfl | rfl | rfl <;> exact ⟨_, by decide, rfl, rfl⟩
theorem take_at {l : List Nat} {j n : Nat} (h : l[j]? = some n) : l.take (j + 1) = l.take j ++ [n] := by rw [List.take_add_one, h]; rfl
theorem drop_at {l : List Nat} {j n : Nat} (h : l[j]? = some n) : l.drop j = n :: l.drop (j + 1) := by
  obtain ⟨h1, h2⟩ := List.getElem?_eq_some_iff.1 h
  rw [List.drop_eq_getElem_cons h1, h2]
theorem wL_ok : ∀ n ∈ wL, n ≤ 18446744073709551615 := by decide
theorem wL_take (j : Nat) : (rowsL (wL.take j)).length ≤ 36 := by
  have := rowsL_le (wL.take j) fun n hn => wL_ok n (List.mem_of_mem_take hn)
  have h2 : (wL.take j).length ≤ 4 := by rw [List.length_take]; exact Nat.min_le_right _ _
  omega
theorem wL_drop (j : Nat) : (rowsL (wL.drop j)).length ≤ 36 := by
  have := rowsL_le (wL.drop j) fun n hn => wL_ok n (List.mem_of_mem_drop hn)
  have h2 : (wL.drop j).length ≤ 4 := by rw [List.length_drop]; exact Nat.sub_le _ _
  omega

structure W1 (w0 : World) (gl : Nat) (k : Nat) (s i : Value) (wr : World) (j : Nat) : Prop where
  slot : i = .int .i64 (j : Int)
  str : s = .string ⟨(rowsL (wL.take j)).toArray⟩
  le : j ≤ 4
  num : k = 4 - j
  row : Blk wr gl 25 wC
  by_ : w0.grownBy wr none
structure W2 (w0 w1 : World) (gl r : Nat) (k : Nat) (i : Value) (wr : World) (j : Nat) : Prop where
  slot : i = .int .i64 (j : Int)
  le : j ≤ 4
  num : k = 4 - j
  row : Blk wr gl 25 wC
  rd : Rd wr r ⟨(rowsL (wL.drop j) ++ (rowL 2 ++ ([97, 98] ++ []))).toArray⟩ false
  by_ : w0.grownBy wr none
  r_ : w0.heap.size ≤ r
  ne_ : gl ≠ r

set_option maxRecDepth 20000 in
set_option maxHeartbeats 2000000 in
theorem works_any (w : World) : Calls Try.prog 12 #[] w fun e w' => e = .returned (.bool true) ∧ w.grownBy w' none := by
  go_enter Try.func12, Try.ntmps12
  go_wp2_with fail
  have hrow : Blk (w.alloc (.cells wC 25)) w.heap.size 25 wC := Blk.new w _ _
  have hby : w.grownBy (w.alloc (.cells wC 25)) none := by_alloc (by_refl _ _) _
  have H0 := Lib.hid (And.intro hrow hby)
  clear hrow hby
  obtain ⟨gl, hgl⟩ : ∃ gl, w.heap.size = gl := ⟨_, rfl⟩
  have Hgl := Lib.hid hgl
  rw [hgl] at H0 ⊢
  clear hgl
  go_loopg [1, 3] 4 (fun k s i wr => ∃ j, W1 w gl k s i wr j)
  case atStart => exact ⟨0, ⟨rfl, rfl, by omega, rfl, H0.out.1, H0.out.2⟩⟩
  case round =>
    clear H0
    obtain ⟨j, hr⟩ := hrel
    obtain rfl := hr.slot
    obtain rfl := hr.str
    have hle := hr.le
    have Hr := Lib.hid hr
    clear hr
    by_cases hlt : j < 4
    · obtain ⟨n, hn1, hn2, hn3⟩ := wL_at j hlt
      have cj : wr.cell? ⟨gl, j, none⟩ = some (.int .u64 (n : Int)) := by rw [Hr.out.row.cell]; exact hn3
      have hz0 : (0 : Int) ≤ (j : Int) := by omega
      have Hn := Lib.hid (And.intro hn1 hn2)
      clear hn1 hn2 hn3
      go_wp2_with fail
      refine (put_step (by have := Hn.out.1; omega) (by have := wL_take j; omega)).mono ?_
      rintro e w1 ⟨rfl, y1⟩
      have H1 := Lib.hid y1
      clear y1
      go_wp2
      go_roundg (4 - (j + 1))
      case measure => have := Hr.out.num; omega
      case rel => exact ⟨j + 1, ⟨by go_num, by rw [take_at Hn.out.2, rowsL_snoc], by omega, rfl, Hr.out.row.grown H1.out (by simp), by_trans Hr.out.by_ H1.out (by simp)⟩⟩
    · obtain rfl : j = 4 := by omega
      have e4 : wL.take 4 = wL := rfl
      rw [e4]
      clear e4 hlt
      obtain ⟨S, hS⟩ : ∃ S, S = rowsL wL := ⟨_, rfl⟩
      have hSl : S.length ≤ 36 := by rw [hS]; exact wL_take 4
      rw [← hS]
      have HS := Lib.hid (And.intro hS hSl)
      clear hS hSl
      go_wp2_with fail
      refine (putt_step (x := [97, 98]) (by decide) (by have := HS.out.2; omega)).mono ?_
      rintro e w1 ⟨rfl, y1⟩
      have H1 := Lib.hid y1
      clear y1
      go_wp2_with fail
      refine (newreader_any w1 _).mono ?_
      rintro e w2 ⟨r, rfl, R2, y2, l2⟩
      have hb2 := (Hr.out.row.grown H1.out (by simp)).grown y2 (by simp)
      have hne : gl ≠ r := by have h1 := (Hr.out.row.grown H1.out (by simp)).lt; omega
      have hw2 : w.heap.size ≤ r := by have h1 := (by_trans Hr.out.by_ H1.out (by simp)).size; omega
      have H2 := Lib.hid (And.intro R2 (And.intro (by_trans (by_trans Hr.out.by_ H1.out (by simp)) y2 (by simp)) (And.intro hb2 (And.intro hne hw2))))
      clear R2 y2 l2 hb2 hne hw2
      go_wp2_with fail
      go_loopg [5] 4 (fun k i wr => ∃ j, W2 w w2 gl r k i wr j)
      case atStart => exact ⟨0, ⟨rfl, by omega, rfl, H2.out.2.2.1, by have := H2.out.1; rw [HS.out.1] at this; exact this, H2.out.2.1, H2.out.2.2.2.2, H2.out.2.2.2.1⟩⟩
      case round =>
        clear H2 H1 Hr
        obtain ⟨j, hr⟩ := hrel
        obtain rfl := hr.slot
        have hle := hr.le
        have Hr := Lib.hid hr
        clear hr
        by_cases hlt : j < 4
        · obtain ⟨n, hn1, hn2, hn3⟩ := wL_at j hlt
          have cj : wr.cell? ⟨gl, j, none⟩ = some (.int .u64 (n : Int)) := by rw [Hr.out.row.cell]; exact hn3
          have hz0 : (0 : Int) ≤ (j : Int) := by omega
          have hz1 : (j : Int) < 4 := by omega
          have hrd := Hr.out.rd
          rw [drop_at hn2, rowsL_cons, List.append_assoc] at hrd
          have Hn := Lib.hid (And.intro hn1 (And.intro hn2 (And.intro hrd hn3)))
          clear hn1 hn2 hrd hn3
          go_upto_region 11 with fail
          go_cut [34] (fun s34 wx => s34 = .bool false ∧ wr.grownBy wx (some r) ∧ Rd wx r ⟨(rowsL (wL.drop (j + 1)) ++ (rowL 2 ++ ([97, 98] ++ []))).toArray⟩ false)
          case first =>
            go_region_with (go_at_call 14; refine (num_step (Rd.by_ Hn.out.2.2.1 (by_drew (by_refl wr none))) (by have := Hn.out.1; omega) (by have h8 := wL_drop (j + 1); simp [rowL_len, srtN]; omega)).mono ?_; rintro e w4 ⟨rfl, y4, R4⟩; (have c4 : w4.cell? ⟨gl, j, none⟩ = some (.int .u64 (n : Int)) := y4.cell cj (by simp; exact Hr.out.ne_)))
            all_goals
              have Hf := Lib.hid (And.intro y4 R4)
              clear y4 R4
              go_wp2_with fail
              go_meet
              exact ⟨rfl, by_trans (by_drew (by_refl wr (some r))) Hf.out.1 (fun x hx => .inl hx.symm), Hf.out.2⟩
          case rest =>
            obtain ⟨rfl, y5, R5⟩ := hcut
            have H5 := Lib.hid (And.intro y5 R5)
            clear y5 R5 cj
            go_wp2
            go_roundg (4 - (j + 1))
            case measure => have := Hr.out.num; omega
            case rel => exact ⟨j + 1, ⟨by go_num, by omega, rfl, Hr.out.row.grown H5.out.1 (by simp; exact Hr.out.ne_), H5.out.2, by_trans Hr.out.by_ H5.out.1 (fun x hx => .inr (by cases hx; exact Hr.out.r_)), Hr.out.r_, Hr.out.ne_⟩⟩
        · obtain rfl : j = 4 := by omega
          have hrd : Rd wr r ⟨(rowL ([97, 98] : List UInt8).length ++ ([97, 98] ++ [])).toArray⟩ false := Hr.out.rd
          have hSS : (⟨S.toArray⟩ : ByteArray) = ⟨#[240, 241, 1, 249, 0, 0, 250, 1, 8, 240]⟩ := by rw [HS.out.1]; decide +kernel
          rw [hSS]
          clear hSS hlt
          have H3 := Lib.hid hrd
          clear hrd
          go_wp2_with fail
          refine (text_step H3.out (by decide) (by decide)).mono ?_
          rintro e w4 ⟨rfl, y4, R4⟩
          have H4 := Lib.hid (And.intro y4 R4)
          clear y4 R4
          go_wp2_with fail
          refine (ok_any w4 r _ false H4.out.2).mono ?_
          rintro e w5 ⟨rfl, rfl⟩
          go_wp2_with fail
          refine (end_any w4 r _ false H4.out.2).mono ?_
          rintro e w5 ⟨rfl, rfl⟩
          have hf := by_trans Hr.out.by_ H4.out.1 (fun x hx => .inr (by cases hx; exact Hr.out.r_))
          have Hf := Lib.hid hf
          clear hf
          go_wp2
          go_ret
          exact ⟨rfl, Hf.out⟩
end Go.Proofs.Ytlnlpphhnbodpaa
