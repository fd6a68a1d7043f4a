/-
  The reference's rows: the walks of high, low, PutNum, PutText.
-/
import Derived.Test.YtlnlpphhnbodpaaPut
namespace Go.Proofs.Ytlnlpphhnbodpaa
open Go.RowKit

def one (q : Nat) : ByteArray := ⟨#[UInt8.ofNat q]⟩
theorem one_conv (q : Nat) (W : World) : (convert 45 9 (.slice (some ⟨W.heap.size, 0, none⟩) 1 1)).run Try.prog (W.alloc (.cells #[.int .u8 ((q : Int) % 256)] 5)) = .ok (.string (one q)) (W.alloc (.cells #[.int .u8 ((q : Int) % 256)] 5)) := by
  refine conv_str _ 45 5 9 Try.underlying45 Try.underlying5 Try.underlying9 _ _ _ _ ?_
  have hb : Blk (W.alloc (.cells #[.int .u8 ((q : Int) % 256)] 5)) W.heap.size 5 (u8s [UInt8.ofNat q]).toArray := by
    have := Blk.new W 5 #[.int .u8 ((q : Int) % 256)]
    simpa [u8s] using this
  exact blk_str hb
theorem be_step (i n q : Nat) (h : n / 256 ^ i = q) : one q ++ ⟨(be i n).toArray⟩ = ⟨(be (i + 1) n).toArray⟩ := by
  apply ByteArray.ext
  simp [one, be, h]

def rowB (k n : Nat) : ByteArray := ⟨(be k n).toArray⟩
theorem rowB_size (k n : Nat) : (rowB k n).size = k := be_len k n
structure HiR (w0 : World) (n size rem : Nat) (i q s : Value) (wr : World) (j : Nat) : Prop where
  slot : i = .int .i64 (j : Int)
  num : q = .int .u64 ((n / 256 ^ j : Nat) : Int)
  str : s = .string ⟨(be j n).toArray⟩
  le : j ≤ size
  rem_ : rem = size - j
  by_ : w0.grownBy wr none

set_option maxRecDepth 20000 in
set_option maxHeartbeats 1000000 in
theorem high_any (n size : Nat) (hn : n ≤ 18446744073709551615) (hs : size ≤ 8) (w : World) :
    Calls Try.prog 23 #[.int .u64 (n : Int), .int .i64 (size : Int)] w fun e w' => e = .returned (.string (rowB size n)) ∧ w.grownBy w' none := by
  go_enter Try.func23, Try.ntmps23
  go_wp2
  go_loopg [6, 0, 5] size (fun rem i q s wr => ∃ j, HiR w n size rem i q s wr j)
  case atStart => exact ⟨0, ⟨rfl, by simp, rfl, by omega, by omega, by_refl _ _⟩⟩
  case round =>
    obtain ⟨j, hr⟩ := hrel
    obtain rfl := hr.slot
    obtain rfl := hr.num
    obtain rfl := hr.str
    have hle := hr.le
    have Hr := Lib.hid hr
    clear hr
    by_cases hlt : j < size
    · obtain ⟨q, hq⟩ : ∃ q, n / 256 ^ j = q := ⟨_, rfl⟩
      rw [hq]
      have hst := be_step j n q hq
      have hq2 : q ≤ 18446744073709551615 := by rw [← hq]; exact Nat.le_trans (Nat.div_le_self _ _) hn
      obtain ⟨S, hS⟩ : ∃ S : ByteArray, S = ⟨(be j n).toArray⟩ := ⟨_, rfl⟩
      have hz : S.size = j := by rw [hS]; exact be_len j n
      rw [← hS]
      have hcv := one_conv q wr
      have hz1 : (one q).size = 1 := rfl
      have hcc : (one q).size + S.size ≤ 9223372036854775807 := by omega
      have Hq := Lib.hid (And.intro hq (And.intro hst hS))
      clear hq hst hS hz1
      generalize one q = O at *
      go_wp2
      go_roundg (size - (j + 1))
      case measure => have := Hr.out.rem_; omega
      case rel =>
        obtain ⟨hq, hst, hS⟩ := Hq.out
        refine ⟨j + 1, ⟨by go_num, ?_, ?_, by omega, rfl, by_alloc Hr.out.by_ _⟩⟩
        · rw [Nat.pow_succ, ← Nat.div_div_eq_div_mul, hq]; rfl
        · rw [hS, hst]
    · have hjk : j = size := by omega
      subst hjk
      have hf := Lib.hid Hr.out.by_
      clear Hr
      go_wp2
      go_ret
      exact ⟨rfl, hf.out⟩

/-- of a great number the sort: so many bytes as it needs -/
theorem srt_big (m : Nat) (h : 67823 < m) (hm : m ≤ 18446744073709551615) : 3 ≤ (srtN m).2.2 ∧ (srtN m).2.2 ≤ 8 ∧ (∀ z, 3 ≤ z → z < (srtN m).2.2 → 256 ^ z ≤ m) ∧ m < 256 ^ (srtN m).2.2 ∧ (srtN m).1 = 0 ∧ (srtN m).2.1 = 247 + (srtN m).2.2 := by
  unfold srtN
  rw [if_neg (by omega), if_neg (by omega), if_neg (by omega)]
  repeat' split
  all_goals
    refine ⟨by simp, by simp, fun z h1 h2 => ?_, by simp; omega, rfl, rfl⟩
    have h3 : z = 3 ∨ z = 4 ∨ z = 5 ∨ z = 6 ∨ z = 7 := by simp at h2; omega
    rcases h3 with rfl | rfl | rfl | rfl | rfl <;> simp at h2 ⊢ <;> omega
theorem row_big (m : Nat) (h : 67823 < m) (hm : m ≤ 18446744073709551615) : be 1 (247 + (srtN m).2.2) ++ be (srtN m).2.2 m = rowL m := by
  obtain ⟨_, _, _, h4, h5, h6⟩ := srt_big m h hm
  unfold rowL
  rw [h5, h6, Nat.sub_zero, Nat.div_eq_of_lt h4]
  simp [be]
theorem row_240 (m : Nat) (h : m ≤ 240) : be 1 m = rowL m := by simp [rowL, srtN, h, be]
theorem row_2287 (m : Nat) (h : ¬ m ≤ 240) (h2 : m ≤ 2287) : be 1 (241 + (m - 240) / 256) ++ be 1 ((m - 240) % 256) = rowL m := by
  simp [rowL, srtN, h, h2, be]
  apply UInt8.toNat_inj.1
  simp only [UInt8.toNat_ofNat']
  omega
theorem row_67823 (m : Nat) (h : ¬ m ≤ 240) (h1 : ¬ m ≤ 2287) (h2 : m ≤ 67823) : be 1 249 ++ be 2 (m - 2288) = rowL m := by
  have h9 : (m - 2288) / 65536 = 0 := by omega
  simp [rowL, srtN, h, h1, h2, be, h9]
theorem app_rows (s : ByteArray) (a b : List UInt8) : s ++ ⟨a.toArray⟩ ++ ⟨b.toArray⟩ = s ++ ⟨(a ++ b).toArray⟩ := by
  rw [ByteArray.append_assoc]
  congr 1

set_option maxRecDepth 20000 in
set_option maxHeartbeats 1000000 in
theorem rput_small (s : ByteArray) (m : Nat) (hm : m ≤ 67823) (hs : s.size ≤ 140737488355328) (w : World) :
    Calls Try.prog 9 #[.string s, .int .u64 (m : Int)] w fun e w' => e = .returned (.string (s ++ ⟨(rowL m).toArray⟩)) ∧ w.grownBy w' none := by
  by_cases h1 : m ≤ 240
  · have hz := rowB_size 1 m
    have hcc : s.size + (rowB 1 m).size ≤ 9223372036854775807 := by omega
    clear hz
    go_enter Try.func9, Try.ntmps9
    go_wp2_with fail
    refine (high_any m 1 (by omega) (by omega) w).mono ?_
    rintro e w1 ⟨rfl, y1⟩
    have Hy := Lib.hid (And.intro y1 (row_240 m h1))
    clear y1
    generalize hR : rowB 1 m = R at *
    have HR := Lib.hid hR
    clear hR
    go_wp2
    go_ret
    exact ⟨by rw [← Hy.out.2, ← HR.out]; rfl, Hy.out.1⟩
  · by_cases h2 : m ≤ 2287
    · have hz := rowB_size 1 (241 + (m - 240) / 256)
      have hz2 := rowB_size 1 ((m - 240) % 256)
      have e1 : (m : Int) - 240 = ((m - 240 : Nat) : Int) := by omega
      go_enter Try.func9, Try.ntmps9
      go_wp2_with fail
      rw [show (241 : Int) + ((m - 240 : Nat) : Int) / 256 = ((241 + (m - 240) / 256 : Nat) : Int) by omega]
      refine (high_any (241 + (m - 240) / 256) 1 (by omega) (by omega) w).mono ?_
      rintro e w1 ⟨rfl, y1⟩
      have Hy := Lib.hid (And.intro y1 (row_2287 m h1 h2))
      clear y1
      obtain ⟨R1, hR1⟩ : ∃ R, R = rowB 1 (241 + (m - 240) / 256) := ⟨_, rfl⟩
      rw [← hR1] at hz ⊢
      have hcc : s.size + R1.size ≤ 9223372036854775807 := by omega
      have HR := Lib.hid hR1
      clear hR1
      go_wp2_with fail
      rw [show ((m - 240 : Nat) : Int) % 256 = (((m - 240) % 256 : Nat) : Int) by omega]
      refine (high_any ((m - 240) % 256) 1 (by omega) (by omega) w1).mono ?_
      rintro e w2 ⟨rfl, y2⟩
      have Hz := Lib.hid y2
      clear y2
      obtain ⟨R2, hR2⟩ : ∃ R, R = rowB 1 ((m - 240) % 256) := ⟨_, rfl⟩
      rw [← hR2] at hz2 ⊢
      have hcc2 : (s ++ R1).size + R2.size ≤ 9223372036854775807 := by rw [ByteArray.size_append]; omega
      have HR2 := Lib.hid hR2
      clear hR2
      go_wp2
      go_ret
      refine ⟨?_, by_trans Hy.out.1 Hz.out (by simp)⟩
      show Ending.returned (.string (s ++ R1 ++ R2)) = _
      rw [HR.out, HR2.out, ← Hy.out.2]
      unfold rowB
      rw [app_rows]
    · have hz := rowB_size 1 249
      have hz2 := rowB_size 2 (m - 2288)
      go_enter Try.func9, Try.ntmps9
      go_wp2_with fail
      refine (high_any 249 1 (by omega) (by omega) w).mono ?_
      rintro e w1 ⟨rfl, y1⟩
      have Hy := Lib.hid (And.intro y1 (row_67823 m h1 h2 hm))
      clear y1
      obtain ⟨R1, hR1⟩ : ∃ R, R = rowB 1 249 := ⟨_, rfl⟩
      rw [← hR1] at hz ⊢
      have hcc : s.size + R1.size ≤ 9223372036854775807 := by omega
      have HR := Lib.hid hR1
      clear hR1
      go_wp2_with fail
      rw [show (m : Int) - 2288 = ((m - 2288 : Nat) : Int) by omega]
      refine (high_any (m - 2288) 2 (by omega) (by omega) w1).mono ?_
      rintro e w2 ⟨rfl, y2⟩
      have Hz := Lib.hid y2
      clear y2
      obtain ⟨R2, hR2⟩ : ∃ R, R = rowB 2 (m - 2288) := ⟨_, rfl⟩
      rw [← hR2] at hz2 ⊢
      have hcc2 : (s ++ R1).size + R2.size ≤ 9223372036854775807 := by rw [ByteArray.size_append]; omega
      have HR2 := Lib.hid hR2
      clear hR2
      go_wp2
      go_ret
      refine ⟨?_, by_trans Hy.out.1 Hz.out (by simp)⟩
      show Ending.returned (.string (s ++ R1 ++ R2)) = _
      rw [HR.out, HR2.out, ← Hy.out.2]
      unfold rowB
      rw [app_rows]

set_option maxRecDepth 20000 in
set_option maxHeartbeats 2000000 in
theorem rput_big (s : ByteArray) (m : Nat) (h : 67823 < m) (hm : m ≤ 18446744073709551615) (hs : s.size ≤ 140737488355328) (w : World) :
    Calls Try.prog 9 #[.string s, .int .u64 (m : Int)] w fun e w' => e = .returned (.string (s ++ ⟨(rowL m).toArray⟩)) ∧ w.grownBy w' none := by
  have hb := srt_big m h hm
  have hrow := row_big m h hm
  obtain ⟨k, hk⟩ : ∃ k, (srtN m).2.2 = k := ⟨_, rfl⟩
  rw [hk] at hb hrow
  obtain ⟨b1, b2, b3, b4, _, _⟩ := hb
  have HK := Lib.hid (And.intro b3 (And.intro b4 hrow))
  clear hk hrow b3 b4
  go_enter Try.func9, Try.ntmps9
  go_wp2_with fail
  go_loopg [5] 5 (fun rem z wr => ∃ j : Nat, z = .int .i64 (j : Int) ∧ 3 ≤ j ∧ j ≤ k ∧ rem = 8 - j ∧ w = wr)
  case atStart => exact ⟨3, rfl, by omega, by omega, rfl, rfl⟩
  case round =>
    obtain ⟨j, rfl, hj3, hjk, hrem, rfl⟩ := hrel
    by_cases hjk2 : j < k
    · have h9 := HK.out.1 j hj3 hjk2
      have hcase : j = 3 ∨ j = 4 ∨ j = 5 ∨ j = 6 ∨ j = 7 := by omega
      have Hrem := Lib.hid hrem
      clear hrem
      rcases hcase with rfl | rfl | rfl | rfl | rfl
      · have h8 : 0 < (m : Int) / 16777216 := by simp at h9; omega
        clear h9
        go_wp2
        go_roundg (8 - 4)
        case measure => have := Hrem.out; omega
        case rel => exact ⟨4, rfl, by omega, by omega, rfl, rfl⟩
      · have h8 : 0 < (m : Int) / 4294967296 := by simp at h9; omega
        clear h9
        go_wp2
        go_roundg (8 - 5)
        case measure => have := Hrem.out; omega
        case rel => exact ⟨5, rfl, by omega, by omega, rfl, rfl⟩
      · have h8 : 0 < (m : Int) / 1099511627776 := by simp at h9; omega
        clear h9
        go_wp2
        go_roundg (8 - 6)
        case measure => have := Hrem.out; omega
        case rel => exact ⟨6, rfl, by omega, by omega, rfl, rfl⟩
      · have h8 : 0 < (m : Int) / 281474976710656 := by simp at h9; omega
        clear h9
        go_wp2
        go_roundg (8 - 7)
        case measure => have := Hrem.out; omega
        case rel => exact ⟨7, rfl, by omega, by omega, rfl, rfl⟩
      · have h8 : 0 < (m : Int) / 72057594037927936 := by simp at h9; omega
        clear h9
        go_wp2
        go_roundg (8 - 8)
        case measure => have := Hrem.out; omega
        case rel => exact ⟨8, rfl, by omega, by omega, rfl, rfl⟩
    · obtain rfl : j = k := by omega
      have h9 := HK.out.2.1
      have hz := rowB_size 1 (247 + j)
      have hz2 := rowB_size j m
      obtain ⟨R1, hR1⟩ : ∃ R, R = rowB 1 (247 + j) := ⟨_, rfl⟩
      obtain ⟨R2, hR2⟩ : ∃ R, R = rowB j m := ⟨_, rfl⟩
      rw [← hR1] at hz
      rw [← hR2] at hz2
      have hcc : s.size + R1.size ≤ 9223372036854775807 := by omega
      have hcc2 : (s ++ R1).size + R2.size ≤ 9223372036854775807 := by rw [ByteArray.size_append]; omega
      have HR := Lib.hid (And.intro hR1 hR2)
      clear hR1 hR2 hz hz2
      have hcase : j = 3 ∨ j = 4 ∨ j = 5 ∨ j = 6 ∨ j = 7 ∨ j = 8 := by omega
      rcases hcase with rfl | rfl | rfl | rfl | rfl | rfl
      · have h8 : (m : Int) / 16777216 = 0 := by simp at h9; omega
        clear h9
        go_wp2_with fail
        refine (high_any 250 1 (by omega) (by omega) w).mono ?_
        rintro e w1 ⟨rfl, y1⟩
        have hR1 := HR.out.1
        rw [← hR1]
        clear hR1
        have Hy := Lib.hid y1
        clear y1
        go_wp2_with fail
        refine (high_any m 3 hm (by omega) w1).mono ?_
        rintro e w2 ⟨rfl, y2⟩
        have hR2 := HR.out.2
        rw [← hR2]
        clear hR2
        have Hz := Lib.hid y2
        clear y2
        go_wp2
        go_ret
        refine ⟨?_, by_trans Hy.out Hz.out (by simp)⟩
        show Ending.returned (.string (s ++ R1 ++ R2)) = _
        rw [HR.out.1, HR.out.2, ← HK.out.2.2]
        unfold rowB
        rw [app_rows]
      · have h8 : (m : Int) / 4294967296 = 0 := by simp at h9; omega
        clear h9
        go_wp2_with fail
        refine (high_any 251 1 (by omega) (by omega) w).mono ?_
        rintro e w1 ⟨rfl, y1⟩
        have hR1 := HR.out.1
        rw [← hR1]
        clear hR1
        have Hy := Lib.hid y1
        clear y1
        go_wp2_with fail
        refine (high_any m 4 hm (by omega) w1).mono ?_
        rintro e w2 ⟨rfl, y2⟩
        have hR2 := HR.out.2
        rw [← hR2]
        clear hR2
        have Hz := Lib.hid y2
        clear y2
        go_wp2
        go_ret
        refine ⟨?_, by_trans Hy.out Hz.out (by simp)⟩
        show Ending.returned (.string (s ++ R1 ++ R2)) = _
        rw [HR.out.1, HR.out.2, ← HK.out.2.2]
        unfold rowB
        rw [app_rows]
      · have h8 : (m : Int) / 1099511627776 = 0 := by simp at h9; omega
        clear h9
        go_wp2_with fail
        refine (high_any 252 1 (by omega) (by omega) w).mono ?_
        rintro e w1 ⟨rfl, y1⟩
        have hR1 := HR.out.1
        rw [← hR1]
        clear hR1
        have Hy := Lib.hid y1
        clear y1
        go_wp2_with fail
        refine (high_any m 5 hm (by omega) w1).mono ?_
        rintro e w2 ⟨rfl, y2⟩
        have hR2 := HR.out.2
        rw [← hR2]
        clear hR2
        have Hz := Lib.hid y2
        clear y2
        go_wp2
        go_ret
        refine ⟨?_, by_trans Hy.out Hz.out (by simp)⟩
        show Ending.returned (.string (s ++ R1 ++ R2)) = _
        rw [HR.out.1, HR.out.2, ← HK.out.2.2]
        unfold rowB
        rw [app_rows]
      · have h8 : (m : Int) / 281474976710656 = 0 := by simp at h9; omega
        clear h9
        go_wp2_with fail
        refine (high_any 253 1 (by omega) (by omega) w).mono ?_
        rintro e w1 ⟨rfl, y1⟩
        have hR1 := HR.out.1
        rw [← hR1]
        clear hR1
        have Hy := Lib.hid y1
        clear y1
        go_wp2_with fail
        refine (high_any m 6 hm (by omega) w1).mono ?_
        rintro e w2 ⟨rfl, y2⟩
        have hR2 := HR.out.2
        rw [← hR2]
        clear hR2
        have Hz := Lib.hid y2
        clear y2
        go_wp2
        go_ret
        refine ⟨?_, by_trans Hy.out Hz.out (by simp)⟩
        show Ending.returned (.string (s ++ R1 ++ R2)) = _
        rw [HR.out.1, HR.out.2, ← HK.out.2.2]
        unfold rowB
        rw [app_rows]
      · have h8 : (m : Int) / 72057594037927936 = 0 := by simp at h9; omega
        clear h9
        go_wp2_with fail
        refine (high_any 254 1 (by omega) (by omega) w).mono ?_
        rintro e w1 ⟨rfl, y1⟩
        have hR1 := HR.out.1
        rw [← hR1]
        clear hR1
        have Hy := Lib.hid y1
        clear y1
        go_wp2_with fail
        refine (high_any m 7 hm (by omega) w1).mono ?_
        rintro e w2 ⟨rfl, y2⟩
        have hR2 := HR.out.2
        rw [← hR2]
        clear hR2
        have Hz := Lib.hid y2
        clear y2
        go_wp2
        go_ret
        refine ⟨?_, by_trans Hy.out Hz.out (by simp)⟩
        show Ending.returned (.string (s ++ R1 ++ R2)) = _
        rw [HR.out.1, HR.out.2, ← HK.out.2.2]
        unfold rowB
        rw [app_rows]
      · clear h9
        go_wp2_with fail
        refine (high_any 255 1 (by omega) (by omega) w).mono ?_
        rintro e w1 ⟨rfl, y1⟩
        have hR1 := HR.out.1
        rw [← hR1]
        clear hR1
        have Hy := Lib.hid y1
        clear y1
        go_wp2_with fail
        refine (high_any m 8 hm (by omega) w1).mono ?_
        rintro e w2 ⟨rfl, y2⟩
        have hR2 := HR.out.2
        rw [← hR2]
        clear hR2
        have Hz := Lib.hid y2
        clear y2
        go_wp2
        go_ret
        refine ⟨?_, by_trans Hy.out Hz.out (by simp)⟩
        show Ending.returned (.string (s ++ R1 ++ R2)) = _
        rw [HR.out.1, HR.out.2, ← HK.out.2.2]
        unfold rowB
        rw [app_rows]

theorem rput_any (s : ByteArray) (m : Nat) (hm : m ≤ 18446744073709551615) (hs : s.size ≤ 140737488355328) (w : World) :
    Calls Try.prog 9 #[.string s, .int .u64 (m : Int)] w fun e w' => e = .returned (.string (s ++ ⟨(rowL m).toArray⟩)) ∧ w.grownBy w' none := by
  by_cases h : m ≤ 67823
  · exact rput_small s m h hs w
  · exact rput_big s m (by omega) hm hs w

set_option maxHeartbeats 400000 in
theorem rputtext_any (s t : ByteArray) (hs : s.size ≤ 140737488355328) (ht : t.size ≤ 140737488355328) (w : World) :
    Calls Try.prog 11 #[.string s, .string t] w fun e w' => e = .returned (.string (s ++ ⟨(rowL t.size).toArray⟩ ++ t)) ∧ w.grownBy w' none := by
  go_enter Try.func11, Try.ntmps11
  go_wp2_with fail
  refine (rput_any s t.size (by omega) hs w).mono ?_
  rintro e w1 ⟨rfl, y1⟩
  have hl := rowL_len t.size
  have h8 := (srt_ok t.size (by omega)).1
  have hR : ((⟨(rowL t.size).toArray⟩ : ByteArray)).size = (rowL t.size).length := rfl
  have hsz : (s ++ ⟨(rowL t.size).toArray⟩).size ≤ 140737488355328 + 9 := by rw [ByteArray.size_append, hR, hl]; omega
  have H := Lib.hid y1
  clear y1 hl h8 hR
  obtain ⟨u, hu⟩ : ∃ u, u = s ++ ⟨(rowL t.size).toArray⟩ := ⟨_, rfl⟩
  rw [← hu] at hsz ⊢
  have Hu := Lib.hid hu
  clear hu
  have hcc : u.size + t.size ≤ 9223372036854775807 := by omega
  go_wp2
  go_ret
  exact ⟨by rw [← Hu.out]; rfl, H.out⟩
end Go.Proofs.Ytlnlpphhnbodpaa
