/-
  The row of a number: the walk of wire.PutNum, PutText.
-/
import Derived.Test.YtlnlpphhnbodpaaOf
import Derived.WalkLawsBesides
import Derived.Laws.Concat
import Derived.Deep.LoopGhost
import Derived.BigQuiet
import Derived.BigRegion
import Derived.Deep.QuietTactic
import Derived.StillTailTactics
import Derived.Deep.DeepCutAuto
import Derived.Deep.RegionWith
namespace Go.Proofs.Ytlnlpphhnbodpaa
open Go.RowKit

/-- the last k bytes of a number, the high ones first -/
def be : Nat → Nat → List UInt8
  | 0, _ => []
  | k + 1, n => UInt8.ofNat (n / 256 ^ k) :: be k n
theorem be_len (k n : Nat) : (be k n).length = k := by induction k <;> simp [be, *]
/-- of a number: what is taken off, the first byte, how many more -/
def srtN (m : Nat) : Nat × Nat × Nat :=
  if m ≤ 240 then (0, 0, 0) else if m ≤ 2287 then (240, 241, 1) else if m ≤ 67823 then (2288, 249, 2) else if m ≤ 16777215 then (0, 250, 3) else if m ≤ 4294967295 then (0, 251, 4)
  else if m ≤ 1099511627775 then (0, 252, 5) else if m ≤ 281474976710655 then (0, 253, 6) else if m ≤ 72057594037927935 then (0, 254, 7) else (0, 255, 8)
def rowL (m : Nat) : List UInt8 := UInt8.ofNat ((srtN m).2.1 + (m - (srtN m).1) / 256 ^ (srtN m).2.2) :: be (srtN m).2.2 (m - (srtN m).1)
theorem rowL_len (m : Nat) : (rowL m).length = (srtN m).2.2 + 1 := by simp [rowL, be_len]

theorem srt_ok (m : Nat) (hm : m ≤ 18446744073709551615) : (srtN m).2.2 ≤ 8 ∧ (srtN m).1 ≤ m ∧ (srtN m).2.1 + (m - (srtN m).1) / 256 ^ (srtN m).2.2 ≤ 255 ∧
    ∃ t : Int, sortOf (m : Int) = ((((srtN m).1 : Nat) : Int), t, (((srtN m).2.1 : Nat) : Int), (((srtN m).2.2 : Nat) : Int)) := by
  unfold srtN
  repeat' split
  all_goals
    refine ⟨by simp, by dsimp only; omega, by simp only [Nat.reducePow]; omega, ?_⟩
    refine Exists.intro (sortOf (m : Int)).2.1 ?_
    unfold sortOf rows
    simp only [List.find?_cons]
    repeat rw [show decide ((m : Int) ≤ _) = false from decide_eq_false (by omega)]
    rw [show decide ((m : Int) ≤ _) = true from decide_eq_true (by omega)]
    rfl

theorem info5 : (Try.prog.info? 5).map (fun i => (i.zero, i.size, i.bytes)) = some (some (.int .u8 0), 1, 1) := by kernel_rfl
theorem info_parts {P : Program} {t : TypeId} {z : Value} {a b : Nat} (h : (P.info? t).map (fun i => (i.zero, i.size, i.bytes)) = some (some z, a, b)) : ∃ i, P.info? t = some i ∧ i.zero = some z ∧ i.size = a ∧ i.bytes = b := by
  cases e : P.info? t with
  | none => rw [e] at h; cases h
  | some i => rw [e] at h; simp at h; exact ⟨i, rfl, h.1, h.2.1, h.2.2⟩
def u8s (l : List UInt8) : List Value := l.map fun b => .int .u8 (b.toNat : Int)
theorem make_b (n : Nat) (hn : n ≤ 100000) (W : World) : (Instr.makeSlice 45 (.int .i64 (n : Int)) (.int .i64 (n : Int))).run Try.prog W = .ok (.slice (some ⟨W.heap.size, 0, none⟩) n n) (W.alloc (.cells (u8s (List.replicate n 0)).toArray 5)) := by
  obtain ⟨i0, hi, hz0, hz1, hz2⟩ := info_parts info5
  have h := run_make (P := Try.prog) W 45 5 i0 (.int .u8 0) Try.underlying45 hi hz0 .i64 .i64 (n : Int) (n : Int) (by omega) (Int.le_refl _) (by rw [hz2]; omega) (by omega)
  rw [h, hz1]
  have e : madeCells (Value.int .u8 0).cells ((n : Int).toNat * 1) = (u8s (List.replicate n 0)).toArray := by
    apply Array.toList_inj.1
    simp [Value.cells, toList_madeCells_one, u8s]
  simp only [Int.toNat_natCast] at e ⊢
  rw [e]

theorem u8s_len (l : List UInt8) : (u8s l).length = l.length := by simp [u8s]
theorem blk_str {W : World} {g : Nat} {l : List UInt8} (h : Blk W g 5 (u8s l).toArray) : StrAt W (some ⟨g, 0, none⟩) l.length ⟨l.toArray⟩ := by
  refine ⟨rfl, fun _ => ⟨g, 0, rfl, h.lt, fun j hj => ?_⟩⟩
  rw [h.cell]
  have hj' : j < l.length := hj
  simp [u8s, hj', ByteArray.getElem_eq_getElem_data]
theorem row_step {i j p q : Nat} (hq : p / 256 ^ j = q) : (u8s (List.replicate (i + 1) 0 ++ be j p)).toArray.setIfInBounds i (.int .u8 ((q : Int) % 256)) = (u8s (List.replicate i 0 ++ be (j + 1) p)).toArray := by
  apply Array.toList_inj.1
  simp [u8s, List.replicate_succ', List.set_append, be, hq]
theorem row_last {k p a q : Nat} (haq : a + q ≤ 255) : (u8s (List.replicate (0 + 1) 0 ++ be k p)).toArray.setIfInBounds 0 (.int .u8 ((a : Int) + (q : Int))) = (u8s (UInt8.ofNat (a + q) :: be k p)).toArray := by
  apply Array.toList_inj.1
  simp [u8s]
  omega

/-- between two rounds of PutNum's loop -/
structure PutR (w0 : World) (k p g gx : Nat) (cx : Array Value) (rem : Nat) (i n : Value) (wr : World) (j : Nat) : Prop where
  slot : i = .int .i64 ((k - j : Nat) : Int)
  num : n = .int .u64 ((p / 256 ^ j : Nat) : Int)
  le : j ≤ k
  rem_ : rem = k - j
  row : Blk wr g 5 (u8s (List.replicate (k - j + 1) 0 ++ be j p)).toArray
  srt : Blk wr gx 43 cx
  by_ : w0.grownBy wr none
  g_ : w0.heap.size ≤ g

set_option maxRecDepth 100000 in
set_option maxHeartbeats 2000000 in
theorem put_any (s : ByteArray) (m : Nat) (hm : m ≤ 18446744073709551615) (hs : s.size ≤ 140737488355328) (w : World) :
    Calls Try.prog 8 #[.string s, .int .u64 (m : Int)] w fun e w' => e = .returned (.string (s ++ ⟨(rowL m).toArray⟩)) ∧ w.grownBy w' none := by
  obtain ⟨h1, h2, h3, t, h4⟩ := srt_ok m hm
  have hrow : rowL m = UInt8.ofNat ((srtN m).2.1 + (m - (srtN m).1) / 256 ^ (srtN m).2.2) :: be (srtN m).2.2 (m - (srtN m).1) := rfl
  generalize (srtN m).1 = f at *
  generalize (srtN m).2.1 = a at *
  generalize (srtN m).2.2 = k at *
  have Hrow := Lib.hid (And.intro hrow h4)
  obtain ⟨p, hp⟩ : ∃ p, p = m - f := ⟨_, rfl⟩
  rw [← hp] at h3
  have hsub : IntKind.u64.wrap ((m : Int) - (f : Int)) = (p : Int) := by
    rw [hp]; simp [IntKind.wrap, IntKind.signed, IntKind.bits]; omega
  have Hp := Lib.hid hp
  obtain ⟨Z, hZ⟩ : ∃ Z, Z = (u8s (List.replicate (k + 1) 0)).toArray := ⟨_, rfl⟩
  have hmk : ∀ W, (Instr.makeSlice 45 (.int .i64 (1 + (k : Int))) (.int .i64 (1 + (k : Int)))).run Try.prog W = .ok (.slice (some ⟨W.heap.size, 0, none⟩) (k + 1) (k + 1)) (W.alloc (.cells Z 5)) := fun W => by
    have h := make_b (k + 1) (by omega) W
    rw [show ((k + 1 : Nat) : Int) = 1 + (k : Int) by omega, ← hZ] at h
    exact h
  have HZ := Lib.hid hZ
  clear hp hrow h4 hZ
  go_enter Try.func8, Try.ntmps8
  go_wp2_with fail
  refine (of_any w (m : Int) (by omega) (by omega)).mono ?_
  rintro e w1 ⟨rfl, y1⟩
  rw [Hrow.out.2]
  unfold encS
  dsimp only
  have H1 := Lib.hid y1
  clear y1
  go_wp2_with fail
  obtain ⟨g, hg⟩ : ∃ g, g = (w1.alloc (.cells #[.int .u64 (f : Int), .int .u64 t, .int .u8 (a : Int), .int .i64 (k : Int)] 43)).heap.size := ⟨_, rfl⟩
  have hg2 : w1.heap.size + 1 = g := by rw [hg]; simp
  have hrow0 : Blk ((w1.alloc (.cells #[.int .u64 (f : Int), .int .u64 t, .int .u8 (a : Int), .int .i64 (k : Int)] 43)).alloc (.cells Z 5)) g 5 (u8s (List.replicate (k - 0 + 1) 0 ++ be 0 p)).toArray := by
    have h := Blk.new (w1.alloc (.cells #[.int .u64 (f : Int), .int .u64 t, .int .u8 (a : Int), .int .i64 (k : Int)] 43)) 5 Z
    rw [← hg] at h
    rw [HZ.out] at h ⊢
    simpa [be] using h
  have hx0 : Blk ((w1.alloc (.cells #[.int .u64 (f : Int), .int .u64 t, .int .u8 (a : Int), .int .i64 (k : Int)] 43)).alloc (.cells Z 5)) w1.heap.size 43 #[.int .u64 (f : Int), .int .u64 t, .int .u8 (a : Int), .int .i64 (k : Int)] := (Blk.new w1 _ _).alloc _
  have hy0 : w.grownBy ((w1.alloc (.cells #[.int .u64 (f : Int), .int .u64 t, .int .u8 (a : Int), .int .i64 (k : Int)] 43)).alloc (.cells Z 5)) none := by_alloc (by_alloc H1.out _) _
  have hgs : w.heap.size ≤ g := by have := H1.out.size; omega
  have H2 := Lib.hid (And.intro hrow0 (And.intro hx0 (And.intro hy0 hgs)))
  clear hrow0 hx0 hy0 hgs hg
  go_loopg [7, 1] k (fun rem i n wr => ∃ j, PutR w k p g w1.heap.size #[.int .u64 (f : Int), .int .u64 t, .int .u8 (a : Int), .int .i64 (k : Int)] rem i n wr j)
  case atStart => exact ⟨0, ⟨rfl, by simp, by omega, rfl, H2.out.1, H2.out.2.1, H2.out.2.2.1, H2.out.2.2.2⟩⟩
  case round =>
    clear H2 hmk
    obtain ⟨j, hr⟩ := hrel
    obtain rfl := hr.slot
    obtain rfl := hr.num
    have hle := hr.le
    have Hr := Lib.hid hr
    clear hr
    by_cases hlt : j < k
    · obtain ⟨i, hi⟩ : ∃ i, k - j = i := ⟨_, rfl⟩
      rw [hi]
      obtain ⟨q, hq⟩ : ∃ q, p / 256 ^ j = q := ⟨_, rfl⟩
      rw [hq]
      have hcl := Hr.out.row
      rw [hi] at hcl
      have c0 : wr.cell? ⟨g, i, none⟩ = some (.int .u8 0) := by
        rw [hcl.cell]
        simp [u8s, List.getElem?_append]
      have f0 : wr.frozen? ⟨g, i, none⟩ = false := hcl.frozen i
      have hi1 : 1 ≤ i := by omega
      have hi2 : i ≤ k := by omega
      have hi3 : (0 : Int) ≤ (i : Int) := by omega
      have hi4 : (i : Int) < ((k + 1 : Nat) : Int) := by omega
      have Hi := Lib.hid (And.intro hi hq)
      clear hcl hi hq
      go_wp2
      go_roundg (k - (j + 1))
      case measure => have := Hr.out.rem_; omega
      case rel =>
        obtain ⟨hi, hq⟩ := Hi.out
        have hcl := Hr.out.row
        rw [hi] at hcl
        refine ⟨j + 1, ⟨congrArg (Value.int .i64) (by omega), congrArg (Value.int .u64) ?_, by omega, by omega, ?_, Hr.out.srt.far (by have := Hr.out.srt.lt; simp; omega) _, by_set Hr.out.by_ (.inr Hr.out.g_) _, Hr.out.g_⟩⟩
        · rw [Nat.pow_succ, ← Nat.div_div_eq_div_mul, hq]; omega
        · have h := hcl.set_ i (.int .u8 ((q : Int) % 256))
          rw [row_step hq] at h
          have e : k - (j + 1) + 1 = i := by omega
          rw [e]
          exact h
    · have hjk : j = k := by omega
      subst hjk
      obtain ⟨q, hq⟩ : ∃ q, p / 256 ^ j = q := ⟨_, rfl⟩
      rw [hq] at h3 ⊢
      have hcl := Hr.out.row
      rw [Nat.sub_self] at hcl ⊢
      have c0 : wr.cell? ⟨g, 0, none⟩ = some (.int .u8 0) := by
        rw [hcl.cell]
        simp [u8s]
      have f0 : wr.frozen? ⟨g, 0, none⟩ = false := hcl.frozen 0
      have x2 : wr.cell? ⟨w1.heap.size, 2, none⟩ = some (.int .u8 (a : Int)) := Hr.out.srt.cell 2
      have hq2 : q < 256 := by omega
      have hq3 : (q : Int) % 256 = (q : Int) := by omega
      have hlast := hcl.set_ 0 (.int .u8 ((a : Int) + (q : Int)))
      rw [row_last h3] at hlast
      have e2 : UInt8.ofNat (a + q) :: be j p = rowL m := by rw [Hrow.out.1, ← Hp.out, hq]
      rw [e2] at hlast
      have hcv := conv_str _ 45 5 9 Try.underlying45 Try.underlying5 Try.underlying9 _ _ (j + 1) _ (by have h := blk_str hlast; rw [show (rowL m).length = j + 1 by rw [← e2]; simp [be_len]] at h; exact h)
      obtain ⟨R, hR⟩ : ∃ R : ByteArray, R = ⟨(rowL m).toArray⟩ := ⟨_, rfl⟩
      have hRs : R.size = j + 1 := by rw [hR, show (⟨(rowL m).toArray⟩ : ByteArray).size = (rowL m).length from rfl, ← e2]; simp [be_len]
      rw [← hR] at hcv
      have hcc : s.size + R.size ≤ 9223372036854775807 := by omega
      have HR := Lib.hid (And.intro hR hRs)
      have hfin := by_set Hr.out.by_ (p := ⟨g, 0, none⟩) (.inr Hr.out.g_) (.int .u8 ((a : Int) + (q : Int)))
      have Hfin := Lib.hid hfin
      have Hcl := Lib.hid (And.intro hq hlast)
      clear hfin hcl hlast hq e2 hR hRs
      go_wp2
      go_ret
      exact ⟨by rw [← HR.out.1]; rfl, Hfin.out⟩

set_option maxHeartbeats 400000 in
theorem puttext_any (s t : ByteArray) (hs : s.size ≤ 140737488355328) (ht : t.size ≤ 140737488355328) (w : World) :
    Calls Try.prog 10 #[.string s, .string t] w fun e w' => e = .returned (.string (s ++ ⟨(rowL t.size).toArray⟩ ++ t)) ∧ w.grownBy w' none := by
  go_enter Try.func10, Try.ntmps10
  go_wp2_with fail
  refine (put_any s t.size (by omega) hs w).mono ?_
  rintro e w1 ⟨rfl, y1⟩
  have hl := rowL_len t.size
  have h8 := (srt_ok t.size (by omega)).1
  have hR : ((⟨(rowL t.size).toArray⟩ : ByteArray)).size = (rowL t.size).length := rfl
  have hsz : (s ++ ⟨(rowL t.size).toArray⟩).size ≤ 140737488355328 + 9 := by rw [ByteArray.size_append, hR, hl]; omega
  have H := Lib.hid y1
  clear y1 hl h8 hR
  obtain ⟨u, hu⟩ : ∃ u, u = s ++ ⟨(rowL t.size).toArray⟩ := ⟨_, rfl⟩
  rw [← hu] at hsz ⊢
  have Hu := Lib.hid hu
  clear hu
  have hcc : u.size + t.size ≤ 9223372036854775807 := by omega
  go_wp2
  go_ret
  exact ⟨by rw [← Hu.out]; rfl, H.out⟩
end Go.Proofs.Ytlnlpphhnbodpaa
