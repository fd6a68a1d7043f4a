/-
  The walk of the reference's Sum.
-/
import Derived.Test.YtdloapfifhelbaaBlock
import Derived.Test.YtdloapfifhelbaaWorks
import Derived.Laws.Concat
namespace Go.Proofs.Ytdloapfifhelbaa
open Go.RowKit

theorem cat_eq (l m : List UInt8) : (⟨l.toArray⟩ : ByteArray) ++ ⟨m.toArray⟩ = ⟨(l ++ m).toArray⟩ := by
  apply ByteArray.ext
  rw [ByteArray.data_append]
  simp
theorem add_run (l m : List UInt8) (h : l.length + m.length ≤ 9223372036854775807) (W : World) : (Op.stringOp .add ⟨l.toArray⟩ ⟨m.toArray⟩).run Try.prog W = .ok (.string ⟨(l ++ m).toArray⟩) W := by
  rw [run_string_add_sum W _ _ (by show l.toArray.size + m.toArray.size ≤ _; simpa using h), cat_eq]
/-- one byte made a string -/
theorem byte_string (W : World) (b : UInt8) : (convert 47 9 (.slice (some ⟨W.heap.size, 0, none⟩) 1 1)).run Try.prog (W.alloc (.cells #[.int .u8 (b.toNat : Int)] 5)) = .ok (.string ⟨[b].toArray⟩) (W.alloc (.cells #[.int .u8 (b.toNat : Int)] 5)) := by
  have hb := Blk.new W 5 #[.int .u8 (b.toNat : Int)]
  have h := run_convert_bytes_arg (P := Try.prog) (W.alloc (.cells #[.int .u8 (b.toNat : Int)] 5)) 47 5 Try.underlying47 Try.underlying5 W.heap.size 0 1 1 [(b.toNat : Int)] rfl (fun j hj => by
    have : j = 0 := by omega
    subst this
    rw [hb.cell]; rfl) 9 Try.underlying9
  rw [h]
  have : strOfNums [(b.toNat : Int)] = ⟨[b].toArray⟩ := by simp [strOfNums]
  rw [this]

structure S1 (w0 : World) (g2 : Nat) (s : ByteArray) (k : Nat) (c : Value) (wr : World) (z : Nat) : Prop where
  slot : c = .string ⟨(padded s z).toArray⟩
  le : z ≤ nz s.size
  num : k = nz s.size - z
  res : Blk wr g2 44 (Array.replicate 32 (.int .u8 0))
  by_ : w0.grownBy wr none
structure S2 (w0 : World) (g2 : Nat) (s : ByteArray) (k : Nat) (c d : Value) (wr : World) (j : Nat) : Prop where
  slot : c = .string ⟨(padded s (nz s.size) ++ lens s.size j).toArray⟩
  slot4 : d = .int .i64 (7 - (j : Int))
  le : j ≤ 8
  num : k = 8 - j
  res : Blk wr g2 44 (Array.replicate 32 (.int .u8 0))
  by_ : w0.grownBy wr none
structure S3 (w0 : World) (g2 g5 : Nat) (M : ByteArray) (k : Nat) (c : Value) (wr : World) (i : Nat) : Prop where
  slot : c = .int .i64 (64 * (i : Int))
  le : 64 * i ≤ M.size
  num : k = M.size / 64 - i
  st : Blk wr g5 73 (V8.blocks M i).cells
  res : Blk wr g2 44 (Array.replicate 32 (.int .u8 0))
  by_ : w0.grownBy wr none
structure S4 (w0 : World) (g2 g5 g7 : Nat) (x : V8) (k : Nat) (c : Value) (wr : World) (i : Nat) : Prop where
  slot : c = .int .i64 i
  le : i ≤ 32
  num : k = 32 - i
  st : Blk wr g5 73 x.cells
  out : Blk wr g7 44 (rowOut x i)
  res : Blk wr g2 44 (Array.replicate 32 (.int .u8 0))
  by_ : w0.grownBy wr none

set_option maxRecDepth 100000 in
set_option maxHeartbeats 2000000 in
theorem rsum_any (s : ByteArray) (w : World) (hs : s.size ≤ 536870912) :
    Calls Try.prog 37 #[.string s] w fun e w' => e = .returned (.agg (rowOut (sumOf s) 32)) ∧ w.grownBy w' none := by
  have h2 : Blk (w.alloc (.cells (Array.replicate 32 (.int .u8 0)) 44)) w.heap.size 44 (Array.replicate 32 (.int .u8 0)) := Blk.new _ _ _
  have h3 := by_alloc (by_refl w none) (.cells (Array.replicate 32 (.int .u8 0)) 44)
  have H0 := Lib.hid (And.intro h2 h3)
  clear h2 h3
  have hs0 : s = ⟨s.data.toList.toArray⟩ := by simp
  have ha0 : ∀ W, (Op.stringOp .add s ⟨#[128]⟩).run Try.prog W = .ok (.string ⟨(padded s 0).toArray⟩) W := fun W => by
    have h := add_run s.data.toList [128] (by show s.size + 1 ≤ _; omega) W
    rw [← hs0] at h
    exact h
  have e1 : IntKind.u64.wrap (s.size : Int) = (s.size : Int) := by rw [IntKind.wrap_u64]; omega
  have e2 : IntKind.u64.wrap ((s.size : Int) * 8) = (s.size : Int) * 8 := by rw [IntKind.wrap_u64]; omega
  clear hs0
  go_enter Try.func37, Try.ntmps37
  go_wp2
  go_loopg [0] (nz s.size) (fun k c wr => ∃ z, S1 w w.heap.size s k c wr z)
  case atStart => exact ⟨0, rfl, by omega, rfl, H0.out.1, H0.out.2⟩
  case round =>
    clear H0 ha0
    obtain ⟨z, hr⟩ := hrel
    obtain rfl := hr.slot
    have Hr := Lib.hid hr
    have hle := hr.le
    clear hr
    have hnz : nz s.size < 64 := Nat.mod_lt _ (by omega)
    have hMs : (⟨(padded s z).toArray⟩ : ByteArray).size = s.size + 1 + z := by show (padded s z).toArray.size = _; simp only [List.size_toArray, padded_len]
    by_cases hlt : z < nz s.size
    · have hc0 : ∀ W, (Op.stringOp .add ⟨(padded s z).toArray⟩ ⟨#[0]⟩).run Try.prog W = .ok (.string ⟨(padded s (z + 1)).toArray⟩) W := fun W => by
        have h := add_run (padded s z) [0] (by rw [padded_len]; simp; omega) W
        have e : padded s (z + 1) = padded s z ++ [0] := by simp [padded, List.replicate_succ']
        rw [e]; exact h
      obtain ⟨M, hM⟩ : ∃ M, M = (⟨(padded s z).toArray⟩ : ByteArray) := ⟨_, rfl⟩
      obtain ⟨M', hM'⟩ : ∃ M, M = (⟨(padded s (z + 1)).toArray⟩ : ByteArray) := ⟨_, rfl⟩
      rw [← hM] at hMs hc0 ⊢
      rw [← hM'] at hc0
      have HM := Lib.hid (And.intro hM hM')
      clear hM hM'
      have hmod : ¬ ((M.size : Int)) % 64 = 56 := by rw [hMs]; have hnz : nz s.size = (119 - s.size % 64) % 64 := rfl; omega
      have q1 : (M.size : Int) ≤ 1073741824 := by omega
      go_wp2
      go_roundg (nz s.size - (z + 1))
      case measure => have := Hr.out.num; omega
      case rel => exact ⟨z + 1, by rw [HM.out.2], hlt, rfl, Hr.out.res, Hr.out.by_⟩
    · have hz : z = nz s.size := by omega
      subst hz
      obtain ⟨M, hM⟩ : ∃ M, M = (⟨(padded s (nz s.size)).toArray⟩ : ByteArray) := ⟨_, rfl⟩
      rw [← hM] at hMs ⊢
      have HM := Lib.hid hM
      clear hM
      have hmod : ((M.size : Int)) % 64 = 56 := by rw [hMs]; have hnz : nz s.size = (119 - s.size % 64) % 64 := rfl; omega
      go_wp2
      go_loopg [0, 4] 8 (fun k c d wr => ∃ j, S2 w w.heap.size s k c d wr j)
      case atStart => exact ⟨0, by rw [HM.out]; simp [lens], by simp, by omega, by omega, Hr.out.res, Hr.out.by_⟩
      case round =>
        clear Hr hmod HM hMs
        obtain ⟨j, hr⟩ := hrel
        obtain rfl := hr.slot
        obtain rfl := hr.slot4
        have Hr := Lib.hid hr
        have hle := hr.le
        clear hr
        have hMs : (⟨(padded s (nz s.size) ++ lens s.size j).toArray⟩ : ByteArray).size = s.size + 1 + nz s.size + j := by
          show (padded s (nz s.size) ++ lens s.size j).toArray.size = _
          simp only [List.size_toArray, List.length_append, padded_len, lens_len]
        by_cases hlt : j < 8
        · have hc0 : ∀ W, (Op.stringOp .add ⟨(padded s (nz s.size) ++ lens s.size j).toArray⟩ ⟨[lenByte s.size j].toArray⟩).run Try.prog W = .ok (.string ⟨(padded s (nz s.size) ++ lens s.size (j + 1)).toArray⟩) W := fun W => by
            have h := add_run (padded s (nz s.size) ++ lens s.size j) [lenByte s.size j] (by rw [List.length_append, padded_len, lens_len]; simp; omega) W
            rw [List.append_assoc] at h
            exact h
          have hb := byte_string wr (lenByte s.size j)
          have hlb := lenByte_eq s.size j _ rfl
          obtain ⟨M, hM⟩ : ∃ M, M = (⟨(padded s (nz s.size) ++ lens s.size j).toArray⟩ : ByteArray) := ⟨_, rfl⟩
          obtain ⟨M', hM'⟩ : ∃ M, M = (⟨(padded s (nz s.size) ++ lens s.size (j + 1)).toArray⟩ : ByteArray) := ⟨_, rfl⟩
          obtain ⟨B, hB⟩ : ∃ M, M = (⟨[lenByte s.size j].toArray⟩ : ByteArray) := ⟨_, rfl⟩
          rw [← hM] at hc0 ⊢
          rw [← hM', ← hB] at hc0
          rw [← hB] at hb
          have HM := Lib.hid hM'
          clear hM hM' hB hMs
          generalize lenByte s.size j = lb at *
          have e1' : (0 : Int) ≤ 7 - (j : Int) := by omega
          have e3 : IntKind.i64.wrap (8 * (7 - (j : Int))) = 8 * (7 - (j : Int)) := by rw [IntKind.wrap_i64]; omega
          have e4 : (8 * (7 - (j : Int))).toNat = 56 - 8 * j := by omega
          have e5 : (0 : Int) ≤ 8 * (7 - (j : Int)) := by omega
          have e6 : 8 * (7 - (j : Int)) ≤ 56 := by omega
          have e7 : IntKind.i64.wrap (7 - (j : Int) - 1) = 7 - (j : Int) - 1 := by rw [IntKind.wrap_i64]; omega
          go_wp2
          go_roundg (7 - j)
          case measure => have := Hr.out.num; omega
          case rel => exact ⟨j + 1, by rw [HM.out], by congr 1; omega, by omega, by omega, Hr.out.res.alloc _, by_alloc Hr.out.by_ _⟩
        · have hj : j = 8 := by omega
          subst hj
          have hw : (⟨(padded s (nz s.size) ++ lens s.size 8).toArray⟩ : ByteArray) = whole s := rfl
          rw [hw] at hMs ⊢
          have hM64 : (whole s).size % 64 = 0 := by rw [hMs]; simp only [nz]; omega
          have hMb : (whole s).size < 1073741824 := by rw [hMs]; omega
          obtain ⟨M, hM⟩ : ∃ M, M = whole s := ⟨_, rfl⟩
          rw [← hM] at hM64 hMb ⊢
          have HM := Lib.hid (And.intro hM64 (And.intro hMb hM))
          have hres := Hr.out.res
          have hby := Hr.out.by_
          have hlt2 := hres.lt
          have hle2 := hby.size
          have p8 : Blk (wr.alloc (.cells (Array.replicate 8 (.int .u32 0)) 73)) wr.heap.size 73 (Array.replicate 8 (.int .u32 0)) := Blk.new _ _ _
          have t8 := p8.there V8.init.cells.size (Nat.le_refl _)
          have l4 : (Try.prog.info? 73).map (·.size) = some V8.init.cells.size := info42
          obtain ⟨W4, hW4⟩ : ∃ W, W = (wr.alloc (.cells (Array.replicate 8 (.int .u32 0)) 73)).setCells wr.heap.size 0 V8.init.cells.toList := ⟨_, rfl⟩
          have j8 : Blk W4 wr.heap.size 73 V8.init.cells := by
            rw [hW4]
            have h := p8.setAll V8.init.cells.toList rfl
            rw [Array.toArray_toList] at h
            exact h
          have jres : Blk W4 w.heap.size 44 (Array.replicate 32 (.int .u8 0)) := by
            rw [hW4]
            exact Blk.farAll _ _ _ _ (by omega) (hres.alloc _)
          have jby : w.grownBy W4 none := by
            rw [hW4]
            exact by_setAll (.inr (by omega)) _ _ _ (by_alloc hby _)
          have H3 : S3 w w.heap.size wr.heap.size M (M.size / 64) (.int .i64 0) W4 0 := ⟨rfl, by omega, by omega, j8, jres, jby⟩
          replace H3 := Lib.hid H3
          have HV := Lib.hid hW4
          have H8 := Lib.hid (And.intro l4 (And.intro t8 V8.init.one))
          have hbs : w.heap.size ≤ wr.heap.size ∧ w.heap.size ≠ wr.heap.size := by omega
          have HB := Lib.hid hbs
          clear p8 t8 l4 hW4 j8 jres jby hres hlt2 hle2 hby Hr hbs hM64 hMb hM hMs hw
          go_wp2_with (refine wpList_store_mid rfl 73 _ _ rfl wr.heap.size 0 V8.init.cells rfl rfl H8.out.2.1 H8.out.1 H8.out.2.2 ?_; refine wpList_at HV.out ?_)
          generalize wr.heap.size = g5 at *
          go_loopg [6] (M.size / 64) (fun k c wr => ∃ i, S3 w w.heap.size g5 M k c wr i)
          case atStart => exact ⟨0, H3.out⟩
          case round =>
            clear H3 HV H8
            obtain ⟨i, hr⟩ := hrel
            obtain rfl := hr.slot
            have Hr := Lib.hid hr
            clear hr
            by_cases hlt : 64 * i < M.size
            · have hM := HM.out.1
              have hM2 := HM.out.2.1
              have hsl : ∀ W, (Instr.slice 9 (.string M) (some (.int .i64 (64 * (i : Int)))) (some (.int .i64 (64 * (i : Int) + 64))) none).run Try.prog W = .ok (.string (M.extract (64 * i) (64 * i + 64))) W := fun W => by
                rw [run_slice_string_if W 9 M .i64 .i64 _ _ Try.underlying9, if_pos ⟨by omega, by omega⟩, if_pos ⟨by omega, by omega⟩]
                have e1 : (64 * (i : Int)).toNat = 64 * i := by omega
                have e2 : (64 * (i : Int) + 64).toNat = 64 * i + 64 := by omega
                rw [e1, e2]
              have hts : (M.extract (64 * i) (64 * i + 64)).size = 64 := by rw [ByteArray.size_extract]; omega
              obtain ⟨x, hx⟩ : ∃ x, x = V8.blocks M i := ⟨_, rfl⟩
              have hst := Hr.out.st
              rw [← hx] at hst
              have hxn : x.next (M.extract (64 * i) (64 * i + 64)) = V8.blocks M (i + 1) := by rw [hx]; rfl
              have hle3 : 64 * (i + 1) ≤ M.size := by omega
              have hnum : M.size / 64 - (i + 1) < gk := by have := Hr.out.num; omega
              generalize M.extract (64 * i) (64 * i + 64) = T at *
              have Hx := Lib.hid (And.intro hst (And.intro hxn (And.intro Hr.out.res (And.intro Hr.out.by_ (And.intro hts (And.intro hle3 hnum))))))
              have c0 : wr.cell? ⟨g5, 0, none⟩ = some (v32 x.a) := by rw [hst.cell]; rfl
              have c1 : wr.cell? ⟨g5, 1, none⟩ = some (v32 x.b) := by rw [hst.cell]; rfl
              have c2 : wr.cell? ⟨g5, 2, none⟩ = some (v32 x.c) := by rw [hst.cell]; rfl
              have c3 : wr.cell? ⟨g5, 3, none⟩ = some (v32 x.d) := by rw [hst.cell]; rfl
              have c4 : wr.cell? ⟨g5, 4, none⟩ = some (v32 x.e) := by rw [hst.cell]; rfl
              have c5 : wr.cell? ⟨g5, 5, none⟩ = some (v32 x.f) := by rw [hst.cell]; rfl
              have c6 : wr.cell? ⟨g5, 6, none⟩ = some (v32 x.g) := by rw [hst.cell]; rfl
              have c7 : wr.cell? ⟨g5, 7, none⟩ = some (v32 x.h) := by rw [hst.cell]; rfl
              have wl : IntKind.i64.wrap (64 * (i : Int) + 64) = 64 * (i : Int) + 64 := by rw [IntKind.wrap_i64]; omega
              have p1 : 64 * (i : Int) < (M.size : Int) := by omega
              clear hst hxn hx hM hM2 hts hle3 hnum Hr
              go_wp2
              go_still_tail 6, (by kernel_rfl)
              change wpList _ _ _ _ _ wr.drew
              replace Hx := Lib.hid (And.intro Hx.out.1.drew (And.intro Hx.out.2.1 (And.intro Hx.out.2.2.1.drew (And.intro (by_drew Hx.out.2.2.2.1) Hx.out.2.2.2.2))))
              clear c0 c1 c2 c3 c4 c5 c6 c7
              generalize wr.drew = w4 at *
              go_wp2_with fail
              refine (block_any x T Hx.out.2.2.2.2.1 w4).mono ?_
              rintro e w5 ⟨rfl, y5⟩
              rw [Hx.out.2.1]
              obtain ⟨Y, hY⟩ : ∃ Y, Y = V8.blocks M (i + 1) := ⟨_, rfl⟩
              rw [← hY]
              have hst := Hx.out.1.grown y5 (by simp)
              have t5 := hst.there Y.cells.size (Nat.le_refl _)
              have l5 : (Try.prog.info? 73).map (·.size) = some Y.cells.size := info42
              have h6 := hst.setAll Y.cells.toList rfl
              rw [Array.toArray_toList] at h6
              have h8 := Blk.farAll Y.cells.toList 0 _ _ HB.out.2 (Hx.out.2.2.1.grown y5 (by simp))
              have h9 := by_setAll (g := g5) (.inr HB.out.1) Y.cells.toList 0 _ (by_trans Hx.out.2.2.2.1 y5 (by simp))
              rw [hY] at h6
              have H5 := Lib.hid (And.intro t5 (And.intro l5 Y.one))
              rw [hY] at h8 h9
              have H6 := Lib.hid (And.intro h6 (And.intro h8 h9))
              rw [← hY] at H6
              have HY := Lib.hid hY
              clear hst t5 l5 h6 h8 h9 y5 hY hsl
              go_wp2_with (refine wpList_store_mid rfl 73 (.tmp 5) (.tmp 47) rfl g5 0 Y.cells rfl rfl ?ht ?hi ?h1 ?_)
              case ht => exact H5.out.1
              case hi => exact H5.out.2.1
              case h1 => exact H5.out.2.2
              go_wp2
              go_roundg (M.size / 64 - (i + 1))
              case measure => exact Hx.out.2.2.2.2.2.2
              case rel => exact ⟨i + 1, by first | (congr 1; omega) | rfl, Hx.out.2.2.2.2.2.1, rfl, by rw [← HY.out]; exact H6.out.1, H6.out.2.1, H6.out.2.2⟩
            · have hle := Hr.out.le
              have hM := HM.out.1
              obtain ⟨x, hx⟩ : ∃ x, x = V8.blocks M i := ⟨_, rfl⟩
              have hxs : x = sumOf s := by rw [hx, sumOf, ← HM.out.2.2, show M.size / 64 = i by omega]
              have hst := Hr.out.st
              rw [← hx] at hst
              have Hx := Lib.hid hxs
              have hst2 := hst.alloc (.cells (Array.replicate 32 (.int .u8 0)) 44)
              have hlt2 := hst.lt
              have hlt3 := Hr.out.res.lt
              have h6 : Blk (wr.alloc (.cells (Array.replicate 32 (.int .u8 0)) 44)) wr.heap.size 44 (rowOut x 0) := Blk.new _ _ _
              have h7 := Hr.out.res.alloc (.cells (Array.replicate 32 (.int .u8 0)) 44)
              have h8 := by_alloc Hr.out.by_ (.cells (Array.replicate 32 (.int .u8 0)) 44)
              have Hl := Lib.hid (And.intro hst2 (And.intro h6 (And.intro h7 h8)))
              have hbs : w.heap.size ≠ wr.heap.size ∧ w.heap.size ≤ wr.heap.size ∧ g5 ≠ wr.heap.size := by have := Hr.out.by_.size; omega
              have HB2 := Lib.hid hbs
              have hge : ¬ 64 * (i : Int) < (M.size : Int) := by omega
              clear hle hM hx hxs hst hst2 hlt2 hlt3 h6 h7 h8 hbs Hr HB HM
              go_wp2
              generalize hg6 : wr.heap.size = g7 at *
              go_loopg [8] 32 (fun k c wr => ∃ i, S4 w w.heap.size g5 g7 x k c wr i)
              case atStart => exact ⟨0, rfl, by omega, by omega, Hl.out.1, Hl.out.2.1, Hl.out.2.2.1, Hl.out.2.2.2⟩
              case round =>
                clear Hl hg6 hge
                obtain ⟨i, hr⟩ := hrel
                obtain rfl := hr.slot
                have hle := hr.le
                have Hr := Lib.hid hr
                clear hr
                by_cases hlt : i < 32
                · have ho := Hr.out.out
                  have d1 : wr.cell? ⟨g5, i / 4, none⟩ = some (.int .u32 (N (x.get (i / 4)))) := by rw [Hr.out.st.cell, V8.cells_get _ _ (by omega)]
                  have d0 : ∃ u, wr.cell? ⟨g7, i, none⟩ = some u := ⟨_, by rw [ho.cell]; exact Array.getElem?_eq_getElem (by rw [rowOut_size _ _ (by omega)]; omega)⟩
                  obtain ⟨u0, d0⟩ := d0
                  have f0 : wr.frozen? ⟨g7, i, none⟩ = false := ho.frozen i
                  have hset := ho.set_ i (outV x i)
                  rw [rowOut_set x i hlt] at hset
                  have h1 := Hr.out.st.far (p := ⟨g7, i, none⟩) HB2.out.2.2 (outV x i)
                  have h2 := Hr.out.res.far (p := ⟨g7, i, none⟩) HB2.out.1 (outV x i)
                  have h3 := by_set Hr.out.by_ (p := ⟨g7, i, none⟩) (.inr HB2.out.2.1) (outV x i)
                  have hrel : S4 w w.heap.size g5 g7 x (31 - i) (.int .i64 ((i : Int) + 1)) (wr.setCell ⟨g7, i, none⟩ (outV x i)) (i + 1) := ⟨by simp, by omega, by omega, h1, hset, h2, h3⟩
                  unfold outV at hrel
                  have hnum : 31 - i < gk := by have := Hr.out.num; omega
                  have Hn := Lib.hid (And.intro hrel hnum)
                  have q1 : (i : Int) / 4 = ((i / 4 : Nat) : Int) := by omega
                  have q2 : (i : Int) % 4 = ((i % 4 : Nat) : Int) := by omega
                  have q3 : (24 : Int) - 8 * ((i % 4 : Nat) : Int) = ((24 - 8 * (i % 4) : Nat) : Int) := by omega
                  have q4 : ((i / 4 : Nat) : Int) < 8 := by omega
                  have q5 : 24 - 8 * (i % 4) ≤ 24 := by omega
                  have q6 : i % 4 < 4 := by omega
                  clear ho hset h1 h2 h3 hrel Hr hnum
                  generalize x.get (i / 4) = y at *
                  generalize hz : 24 - 8 * (i % 4) = z at *
                  have Hz := Lib.hid hz
                  clear hz
                  generalize i / 4 = a4 at *
                  generalize i % 4 = m4 at *
                  have p0 : (0 : Int) ≤ (i : Int) := by omega
                  have p1 : (i : Int) < 32 := by omega
                  have wx : IntKind.i64.wrap ((i : Int) + 1) = (i : Int) + 1 := by rw [IntKind.wrap_i64]; omega
                  go_wp2
                  go_roundg (31 - i)
                  case measure => exact Hn.out.2
                  case rel => exact ⟨i + 1, Hn.out.1⟩
                · have hi : i = 32 := by omega
                  subst hi
                  obtain ⟨Z, hZ⟩ : ∃ Z, Z = rowOut x 32 := ⟨_, rfl⟩
                  have ho : Blk wr g7 44 Z := by rw [hZ]; exact Hr.out.out
                  have hZs : Z.size = 32 := by rw [hZ]; exact rowOut_size x 32 (Nat.le_refl _)
                  have hZ1 : Z.all (·.oneCell') = true := by rw [hZ]; exact rowOut_one x 32
                  have hst := Hr.out.res.setAll Z.toList (by simp [hZs])
                  rw [Array.toArray_toList] at hst
                  have hth := Hr.out.res.there Z.size (by rw [hZs]; exact Nat.le_refl _)
                  have hy2 := by_setAll (g := w.heap.size) (.inr (Nat.le_refl _)) Z.toList 0 _ Hr.out.by_
                  have hi0 : (Try.prog.info? 44).map (·.size) = some Z.size := by rw [hZs]; exact info22
                  have hfin : Z = rowOut (sumOf s) 32 := by rw [hZ, Hx.out]
                  have HH := Lib.hid (And.intro ho (And.intro hst (And.intro hth (And.intro hi0 (And.intro hZ1 (And.intro hy2 hfin))))))
                  clear Hr ho hst hth hy2 hi0 hZ1 hZs hZ hfin Hx
                  go_wp2_with (first | (refine wpList_load_row rfl 44 (.tmp 7) rfl g7 rfl 44 Z (0, 0) _ ?a1 Try.underlying44 rfl ?a2 ?_) | (refine wpList_store_mid rfl 44 (.tmp 2) (.tmp 64) rfl w.heap.size 0 Z rfl rfl ?b1 ?b2 ?b3 ?_))
                  case a1 => exact HH.out.1
                  case a2 => exact HH.out.2.2.2.1
                  case b1 => exact HH.out.2.2.1
                  case b2 => exact HH.out.2.2.2.1
                  case b3 => exact HH.out.2.2.2.2.1
                  refine bodyPost_ret (results_cell_row rfl _ _ w.heap.size 44 Z (0, 0) _ rfl HH.out.2.1 Try.underlying44 rfl HH.out.2.2.2.1) rfl ⟨by rw [HH.out.2.2.2.2.2.2], HH.out.2.2.2.2.2.1⟩
end Go.Proofs.Ytdloapfifhelbaa
