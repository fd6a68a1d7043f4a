/-
  The walk of the reference's Hex.
-/
import Derived.Test.YtdloapfifhelbaaRefSum
import Derived.Test.YtdloapfifhelbaaHex
namespace Go.Proofs.Ytdloapfifhelbaa
open Go.RowKit

structure RH (w0 : World) (g1 : Nat) (cs : Array Value) (l : List UInt8) (k : Nat) (c d : Value) (wr : World) (i : Nat) : Prop where
  slot4 : c = .string ⟨(hexL (l.take i)).toArray⟩
  slot : d = .int .i64 i
  le : i ≤ 32
  num : k = 32 - i
  box : Blk wr g1 44 cs
  by_ : w0.grownBy wr none
theorem dig_slice (n : Nat) (h : n < 16) (W : World) : (Instr.slice 9 (.string ⟨#[48, 49, 50, 51, 52, 53, 54, 55, 56, 57, 97, 98, 99, 100, 101, 102]⟩) (some (.int .i64 (n : Int))) (some (.int .i64 ((n : Int) + 1))) none).run Try.prog W = .ok (.string ⟨[dig n].toArray⟩) W := by
  have h2 : ∀ n, n < 16 → (digits.extract n (n + 1)).data.toList = [dig n] := by decide
  rw [run_slice_string_if W 9 _ .i64 .i64 _ _ Try.underlying9, if_pos ⟨by omega, by show (n : Int) + 1 ≤ 16; omega⟩, if_pos ⟨by omega, by omega⟩]
  have e1 : (n : Int).toNat = n := by omega
  have e2 : ((n : Int) + 1).toNat = n + 1 := by omega
  rw [e1, e2]
  have e3 : digits.extract n (n + 1) = ⟨[dig n].toArray⟩ := by
    apply ByteArray.ext
    apply Array.ext'
    exact h2 n h
  show Result.ok (Value.string (digits.extract n (n + 1))) W = _
  rw [e3]

set_option maxRecDepth 100000 in
set_option maxHeartbeats 2000000 in
theorem rhex_any (l : List UInt8) (hl : l.length = 32) (w : World) :
    Calls Try.prog 26 #[.agg (u8s l).toArray] w fun e w' => e = .returned (.string ⟨(hexL l).toArray⟩) ∧ w.grownBy w' none := by
  obtain ⟨cs, hcs⟩ : ∃ cs, cs = (u8s l).toArray := ⟨_, rfl⟩
  rw [← hcs]
  have h1 := Blk.new w 44 cs
  have h2 := by_alloc (by_refl w none) (.cells cs 44)
  have H0 := Lib.hid (And.intro h1 h2)
  have Hcs := Lib.hid hcs
  clear hcs h1 h2
  go_enter Try.func26, Try.ntmps26
  go_wp2
  go_loopg [4, 5] 32 (fun k c d wr => ∃ i, RH w w.heap.size cs l k c d wr i)
  case atStart => exact ⟨0, rfl, rfl, by omega, by omega, H0.out.1, H0.out.2⟩
  case round =>
    clear H0
    obtain ⟨i, hr⟩ := hrel
    obtain rfl := hr.slot4
    obtain rfl := hr.slot
    have hle := hr.le
    have Hr := Lib.hid hr
    clear hr
    by_cases hlt : i < 32
    · obtain ⟨b, hb⟩ : ∃ b, b = l.getD i 0 := ⟨_, rfl⟩
      have hcell : wr.cell? ⟨w.heap.size, i, none⟩ = some (.int .u8 (b.toNat : Int)) := by
        rw [Hr.out.box.cell, Hcs.out, hb]
        have h := show (u8s l)[i]? = some (.int .u8 ((l.getD i 0).toNat : Int)) by simp [u8s, List.getD, List.getElem?_eq_getElem (show i < l.length by omega)]
        simpa using h
      have b1 := b.toNat_lt
      have hlen : (hexL (l.take i)).length = 2 * i := by rw [hexL_len, List.length_take]; omega
      have d1 := fun W => dig_slice (b.toNat / 16) (by omega) W
      have d2 := fun W => dig_slice (b.toNat % 16) (by omega) W
      have a1 := fun W => add_run (hexL (l.take i)) [dig (b.toNat / 16)] (by rw [hlen]; simp; omega) W
      have a2 := fun W => add_run (hexL (l.take i) ++ [dig (b.toNat / 16)]) [dig (b.toNat % 16)] (by rw [List.length_append, hlen]; simp; omega) W
      have e1 : IntKind.u8.wrap ((b.toNat : Int).tdiv 16) = ((b.toNat / 16 : Nat) : Int) := by rw [Int.tdiv_eq_ediv_of_nonneg (by omega), IntKind.wrap_u8]; omega
      have e2 : (b.toNat : Int).tmod 16 = ((b.toNat % 16 : Nat) : Int) := by rw [Int.tmod_eq_emod_of_nonneg (by omega)]; omega
      have e1' : (b.toNat : Int) / 16 = ((b.toNat / 16 : Nat) : Int) := by omega
      have e2' : (b.toNat : Int) % 16 = ((b.toNat % 16 : Nat) : Int) := by omega
      have w1 : IntKind.i64.wrap (((b.toNat / 16 : Nat) : Int) + 1) = ((b.toNat / 16 : Nat) : Int) + 1 := by rw [IntKind.wrap_i64]; omega
      have w2 : IntKind.i64.wrap (((b.toNat % 16 : Nat) : Int) + 1) = ((b.toNat % 16 : Nat) : Int) + 1 := by rw [IntKind.wrap_i64]; omega
      have q1 : IntKind.i64.wrap (((b.toNat / 16 : Nat) : Int)) = ((b.toNat / 16 : Nat) : Int) := by rw [IntKind.wrap_i64]; omega
      have q2 : IntKind.i64.wrap (((b.toNat % 16 : Nat) : Int)) = ((b.toNat % 16 : Nat) : Int) := by rw [IntKind.wrap_i64]; omega
      have q3 : IntKind.u8.wrap (((b.toNat % 16 : Nat) : Int)) = ((b.toNat % 16 : Nat) : Int) := by rw [IntKind.wrap_u8]; omega
      have q4 : IntKind.u8.wrap (((b.toNat / 16 : Nat) : Int)) = ((b.toNat / 16 : Nat) : Int) := by rw [IntKind.wrap_u8]; omega
      have hnext : hexL (l.take i) ++ [dig (b.toNat / 16)] ++ [dig (b.toNat % 16)] = hexL (l.take (i + 1)) := by rw [hexL_take l i (by omega), ← hb]; simp [two]
      rw [hnext] at a2
      have hfin := Hr.out
      have hr2 : RH w w.heap.size cs l (31 - i) (.string ⟨(hexL (l.take (i + 1))).toArray⟩) (.int .i64 ((i : Int) + 1)) wr.drew.drew (i + 1) := ⟨rfl, by simp, by omega, by omega, hfin.box.drew.drew, by_drew (by_drew hfin.by_)⟩
      have Hf := Lib.hid (And.intro hr2 hfin.num)
      clear hr2 hfin Hr hnext hb hlen b1
      generalize (⟨(hexL (l.take (i + 1))).toArray⟩ : ByteArray) = M2 at *
      generalize (⟨(hexL (l.take i) ++ [dig (b.toNat / 16)]).toArray⟩ : ByteArray) = M1 at *
      generalize (⟨(hexL (l.take i)).toArray⟩ : ByteArray) = M0 at *
      generalize (⟨[dig (b.toNat / 16)].toArray⟩ : ByteArray) = D1 at *
      generalize (⟨[dig (b.toNat % 16)].toArray⟩ : ByteArray) = D2 at *
      generalize b.toNat / 16 = n1 at *
      generalize b.toNat % 16 = n2 at *
      generalize b.toNat = n at *
      have p0 : (0 : Int) ≤ (i : Int) := by omega
      have p1 : (i : Int) < 32 := by omega
      have wx : IntKind.i64.wrap ((i : Int) + 1) = (i : Int) + 1 := by rw [IntKind.wrap_i64]; omega
      go_wp2
      refine wp_region_still_lit (by kernel_rfl) (by kernel_rfl) ?_
      repeat still_step
      refine wpStill_nil ?_
      change Exit.then _ _ _ _ wr.drew
      go_wp2
      refine wp_region_still_lit (by kernel_rfl) (by kernel_rfl) ?_
      repeat still_step
      refine wpStill_nil ?_
      change Exit.inBlock _ _ _ _ wr.drew.drew
      go_wp2
      go_roundg (31 - i)
      case measure => have := Hf.out.2; omega
      case rel => exact ⟨i + 1, Hf.out.1⟩
    · have hi : i = 32 := by omega
      subst hi
      have hM : (⟨(hexL (l.take 32)).toArray⟩ : ByteArray) = ⟨(hexL l).toArray⟩ := by rw [List.take_of_length_le (by omega)]
      rw [hM]
      have hy := Hr.out.by_
      obtain ⟨M, hM2⟩ : ∃ M : ByteArray, M = ⟨(hexL l).toArray⟩ := ⟨_, rfl⟩
      rw [← hM2]
      have Hy := Lib.hid (And.intro hy hM2)
      clear hy Hr hM hM2
      go_wp2
      go_ret
      exact ⟨by rw [← Hy.out.2]; rfl, Hy.out.1⟩
end Go.Proofs.Ytdloapfifhelbaa
