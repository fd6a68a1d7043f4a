/-
  The walk of the reference's Mac.
-/
import Derived.Test.YtdloapfifhelbaaSameW
import Derived.Test.YtdloapfifhelbaaRefSum
import Derived.Laws.MakeOwn
namespace Go.Proofs.Ytdloapfifhelbaa
open Go.RowKit

theorem mk_zeros (n : Nat) (hn : n ≤ 100000) (W : World) : (Instr.makeSlice 47 (.int .i64 (n : Int)) (.int .i64 (n : Int))).run Try.prog W = .ok (.slice (some ⟨W.heap.size, 0, none⟩) n n) (W.alloc (.cells (u8s (zeros n)).toArray 5)) := by
  obtain ⟨i0, hi, hz0, hz1, hz2⟩ : ∃ i, Try.prog.info? 5 = some i ∧ i.zero = some (.int .u8 0) ∧ i.size = 1 ∧ i.bytes = 1 := ⟨_, rfl, rfl, rfl, rfl⟩
  have h := run_make (P := Try.prog) W 47 5 i0 (.int .u8 0) Try.underlying47 hi hz0 .i64 .i64 n n (by omega) (by omega) (by rw [hz2]; omega) (by omega)
  rw [h, hz1, Nat.mul_one]
  have e : madeCells (Value.int .u8 0).cells (n : Int).toNat = (u8s (zeros n)).toArray := by
    have : (n : Int).toNat = n := by omega
    rw [this, u8s_zeros]
    apply Array.ext
    · simp [madeCells]
    · intro i h1 h2
      simp only [madeCells, Array.getElem_map, List.getElem_toArray, List.getElem_replicate]
      show #[Value.int IntKind.u8 0][_ % 1]! = _
      rw [Nat.mod_one]
      rfl
  rw [e]
  rfl

set_option maxRecDepth 100000 in
theorem rtext_any (l : List UInt8) (hl : l.length = 32) (w : World) : Calls Try.prog 39 #[.agg (u8s l).toArray] w fun e w' => e = .returned (.string ⟨l.toArray⟩) ∧ w.grownBy w' none := by
  have hc := conv_blk hl (Blk.new w 44 (u8s l).toArray)
  have hy := by_alloc (by_refl w none) (.cells (u8s l).toArray 44)
  have Hy := Lib.hid hy
  obtain ⟨A, hA⟩ : ∃ A, A = (u8s l).toArray := ⟨_, rfl⟩
  obtain ⟨M, hM⟩ : ∃ M : ByteArray, M = ⟨l.toArray⟩ := ⟨_, rfl⟩
  rw [← hA] at hc Hy ⊢
  rw [← hM] at hc
  have HM := Lib.hid hM
  clear hy hA hM
  go_enter Try.func39, Try.ntmps39
  go_wp2
  go_ret
  exact ⟨by rw [← HM.out]; rfl, Hy.out⟩

/-- a block in the making: the first i bytes are there -/
def made64 (k : List UInt8) (b : UInt8) (i : Nat) : List UInt8 := turn (k.take i) b ++ zeros (64 - i)
theorem made64_len (k : List UInt8) (b : UInt8) (i : Nat) (hk : k.length = 64) (hi : i ≤ 64) : (made64 k b i).length = 64 := by simp [made64, turn_len, zeros]; omega
theorem made64_set (k : List UInt8) (b : UInt8) (i : Nat) (hk : k.length = 64) (h : i < 64) (u : UInt8) : ((made64 k b i).set i u).set i (k.getD i 0 ^^^ b) = made64 k b (i + 1) := by
  have hl : (turn (k.take i) b).length = i := by rw [turn_len, List.length_take]; omega
  obtain ⟨m, hm⟩ : ∃ m, 64 - i = m + 1 := ⟨63 - i, by omega⟩
  have hm2 : 64 - (i + 1) = m := by omega
  unfold made64
  rw [hm, hm2, zeros, List.replicate_succ, List.set_append_right _ _ (by omega), hl, Nat.sub_self, List.set_cons_zero, List.set_append_right _ _ (by omega), hl, Nat.sub_self, List.set_cons_zero, List.take_add_one, List.getElem?_eq_getElem (by omega)]
  simp only [turn, List.map_append, List.map_cons, List.map_nil, Option.toList, List.append_assoc, List.cons_append, List.nil_append, List.getD, List.getElem?_eq_getElem (show i < k.length by omega), Option.getD_some, zeros]
theorem made64_get (k : List UInt8) (b : UInt8) (i : Nat) (hk : k.length = 64) (h : i < 64) : (made64 k b i).getD i 0 = 0 := by
  have hl : (turn (k.take i) b).length = i := by rw [turn_len, List.length_take]; omega
  unfold made64
  rw [List.getD, List.getElem?_append_right (by omega), hl, Nat.sub_self, zeros]
  simp [show 0 < 64 - i by omega]

structure RM (w0 : World) (g : Nat) (k : List UInt8) (b : UInt8) (m : Nat) (c : Value) (wr : World) (i : Nat) : Prop where
  slot : c = .int .i64 i
  le : i ≤ 64
  num : m = 64 - i
  blk : Blk wr g 5 (u8s (made64 k b i)).toArray
  ge : w0.heap.size ≤ g
  by_ : w0.grownBy wr none

set_option maxRecDepth 100000 in
set_option maxHeartbeats 1000000 in
theorem rblock_any (key : ByteArray) (hk : key.size ≤ 268435456) (b : UInt8) (w : World) :
    Calls Try.prog 38 #[.string key, .int .u8 (b.toNat : Int)] w fun e w' => e = .returned (.string ⟨(turn (keyB key) b).toArray⟩) ∧ w.grownBy w' none := by
  have Hk := Lib.hid hk
  clear hk
  go_enter Try.func38, Try.ntmps38
  go_upto_if 9 with fail
  go_cut [0] (fun s0 wx => s0 = .string ⟨(short key).toArray⟩ ∧ w.grownBy wx none)
  case first =>
    rcases Nat.lt_or_ge 64 key.size with h64 | h64
    · have hsh : short key = sumB (sumOf key) := by unfold short; rw [if_neg (by omega)]
      have h1 := fun W => rsum_any key W (by have := Hk.out; omega)
      go_wp2_with fail
      refine (h1 w).mono ?_
      rintro e w2 ⟨rfl, y2⟩
      rw [rowOut_sumB]
      go_wp2_with fail
      refine (rtext_any _ (sumB_len _) w2).mono ?_
      rintro e w3 ⟨rfl, y3⟩
      go_wp2_with fail
      go_meet
      exact ⟨by rw [hsh], by_trans y2 y3 (by simp)⟩
    · have hsh : short key = key.data.toList := by unfold short; rw [if_pos h64]
      go_wp2_with fail
      go_meet
      exact ⟨by rw [hsh], by_refl _ _⟩
  case rest =>
    obtain ⟨rfl, hy0⟩ := hcut
    have hmk : (Instr.makeSlice 47 (.int .i64 64) (.int .i64 64)).run Try.prog wc = .ok (.slice (some ⟨wc.heap.size, 0, none⟩) 64 64) (wc.alloc (.cells (u8s (zeros 64)).toArray 5)) := mk_zeros 64 (by decide) wc
    have hb0 := Blk.new wc 5 (u8s (zeros 64)).toArray
    have hy1 := by_alloc hy0 (.cells (u8s (zeros 64)).toArray 5)
    have hlen := short_len key
    have hkl := keyB_len key
    have hks : ∀ i, i < (short key).length → (keyB key).getD i 0 = (short key).getD i 0 := fun i hi => by
      unfold keyB; rw [List.getD, List.getD, List.getElem?_append_left hi]
    have hkz : ∀ i, (short key).length ≤ i → (keyB key).getD i 0 = 0 := fun i hi => by
      unfold keyB; rw [List.getD, List.getElem?_append_right hi]
      simp only [zeros, List.getElem?_replicate]
      split <;> rfl
    have H0 := Lib.hid (And.intro hb0 (And.intro hy1 hy0.size))
    have HK := Lib.hid (And.intro hkl (And.intro hks hkz))
    clear hb0 hy1 hy0 hkl hks hkz Hk
    obtain ⟨K, hK⟩ : ∃ K, K = keyB key := ⟨_, rfl⟩
    rw [← hK] at HK
    have HKK := Lib.hid hK
    clear hK
    obtain ⟨S, hS⟩ : ∃ S : ByteArray, S = ⟨(short key).toArray⟩ := ⟨_, rfl⟩
    have hSs : S.size = (short key).length := by rw [hS]; show (short key).toArray.size = _; simp
    have hSd : S.data.toList = short key := by rw [hS]
    rw [← hS]
    rw [← hSs] at hlen
    have HS := Lib.hid (And.intro hSs hSd)
    clear hS hSs hSd
    generalize hg : wc.heap.size = g at *
    go_wp2
    go_loopg [6] 64 (fun m c wr => ∃ i, RM w g K b m c wr i)
    case atStart => exact ⟨0, rfl, by omega, by omega, by simpa [made64, turn] using H0.out.1, H0.out.2.2, H0.out.2.1⟩
    case round =>
      clear H0 hmk hg
      obtain ⟨i, hr⟩ := hrel
      obtain rfl := hr.slot
      have hle := hr.le
      have Hr := Lib.hid hr
      clear hr
      by_cases hlt : i < 64
      · have hb := Hr.out.blk
        have hml := made64_len K b i HK.out.1 hle
        have hget := made64_get K b i HK.out.1 hlt
        have hx := u8_xor_b (K.getD i 0) b
        have e0 : wr.cell? ⟨g, i, none⟩ = some (.int .u8 0) := by
          rw [hb.cell, List.getElem?_toArray, u8s_getM _ _ (by omega), hget]; rfl
        have f0 : wr.frozen? ⟨g, i, none⟩ = false := hb.frozen i
        have hset := made64_set K b i HK.out.1 hlt
        have p0 : (0 : Int) ≤ (i : Int) := by omega
        have p1 : (i : Int) < 64 := by omega
        have wx : IntKind.i64.wrap ((i : Int) + 1) = (i : Int) + 1 := by rw [IntKind.wrap_i64]; omega
        rcases Nat.lt_or_ge i S.size with hs | hs
        · have hk1 : K.getD i 0 = S.data.toList.getD i 0 := by
            have h1 := HS.out.1
            have h2 := HK.out.2.1 i (by omega)
            have h3 := HKK.out
            rw [HS.out.2]; exact h2
          have hix := fun W => str_at S W i hs
          rw [← hk1] at hix
          have hb1 := hb.set_ i (.int .u8 ((K.getD i 0).toNat : Int))
          rw [u8s_set] at hb1
          have hb2 := hb1.set_ i (.int .u8 ((K.getD i 0 ^^^ b).toNat : Int))
          rw [u8s_set, hset] at hb2
          have e1 : (wr.setCell ⟨g, i, none⟩ (.int .u8 ((K.getD i 0).toNat : Int))).cell? ⟨g, i, none⟩ = some (.int .u8 ((K.getD i 0).toNat : Int)) := World.cell?_setCell_same' wr _ _ (by rw [e0]; rfl)
          have f1 : (wr.setCell ⟨g, i, none⟩ (.int .u8 ((K.getD i 0).toNat : Int))).frozen? ⟨g, i, none⟩ = false := hb1.frozen i
          have hy := by_set (by_set Hr.out.by_ (p := ⟨g, i, none⟩) (.inr Hr.out.ge) (.int .u8 ((K.getD i 0).toNat : Int))) (p := ⟨g, i, none⟩) (.inr Hr.out.ge) (.int .u8 ((K.getD i 0 ^^^ b).toNat : Int))
          have hrel : RM w g K b (63 - i) (.int .i64 ((i : Int) + 1)) ((wr.setCell ⟨g, i, none⟩ (.int .u8 ((K.getD i 0).toNat : Int))).setCell ⟨g, i, none⟩ (.int .u8 ((K.getD i 0 ^^^ b).toNat : Int))) (i + 1) := ⟨by simp, by omega, by omega, hb2, Hr.out.ge, hy⟩
          have Hn := Lib.hid (And.intro hrel (show 63 - i < gk by have := Hr.out.num; omega))
          have p2 : (i : Int) < (S.size : Int) := by omega
          clear hb hml hget hset hk1 hb1 hb2 hy hrel Hr
          generalize (K.getD i 0 ^^^ b).toNat = y at *
          generalize (K.getD i 0).toNat = x at *
          generalize b.toNat = z at *
          go_wp2
          go_roundg (63 - i)
          case measure => exact Hn.out.2
          case rel => exact ⟨i + 1, Hn.out.1⟩
        · have hk1 : K.getD i 0 = 0 := by
            have h1 := HS.out.1
            exact HK.out.2.2 i (by omega)
          have hset2 : (made64 K b i).set i (K.getD i 0 ^^^ b) = made64 K b (i + 1) := by
            rw [← hset 0, List.set_set]
          have hb2 := hb.set_ i (.int .u8 ((K.getD i 0 ^^^ b).toNat : Int))
          rw [u8s_set, hset2] at hb2
          have hy := by_set Hr.out.by_ (p := ⟨g, i, none⟩) (.inr Hr.out.ge) (.int .u8 ((K.getD i 0 ^^^ b).toNat : Int))
          have hrel : RM w g K b (63 - i) (.int .i64 ((i : Int) + 1)) (wr.setCell ⟨g, i, none⟩ (.int .u8 ((K.getD i 0 ^^^ b).toNat : Int))) (i + 1) := ⟨by simp, by omega, by omega, hb2, Hr.out.ge, hy⟩
          have Hn := Lib.hid (And.intro hrel (show 63 - i < gk by have := Hr.out.num; omega))
          have p2 : ¬ (i : Int) < (S.size : Int) := by omega
          rw [hk1] at hx
          have hx0 : bits BinOp.xor IntKind.u8 0 (b.toNat : Int) = ((K.getD i 0 ^^^ b).toNat : Int) := by rw [hk1]; exact hx
          clear hb hml hget hset hset2 hk1 hb2 hy hrel Hr hx
          generalize (K.getD i 0 ^^^ b).toNat = y at *
          generalize b.toNat = z at *
          go_wp2
          go_roundg (63 - i)
          case measure => exact Hn.out.2
          case rel => exact ⟨i + 1, Hn.out.1⟩
      · have hi : i = 64 := by omega
        subst hi
        have hb := Hr.out.blk
        have e : made64 K b 64 = turn (keyB key) b := by
          have h1 := HK.out.1
          rw [← HKK.out]
          unfold made64
          rw [List.take_of_length_le (by omega)]
          simp [zeros]
        rw [e] at hb
        have hcv := conv_blk (by rw [turn_len, keyB_len]) hb
        have Hy := Lib.hid Hr.out.by_
        clear Hr hb e
        obtain ⟨M, hM⟩ : ∃ M : ByteArray, M = ⟨(turn (keyB key) b).toArray⟩ := ⟨_, rfl⟩
        rw [← hM] at hcv
        have HM := Lib.hid hM
        clear hM
        go_wp2
        go_ret
        exact ⟨by rw [← HM.out]; rfl, Hy.out⟩
end Go.Proofs.Ytdloapfifhelbaa
