/-
  The walk of 'words'.
-/
import Derived.Test.YtdloapfifhelbaaConsts
namespace Go.Proofs.Ytdloapfifhelbaa
open Go.RowKit

theorem row64_one (l : List (BitVec 32)) : (row64 l).all (·.oneCell') = true := by
  unfold row64
  refine all_oneCell_toArray fun v hv => ?_
  rcases List.mem_append.1 hv with h | h
  · obtain ⟨x, _, rfl⟩ := List.mem_map.1 h; rfl
  · rw [(List.mem_replicate.1 h).2]; rfl
theorem rot1_s (x : BitVec 32) (n : Nat) (h1 : 1 ≤ n) (h2 : n ≤ 31) (w : World) :
    Calls Try.prog 51 #[.int .u32 (N x), .int .i64 (n : Int)] w fun e w' => e = .returned (.int .u32 (N (x.rotateRight n))) ∧ w' = w :=
  (rot1_any x n h1 h2 w).mono fun _ _ h => ⟨h.1, h.2.symm⟩
structure WRel2 (w0 : World) (s : ByteArray) (g h k : Nat) (c : Value) (wr : World) (i : Nat) : Prop where
  slot : c = .int .i64 i
  le : i ≤ 64
  ge : 16 ≤ i
  num : k = 64 - i
  blk : Blk wr g 78 (row64 (sched s i))
  bl2 : Blk wr h 78 (row64 [])
  by_ : w0.grownBy wr none
structure WRel (w0 : World) (s : ByteArray) (g h k : Nat) (c : Value) (wr : World) (i : Nat) : Prop where
  slot : c = .int .i64 i
  le : i ≤ 16
  num : k = 16 - i
  blk : Blk wr g 78 (row64 (sched s i))
  bl2 : Blk wr h 78 (row64 [])
  by_ : w0.grownBy wr none

set_option maxRecDepth 100000 in
set_option maxHeartbeats 2000000 in
theorem words_row (A : Option Addr) (cap : Nat) (s : ByteArray) (w : World) (hs : StrAt w A 64 s) (R : Array Value) (hR : Hid (row64 (sched s 64) = R)) :
    Calls Try.prog 45 #[.slice A 64 cap] w fun e w' => e = .returned (.agg R) ∧ w.grownBy w' none := by
  obtain ⟨hsz, hs2⟩ := hs
  obtain ⟨b, off, rfl, hb, hc⟩ := hs2 (by omega)
  go_enter Try.func45, Try.ntmps45
  go_wp2
  obtain ⟨W, hW⟩ : ∃ W, W = (w.alloc (.cells (row64 []) 78)).alloc (.cells (row64 []) 78) := ⟨_, rfl⟩
  change Code.wp _ _ _ _ ((w.alloc (.cells (row64 []) 78)).alloc (.cells (row64 []) 78))
  rw [← hW]
  have b2 : Blk W w.heap.size 78 (row64 []) := by rw [hW]; exact (Blk.new _ _ _).alloc _
  have b3 : Blk W (w.heap.size + 1) 78 (row64 []) := by
    have h := Blk.new (w.alloc (.cells (row64 []) 78)) 78 (row64 [])
    have e : (w.alloc (.cells (row64 []) 78)).heap.size = w.heap.size + 1 := by simp
    rw [e] at h
    rw [hW]; exact h
  have y : w.grownBy W none := by rw [hW]; exact by_alloc (by_alloc (by_refl _ _) _) _
  clear hW
  have HH := Lib.hid (And.intro b2 (And.intro b3 y))
  clear b2 b3 y
  go_loopg [9] 16 (fun k c wr => ∃ i, WRel w s (w.heap.size + 1) w.heap.size k c wr i)
  case atStart => exact ⟨0, rfl, by omega, by omega, HH.out.2.1, HH.out.1, HH.out.2.2⟩
  case round =>
    obtain ⟨i, hr⟩ := hrel
    obtain rfl := hr.slot
    have hle := hr.le
    have Hr := Lib.hid hr
    clear hr
    by_cases hlt : i < 16
    · have hq : ∀ d, d < 4 → wr.cell? ⟨b, off + (4 * i + d), none⟩ = some (.int .u8 (hd s (4 * i + d) : Int)) := fun d hd' => by
        rw [← hd_eq s _ (by omega)]; exact Hr.out.by_.cell (hc (4 * i + d) (by omega)) (by simp)
      have q0 := hq 0 (by omega)
      have q1 := hq 1 (by omega)
      have q2 := hq 2 (by omega)
      have q3 := hq 3 (by omega)
      have hby := bytes_or _ _ _ _ (hd_lt s (4 * i)) (hd_lt s (4 * i + 1)) (hd_lt s (4 * i + 2)) (hd_lt s (4 * i + 3))
      have l0 := hd_lt s (4 * i)
      have l1 := hd_lt s (4 * i + 1)
      have l2 := hd_lt s (4 * i + 2)
      have l3 := hd_lt s (4 * i + 3)
      rw [Nat.add_zero] at q0
      have hwd : BitVec.ofNat 32 (hd s (4 * i) * 16777216 + hd s (4 * i + 1) * 65536 + hd s (4 * i + 2) * 256 + hd s (4 * i + 3)) = wordAt s i := rfl
      rw [hwd] at hby
      generalize hd s (4 * i) = x0 at *
      generalize hd s (4 * i + 1) = x1 at *
      generalize hd s (4 * i + 2) = x2 at *
      generalize hd s (4 * i + 3) = x3 at *
      have hbk := Hr.out.blk
      have hlen := sched_len s i
      have d0 : ∃ u, wr.cell? ⟨w.heap.size + 1, i, none⟩ = some u := ⟨_, by rw [hbk.cell]; exact Array.getElem?_eq_getElem (by rw [row64_size _ (by omega)]; omega)⟩
      obtain ⟨u0, d0⟩ := d0
      have f0 : wr.frozen? ⟨w.heap.size + 1, i, none⟩ = false := hbk.frozen i
      have hset : Blk (wr.setCell ⟨w.heap.size + 1, i, none⟩ (.int .u32 (N (wordAt s i)))) (w.heap.size + 1) 78 (row64 (sched s (i + 1))) := by
        have h := hbk.set_ i (.int .u32 (N (wordAt s i)))
        have e := row64_set (sched s i) (wordAt s i) (by omega)
        rw [hlen] at e
        rw [e] at h
        have e2 : sched s (i + 1) = sched s i ++ [wordAt s i] := by rw [sched, if_pos hlt]
        rw [e2]
        exact h
      have hy1 := by_set Hr.out.by_ (p := ⟨w.heap.size + 1, i, none⟩) (.inr (Nat.le_succ _)) (.int .u32 (N (wordAt s i)))
      have hfar := Hr.out.bl2.far (p := ⟨w.heap.size + 1, i, none⟩) (by show w.heap.size ≠ w.heap.size + 1; omega) (.int .u32 (N (wordAt s i)))
      have Hn := Lib.hid (And.intro hset (And.intro hfar hy1))
      have w0' : IntKind.i64.wrap (4 * (i : Int)) = 4 * (i : Int) := by rw [IntKind.wrap_i64]; omega
      have w1' : IntKind.i64.wrap (4 * (i : Int) + 1) = 4 * (i : Int) + 1 := by rw [IntKind.wrap_i64]; omega
      have w2' : IntKind.i64.wrap (4 * (i : Int) + 2) = 4 * (i : Int) + 2 := by rw [IntKind.wrap_i64]; omega
      have w3' : IntKind.i64.wrap (4 * (i : Int) + 3) = 4 * (i : Int) + 3 := by rw [IntKind.wrap_i64]; omega
      have t0 : (4 * (i : Int)).toNat = 4 * i := by omega
      have t1 : (4 * (i : Int) + 1).toNat = 4 * i + 1 := by omega
      have t2 : (4 * (i : Int) + 2).toNat = 4 * i + 2 := by omega
      have t3 : (4 * (i : Int) + 3).toNat = 4 * i + 3 := by omega
      have p0 : (0 : Int) ≤ (i : Int) := by omega
      have p1 : (0 : Int) ≤ 4 * (i : Int) := by omega
      have p2 : 4 * (i : Int) + 3 < 64 := by omega
      have p3 : (i : Int) < 16 := by omega
      have p4 : 4 * (i : Int) < 64 := by omega
      have p5 : 4 * (i : Int) + 1 < 64 := by omega
      have p6 : 4 * (i : Int) + 2 < 64 := by omega
      have p7 : 0 ≤ 4 * (i : Int) + 1 := by omega
      have p8 : 0 ≤ 4 * (i : Int) + 2 := by omega
      have p9 : 0 ≤ 4 * (i : Int) + 3 := by omega
      have p10 : (i : Int) < 64 := by omega
      have r0 : IntKind.u32.wrap (x0 : Int) = x0 := by rw [IntKind.wrap_u32']; omega
      have r1 : IntKind.u32.wrap (x1 : Int) = x1 := by rw [IntKind.wrap_u32']; omega
      have r2 : IntKind.u32.wrap (x2 : Int) = x2 := by rw [IntKind.wrap_u32']; omega
      have r3 : IntKind.u32.wrap (x3 : Int) = x3 := by rw [IntKind.wrap_u32']; omega
      have s0 : IntKind.u32.wrap ((x0 : Int) * 16777216) = (x0 : Int) * 16777216 := by rw [IntKind.wrap_u32']; omega
      have s1 : IntKind.u32.wrap ((x1 : Int) * 65536) = (x1 : Int) * 65536 := by rw [IntKind.wrap_u32']; omega
      have s2 : IntKind.u32.wrap ((x2 : Int) * 256) = (x2 : Int) * 256 := by rw [IntKind.wrap_u32']; omega
      clear hq hwd hbk hlen hset hy1 hfar
      go_wp2
      go_still_tail 35, (by kernel_rfl)
      go_wp2
      go_roundg (15 - i)
      case measure => have := Hr.out.num; omega
      case rel => exact ⟨i + 1, rfl, by omega, by omega, Hn.out.1.drew, Hn.out.2.1.drew, by_drew Hn.out.2.2⟩
    · have hi : i = 16 := by omega
      subst hi
      have hb2 := Hr.out.bl2
      have hb1 := Hr.out.blk
      have hyy := Hr.out.by_
      clear Hr
      go_wp2
      go_loopg [6] 48 (fun k c wr => ∃ i, WRel2 w s (w.heap.size + 1) w.heap.size k c wr i)
      case atStart => exact ⟨16, rfl, by omega, by omega, by omega, hb1, hb2, hyy⟩
      case round =>
        clear hb1 hb2 hyy
        obtain ⟨i, hr⟩ := hrel
        obtain rfl := hr.slot
        have hle := hr.le
        have hge := hr.ge
        have Hr := Lib.hid hr
        clear hr
        by_cases hlt : i < 64
        · have hbk := Hr.out.blk
          have hlen := sched_len s i
          have hget : ∀ d, 1 ≤ d → d ≤ 16 → wr.cell? ⟨w.heap.size + 1, i - d, none⟩ = some (.int .u32 (N ((sched s i).getD (i - d) 0))) := fun d h1 h2 => by
            rw [hbk.cell]; exact row64_get _ _ (by omega)
          have q15 := hget 15 (by omega) (by omega)
          have q2 := hget 2 (by omega) (by omega)
          have q16 := hget 16 (by omega) (by omega)
          have q7 := hget 7 (by omega) (by omega)
          have d0 : ∃ u, wr.cell? ⟨w.heap.size + 1, i, none⟩ = some u := ⟨_, by rw [hbk.cell]; exact Array.getElem?_eq_getElem (by rw [row64_size _ (by omega)]; omega)⟩
          obtain ⟨u0, d0⟩ := d0
          have f0 : wr.frozen? ⟨w.heap.size + 1, i, none⟩ = false := hbk.frozen i
          have hset : Blk (wr.setCell ⟨w.heap.size + 1, i, none⟩ (.int .u32 (N (nextW (sched s i))))) (w.heap.size + 1) 78 (row64 (sched s (i + 1))) := by
            have h := hbk.set_ i (.int .u32 (N (nextW (sched s i))))
            have e := row64_set (sched s i) (nextW (sched s i)) (by omega)
            rw [hlen] at e
            rw [e] at h
            have e2 : sched s (i + 1) = sched s i ++ [nextW (sched s i)] := by rw [sched, if_neg (by omega)]
            rw [e2]
            exact h
          have hy1 := by_set Hr.out.by_ (p := ⟨w.heap.size + 1, i, none⟩) (.inr (Nat.le_succ _)) (.int .u32 (N (nextW (sched s i))))
          have hfar := Hr.out.bl2.far (p := ⟨w.heap.size + 1, i, none⟩) (by show w.heap.size ≠ w.heap.size + 1; omega) (.int .u32 (N (nextW (sched s i))))
          have hnx : nextW (sched s i) = (sched s i).getD (i - 16) 0 + lo0 ((sched s i).getD (i - 15) 0) + (sched s i).getD (i - 7) 0 + lo1 ((sched s i).getD (i - 2) 0) := by rw [nextW, hlen]
          unfold lo0 lo1 at hnx
          rw [hnx] at hset hy1 hfar
          clear hnx
          have Hn := Lib.hid (And.intro hset (And.intro hfar hy1))
          clear hset hfar hy1 hget hbk hlen
          generalize (sched s i).getD (i - 15) 0 = x15 at *
          generalize (sched s i).getD (i - 16) 0 = x16 at *
          generalize (sched s i).getD (i - 2) 0 = x2 at *
          generalize (sched s i).getD (i - 7) 0 = x7 at *
          have g1 : IntKind.i64.wrap ((i : Int) - 15) = (i : Int) - 15 := by rw [IntKind.wrap_i64]; omega
          have g2 : IntKind.i64.wrap ((i : Int) - 16) = (i : Int) - 16 := by rw [IntKind.wrap_i64]; omega
          have g3 : IntKind.i64.wrap ((i : Int) - 2) = (i : Int) - 2 := by rw [IntKind.wrap_i64]; omega
          have g4 : IntKind.i64.wrap ((i : Int) - 7) = (i : Int) - 7 := by rw [IntKind.wrap_i64]; omega
          have t1 : ((i : Int) - 15).toNat = i - 15 := by omega
          have t2 : ((i : Int) - 16).toNat = i - 16 := by omega
          have t3 : ((i : Int) - 2).toNat = i - 2 := by omega
          have t4 : ((i : Int) - 7).toNat = i - 7 := by omega
          have p0 : (0 : Int) ≤ (i : Int) := by omega
          have p1 : (0 : Int) ≤ (i : Int) - 15 := by omega
          have p2 : (0 : Int) ≤ (i : Int) - 16 := by omega
          have p3 : (0 : Int) ≤ (i : Int) - 2 := by omega
          have p4 : (0 : Int) ≤ (i : Int) - 7 := by omega
          have p5 : (i : Int) < 64 := by omega
          have p6 : (i : Int) - 15 < 64 := by omega
          have p7 : (i : Int) - 16 < 64 := by omega
          have p8 : (i : Int) - 2 < 64 := by omega
          have p9 : (i : Int) - 7 < 64 := by omega
          have m1 : (15 : Int) ≤ (i : Int) := by omega
          have m2 : (16 : Int) ≤ (i : Int) := by omega
          have m3 : (2 : Int) ≤ (i : Int) := by omega
          have m4 : (7 : Int) ≤ (i : Int) := by omega
          have wx : IntKind.i64.wrap ((i : Int) + 1) = (i : Int) + 1 := by rw [IntKind.wrap_i64]; omega
          have rx := N_xor
          have ra := N_add
          have rs3 : ∀ a : BitVec 32, N a / (8 : Int) = N (a >>> 3) := fun a => N_shr a 3 8 rfl
          have rs10 : ∀ a : BitVec 32, N a / (1024 : Int) = N (a >>> 10) := fun a => N_shr a 10 1024 rfl
          go_wp2
          go_quiet (fail)
          have Hn2 : Hid (Blk ((wr.drewN nq).setCell ⟨w.heap.size + 1, i, none⟩ _) (w.heap.size + 1) 78 (row64 (sched s (i + 1))) ∧ Blk ((wr.drewN nq).setCell ⟨w.heap.size + 1, i, none⟩ _) w.heap.size 78 (row64 []) ∧ w.grownBy ((wr.drewN nq).setCell ⟨w.heap.size + 1, i, none⟩ _) none) := Lib.hid ⟨Hn.out.1.drewN nq, Hn.out.2.1.drewN nq, by_drewN Hn.out.2.2 nq⟩
          clear Hn
          replace q15 : (wr.drewN nq).cell? _ = _ := q15
          replace q16 : (wr.drewN nq).cell? _ = _ := q16
          replace q2 : (wr.drewN nq).cell? _ = _ := q2
          replace q7 : (wr.drewN nq).cell? _ = _ := q7
          replace d0 : (wr.drewN nq).cell? _ = _ := d0
          replace f0 : (wr.drewN nq).frozen? _ = _ := f0
          generalize wr.drewN nq = w2 at *
          go_wp2
          go_still_tail 33, (by kernel_rfl)
          still_call (rot1_s x15 7 (by decide) (by decide) _)
          repeat still_step
          still_call (rot1_s x15 18 (by decide) (by decide) _)
          repeat still_step
          still_call (rot1_s x2 17 (by decide) (by decide) _)
          repeat still_step
          still_call (rot1_s x2 19 (by decide) (by decide) _)
          repeat still_step
          try refine wpStill_nil ?_
          go_wp2
          go_roundg (63 - i)
          case measure => have := Hr.out.num; omega
          case rel => exact ⟨i + 1, rfl, by omega, by omega, by omega, Hn2.out.1.drew, Hn2.out.2.1.drew, by_drew Hn2.out.2.2⟩
        · have hi : i = 64 := by omega
          subst hi
          have hb2 := Hr.out.bl2
          have hb1 := Hr.out.blk
          have hyy := Hr.out.by_
          have hl : R.size = 64 := by rw [← hR.out]; exact row64_size _ (by rw [sched_len]; omega)
          have h1 : R.all (·.oneCell') = true := by rw [← hR.out]; exact row64_one _
          rw [hR.out] at hb1
          have hst := hb2.setAll R.toList (by rw [Array.length_toList, hl, row64_size _ (by simp)])
          rw [Array.toArray_toList] at hst
          have hth := hb2.there R.size (by rw [hl, row64_size _ (by simp)]; exact Nat.le_refl _)
          have hy2 := by_setAll (g := w.heap.size) (.inr (Nat.le_refl _)) R.toList 0 _ hyy
          have hi0 : (Try.prog.info? 78).map (·.size) = some R.size := by rw [hl]; exact info50
          have HH := Lib.hid (And.intro hb1 (And.intro hst (And.intro hth (And.intro hi0 (And.intro h1 hy2)))))
          clear Hr hb1 hb2 hyy hl hst hth hy2 hR hi0 h1
          go_wp2_with (first | (refine wpList_load_row rfl 78 _ rfl (w.heap.size + 1) rfl 78 R (0, 0) _ HH.out.1 Try.underlying78 rfl HH.out.2.2.2.1 ?_) | (refine wpList_store_mid rfl 78 _ _ rfl w.heap.size 0 R rfl rfl HH.out.2.2.1 HH.out.2.2.2.1 HH.out.2.2.2.2.1 ?_))
          refine bodyPost_ret (results_cell_row rfl _ _ w.heap.size 78 R (0, 0) _ rfl HH.out.2.1 Try.underlying78 rfl HH.out.2.2.2.1) rfl ⟨rfl, HH.out.2.2.2.2.2⟩
theorem words_any (A : Option Addr) (cap : Nat) (s : ByteArray) (w : World) (hs : StrAt w A 64 s) :
    Calls Try.prog 45 #[.slice A 64 cap] w fun e w' => e = .returned (.agg (row64 (sched s 64))) ∧ w.grownBy w' none :=
  words_row A cap s w hs _ (Lib.hid rfl)
end Go.Proofs.Ytdloapfifhelbaa
