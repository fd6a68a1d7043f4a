/-
  The document's 'are two results alike', at results that are the same number's.
-/
import Derived.Test.YtndmnnapjhjkmaaWorks
namespace Go.Proofs.Ytndmnnapjhjkmaa
open Go.RowKit iStrRes

set_option maxHeartbeats 400000 in
theorem size_nil (w : World) (n : Int) : Calls Try.prog 35 #[.pointer none, .int .i64 n] w fun e w' => e = .returned (.int .i64 n) ∧ w = w' := by
  go_enter Try.func35, Try.ntmps35
  go_wp2
  go_ret
  exact ⟨rfl, rfl⟩
set_option maxHeartbeats 400000 in
theorem size_leaf (w : World) (a k : Nat) (h : Blk w a 64 (tyCells k)) : Calls Try.prog 35 #[.pointer (some ⟨a, 0, none⟩), .int .i64 0] w fun e w' => e = .returned (.int .i64 1) ∧ w = w' := by
  have c3 : w.cell? ⟨a, 3, none⟩ = some (.slice none 0 0) := h.cell 3
  have c4 : w.cell? ⟨a, 4, none⟩ = some (.pointer none) := h.cell 4
  clear h
  go_enter Try.func35, Try.ntmps35
  go_wp2
  go_loopg [1, 5] 0 (fun m n i wr => n = .int .i64 1 ∧ i = .int .i64 0 ∧ wr = w ∧ m = 0)
  case atStart => exact ⟨rfl, rfl, rfl, rfl⟩
  case round =>
    obtain ⟨rfl, rfl, rfl, _⟩ := hrel
    go_wp2_with fail
    refine (size_nil wr 1).mono ?_
    rintro e w1 ⟨rfl, rfl⟩
    go_wp2
    go_ret
    exact ⟨rfl, rfl⟩
set_option maxHeartbeats 400000 in
theorem size_at (w : World) (a k : Nat) (h : Blk w a 64 (tyCells k)) : Calls Try.prog 33 #[.pointer (some ⟨a, 0, none⟩)] w fun e w' => e = .returned (.int .i64 1) ∧ w = w' := by
  have H := Lib.hid h
  clear h
  go_enter Try.func33, Try.ntmps33
  go_wp2_with fail
  refine (size_leaf w a k H.out).mono ?_
  rintro e w1 ⟨rfl, rfl⟩
  go_wp2
  go_ret
  exact ⟨rfl, rfl⟩
set_option maxRecDepth 100000 in
set_option maxHeartbeats 400000 in
theorem alike_nil (w : World) : Calls Try.prog 34 #[.pointer none, .pointer none] w fun e w' => e = .returned (.bool true) ∧ w = w' := by
  go_enter Try.func34, Try.ntmps34
  go_wp2
  go_ret
  exact ⟨rfl, rfl⟩
set_option maxRecDepth 100000 in
set_option maxHeartbeats 1000000 in
theorem alike_leaf (w : World) (a b k : Nat) (ha : Blk w a 64 (tyCells k)) (hb : Blk w b 64 (tyCells k)) : Calls Try.prog 34 #[.pointer (some ⟨a, 0, none⟩), .pointer (some ⟨b, 0, none⟩)] w fun e w' => e = .returned (.bool true) ∧ ∃ n, w' = w.drewN n := by
  have a0 : w.cell? ⟨a, 0, none⟩ = some (.int .i64 (k : Int)) := ha.cell 0
  have a1 : w.cell? ⟨a, 1, none⟩ = some (.string ⟨#[]⟩) := ha.cell 1
  have a2 : w.cell? ⟨a, 2, none⟩ = some (.slice none 0 0) := ha.cell 2
  have a3 : w.cell? ⟨a, 3, none⟩ = some (.slice none 0 0) := ha.cell 3
  have a4 : w.cell? ⟨a, 4, none⟩ = some (.pointer none) := ha.cell 4
  have b0 : w.cell? ⟨b, 0, none⟩ = some (.int .i64 (k : Int)) := hb.cell 0
  have b1 : w.cell? ⟨b, 1, none⟩ = some (.string ⟨#[]⟩) := hb.cell 1
  have b2 : w.cell? ⟨b, 2, none⟩ = some (.slice none 0 0) := hb.cell 2
  have b3 : w.cell? ⟨b, 3, none⟩ = some (.slice none 0 0) := hb.cell 3
  have b4 : w.cell? ⟨b, 4, none⟩ = some (.pointer none) := hb.cell 4
  clear ha hb
  obtain ⟨kk, hk⟩ : ∃ z : Int, z = (k : Int) := ⟨_, rfl⟩
  rw [← hk] at a0 b0
  clear hk
  go_enter Try.func34, Try.ntmps34
  go_wp2
  go_quiet ((go_at_call 34; exact Calls.quiet_of_same ((alike_nil _).mono (fun _ _ h => ⟨h.1, h.2.symm⟩))))
  go_wp2
  go_loopg [5] 0 (fun m i wr => i = .int .i64 0 ∧ wr = w.drewN nq ∧ m = 0)
  case atStart => exact ⟨rfl, rfl, rfl⟩
  case round =>
    obtain ⟨rfl, rfl, _⟩ := hrel
    go_wp2
    go_loopg [6] 0 (fun m i wr => i = .int .i64 0 ∧ wr = w.drewN nq ∧ m = 0)
    case atStart => exact ⟨rfl, rfl, rfl⟩
    case round =>
      obtain ⟨rfl, rfl, _⟩ := hrel
      go_wp2
      go_ret
      exact ⟨rfl, nq, rfl⟩
set_option maxRecDepth 100000 in
set_option maxHeartbeats 400000 in
theorem tsame_any (w : World) (a b k : Nat) (ha : Blk w a 64 (tyCells k)) (hb : Blk w b 64 (tyCells k)) : Calls Try.prog 32 #[.pointer (some ⟨a, 0, none⟩), .pointer (some ⟨b, 0, none⟩)] w fun e w' => e = .returned (.bool true) ∧ ∃ n, w' = w.drewN n := by
  have H := Lib.hid (And.intro ha hb)
  clear ha hb
  go_enter Try.func32, Try.ntmps32
  go_wp2_with fail
  refine (size_at w a k H.out.1).mono ?_
  rintro e w1 ⟨rfl, rfl⟩
  go_wp2_with fail
  refine (size_at w b k H.out.2).mono ?_
  rintro e w1 ⟨rfl, rfl⟩
  go_wp2_with fail
  refine (alike_leaf w a b k H.out.1 H.out.2).mono ?_
  rintro e w1 ⟨rfl, n, rfl⟩
  go_wp2
  go_ret
  exact ⟨rfl, n, rfl⟩

set_option maxRecDepth 100000 in
set_option maxHeartbeats 1000000 in
theorem diags_any (w : World) (d e : Option Addr × Nat × Nat) (n k g h : Nat) (hk : k ≤ 1000) (hd : Sl w 50 d k (rows (dcell n) k) g) (he : Sl w 50 e k (rows (dcell n) k) h) :
    Calls Try.prog 30 #[.slice d.1 d.2.1 d.2.2, .slice e.1 e.2.1 e.2.2] w fun e w' => e = .returned (.bool true) ∧ ∃ n, w' = w.drewN n := by
  obtain ⟨d1, d2, d3⟩ := d
  obtain ⟨e1, e2, e3⟩ := e
  obtain rfl : k = d2 := hd.n_.symm
  obtain rfl : k = e2 := he.n_.symm
  have H := Lib.hid (And.intro hd he)
  clear hd he
  go_enter Try.func30, Try.ntmps30
  go_wp2
  go_loopg [5] k (fun m i wr => ∃ j q : Nat, j ≤ k ∧ m = k - j ∧ i = .int .i64 (j : Nat) ∧ wr = w.drewN q)
  case atStart => exact ⟨0, 0, Nat.zero_le _, rfl, rfl, rfl⟩
  case round =>
    obtain ⟨j, q, hj, hm, rfl, rfl⟩ := hrel
    rcases Nat.lt_or_ge j k with hlt | hge
    · have hI : (j : Int) < (k : Int) := by omega
      have hI0 : (0 : Int) ≤ (j : Int) := by omega
      have hI4 : (k : Int) ≤ 1000 := by omega
      have hds := diag_same ⟨#[109]⟩ (n : Int) ((1 + j : Nat) : Int)
      obtain ⟨ed, pd⟩ := H.out.1.look (k := 3) (fun _ => rfl) hlt
      obtain ⟨ed2, pd2⟩ := H.out.2.look (k := 3) (fun _ => rfl) hlt
      have q0 : w.cell? ⟨g, j * 3, none⟩ = some (.string ⟨#[109]⟩) := pd 0 (by omega)
      have q1 : w.cell? ⟨g, j * 3 + 1, none⟩ = some (.int .i64 (n : Int)) := pd 1 (by omega)
      have q2 : w.cell? ⟨g, j * 3 + 2, none⟩ = some (.int .i64 ((1 + j : Nat) : Int)) := pd 2 (by omega)
      have q3 : w.cell? ⟨h, j * 3, none⟩ = some (.string ⟨#[109]⟩) := pd2 0 (by omega)
      have q4 : w.cell? ⟨h, j * 3 + 1, none⟩ = some (.int .i64 (n : Int)) := pd2 1 (by omega)
      have q5 : w.cell? ⟨h, j * 3 + 2, none⟩ = some (.int .i64 ((1 + j : Nat) : Int)) := pd2 2 (by omega)
      clear pd pd2
      dsimp only at ed ed2
      subst ed ed2
      generalize ((1 + j : Nat) : Int) = j1 at *
      go_wp2
      go_quiet (fail)
      go_wp2
      go_roundg (k - (j + 1))
      case measure => omega
      case rel => exact ⟨j + 1, _, by omega, rfl, by go_num, rfl⟩
    · obtain rfl : j = k := by omega
      have hI : ¬ ((j : Int) < (j : Int)) := by omega
      go_wp2
      go_ret
      exact ⟨rfl, q, rfl⟩

set_option maxRecDepth 100000 in
set_option maxHeartbeats 1000000 in
theorem exports_any (w : World) (d e : Option Addr × Nat × Nat) (k g h kind : Nat) (nm : Nat → ByteArray) (P Q : Nat → Nat) (f1 f2 : Nat → List Value) (hk : k ≤ 1000)
    (hf1 : ∀ i, f1 i = [.string (nm i), .pointer (some ⟨P i, 0, none⟩)]) (hf2 : ∀ i, f2 i = [.string (nm i), .pointer (some ⟨Q i, 0, none⟩)])
    (hd : Sl w 53 d k (rows f1 k) g) (he : Sl w 53 e k (rows f2 k) h)
    (hp : ∀ i, i < k → Blk w (P i) 64 (tyCells kind)) (hq : ∀ i, i < k → Blk w (Q i) 64 (tyCells kind)) :
    Calls Try.prog 31 #[.slice d.1 d.2.1 d.2.2, .slice e.1 e.2.1 e.2.2] w fun e w' => e = .returned (.bool true) ∧ ∃ n, w' = w.drewN n := by
  obtain ⟨d1, d2, d3⟩ := d
  obtain ⟨e1, e2, e3⟩ := e
  obtain rfl : k = d2 := hd.n_.symm
  obtain rfl : k = e2 := he.n_.symm
  have H := Lib.hid (And.intro hd (And.intro he (And.intro hp (And.intro hq (And.intro hf1 hf2)))))
  clear hd he hp hq hf1 hf2
  go_enter Try.func31, Try.ntmps31
  go_wp2
  go_loopg [5] k (fun m i wr => ∃ j q : Nat, j ≤ k ∧ m = k - j ∧ i = .int .i64 (j : Nat) ∧ wr = w.drewN q)
  case atStart => exact ⟨0, 0, Nat.zero_le _, rfl, rfl, rfl⟩
  case round =>
    obtain ⟨j, q, hj, hm, rfl, rfl⟩ := hrel
    rcases Nat.lt_or_ge j k with hlt | hge
    · have hI : (j : Int) < (k : Int) := by omega
      have hI0 : (0 : Int) ≤ (j : Int) := by omega
      have hI4 : (k : Int) ≤ 1000 := by omega
      obtain ⟨ed, pd⟩ := H.out.1.look (k := 2) (fun i => by rw [H.out.2.2.2.2.1 i]; rfl) hlt
      obtain ⟨ed2, pd2⟩ := H.out.2.1.look (k := 2) (fun i => by rw [H.out.2.2.2.2.2 i]; rfl) hlt
      rw [H.out.2.2.2.2.1 j] at pd
      rw [H.out.2.2.2.2.2 j] at pd2
      obtain ⟨W, hW⟩ : ∃ W, W = w.drewN q := ⟨_, rfl⟩
      rw [← hW]
      have q0 : W.cell? ⟨g, j * 2, none⟩ = some (.string (nm j)) := by rw [hW]; exact pd 0 (by omega)
      have q1 : W.cell? ⟨g, j * 2 + 1, none⟩ = some (.pointer (some ⟨P j, 0, none⟩)) := by rw [hW]; exact pd 1 (by omega)
      have q3 : W.cell? ⟨h, j * 2, none⟩ = some (.string (nm j)) := by rw [hW]; exact pd2 0 (by omega)
      have q4 : W.cell? ⟨h, j * 2 + 1, none⟩ = some (.pointer (some ⟨Q j, 0, none⟩)) := by rw [hW]; exact pd2 1 (by omega)
      have Hs := Lib.hid (fun m : Nat => tsame_any (W.drewN m) (P j) (Q j) kind (by rw [hW]; exact ((H.out.2.2.1 j hlt).drewN q).drewN m) (by rw [hW]; exact ((H.out.2.2.2.1 j hlt).drewN q).drewN m))
      have HW := Lib.hid hW
      clear pd pd2 hW
      dsimp only at ed ed2
      subst ed ed2
      generalize nm j = nj at *
      generalize P j = pj at *
      generalize Q j = qj at *
      go_wp2
      go_quiet ((go_at_call 32; exact Calls.quiet_of (Hs.out _)))
      go_wp2
      go_roundg (k - (j + 1))
      case measure => omega
      case rel => exact ⟨j + 1, q + nq, by omega, rfl, by go_num, by rw [HW.out, World.drewN_drewN]⟩
    · obtain rfl : j = k := by omega
      have hI : ¬ ((j : Int) < (j : Int)) := by omega
      go_wp2
      go_ret
      exact ⟨rfl, q, rfl⟩
end Go.Proofs.Ytndmnnapjhjkmaa
