/-
  The walks of 'Texts' (two lists that are one answer true) and of 'one'.
-/
import Derived.Test.YteidcneijjnkaaaBase
import Derived.Deep.LoopGhost
import Derived.BigQuiet
import Derived.Deep.QuietTactic
namespace Go.Proofs.Yteidcneijjnkaaa
open Go.RowKit

set_option maxHeartbeats 400000 in
theorem texts_same (va vb : Value) (l : List ByteArray) (w : World) (ha : Strs w va l) (hb : Strs w vb l) (hl : l.length ≤ 1000000000) :
    Calls Try.prog 9 #[va, vb] w fun e w' => e = .returned (.bool true) ∧ ∃ n, w.drewN n = w' := by
  obtain ⟨A, ca, rfl, ha1, ha2⟩ := ha
  obtain ⟨B, cb, rfl, hb1, hb2⟩ := hb
  go_enter Try.func9, Try.ntmps9
  go_wp2
  go_loopg [5] l.length (fun k i wr => ∃ (j n : Nat), i = .int .i64 j ∧ j ≤ l.length ∧ k = l.length - j ∧ wr = w.drewN n)
  case atStart => exact ⟨0, 0, rfl, by omega, by omega, rfl⟩
  case round =>
    obtain ⟨j, n, rfl, hj, hk, rfl⟩ := hrel
    by_cases hlt : j < l.length
    · obtain ⟨b, off, rfl, _, hc⟩ := ha2 (by omega)
      obtain ⟨b', off', rfl, _, hc'⟩ := hb2 (by omega)
      have c1 : (w.drewN n).cell? ⟨b, off + j, none⟩ = some (.string l[j]) := hc j hlt
      have c2 : (w.drewN n).cell? ⟨b', off' + j, none⟩ = some (.string l[j]) := hc' j hlt
      have hz : (0 : Int) ≤ (j : Int) := by omega
      have hlt' : (j : Int) < (l.length : Int) := by omega
      generalize l[j] = x at *
      generalize hw1 : w.drewN n = w1 at *
      have Hw := Lib.hid hw1
      have Hk := Lib.hid hk
      clear ha1 ha2 hb1 hb2 hc hc' hw1 hk
      go_wp2
      go_quiet (fail)
      go_wp2
      go_roundg (l.length - (j + 1))
      case measure => have := Hk.out; omega
      case rel => exact ⟨j + 1, n + nq, by go_num, by omega, rfl, by rw [← Hw.out, World.drewN_drewN]⟩
    · go_wp2
      go_ret
      exact ⟨rfl, n, rfl⟩

set_option maxHeartbeats 400000 in
theorem one_yes (v : Value) (x : ByteArray) (w : World) (h : Strs w v [x]) :
    Calls Try.prog 19 #[v, .string x] w fun e w' => e = .returned (.bool true) ∧ w = w' := by
  obtain ⟨A, ca, rfl, h1, h2⟩ := h
  obtain ⟨b, off, rfl, _, hc⟩ := h2 (by simp)
  have c1 : w.cell? ⟨b, off, none⟩ = some (.string x) := hc 0 (by simp)
  clear h1 h2 hc
  go_enter Try.func19, Try.ntmps19
  go_wp2
  go_ret
  exact ⟨rfl, rfl⟩

end Go.Proofs.Yteidcneijjnkaaa
