/-
  slices.IndexFunc at sessions, at a function value that only reads (and lays blocks of its own).
-/
import Derived.Test.YtdloapfifhelbaaOver
namespace Go.Proofs.Ytdloapfifhelbaa
open Go.RowKit

def idx (p : ByteArray × Nat → Bool) (l : List (ByteArray × Nat)) : Int := match l.findIdx? p with | some i => (i : Int) | none => -1
def PredOk (fid : Nat) (lb : Array Value) (p : ByteArray × Nat → Bool) (l : List (ByteArray × Nat)) (w : World) : Prop :=
  ∀ (W : World) (x : ByteArray × Nat), x ∈ l → w.grownBy W none → Calls Try.prog fid (#[.agg #[.string x.1, .int .u64 (x.2 : Int)]] ++ lb) W fun e w' => e = .returned (.bool (p x)) ∧ W.grownBy w' none

theorem idx_hit {p : ByteArray × Nat → Bool} {l : List (ByteArray × Nat)} {j : Nat} (hj : j < l.length) (hp : p l[j] = true) (hn : ∀ i (h : i < j), p (l[i]'(by omega)) = false) : idx p l = (j : Int) := by
  unfold idx
  have : l.findIdx? p = some j := by
    rw [List.findIdx?_eq_some_iff_getElem]
    exact ⟨hj, hp, fun i hi => by rw [hn i hi]; simp⟩
  rw [this]
theorem idx_none {p : ByteArray × Nat → Bool} {l : List (ByteArray × Nat)} (hn : ∀ i (h : i < l.length), p l[i] = false) : idx p l = -1 := by
  unfold idx
  have : l.findIdx? p = none := by
    rw [List.findIdx?_eq_none_iff]
    intro x hx
    obtain ⟨i, hi, rfl⟩ := List.getElem_of_mem hx
    exact hn i hi
  rw [this]

set_option maxRecDepth 100000 in
set_option maxHeartbeats 1000000 in
theorem index_any (fid : Nat) (lb : Array Value) (eg : ∀ args w, (callFunc fid args).run Try.prog w = .ok (.enter fid args) w) (p : ByteArray × Nat → Bool) (v : Value) (l : List (ByteArray × Nat)) (w : World) (hp : PredOk fid lb p l w) (hv : Lst w v l) (hl : l.length < 1000000) :
    Calls Try.prog 35 #[v, .func (.func fid) #[] lb] w fun e w' => e = .returned (.int .i64 (idx p l)) ∧ w.grownBy w' none := by
  obtain ⟨A, c, rfl, hc1, hc2, hA, _, hA2, _⟩ := hv.at_
  obtain ⟨n, hnn⟩ : ∃ n, n = l.length := ⟨_, rfl⟩
  rw [← hnn] at hv hl hc1 ⊢
  have H := Lib.hid (And.intro hp (And.intro hv (And.intro hnn (And.intro hA hA2))))
  clear hp hv hnn hA hA2
  go_enter Try.func35, Try.ntmps35
  go_wp2
  go_loopg [8] n (fun m i wr => ∃ j : Nat, j ≤ n ∧ m = n - j ∧ i = .int .i64 (j : Nat) ∧ w.grownBy wr none ∧ ∀ i (h : i < l.length), i < j → p l[i] = false)
  case atStart => exact ⟨0, Nat.zero_le _, rfl, rfl, by_refl _ _, fun i h hi => absurd hi (by omega)⟩
  case round =>
    obtain ⟨j, hj, hm, rfl, hy, hno⟩ := hrel
    have hI4 : (n : Int) ≤ 1000000 := by omega
    have hI0 : (0 : Int) ≤ (j : Int) := by omega
    rcases Nat.lt_or_ge j n with hlt | hge
    · have hjl : j < l.length := by rw [← H.out.2.2.1]; exact hlt
      have hI : (j : Int) < (n : Int) := by omega
      obtain ⟨g, rfl⟩ := H.out.2.2.2.2 (by omega)
      obtain ⟨x0, x1⟩ := Lst.cellAt H.out.2.1 j hjl
      have c0 : wr.cell? ⟨g, j * 2, none⟩ = some (.string l[j].1) := hy.cell x0 (by simp)
      have c1 : wr.cell? ⟨g, j * 2 + 1, none⟩ = some (.int .u64 (l[j].2 : Int)) := hy.cell x1 (by simp)
      have hcall := H.out.1 wr l[j] (List.getElem_mem hjl) hy
      have Hy := Lib.hid (And.intro hy (And.intro hno (And.intro hm hlt)))
      obtain ⟨tok, htok⟩ : ∃ tok, tok = l[j].1 := ⟨_, rfl⟩
      obtain ⟨t, htt⟩ : ∃ t, t = l[j].2 := ⟨_, rfl⟩
      rw [← htok] at c0 hcall
      rw [← htt] at c1 hcall
      clear x0 x1 hy hno hm hlt htok htt hj
      cases hq : p l[j] with
      | true =>
        rw [hq] at hcall
        have hfin : idx p l = (j : Int) := idx_hit hjl hq (fun i hi => Hy.out.2.1 i (by omega) hi)
        have Hfin := Lib.hid hfin
        have Hcall := Lib.hid hcall
        clear hq hfin hcall
        go_wp2_with (go_at_fn fid; refine Hcall.out.mono ?_; rintro e w' ⟨rfl, hb'⟩)
        go_ret
        exact ⟨by rw [Hfin.out]; rfl, by_trans Hy.out.1 hb' (by simp)⟩
      | false =>
        rw [hq] at hcall
        have Hq := Lib.hid hq
        have Hcall := Lib.hid hcall
        clear hq hcall
        go_wp2_with (go_at_fn fid; refine Hcall.out.mono ?_; rintro e w' ⟨rfl, hb'⟩)
        go_roundg (n - (j + 1))
        case measure => have h1 := Hy.out.2.2; omega
        case rel => exact ⟨j + 1, by have h1 := Hy.out.2.2.2; omega, rfl, by go_num, by_trans Hy.out.1 hb' (by simp), fun i h hi => by
          rcases Nat.lt_or_ge i j with h1 | h1
          · exact Hy.out.2.1 i h h1
          · obtain rfl : i = j := by omega
            exact Hq.out⟩
    · obtain rfl : j = n := by omega
      have hI : ¬ ((j : Int) < (j : Int)) := by omega
      have hfin : idx p l = -1 := idx_none fun i hi => hno i hi (by rw [H.out.2.2.1]; exact hi)
      have Hfin := Lib.hid (And.intro hfin hy)
      clear hfin hy hno
      go_wp2
      go_ret
      exact ⟨by rw [Hfin.out.1]; rfl, Hfin.out.2⟩
end Go.Proofs.Ytdloapfifhelbaa
