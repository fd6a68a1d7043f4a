/-
  A reader: the walks of NewReader, cut, OK, End.
-/
import Derived.Test.YtlnlpphhnbodpaaPut
namespace Go.Proofs.Ytlnlpphhnbodpaa
open Go.RowKit

/-- a reader at a place: what is ahead, and is it spent -/
def Rd (w : World) (r : Nat) (s : ByteArray) (bad : Bool) : Prop :=
  ∃ A c, s.size ≤ c ∧ Blk w r 49 #[.slice A s.size c, .bool bad] ∧ StrAt w A s.size s ∧ A.map (·.block) ≠ some r ∧ (A = none → s.size = 0)

section
variable {w w' : World} {r : Nat} {s : ByteArray} {bad : Bool}
theorem StrAt.by_ {A : Option Addr} {n : Nat} {row : Option Nat} (h : StrAt w A n s) (hg : w.grownBy w' row) (hr : ∀ g, row = some g → A.map (·.block) ≠ some g) : StrAt w' A n s := by
  refine ⟨h.1, fun hn => ?_⟩
  obtain ⟨b, off, rfl, hb, hc⟩ := h.2 hn
  refine ⟨b, off, rfl, Nat.lt_of_lt_of_le hb hg.size, fun j hj => ?_⟩
  exact hg.cell (hc j hj) (fun e => hr b e.symm rfl)
theorem Rd.by_ (h : Rd w r s bad) (hg : w.grownBy w' none) : Rd w' r s bad := by
  obtain ⟨A, c, h1, h2, h3, h4, h5⟩ := h
  exact ⟨A, c, h1, h2.grown hg (by simp), h3.by_ hg (by simp), h4, h5⟩
theorem StrAt.put {A : Option Addr} {n D : Nat} {o o' : Obj} (h : StrAt w A n s) (hD : w.heap[D]? = some o) (ho : o.isCells = false) : StrAt (w.putObj D o') A n s := by
  refine ⟨h.1, fun hn => ?_⟩
  obtain ⟨b, off, rfl, hb, hc⟩ := h.2 hn
  have hg := grownBy_putObj' w D o'
  refine ⟨b, off, rfl, Nat.lt_of_lt_of_le hb hg.size, fun j hj => ?_⟩
  refine hg.cell (hc j hj) (fun e => ?_)
  have h1 := hc j hj
  injection e with e
  dsimp only at e
  subst e
  unfold World.cell? at h1
  simp only [hD] at h1
  cases o <;> simp [Obj.isCells] at ho h1
theorem Rd.put {D : Nat} {o o' : Obj} (h : Rd w r s bad) (hD : w.heap[D]? = some o) (ho : o.isCells = false) : Rd (w.putObj D o') r s bad := by
  obtain ⟨A, c, h1, h2, h3, h4, h5⟩ := h
  refine ⟨A, c, h1, h2.grown (grownBy_putObj' w D o') (fun e => ?_), h3.put hD ho, h4, h5⟩
  injection e with e
  subst e
  rw [show w.heap[r]? = _ from h2] at hD
  injection hD with hD
  subst hD
  simp [Obj.isCells] at ho
theorem Rd.lt (h : Rd w r s bad) : r < w.heap.size := by obtain ⟨A, c, h1, h2, h3, h4, h5⟩ := h; exact h2.lt
end

set_option maxHeartbeats 400000 in
theorem ok_any (w : World) (r : Nat) (s : ByteArray) (bad : Bool) (h : Rd w r s bad) :
    Calls Try.prog 18 #[.pointer (some ⟨r, 0, none⟩)] w fun e w' => e = .returned (.bool (!bad)) ∧ w = w' := by
  obtain ⟨A, c, h1, h2, h3, h4, h5⟩ := h
  have c1 : w.cell? ⟨r, 1, none⟩ = some (.bool bad) := h2.cell 1
  clear h1 h2 h3 h4 h5
  go_enter Try.func18, Try.ntmps18
  go_wp2
  go_ret
  exact ⟨rfl, rfl⟩
set_option maxHeartbeats 400000 in
theorem ok_nil (w : World) : Calls Try.prog 18 #[.pointer none] w fun e w' => e = .returned (.bool false) ∧ w = w' := by
  go_enter Try.func18, Try.ntmps18
  go_wp2
  go_ret
  exact ⟨rfl, rfl⟩
set_option maxHeartbeats 400000 in
theorem end_any (w : World) (r : Nat) (s : ByteArray) (bad : Bool) (h : Rd w r s bad) :
    Calls Try.prog 20 #[.pointer (some ⟨r, 0, none⟩)] w fun e w' => e = .returned (.bool (!bad && decide (s.size = 0))) ∧ w = w' := by
  have hh := h
  obtain ⟨A, c, h1, h2, h3, h4, h5⟩ := h
  have c0 : w.cell? ⟨r, 0, none⟩ = some (.slice A s.size c) := h2.cell 0
  have H := Lib.hid hh
  clear h1 h2 h3 h4 h5 hh
  have hd : ((s.size : Int) == 0) = decide (s.size = 0) := by
    rw [Bool.eq_iff_iff]; simp
  cases bad with
  | true =>
    go_enter Try.func20, Try.ntmps20
    go_wp2_with fail
    refine (ok_any w r s _ H.out).mono ?_
    rintro e w1 ⟨rfl, rfl⟩
    go_wp2
    go_ret
    exact ⟨rfl, rfl⟩
  | false =>
    go_enter Try.func20, Try.ntmps20
    go_wp2_with fail
    refine (ok_any w r s _ H.out).mono ?_
    rintro e w1 ⟨rfl, rfl⟩
    go_wp2
    go_ret
    exact ⟨by simp, rfl⟩
set_option maxHeartbeats 400000 in
theorem end_nil (w : World) : Calls Try.prog 20 #[.pointer none] w fun e w' => e = .returned (.bool false) ∧ w = w' := by
  go_enter Try.func20, Try.ntmps20
  go_wp2_with fail
  refine (ok_nil w).mono ?_
  rintro e w1 ⟨rfl, rfl⟩
  go_wp2
  go_ret
  exact ⟨rfl, rfl⟩

theorem addr_add (b off i : Nat) : (⟨b, off, none⟩ : Addr).add i = ⟨b, off + i, none⟩ := by unfold Addr.add; split <;> simp_all
theorem addr_add_block (a : Addr) (i : Nat) : (a.add i).block = a.block := by unfold Addr.add; split <;> simp_all

/-- so many bytes cut off a slice that reads as a string -/
theorem slice_cut (A : Option Addr) (n c k : Nat) (hk : k ≤ n) (hn : n ≤ c) : ∃ A1 A2 : Option Addr,
    (∀ W, (Instr.slice 45 (.slice A n c) none (some (.int .u64 (k : Int))) (some (.int .u64 (k : Int)))).run Try.prog W = .ok (.slice A1 k k) W) ∧
    (∀ W, (Instr.slice 45 (.slice A n c) (some (.int .u64 (k : Int))) none none).run Try.prog W = .ok (.slice A2 (n - k) (c - k)) W) ∧
    (∀ W s, StrAt W A n s → StrAt W A1 k (s.extract 0 k) ∧ StrAt W A2 (n - k) (s.extract k s.size)) ∧ A1.map (·.block) = A.map (·.block) ∧ A2.map (·.block) = A.map (·.block) := by
  have hz : ∀ w, (Go.sizeOf 5).run Try.prog w = .ok 1 w := fun _ => by kernel_rfl
  have he : Try.prog.elem 45 = 5 := by kernel_rfl
  have hb : ∀ i, (A.map (·.add i)).map (·.block) = A.map (·.block) := by intro i; cases A <;> simp [addr_add_block]
  refine ⟨if k = 0 then A else A.map (·.add 0), if c = k then A else A.map (·.add k), fun W => ?_, fun W => ?_, fun W s h => ⟨⟨?_, fun hp => ?_⟩, ⟨?_, fun hp => ?_⟩⟩, ?_, ?_⟩
  · rw [run_slice_hm W 45 _ _ _ rfl .u64 .u64 _ _ (by omega) (by omega) (by omega), he, hz]
    simp [Result.andThen, sliced]
  · rw [run_slice_l W 45 _ _ _ rfl .u64 _ (by omega) (by omega), he, hz]
    simp [Result.andThen, sliced]
  · rw [ext_size _ _ _ (by rw [h.1]; omega)]; omega
  · obtain ⟨b, off, rfl, hb, hc⟩ := h.2 (by omega)
    refine ⟨b, off, by rw [if_neg (by omega), Option.map_some, addr_add]; rfl, hb, fun j hj => ?_⟩
    have hj' : 0 + j < s.size := by rw [ext_size _ _ _ (by rw [h.1]; omega)] at hj; rw [h.1]; omega
    rw [ext_get _ _ _ _ hj hj']
    have := hc (0 + j) hj'
    simpa using this
  · rw [ext_size _ _ _ (Nat.le_refl _), h.1]
  · obtain ⟨b, off, rfl, hb, hc⟩ := h.2 (by omega)
    refine ⟨b, off + k, by rw [if_neg (by omega), Option.map_some, addr_add], hb, fun j hj => ?_⟩
    have hj' : k + j < s.size := by rw [ext_size _ _ _ (Nat.le_refl _)] at hj; omega
    rw [ext_get _ _ _ _ hj hj', Nat.add_assoc]
    exact hc (k + j) hj'
  · split
    · rfl
    · exact hb 0
  · split
    · rfl
    · exact hb k

theorem ext_full (s : ByteArray) : s.extract s.size s.size = ⟨#[]⟩ := by
  apply ByteArray.ext
  apply Array.eq_empty_of_size_eq_zero
  have := ext_size s s.size s.size (Nat.le_refl _)
  rw [Nat.sub_self] at this
  exact this

def CutQ (w : World) (r : Nat) (s : ByteArray) (bad : Bool) (k : Nat) (e : Ending) (w' : World) : Prop :=
  w.grownBy w' (some r) ∧
  if k ≤ s.size then ∃ A, e = .returned (.tuple #[.slice A k k, .bool true]) ∧ StrAt w' A k (s.extract 0 k) ∧ A.map (·.block) ≠ some r ∧ Rd w' r (s.extract k s.size) bad
  else e = .returned (.tuple #[.slice none 0 0, .bool false]) ∧ Rd w' r ⟨#[]⟩ true

theorem rd_spent {w : World} {r : Nat} {v : Value} {b : Bool} (h : Blk w r 49 #[v, .bool b]) : Rd ((w.setCell ⟨r, 0, none⟩ (.slice none 0 0)).setCell ⟨r, 1, none⟩ (.bool true)) r ⟨#[]⟩ true := by
  refine ⟨none, 0, Nat.le_refl _, ?_, ⟨rfl, fun h0 => absurd h0 (by decide)⟩, by simp, fun _ => rfl⟩
  have := (h.set_ 0 (.slice none 0 0)).set_ 1 (.bool true)
  exact this

set_option maxHeartbeats 1000000 in
theorem cut_any (w : World) (r : Nat) (s : ByteArray) (bad : Bool) (k : Nat) (h : Rd w r s bad) (hs : s.size ≤ 140737488355328) (_hk : k ≤ 18446744073709551615) :
    Calls Try.prog 25 #[.pointer (some ⟨r, 0, none⟩), .int .u64 (k : Int)] w (CutQ w r s bad k) := by
  obtain ⟨A, c, h1, h2, h3, h4, h5⟩ := h
  have c0 : w.cell? ⟨r, 0, none⟩ = some (.slice A s.size c) := h2.cell 0
  have c1 : w.cell? ⟨r, 1, none⟩ = some (.bool bad) := h2.cell 1
  have f0 : w.frozen? ⟨r, 0, none⟩ = false := h2.frozen 0
  have f1 : w.frozen? ⟨r, 1, none⟩ = false := h2.frozen 1
  by_cases hk : k ≤ s.size
  · obtain ⟨A1, A2, s1, s2, s3, s4, s5⟩ := slice_cut A s.size c k hk h1
    obtain ⟨t1, t2⟩ := s3 w s h3
    have hby : w.grownBy (w.setCell ⟨r, 0, none⟩ (.slice A2 (s.size - k) (c - k))) (some r) := by_set (by_refl w (some r)) (.inl rfl) _
    have es := ext_size s k s.size (Nat.le_refl _)
    have hfin : CutQ w r s bad k (.returned (.tuple #[.slice A1 k k, .bool true])) (w.setCell ⟨r, 0, none⟩ (.slice A2 (s.size - k) (c - k))) := by
      refine ⟨hby, ?_⟩
      rw [if_pos hk]
      refine ⟨A1, rfl, t1.by_ hby (by intro g hg; cases hg; rw [s4]; exact h4), by rw [s4]; exact h4, A2, c - k, by rw [es]; omega, ?_, ?_, by rw [s5]; exact h4, fun hA => ?_⟩
      · rw [es]
        have := h2.set_ 0 (.slice A2 (s.size - k) (c - k))
        simpa using this
      · rw [es]; exact t2.by_ hby (by intro g hg; cases hg; rw [s5]; exact h4)
      · have h0 : A = none := by
          cases A with
          | none => rfl
          | some a => rw [hA] at s5; cases s5
        have := h5 h0
        rw [es]; omega
    have Hfin := Lib.hid hfin
    have hk2 : ¬ (s.size < k) := by omega
    have hk3 : (k : Int) ≤ (s.size : Int) := by omega
    clear hfin h1 h2 h3 h4 h5 t1 t2 s3 s4 s5 hby es
    go_enter Try.func25, Try.ntmps25
    go_wp2
    go_ret2
    exact Hfin.out
  · have hfin : CutQ w r s bad k (.returned (.tuple #[.slice none 0 0, .bool false])) ((w.setCell ⟨r, 0, none⟩ (.slice none 0 0)).setCell ⟨r, 1, none⟩ (.bool true)) := by
      refine ⟨by_set (by_set (by_refl w (some r)) (.inl rfl) _) (.inl rfl) _, ?_⟩
      rw [if_neg hk]
      exact ⟨rfl, rd_spent h2⟩
    have Hfin := Lib.hid hfin
    have hk2 : s.size < k := by omega
    have hk3 : (s.size : Int) < (k : Int) := by omega
    clear hfin h1 h2 h3 h4 h5
    go_enter Try.func25, Try.ntmps25
    go_wp2
    go_ret2
    exact Hfin.out

theorem cut_yes (w : World) (r : Nat) (s : ByteArray) (bad : Bool) (k : Nat) (h : Rd w r s bad) (hs : s.size ≤ 140737488355328) (hk : k ≤ s.size) :
    Calls Try.prog 25 #[.pointer (some ⟨r, 0, none⟩), .int .u64 (k : Int)] w fun e w' => ∃ A, e = .returned (.tuple #[.slice A k k, .bool true]) ∧ w.grownBy w' (some r) ∧ StrAt w' A k (s.extract 0 k) ∧ A.map (·.block) ≠ some r ∧ Rd w' r (s.extract k s.size) bad := by
  refine (cut_any w r s bad k h hs (by omega)).mono fun e w' ⟨h1, h2⟩ => ?_
  rw [if_pos hk] at h2
  obtain ⟨A, k1, k2, k3, k4⟩ := h2
  exact ⟨A, k1, h1, k2, k3, k4⟩
theorem cut_no (w : World) (r : Nat) (s : ByteArray) (bad : Bool) (k : Nat) (h : Rd w r s bad) (hs : s.size ≤ 140737488355328) (hk : s.size < k) (hk2 : k ≤ 18446744073709551615) :
    Calls Try.prog 25 #[.pointer (some ⟨r, 0, none⟩), .int .u64 (k : Int)] w fun e w' => e = .returned (.tuple #[.slice none 0 0, .bool false]) ∧ w.grownBy w' (some r) ∧ Rd w' r ⟨#[]⟩ true := by
  refine (cut_any w r s bad k h hs hk2).mono fun e w' ⟨h1, h2⟩ => ?_
  rw [if_neg (by omega)] at h2
  exact ⟨h2.1, h1, h2.2⟩
end Go.Proofs.Ytlnlpphhnbodpaa
