/-
  The walks of the reference's 'Feed' and 'Broken', and of both 'Pack's.
-/
import Derived.Test.YteidcneijjnkaaaAll
namespace Go.Proofs.Yteidcneijjnkaaa
open Go.RowKit

/-- What the reference's 'Feed' comes to: r is 'All' of the stream. -/
def RFed (w : World) (g : Nat) (st : ByteArray) (told : Nat) (r : List ByteArray × ByteArray × Bool) (e : Ending) (w' : World) : Prop :=
  ∃ v, e = .returned v ∧ Blk w' g 27 #[.string st, .int .i64 r.1.length] ∧ Strs w' v (r.1.drop told) ∧ v.ownBlock ≠ some g ∧ w.grownBy w' (some g) ∧ (∀ b, v.ownBlock = some b → w.heap.size ≤ b)

set_option maxHeartbeats 400000 in
theorem rfeed_walk (g told : Nat) (st s : ByteArray) (w : World) (hb : Blk w g 27 #[.string st, .int .i64 told]) (hs : st.size + s.size ≤ 1000000) (ht : told ≤ (cutB (st ++ s).size (st ++ s)).1.length) :
    Calls Try.prog 11 #[.pointer (some ⟨g, 0, none⟩), .string s] w (RFed w g (st ++ s) told (cutB (st ++ s).size (st ++ s))) := by
  have h0 : w.cell? ⟨g, 0, none⟩ = some (.string st) := hb.cell 0
  have h1 : w.cell? ⟨g, 1, none⟩ = some (.int .i64 told) := hb.cell 1
  have f0 : w.frozen? ⟨g, 0, none⟩ = false := hb.frozen 0
  have hsz : (st ++ s).size = st.size + s.size := by simp
  have H := all_walk (st ++ s) (w.setCell ⟨g, 0, none⟩ (.string (st ++ s))) (by omega)
  have hb1 : Blk (w.setCell ⟨g, 0, none⟩ (.string (st ++ s))) g 27 #[.string (st ++ s), .int .i64 told] := hb.set_ 0 _
  have g1 : w.grownBy (w.setCell ⟨g, 0, none⟩ (.string (st ++ s))) (some g) := by_set (by_refl _ _) (.inl rfl) _
  generalize cutB (st ++ s).size (st ++ s) = r at *
  have HH := Lib.hid (And.intro hb (And.intro hsz (And.intro hb1 g1)))
  clear hb hsz hb1 g1
  go_enter Try.func11, Try.ntmps11
  go_wp2_with fail
  refine H.mono ?_
  rintro e w2 ⟨v, rfl, hown, hby⟩
  obtain ⟨hb, hsz, hb1, g1⟩ := HH.out
  have hb2 := hb1.grown hby (by simp)
  have hne : v.ownBlock ≠ some g := own_blk_ne hown hb2 (by decide)
  have hlt := World.ownsRow.lt hown
  have hst := Strs.of_own hown
  obtain ⟨A, n, cap, rfl, hn, hcap, hst2⟩ := hst.cut_ told ht
  have c1 : w2.cell? ⟨g, 1, none⟩ = some (.int .i64 told) := hb2.cell 1
  have f1 : w2.frozen? ⟨g, 1, none⟩ = false := hb2.frozen 1
  have hz : ∀ w, (Go.sizeOf 9).run Try.prog w = .ok 1 w := fun _ => by kernel_rfl
  have hsl : ∀ W, (Instr.slice 22 (.slice A n cap) (some (.int .i64 told)) none none).run Try.prog W = .ok (.slice (if cap = told then A else A.map (·.add told)) (n - told) (cap - told)) W := fun W => by
    rw [run_slice_l W 22 _ _ _ rfl .i64 _ (by omega) (by omega)]
    have : Try.prog.elem 22 = 9 := by kernel_rfl
    rw [this, hz]
    simp [Result.andThen, sliced]
  generalize hA : (if cap = told then A else A.map (·.add told)) = A' at *
  have hob : (Value.slice A' (n - told) (cap - told)).ownBlock = (Value.slice A n cap).ownBlock := by
    rw [← hA]
    cases A with
    | none => split <;> rfl
    | some a => split <;> simp [Value.ownBlock, Addr.add]; split <;> rfl
  have hfin : RFed w g (st ++ s) told r (.returned (.slice A' (n - told) (cap - told))) (w2.setCell ⟨g, 1, none⟩ (.int .i64 n)) := by
    have g2 : w2.grownBy (w2.setCell ⟨g, 1, none⟩ (.int .i64 n)) (some g) := by_set (by_refl _ _) (.inl rfl) _
    refine ⟨_, rfl, by rw [← hn]; exact hb2.set_ 1 _, hst2.grown g2 (.inr (by rw [hob]; exact hne)), by rw [hob]; exact hne, ?_, fun b hb => ?_⟩
    · exact by_trans (by_trans g1 hby (fun x hx => by cases hx)) g2 (fun x hx => .inl hx.symm)
    · rw [hob] at hb
      have := (hlt b hb).1
      simpa [World.setCell] using this
  have Hfin := Lib.hid hfin
  clear hb hsz hb1 g1 hst hst2 hfin hz hne hlt hown hA hn
  go_wp2
  go_ret
  exact Hfin.out

set_option maxHeartbeats 400000 in
theorem rbroken_walk (g : Nat) (st : ByteArray) (x : Value) (w : World) (hb : Blk w g 27 #[.string st, x]) (hs : st.size ≤ 1000000) :
    Calls Try.prog 13 #[.pointer (some ⟨g, 0, none⟩)] w fun e w' => e = .returned (.bool (cutB st.size st).2.2) ∧ w.grownBy w' none := by
  have h0 : w.cell? ⟨g, 0, none⟩ = some (.string st) := hb.cell 0
  have H := all_walk st w hs
  generalize cutB st.size st = r at *
  go_enter Try.func13, Try.ntmps13
  go_wp2_with fail
  refine H.mono ?_
  rintro e w2 ⟨v, rfl, hown, hby⟩
  go_wp2
  go_ret
  exact ⟨rfl, hby⟩

theorem two_bytes (W : World) (x y : Nat) (hx : x < 256) (hy : y < 256) (c : Nat) :
    (convert 36 9 (.slice (some ⟨W.heap.size, 0, none⟩) 2 c)).run Try.prog (W.alloc (.cells #[.int .u8 (x : Int), .int .u8 (y : Int)] 5)) = .ok (.string ⟨#[x.toUInt8, y.toUInt8]⟩) (W.alloc (.cells #[.int .u8 (x : Int), .int .u8 (y : Int)] 5)) := by
  refine conv_str _ 36 5 9 Try.underlying36 Try.underlying5 Try.underlying9 _ _ _ _ ⟨rfl, fun _ => ⟨_, 0, rfl, by simp, fun j hj => ?_⟩⟩
  have hb := Blk.new W 5 #[.int .u8 (x : Int), .int .u8 (y : Int)]
  rw [hb.cell]
  have hj2 : j < 2 := hj
  rcases (show j = 0 ∨ j = 1 by omega) with rfl | rfl
  · simp [ByteArray.getElem_eq_getElem_data]; omega
  · simp [ByteArray.getElem_eq_getElem_data]; omega

theorem not_empty_of (s : ByteArray) (h : 1 ≤ s.size) : s.toList.isEmpty = false := by
  cases h0 : s.toList.isEmpty with
  | false => rfl
  | true =>
    rw [ByteArray.toList_eq, List.isEmpty_iff] at h0
    have : s.data.size = 0 := by rw [Array.toList_eq_nil_iff.1 h0]; rfl
    have h1 : s.data.size = s.size := rfl
    omega

/-- The frame of a body. -/
def packed (s : ByteArray) : ByteArray := ⟨#[(s.size / 256).toUInt8, (s.size % 256).toUInt8]⟩ ++ s

set_option maxHeartbeats 400000 in
theorem pack_ok (s : ByteArray) (w : World) (h : 1 ≤ s.size) (h2 : s.size ≤ 8192) :
    Calls Try.prog 15 #[.string s] w fun e w' => e = .returned (.tuple #[.string (packed s), .int .i64 0]) ∧ w.grownBy w' none := by
  have kc := two_bytes w (s.size / 256) (s.size % 256) (by omega) (by omega) 2
  have e1 : ((s.size / 256 : Nat) : Int) = (s.size : Int) / 256 := by omega
  have e2 : ((s.size % 256 : Nat) : Int) = (s.size : Int) % 256 := by omega
  rw [e1, e2] at kc
  clear e1 e2
  go_enter Try.func15, Try.ntmps15
  go_wp2
  go_ret2
  exact ⟨rfl, by_alloc (by_refl _ _) _⟩

set_option maxHeartbeats 400000 in
theorem pack_none (s : ByteArray) (w : World) (h : s.size = 0) :
    Calls Try.prog 15 #[.string s] w fun e w' => e = .returned (.tuple #[.string ⟨#[]⟩, .int .i64 2]) ∧ w = w' := by
  go_enter Try.func15, Try.ntmps15
  go_wp2
  go_ret2
  exact ⟨rfl, rfl⟩

set_option maxHeartbeats 400000 in
theorem pack_long (s : ByteArray) (w : World) (h : 8192 < s.size) (h2 : s.size ≤ 9223372036854775807) :
    Calls Try.prog 15 #[.string s] w fun e w' => e = .returned (.tuple #[.string ⟨#[]⟩, .int .i64 3]) ∧ w = w' := by
  go_enter Try.func15, Try.ntmps15
  go_wp2
  go_ret2
  exact ⟨rfl, rfl⟩

set_option maxHeartbeats 400000 in
theorem rpack_ok (s : ByteArray) (w : World) (h : 1 ≤ s.size) (h2 : s.size ≤ 8192) :
    Calls Try.prog 16 #[.string s] w fun e w' => e = .returned (.tuple #[.string (packed s), .int .i64 0]) ∧ w.grownBy w' none := by
  have kc := two_bytes w (s.size / 256) (s.size % 256) (by omega) (by omega) 2
  have e1 : ((s.size / 256 : Nat) : Int) = (s.size : Int) / 256 := by omega
  have e2 : ((s.size % 256 : Nat) : Int) = (s.size : Int) % 256 := by omega
  rw [e1, e2] at kc
  clear e1 e2
  have hne : s.toList.isEmpty = false := not_empty_of s (by omega)
  go_enter Try.func16, Try.ntmps16
  go_wp2
  go_ret2
  exact ⟨rfl, by_alloc (by_refl _ _) _⟩

set_option maxHeartbeats 400000 in
theorem rpack_none (s : ByteArray) (w : World) (h : s.size = 0) :
    Calls Try.prog 16 #[.string s] w fun e w' => e = .returned (.tuple #[.string ⟨#[]⟩, .int .i64 2]) ∧ w = w' := by
  have hne : s.toList.isEmpty = true := by rw [ByteArray.toList_eq, List.isEmpty_iff]; exact Array.toList_eq_nil_iff.2 (Array.eq_empty_of_size_eq_zero h)
  go_enter Try.func16, Try.ntmps16
  go_wp2
  go_ret2
  exact ⟨rfl, rfl⟩

set_option maxHeartbeats 400000 in
theorem rpack_long (s : ByteArray) (w : World) (h : 8192 < s.size) (h2 : s.size ≤ 9223372036854775807) :
    Calls Try.prog 16 #[.string s] w fun e w' => e = .returned (.tuple #[.string ⟨#[]⟩, .int .i64 3]) ∧ w = w' := by
  have hne : s.toList.isEmpty = false := not_empty_of s (by omega)
  go_enter Try.func16, Try.ntmps16
  go_wp2
  go_ret2
  exact ⟨rfl, rfl⟩
end Go.Proofs.Yteidcneijjnkaaa
