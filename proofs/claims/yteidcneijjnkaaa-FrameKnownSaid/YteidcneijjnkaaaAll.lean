/-
  The walks of the reference: 'All', 'Feed', 'Broken'; and of 'Feed' of a cutter that is broken, or none.
-/
import Derived.Test.YteidcneijjnkaaaFeed
namespace Go.Proofs.Yteidcneijjnkaaa
open Go.RowKit

set_option maxHeartbeats 400000 in
theorem feed_nil (s : ByteArray) (w : World) :
    Calls Try.prog 10 #[.pointer none, .string s] w fun e w' => e = .returned (.slice none 0 0) ∧ w.grownBy w' none := by
  go_enter Try.func10, Try.ntmps10
  go_wp2
  go_ret
  exact ⟨rfl, by_alloc (by_refl _ _) _⟩

set_option maxHeartbeats 400000 in
theorem feed_broken (g : Nat) (l s : ByteArray) (w : World) (hb : Blk w g 39 #[.string l, .bool true]) :
    Calls Try.prog 10 #[.pointer (some ⟨g, 0, none⟩), .string s] w fun e w' => e = .returned (.slice none 0 0) ∧ w.grownBy w' none := by
  have h1 : w.cell? ⟨g, 1, none⟩ = some (.bool true) := hb.cell 1
  have hlt := hb.lt
  go_enter Try.func10, Try.ntmps10
  go_wp2
  go_ret
  exact ⟨rfl, by_alloc (by_refl _ _) _⟩

structure AllRel (w0 : World) (K : Nat) (s : ByteArray) (k : Nat) (v i : Value) (wr : World) (at_ : Nat) (done : List ByteArray) : Prop where
  slot : i = .int .i64 at_
  le : at_ ≤ s.size
  eq : cutB K s = (done ++ (cutB k (s.extract at_ s.size)).1, (cutB k (s.extract at_ s.size)).2)
  size : s.size - at_ ≤ k
  many : done.length ≤ at_
  own : wr.ownsRow (w0.heap.size) 9 1 v done.length (done.map .string)
  by_ : w0.grownBy wr none

theorem hd_ext (s : ByteArray) (a i : Nat) (h : a + i < s.size) : hd (s.extract a s.size) i = hd s (a + i) := by
  have h1 : i < (s.extract a s.size).size := by rw [ext_size _ _ _ (Nat.le_refl _)]; omega
  have e1 := hd_eq (s.extract a s.size) i h1
  have e2 := hd_eq s (a + i) h
  rw [ext_get _ _ _ _ h1 h] at e1
  omega

/-- What 'All' comes to. -/
def Alls (w : World) (r : List ByteArray × ByteArray × Bool) (e : Ending) (w' : World) : Prop :=
  ∃ v, e = .returned (.tuple #[v, .bool r.2.2]) ∧ w'.ownsRow w.heap.size 9 1 v r.1.length (r.1.map .string) ∧ w.grownBy w' none

theorem alls_of {w0 wr : World} {K k : Nat} {s : ByteArray} {v i : Value} {at_ : Nat} {done : List ByteArray} {x : ByteArray} {b : Bool} (h : AllRel w0 K s k v i wr at_ done)
    (hc : cutB k (s.extract at_ s.size) = ([], x, b)) (n : Nat) : Alls w0 (cutB K s) (.returned (.tuple #[v, .bool b])) (wr.drewN n) := by
  have he := h.eq
  rw [hc] at he
  rw [he]
  exact ⟨v, rfl, own_drewN (by simpa using h.own) n, by_drewN h.by_ n⟩

set_option maxHeartbeats 400000 in
theorem all_walk (s : ByteArray) (w : World) (hs : s.size ≤ 1000000) :
    Calls Try.prog 18 #[.string s] w (Alls w (cutB s.size s)) := by
  go_enter Try.func18, Try.ntmps18
  go_wp2
  go_loopg [4, 5] (s.size) (fun k v i wr => ∃ at_ done, AllRel w s.size s k v i wr at_ done)
  case atStart => exact ⟨0, [], ⟨rfl, by omega, by simp, by omega, by simp, World.ownsRow_nil _ _ _ _, by_refl _ _⟩⟩
  case round =>
    obtain ⟨k, done, hr⟩ := hrel
    obtain rfl := hr.slot
    have hle := hr.le
    have hes := ext_size s k s.size (Nat.le_refl _)
    have Hr := Lib.hid hr
    have Hes := Lib.hid hes
    clear hr hes
    by_cases hlt : s.size < k + 2
    · have Hc := Lib.hid (alls_of Hr.out (cut_short (by rw [Hes.out]; omega)))
      go_wp2
      go_ret2
      exact Hc.out 0
    · have hge : k + 2 ≤ s.size := by omega
      have hx0 : ∀ W, (Instr.index 9 (.string s) (.int .i64 k)).run Try.prog W = .ok (.int .u8 (hd s k : Int)) W := fun W => by
        rw [run_index_string W 9 s .i64 k Try.underlying9, dif_pos ⟨by omega, by omega⟩]; rw [hd_eq]; rfl
      have hx1 : ∀ W, (Instr.index 9 (.string s) (.int .i64 (k + 1))).run Try.prog W = .ok (.int .u8 (hd s (k + 1) : Int)) W := fun W => by
        rw [run_index_string W 9 s .i64 (k + 1) Try.underlying9, dif_pos ⟨by omega, by omega⟩]
        have : ((k : Int) + 1).toNat = k + 1 := by omega
        simp only [this]
        rw [hd_eq]
      have hd0 := hd_lt s k
      have hd1 := hd_lt s (k + 1)
      have Hm : Hid (hd s k * 256 + hd s (k + 1) = nOf (s.extract k s.size)) := by
        unfold nOf
        rw [hd_ext _ _ _ (by omega), hd_ext _ _ _ (by omega)]
        rfl
      generalize hd s k = a at *
      generalize hd s (k + 1) = b at *
      have hk : ∃ q, gk = q + 1 := ⟨gk - 1, by have := Hr.out.size; omega⟩
      have hwr : IntKind.i64.wrap ((k : Int) + 1) = k + 1 := by rw [IntKind.wrap_i64]; omega
      by_cases hbad : a * 256 + b < 1 ∨ 8192 < a * 256 + b
      · have Hc : Hid (cutB gk (s.extract k s.size) = ([], ⟨#[]⟩, true)) := by
          obtain ⟨q, rfl⟩ := hk
          exact cut_bad (by rw [Hes.out]; omega) (by rw [← Hm.out]; exact hbad)
        clear hk
        rcases hbad with hbad | hbad
        all_goals
          go_wp2
          go_quiet (fail)
          go_wp2
          go_ret2
          exact alls_of Hr.out Hc.out _
      · by_cases hw : s.size < k + 2 + (a * 256 + b)
        · have Hc : Hid (cutB gk (s.extract k s.size) = ([], s.extract k s.size, false)) := by
            obtain ⟨q, rfl⟩ := hk
            exact cut_wait (by rw [Hes.out]; omega) (by rw [← Hm.out]; exact hbad) (by rw [← Hm.out, Hes.out]; omega)
          clear hk
          go_wp2
          go_quiet (fail)
          go_wp2
          go_ret2
          exact alls_of Hr.out Hc.out _
        · have g1 : 1 ≤ a * 256 + b := by omega
          have g2 : a * 256 + b ≤ 8192 := by omega
          have g3 : k + 2 + (a * 256 + b) ≤ s.size := by omega
          have Hc : Hid (cutB gk (s.extract k s.size) = ((s.extract k s.size).extract 2 (2 + (a * 256 + b)) :: (cutB (gk - 1) ((s.extract k s.size).extract (2 + (a * 256 + b)) (s.size - k))).1, (cutB (gk - 1) ((s.extract k s.size).extract (2 + (a * 256 + b)) (s.size - k))).2)) := by
            obtain ⟨q, rfl⟩ := hk
            have := cut_one (k := q) (s := s.extract k s.size) (by rw [Hes.out]; omega) (by rw [← Hm.out]; exact hbad) (by rw [← Hm.out, Hes.out]; omega)
            rw [← Hm.out, Hes.out] at this
            exact this
          have hsl : ∀ W, (Instr.slice 9 (.string s) (some (.int .i64 (k + 2))) (some (.int .i64 (k + 2 + (a * 256 + b)))) none).run Try.prog W = .ok (.string (s.extract (k + 2) (k + 2 + (a * 256 + b)))) W := fun W => by
            rw [run_slice_string_if W 9 s .i64 .i64 _ _ Try.underlying9, if_pos ⟨by omega, by omega⟩, if_pos ⟨by omega, by omega⟩]
            have e1 : ((k : Int) + 2).toNat = k + 2 := by omega
            have e2 : ((k : Int) + 2 + (a * 256 + b)).toNat = k + 2 + (a * 256 + b) := by omega
            rw [e1, e2]
          clear hk hbad hw
          have hown := Hr.out.own
          have hby := Hr.out.by_
          obtain ⟨i0, hi, hz0, hz1, hz2⟩ := info_parts info9
          go_wp2
          go_quiet (fail)
          have hown2 := own_drewN hown nq
          have hby2 := by_drewN hby nq
          generalize wr.drewN nq = w2 at *
          clear hown hby
          have Hby2 := Lib.hid hby2
          clear hby2
          go_wp2_with (at_builtin; refine wpList_append_own _ rfl _ _ 22 rfl (w.heap.size) 9 i0 (.string ⟨#[]⟩) 1 16 Try.underlying22 hi hz0 hz1 hz2 rfl (by decide) _ _ _ rfl (hown2.alloc _) ⟨w2.heap.size, 0, none⟩ 1 1 [.string (s.extract (k + 2) (k + 2 + (a * 256 + b)))] rfl rfl ?c1 ?c2 ?c3 ?c4 ?c5 ?_)
          case c1 => exact cell_one_new _ _ _
          case c2 => simp [Value.oneCell']
          case c3 => have := Hr.out.many; unfold maxLen; omega
          case c4 => have := Hr.out.many; omega
          case c5 => have := Hby2.out.size; simp; omega
          intro v' w3 hown3 hby3 _
          have H3 := Lib.hid (And.intro hown3 hby3)
          clear hown3 hby3
          go_wp2
          go_roundg (gk - 1)
          case measure => have := Hr.out.size; omega
          case rel =>
            obtain ⟨hown3, hby3⟩ := H3.out
            have hr := Hr.out
            have h5 := World.ownsRow.lt hown2
            have h1 := hr.many
            have h2 := hr.size
            refine ⟨k + 2 + (a * 256 + b), done ++ [s.extract (k + 2) (k + 2 + (a * 256 + b))], ⟨?_, g3, ?_, by omega, by simp; omega, by simpa using hown3, ?_⟩⟩
            · go_num
            · rw [hr.eq, Hc.out]
              simp only [ByteArray.extract_extract]
              have e1 : min (k + (s.size - k)) s.size = s.size := by omega
              have e2 : min (k + (2 + (a * 256 + b))) s.size = k + 2 + (a * 256 + b) := by omega
              rw [e1, e2]
              have e3 : k + (2 + (a * 256 + b)) = k + 2 + (a * 256 + b) := by omega
              rw [e3]
              simp
            · exact by_trans (by_alloc Hby2.out _) hby3 (fun x hx => .inr (h5 x hx).1)

/-- The reference's cutter: its stream, and how many frames were told. -/
def RBlk (w : World) (g : Nat) (st : ByteArray) (told : Nat) : Prop := Blk w g 27 #[.string st, .int .i64 told]

end Go.Proofs.Yteidcneijjnkaaa
