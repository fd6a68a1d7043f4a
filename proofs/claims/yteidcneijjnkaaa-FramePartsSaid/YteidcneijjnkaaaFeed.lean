/-
  The walk of 'Feed'.
-/
import Derived.Test.YteidcneijjnkaaaTake
import Derived.Test.YteidcneijjnkaaaModel
import Derived.Deep.LoopGhost
import Derived.BigQuiet
import Derived.Deep.QuietTactic
namespace Go.Proofs.Yteidcneijjnkaaa
open Go.RowKit

theorem info9 : (Try.prog.info? 9).map (fun i => (i.zero, i.size, i.bytes)) = some (some (.string ⟨#[]⟩), 1, 16) := by kernel_rfl

structure FeedRel (w0 : World) (g K : Nat) (tot : ByteArray) (k : Nat) (v : Value) (wr : World) (cur : ByteArray) (done : List ByteArray) : Prop where
  eq : cutB K tot = (done ++ (cutB k cur).1, (cutB k cur).2)
  size : cur.size ≤ k
  small : cur.size ≤ 1000000
  many : done.length + cur.size ≤ 1000000
  blk : Blk wr g 39 #[.string cur, .bool false]
  own : wr.ownsRow (w0.heap.size) 9 1 v done.length (done.map .string)
  by_ : w0.grownBy wr (some g)
  box : Blk wr w0.heap.size 23 #[.pointer (some ⟨g, 0, none⟩)]

/-- What 'Feed' comes to, r being the frames, what is left, and whether it is broken. -/
def Fed (w : World) (g : Nat) (r : List ByteArray × ByteArray × Bool) (e : Ending) (w' : World) : Prop :=
  ∃ v, e = .returned v ∧ Blk w' g 39 #[.string r.2.1, .bool r.2.2] ∧ w'.ownsRow w.heap.size 9 1 v r.1.length (r.1.map .string) ∧ w.grownBy w' (some g)

theorem fed_left {w0 wr : World} {g K k : Nat} {tot : ByteArray} {v : Value} {cur : ByteArray} {done : List ByteArray} (h : FeedRel w0 g K tot k v wr cur done)
    (hc : cutB k cur = ([], cur, false)) : Fed w0 g (cutB K tot) (.returned v) wr := by
  have he := h.eq
  rw [hc] at he
  rw [he]
  exact ⟨v, rfl, h.blk, by simpa using h.own, h.by_⟩

theorem fed_drewN {w0 wr : World} {g : Nat} {r : List ByteArray × ByteArray × Bool} {e : Ending} (h : Fed w0 g r e wr) (n : Nat) : Fed w0 g r e (wr.drewN n) := by
  obtain ⟨v, h1, h2, h3, h4⟩ := h
  exact ⟨v, h1, h2.drewN n, own_drewN h3 n, by_drewN h4 n⟩

theorem fed_bad {w0 wr : World} {g K k : Nat} {tot : ByteArray} {v : Value} {cur : ByteArray} {done : List ByteArray} (h : FeedRel w0 g K tot k v wr cur done)
    (hc : cutB k cur = ([], ⟨#[]⟩, true)) (n : Nat) : Fed w0 g (cutB K tot) (.returned v) (((wr.setCell ⟨g, 1, none⟩ (.bool true)).setCell ⟨g, 0, none⟩ (.string ⟨#[]⟩)).drewN n).drew := by
  have he := h.eq
  rw [hc] at he
  rw [he]
  have hne : v.ownBlock ≠ some g := own_blk_ne h.own h.blk (by decide)
  obtain ⟨w1, hw1⟩ : ∃ w1, w1 = wr.setCell ⟨g, 1, none⟩ (.bool true) := ⟨_, rfl⟩
  have hb1 : Blk w1 g 39 #[.string cur, .bool true] := by rw [hw1]; exact h.blk.set_ 1 (.bool true)
  have g1 : wr.grownBy w1 (some g) := by rw [hw1]; exact by_set (by_refl _ _) (.inl rfl) _
  rw [← hw1]
  obtain ⟨w2, hw2⟩ : ∃ w2, w2 = w1.setCell ⟨g, 0, none⟩ (.string ⟨#[]⟩) := ⟨_, rfl⟩
  have hb2 : Blk w2 g 39 #[.string ⟨#[]⟩, .bool true] := by rw [hw2]; exact hb1.set_ 0 (.string ⟨#[]⟩)
  have g2 : wr.grownBy w2 (some g) := by rw [hw2]; exact by_set g1 (.inl rfl) _
  rw [← hw2]
  clear hw1 hw2
  have h3 := h.own.kept g2 (.inr hne)
  refine ⟨v, rfl, (hb2.drewN n).drew, (own_drewN ?_ n).drew, by_drew (by_drewN (by_trans h.by_ g2 (fun x hx => .inl hx.symm)) n)⟩
  simpa using h3

set_option maxHeartbeats 400000 in
theorem feed_walk (g : Nat) (l s : ByteArray) (w : World) (hb : Blk w g 39 #[.string l, .bool false]) (hs : l.size + s.size ≤ 1000000) :
    Calls Try.prog 10 #[.pointer (some ⟨g, 0, none⟩), .string s] w (Fed w g (cutB (l.size + s.size) (l ++ s))) := by
  have h0 : w.cell? ⟨g, 0, none⟩ = some (.string l) := hb.cell 0
  have h1 : w.cell? ⟨g, 1, none⟩ = some (.bool false) := hb.cell 1
  have h2 : w.frozen? ⟨g, 0, none⟩ = false := hb.frozen 0
  have hlt := hb.lt
  have hsz : (l ++ s).size = l.size + s.size := by simp
  have Hb := Lib.hid hb
  have Hsz := Lib.hid hsz
  clear hb hsz
  go_enter Try.func10, Try.ntmps10
  go_wp2
  go_loopg [5] (l.size + s.size) (fun k v wr => ∃ cur done, FeedRel w g (l.size + s.size) (l ++ s) k v wr cur done)
  case atStart =>
    have hb := Hb.out
    have hsz := Hsz.out
    exact ⟨l ++ s, [], ⟨by simp, by omega, by omega, by simp; omega, (hb.set_ 0 _).alloc _, World.ownsRow_nil _ _ _ _, by_alloc (by_set (by_refl _ _) (.inl rfl) _) _, by
      have := Blk.new (w.setCell ⟨g, 0, none⟩ (.string (l ++ s))) 23 #[.pointer (some ⟨g, 0, none⟩)]
      simpa using this⟩⟩
  case round =>
    obtain ⟨cur, done, hr⟩ := hrel
    have c0 : wr.cell? ⟨g, 0, none⟩ = some (.string cur) := hr.blk.cell 0
    have c1 : wr.cell? ⟨g, 1, none⟩ = some (.bool false) := hr.blk.cell 1
    have f0 : wr.frozen? ⟨g, 0, none⟩ = false := hr.blk.frozen 0
    have f1 : wr.frozen? ⟨g, 1, none⟩ = false := hr.blk.frozen 1
    have cb : wr.cell? ⟨w.heap.size, 0, none⟩ = some (.pointer (some ⟨g, 0, none⟩)) := hr.box.cell 0
    have hs1 := hr.small
    have Hr := Lib.hid hr
    clear hr
    by_cases hlt : cur.size < 2
    · have Hc := Lib.hid (fed_left Hr.out (cut_short hlt))
      go_wp2
      go_ret
      exact Hc.out
    · have hge : 2 ≤ cur.size := by omega
      have hx0 : ∀ W, (Instr.index 9 (.string cur) (.int .i64 0)).run Try.prog W = .ok (.int .u8 (hd cur 0 : Int)) W := fun W => by
        rw [run_index_string W 9 cur .i64 0 Try.underlying9, dif_pos ⟨by omega, by omega⟩]; rw [hd_eq]; rfl
      have hx1 : ∀ W, (Instr.index 9 (.string cur) (.int .i64 1)).run Try.prog W = .ok (.int .u8 (hd cur 1 : Int)) W := fun W => by
        rw [run_index_string W 9 cur .i64 1 Try.underlying9, dif_pos ⟨by omega, by omega⟩]; rw [hd_eq]; rfl
      have hd0 := hd_lt cur 0
      have hd1 := hd_lt cur 1
      have hor := or_of _ _ hd0 hd1
      rw [show hd cur 0 * 256 + hd cur 1 = nOf cur from rfl] at hor
      have hm : nOf cur < 65536 := by unfold nOf; omega
      generalize hd cur 0 = a at *
      generalize hd cur 1 = b at *
      obtain ⟨m, hmm⟩ : ∃ m, m = nOf cur := ⟨_, rfl⟩
      rw [← hmm] at hor hm
      have Hm := Lib.hid hmm
      clear hmm hlt
      by_cases hbad : m < 1 ∨ 8192 < m
      · have hk : ∃ k, gk = k + 1 := ⟨gk - 1, by have := Hr.out.size; omega⟩
        have Hc : Hid (cutB gk cur = ([], ⟨#[]⟩, true)) := by
          obtain ⟨k, rfl⟩ := hk
          exact cut_bad (by omega) (by rw [← Hm.out]; exact hbad)
        clear hk
        rcases hbad with hbad | hbad
        all_goals
          go_wp2
          go_quiet (fail)
          go_wp2
          go_region
          go_wp2
          go_ret
          exact fed_bad Hr.out Hc.out _
      · by_cases hw : cur.size < 2 + m
        · have hk : ∃ k, gk = k + 1 := ⟨gk - 1, by have := Hr.out.size; omega⟩
          have Hc : Hid (cutB gk cur = ([], cur, false)) := by
            obtain ⟨k, rfl⟩ := hk
            exact cut_wait (by omega) (by rw [← Hm.out]; exact hbad) (by rw [← Hm.out]; exact hw)
          clear hk
          go_wp2
          go_quiet (fail)
          go_wp2
          go_ret
          exact fed_drewN (fed_left Hr.out Hc.out) _
        · have g1 : 1 ≤ m := by omega
          have g2 : m ≤ 8192 := by omega
          have g3 : 2 + m ≤ cur.size := by omega
          have hk : ∃ k, gk = k + 1 := ⟨gk - 1, by have := Hr.out.size; omega⟩
          have Hc : Hid (cutB gk cur = (cur.extract 2 (2 + m) :: (cutB (gk - 1) (cur.extract (2 + m) cur.size)).1, (cutB (gk - 1) (cur.extract (2 + m) cur.size)).2)) := by
            obtain ⟨k, rfl⟩ := hk
            have := cut_one (k := k) (s := cur) (by omega) (by rw [← Hm.out]; exact hbad) (by rw [← Hm.out]; exact hw)
            rw [← Hm.out] at this
            exact this
          clear hbad hw hk
          go_wp2
          go_quiet (fail)
          have hr := Hr.out
          have ht := take_any w.heap.size g (2 + m) cur false (wr.drewN nq) cb hr.blk (by omega) g3 hs1
          rw [show ((2 + m : Nat) : Int) = 2 + (m : Int) from by omega] at ht
          have hes := ext_size cur 0 (2 + m) g3
          have hex : ∀ W, (Instr.slice 9 (.string (cur.extract 0 (2 + m))) (some (.int .i64 2)) none none).run Try.prog W = .ok (.string (cur.extract 2 (2 + m))) W := fun W => by
            rw [run_slice_string_from_if W 9 _ .i64 2 Try.underlying9, if_pos ⟨by omega, by rw [hes]; omega⟩]
            rw [hes]
            exact congrArg (fun x => Result.ok (Value.string x) W) (ext_of_ext cur 2 (2 + m) g3)
          clear hes
          go_wp2_with fail
          refine ht.mono ?_
          rintro e w2 ⟨rfl, hb2, hby2⟩
          have hne : u5.ownBlock ≠ some g := own_blk_ne hr.own hr.blk (by decide)
          have hown2 : w2.ownsRow (w.heap.size) 9 1 u5 done.length (done.map .string) := (own_drewN hr.own nq).kept hby2 (.inr hne)
          obtain ⟨i0, hi, hz0, hz1, hz2⟩ := info_parts info9
          have Hall := Lib.hid (And.intro hb2 (And.intro hby2 hr))
          clear hb2 hby2 hr ht
          go_wp2_with (at_builtin; refine wpList_append_own _ rfl _ _ 22 rfl (w.heap.size) 9 i0 (.string ⟨#[]⟩) 1 16 Try.underlying22 hi hz0 hz1 hz2 rfl (by decide) _ _ _ rfl (hown2.alloc _) ⟨w2.heap.size, 0, none⟩ 1 1 [.string (cur.extract 2 (2 + m))] rfl rfl ?c1 ?c2 ?c3 ?c4 ?c5 ?_)
          case c1 => exact cell_one_new _ _ _
          case c2 => simp [Value.oneCell']
          case c3 => have := Hall.out.2.2.many; unfold maxLen; omega
          case c4 => have := Hall.out.2.2.many; omega
          case c5 =>
            have h1 := Hall.out.2.2.by_.size
            have h2 := Hall.out.2.1.size
            simp at h1 h2 ⊢
            omega
          intro v' w3 hown3 hby3 _
          have H3 := Lib.hid (And.intro hown3 hby3)
          clear hown3 hby3
          go_wp2
          go_roundg (gk - 1)
          case measure => have := Hall.out.2.2.size; omega
          case rel =>
            obtain ⟨hb2, hby2, hr⟩ := Hall.out
            obtain ⟨hown3, hby3⟩ := H3.out
            have hes := ext_size cur (2 + m) cur.size (Nat.le_refl _)
            have h1 := hr.size
            have h2 := hr.many
            have hbx := hb2.alloc (.cells #[.string (cur.extract 2 (2 + m))] 9)
            have h5 := World.ownsRow.lt hown2
            have hby2' : wr.grownBy (w2.alloc (.cells #[.string (cur.extract 2 (2 + m))] 9)) (some g) := by_alloc (by_trans (by_drewN (by_refl wr (some g)) nq) hby2 (fun x hx => .inl hx.symm)) _
            refine ⟨cur.extract (2 + m) cur.size, done ++ [cur.extract 2 (2 + m)], ⟨?_, by omega, by omega, by simp; omega, hbx.grown hby3 (by simpa using hne.symm), by simpa using hown3, ?_, ?_⟩⟩
            · rw [hr.eq, Hc.out]; simp
            · exact by_trans (by_trans hr.by_ hby2' (fun x hx => .inl hx.symm)) hby3 (fun x hx => .inr (h5 x hx).1)
            · have h6 : w.heap.size ≠ g := hr.box.ne_ hr.blk (by decide)
              exact (hr.box.grown hby2' (by simpa using h6)).grown hby3 (own_blk_ne hr.own hr.box (by decide)).symm
end Go.Proofs.Yteidcneijjnkaaa
