/-
  The contracts of the cutter in the form in which the laws use them; the walk of 'works'.
-/
import Derived.Test.YteidcneijjnkaaaRef
import Derived.Test.YteidcneijjnkaaaTexts
import Derived.Test.YteidcneijjnkaaaPlain
namespace Go.Proofs.Yteidcneijjnkaaa
open Go.RowKit

def NewC (w : World) (e : Ending) (w' : World) : Prop :=
  ∃ g, e = .returned (.pointer (some ⟨g, 0, none⟩)) ∧ Blk w' g 39 #[.string ⟨#[]⟩, .bool false] ∧ w.grownBy w' none ∧ w.heap.size ≤ g
theorem new_c (w : World) : Calls Try.prog 8 #[] w (NewC w) :=
  (new_any w).mono fun e w' ⟨he, hw⟩ => ⟨w.heap.size, he, by rw [← hw]; exact Blk.new _ _ _, by rw [← hw]; exact by_alloc (by_refl _ _) _, Nat.le_refl _⟩

/-- What 'Feed' comes to, the answer read as a list. -/
def FedS (w : World) (g : Nat) (r : List ByteArray × ByteArray × Bool) (e : Ending) (w' : World) : Prop :=
  ∃ v, e = .returned v ∧ Blk w' g 39 #[.string r.2.1, .bool r.2.2] ∧ Strs w' v r.1 ∧ v.ownBlock ≠ some g ∧ w.grownBy w' (some g) ∧ (∀ b, v.ownBlock = some b → w.heap.size ≤ b)

theorem feed_c (g : Nat) (l s : ByteArray) (w : World) (r : List ByteArray × ByteArray × Bool) (hb : Blk w g 39 #[.string l, .bool false]) (hs : l.size + s.size ≤ 1000000) (hr : cutAll (l ++ s) = r) :
    Calls Try.prog 10 #[.pointer (some ⟨g, 0, none⟩), .string s] w (FedS w g r) := by
  refine (feed_walk g l s w hb hs).mono fun e w' h => ?_
  rw [← hr]
  rw [cutAll_of (k := l.size + s.size) (by rw [app_size]; exact Nat.le_refl _)] at h
  obtain ⟨v, h1, h2, h3, h4⟩ := h
  exact ⟨v, h1, h2, Strs.of_own h3, own_blk_ne h3 h2 (by decide), h4, fun b hb => (World.ownsRow.lt h3 b hb).1⟩

theorem feed_cb (g : Nat) (l s : ByteArray) (w : World) (hb : Blk w g 39 #[.string l, .bool true]) :
    Calls Try.prog 10 #[.pointer (some ⟨g, 0, none⟩), .string s] w (FedS w g ([], l, true)) := by
  refine (feed_broken g l s w hb).mono fun e w' ⟨h1, h2⟩ => ?_
  exact ⟨_, h1, hb.grown h2 (by simp), Strs.nil_ _, by simp [Value.ownBlock], by_of_none h2 _, fun b hb => by simp [Value.ownBlock] at hb⟩

set_option maxHeartbeats 1000000 in
theorem works_walk (w : World) : Calls Try.prog 14 #[] w fun e w' => e = .returned (.bool true) ∧ w.grownBy w' none := by
  go_enter Try.func14, Try.ntmps14
  go_wp2_with fail
  refine (pack_ok ⟨#[97]⟩ w (by decide) (by decide)).mono ?_
  rintro e w1 ⟨rfl, y1⟩
  rw [show packed ⟨#[97]⟩ = ⟨#[0, 1, 97]⟩ from by kernel_rfl]
  have Y1 := Lib.hid y1
  clear y1
  go_wp2_with fail
  refine (pack_none ⟨#[]⟩ w1 rfl).mono ?_
  rintro e w' ⟨rfl, rfl⟩
  go_wp2_with fail
  refine (new_c w1).mono ?_
  rintro e w2 ⟨gc, rfl, b2, y2, l2⟩
  have Y2 := Lib.hid (And.intro b2 (And.intro y2 l2))
  clear b2 y2 l2
  go_wp2_with fail
  refine (new_c w2).mono ?_
  rintro e w3 ⟨gd, rfl, d3, y3, l3⟩
  obtain ⟨b2, y2, l2⟩ := Y2.out
  have hlt := b2.lt
  have hne : gc ≠ gd := by omega
  have hne' : gd ≠ gc := by omega
  have b3 := b2.grown y3 (by simp)
  have Z3 := Lib.hid (by_trans (by_trans Y1.out y2 (fun x hx => by cases hx)) y3 (fun x hx => by cases hx))
  have hle : w.heap.size ≤ gc := by have := Y1.out.size; omega
  have hle' : w.heap.size ≤ gd := by omega
  have B3 := Lib.hid b3
  have D3 := Lib.hid d3
  clear Y1 Y2 b2 y2 l2 y3 l3 hlt b3 d3
  go_wp2_with fail
  refine (feed_c gc ⟨#[]⟩ ⟨#[0]⟩ w3 ([], ⟨#[0]⟩, false) B3.out (by decide) (by kernel_rfl)).mono ?_
  rintro e w4 ⟨v4, rfl, b4, ⟨A4, c4, rfl, _, _⟩, _, y4, _⟩
  have B4 := Lib.hid b4
  have D4 := Lib.hid (D3.out.grown y4 (by simpa using hne'))
  have Z4 := Lib.hid (by_trans Z3.out y4 (fun x hx => .inr (by cases hx; exact hle)))
  clear b4 y4 Z3 D3 B3
  go_wp2_with fail
  refine (feed_c gc ⟨#[0]⟩ ⟨#[1, 97, 0, 2, 98]⟩ w4 ([⟨#[97]⟩], ⟨#[0, 2, 98]⟩, false) B4.out (by decide) (by kernel_rfl)).mono ?_
  rintro e w5 ⟨v5, rfl, b5, s5, _, y5, _⟩
  have B5 := Lib.hid b5
  have D5 := Lib.hid (D4.out.grown y5 (by simpa using hne'))
  have Z5 := Lib.hid (by_trans Z4.out y5 (fun x hx => .inr (by cases hx; exact hle)))
  clear b5 y5 Z4 D4 B4
  go_wp2_with fail
  refine (one_yes v5 ⟨#[97]⟩ w5 s5).mono ?_
  rintro e w' ⟨rfl, rfl⟩
  clear s5
  go_wp2_with fail
  refine (feed_c gc ⟨#[0, 2, 98]⟩ ⟨#[99]⟩ w5 ([⟨#[98, 99]⟩], ⟨#[]⟩, false) B5.out (by decide) (by kernel_rfl)).mono ?_
  rintro e w6 ⟨v6, rfl, b6, s6, _, y6, _⟩
  have B6 := Lib.hid b6
  have D6 := Lib.hid (D5.out.grown y6 (by simpa using hne'))
  have Z6 := Lib.hid (by_trans Z5.out y6 (fun x hx => .inr (by cases hx; exact hle)))
  clear b6 y6 Z5 D5 B5
  go_wp2_with fail
  refine (one_yes v6 ⟨#[98, 99]⟩ w6 s6).mono ?_
  rintro e w' ⟨rfl, rfl⟩
  clear s6
  go_wp2_with fail
  refine (broken_any gc _ _ w6 B6.out).mono ?_
  rintro e w' ⟨rfl, rfl⟩
  go_wp2_with fail
  refine (feed_c gd ⟨#[]⟩ ⟨#[0, 1, 97, 0, 0, 0, 1, 97]⟩ w6 ([⟨#[97]⟩], ⟨#[]⟩, true) D6.out (by decide) (by kernel_rfl)).mono ?_
  rintro e w7 ⟨v7, rfl, b7, s7, _, y7, _⟩
  have D7 := Lib.hid b7
  have Z7 := Lib.hid (by_trans Z6.out y7 (fun x hx => .inr (by cases hx; exact hle')))
  clear b7 y7 Z6 D6 B6
  go_wp2_with fail
  refine (one_yes v7 ⟨#[97]⟩ w7 s7).mono ?_
  rintro e w' ⟨rfl, rfl⟩
  clear s7
  go_wp2_with fail
  refine (broken_any gd _ _ w7 D7.out).mono ?_
  rintro e w' ⟨rfl, rfl⟩
  go_wp2_with fail
  refine (feed_cb gd _ ⟨#[0, 1, 97]⟩ w7 D7.out).mono ?_
  rintro e w8 ⟨v8, rfl, b8, ⟨A8, c8, rfl, _, _⟩, _, y8, _⟩
  have Z8 := Lib.hid (by_trans Z7.out y8 (fun x hx => .inr (by cases hx; exact hle')))
  clear b8 y8 Z7 D7
  go_wp2
  go_ret
  exact ⟨rfl, Z8.out⟩
end Go.Proofs.Yteidcneijjnkaaa
