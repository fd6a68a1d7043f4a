/-
  The document's cache: first.
-/
import Derived.Test.YtndmnnapjhjkmaaRefTake
namespace Go.Proofs.Ytndmnnapjhjkmaa
open Go.RowKit iStrRes

theorem own_cut {w : World} {base size n k c : Nat} {e : TypeId} {A : Option Addr} {xs : List Value} (h : w.ownsRow base e size (.slice A n c) n xs) (hk : k ≤ n) : w.ownsRow base e size (.slice A k c) k (xs.take (k * size)) := by
  refine ⟨by rw [List.length_take, h.1, Nat.min_eq_left (Nat.mul_le_mul_right size hk)], ?_⟩
  rcases h.2 with ⟨h1, h2⟩ | ⟨g, cap, cur, h1, h2, h3, h4, h5, h6, h7⟩
  · injection h1 with a b d
    subst a d
    obtain rfl : k = 0 := by omega
    exact .inl ⟨rfl, rfl⟩
  · injection h1 with a b d
    subst a d
    exact .inr ⟨g, _, cur, rfl, h2, h3, by omega, h5, h6, by rw [← h7, List.take_take, Nat.min_eq_left (Nat.mul_le_mul_right size hk)]⟩
theorem pcells_cut (l : List (ByteArray × RV)) (k : Nat) (hk : k ≤ l.length) : (pcells l).take (k * 7) = pcells (l.take k) := by
  have h := pcells_take (l.take k) (l.drop k)
  rw [List.take_append_drop, List.length_take, Nat.min_eq_left hk] at h
  exact h

def RFirstQ (w : World) (r : Nat) (cap : Int) (ps : List (ByteArray × RV)) (e : Ending) (w' : World) : Prop :=
  e = .returned (.tuple #[]) ∧ RefAt w' r cap ps ∧ w.grownBy w' (some r)

set_option maxRecDepth 100000 in
set_option maxHeartbeats 2000000 in
theorem rfirst_any (w : World) (r C : Nat) (cap : Int) (hC : max cap 0 = (C : Int)) (k : ByteArray) (rv : RV) (ps : List (ByteArray × RV)) (h : RefAt w r cap ps) (hn : ps.length < 1000000) :
    Calls Try.prog 21 #[.pointer (some ⟨r, 0, none⟩), .agg #[.string k, .slice rv.d.1 rv.d.2.1 rv.d.2.2, .string rv.p, .bool rv.b, .slice rv.vs.1 rv.vs.2.1 rv.vs.2.2, .slice rv.ts.1 rv.ts.2.1 rv.ts.2.2, .int .u64 rv.c]] w (RFirstQ w r cap (((k, rv) :: ps).take C)) := by
  obtain ⟨v, hb, ho⟩ := h
  obtain ⟨A, c, rfl, hc1, hc2, _, _⟩ := own_at ho
  obtain ⟨wa, hwa⟩ : ∃ wa, wa = (w.alloc (.cells #[.string k, .slice rv.d.1 rv.d.2.1 rv.d.2.2, .string rv.p, .bool rv.b, .slice rv.vs.1 rv.vs.2.1 rv.vs.2.2, .slice rv.ts.1 rv.ts.2.1 rv.ts.2.2, .int .u64 rv.c] 66)).alloc (.cells #[.string k, .slice rv.d.1 rv.d.2.1 rv.d.2.2, .string rv.p, .bool rv.b, .slice rv.vs.1 rv.vs.2.1 rv.vs.2.2, .slice rv.ts.1 rv.ts.2.1 rv.ts.2.2, .int .u64 rv.c] 66) := ⟨_, rfl⟩
  have ya : w.grownBy wa none := by rw [hwa]; exact by_alloc (by_alloc (by_refl _ _) _) _
  have hsa : wa.heap.size = w.heap.size + 1 + 1 := by rw [hwa]; simp only [World.size_alloc]
  have hnew : Blk wa (w.heap.size + 1) 66 #[.string k, .slice rv.d.1 rv.d.2.1 rv.d.2.2, .string rv.p, .bool rv.b, .slice rv.vs.1 rv.vs.2.1 rv.vs.2.2, .slice rv.ts.1 rv.ts.2.1 rv.ts.2.2, .int .u64 rv.c] := by
    rw [hwa]
    have := Blk.new (w.alloc (.cells #[.string k, .slice rv.d.1 rv.d.2.1 rv.d.2.2, .string rv.p, .bool rv.b, .slice rv.vs.1 rv.vs.2.1 rv.vs.2.2, .slice rv.ts.1 rv.ts.2.1 rv.ts.2.2, .int .u64 rv.c] 66)) 66 #[.string k, .slice rv.d.1 rv.d.2.1 rv.d.2.2, .string rv.p, .bool rv.b, .slice rv.vs.1 rv.vs.2.1 rv.vs.2.2, .slice rv.ts.1 rv.ts.2.1 rv.ts.2.2, .int .u64 rv.c]
    rw [World.size_alloc] at this
    exact this
  have hr1 : Reads wa wa.heap.size 7 (some ⟨w.heap.size + 1, 0, none⟩) 1 (pcell (k, rv)) := ⟨rfl, fun _ => ⟨_, rfl, hnew.lt, fun j u hu => by
    rw [addr_add, Nat.zero_add, hnew.cell j]
    simpa [pcell] using hu⟩⟩
  have hba := hb.grown ya (by simp)
  have hra := ((Reads.of_own ho).grown ya (Nat.le_refl _) (by simp)).more ya.size
  obtain ⟨n, hnn⟩ : ∃ n, n = ps.length := ⟨_, rfl⟩
  rw [← hnn] at hba hra hc1 hn
  have x0 : wa.cell? ⟨r, 0, none⟩ = some (.int .i64 cap) := hba.cell 0
  have x1 : wa.cell? ⟨r, 1, none⟩ = some (.slice A n c) := hba.cell 1
  have Ha := Lib.hid (And.intro hba (And.intro hra (And.intro hr1 (And.intro ya (And.intro hsa hnn)))))
  have Hwa := Lib.hid hwa
  have HC := Lib.hid hC
  obtain ⟨i0, hi, hz0, hz1, hz2⟩ := info_some infoPair
  have Hi := Lib.hid (And.intro hi (And.intro hz0 (And.intro hz1 hz2)))
  have hcb : c ≤ 9223372036854775807 := by unfold maxLen at hc2; omega
  clear hb ho hwa ya hsa hnew hr1 hba hra hi hz0 hz1 hz2 hC hnn hc2 x0 x1
  go_enter Try.func21, Try.ntmps21
  go_wp2_with (at_builtin; rw [← Hwa.out]; refine wpList_append_any wa rfl (.tmp 5) (.tmp 7) 26 rfl 0 66 i0 _ 7 120 Try.underlying26 Hi.out.1 Hi.out.2.1 Hi.out.2.2.1 Hi.out.2.2.2 rfl (by decide) (.slice none 0 0) 0 [] rfl (World.ownsRow_nil _ _ _ _) wa.heap.size (some ⟨w.heap.size + 1, 0, none⟩) 1 1 (pcell (k, rv)) rfl ?h1 ?h2 ?h3 ?h4 (Nat.zero_le _) ?_)
  case h1 => exact Ha.out.2.2.1
  case h2 => exact fun u hu => pcells_one [(k, rv)] u (by simpa [pcells] using hu)
  case h3 => unfold maxLen; omega
  case h4 => omega
  intro v1 w2 ho2 y2 hv1
  try simp only [Nat.zero_add, List.nil_append] at ho2
  have y2 : wa.grownBy w2 none := y2
  obtain ⟨A1, c1, rfl, _, _, _, _⟩ := own_at ho2
  have hv1 : ∀ b, (Value.slice A1 1 c1).ownBlock = some b → b = wa.heap.size := fun b hb => by
    rcases hv1 with h | h
    · rw [h] at hb; cases hb
    · rw [h] at hb; cases hb; rfl
  have hb2 := Ha.out.1.grown y2 (by simp)
  have x2 : w2.cell? ⟨r, 1, none⟩ = some (.slice A n c) := hb2.cell 1
  have hr2 := (Ha.out.2.1.grown y2 (Nat.le_refl _) (by simp)).more y2.size
  have H2 := Lib.hid (And.intro ho2 (And.intro y2 (And.intro hb2 (And.intro hr2 hv1))))
  clear ho2 y2 hb2 hr2 hv1
  go_wp2_with (at_builtin; refine wpList_append_any w2 rfl (.tmp 9) (.tmp 13) 26 rfl 0 66 i0 _ 7 120 Try.underlying26 Hi.out.1 Hi.out.2.1 Hi.out.2.2.1 Hi.out.2.2.2 rfl (by decide) (.slice A1 1 c1) 1 (pcell (k, rv)) rfl ?k1 w2.heap.size A n c (pcells ps) rfl ?k2 ?k3 ?k4 ?k5 (Nat.zero_le _) ?_)
  case k1 => exact H2.out.1
  case k2 => exact H2.out.2.2.2.1
  case k3 => exact pcells_one ps
  case k4 => unfold maxLen; omega
  case k5 => omega
  intro v2 w3 ho3 y3 hv2
  obtain ⟨A3, c3, rfl, hc31, hc32, _, _⟩ := own_at ho3
  have hb3 := H2.out.2.2.1.grown y3 (Ne.symm (own_blk_ne H2.out.1 H2.out.2.2.1 (by decide)))
  have hws : w.heap.size ≤ wa.heap.size := Ha.out.2.2.2.1.size
  have hgy : Chg w w3 (fun b => b = r) := by
    have h0 := by_trans Ha.out.2.2.2.1 H2.out.2.1 (by simp)
    refine (Chg.of_none (S := fun b => b = r) h0).trans (Chg.of_by (S := fun b => (Value.slice A1 1 c1).ownBlock = some b) y3 fun g h => h) fun b hb => .inr (by rw [H2.out.2.2.2.2 b hb]; exact hws)
  obtain ⟨m, hm⟩ : ∃ m, m = min (1 + n) C := ⟨_, rfl⟩
  have hmin : min (1 + (n : Int)) (C : Int) = (m : Int) := by omega
  have hmax := HC.out
  have x3 : w3.cell? ⟨r, 1, none⟩ = some (.slice A n c) := hb3.cell 1
  have x4 : w3.cell? ⟨r, 0, none⟩ = some (.int .i64 cap) := hb3.cell 0
  have z3 : w3.frozen? ⟨r, 1, none⟩ = false := hb3.frozen 1
  have ho4 := own_cut ho3 (k := m) (by omega)
  have e4 : (pcell (k, rv) ++ pcells ps).take (m * 7) = pcells (((k, rv) :: ps).take C) := by
    rw [← pcells_cons, pcells_cut _ _ (by rw [List.length_cons, ← Ha.out.2.2.2.2.2]; omega), hm]
    congr 1
    rcases Nat.le_total C (1 + n) with hle | hle
    · rw [Nat.min_eq_right hle]
    · rw [Nat.min_eq_left hle, List.take_of_length_le (by rw [List.length_cons, ← Ha.out.2.2.2.2.2]; omega), List.take_of_length_le (by rw [List.length_cons, ← Ha.out.2.2.2.2.2]; omega)]
  have e5 : m = (((k, rv) :: ps).take C).length := by
    rw [List.length_take, List.length_cons, ← Ha.out.2.2.2.2.2, hm]
    omega
  rw [e4] at ho4
  have hfin : RFirstQ w r cap (((k, rv) :: ps).take C) (.returned (.tuple #[])) (w3.setCell ⟨r, 1, none⟩ (.slice A3 m c3)) := by
    refine ⟨rfl, ⟨.slice A3 m c3, hb3.set_ 1 (.slice A3 m c3), ?_⟩, ?_⟩
    · rw [← e5]
      exact own_chg ho4 ((Chg.refl w3 (fun b => b = r)).set_ (p := ⟨r, 1, none⟩) (.inl rfl) (.slice A3 m c3)) (fun b hb e => own_blk_ne ho4 hb3 (by decide) (e ▸ hb))
    · have h2 := hgy.set_ (p := ⟨r, 1, none⟩) (.inl rfl) (.slice A3 m c3)
      exact ⟨h2.os, h2.tape, h2.output, h2.size, fun b hb hne => h2.block b hb (fun e => hne (by rw [e]))⟩
  have HF := Lib.hid hfin
  have hmle : (m : Int) ≤ (c3 : Int) := by omega
  have hm0 : (0 : Int) ≤ (m : Int) := by omega
  have hnb : (n : Int) ≤ 1000000 := by omega
  clear ho3 y3 hv2 hb3 hws hgy ho4 e4 e5 hfin hm hc31 hc32
  go_wp2
  go_end0
  exact HF.out
end Go.Proofs.Ytndmnnapjhjkmaa
