/-
  The reference: its New, first, Get, Put, Keys.
-/
import Derived.Test.YtgjklppmimhgnaaRef
import Derived.Test.YtgjklppmimhgnaaPlain
import Derived.Outline
import Derived.Deep.RegionLaw
namespace Go.Proofs.Ytgjklppmimhgnaa
open Go.RowKit

def RNewQ (w : World) (cap : Int) (e : Ending) (w2 : World) : Prop :=
  ∃ g, e = .returned (.pointer (some ⟨g, 0, none⟩)) ∧ RefAt w2 g cap [] ∧ w.grownBy w2 none ∧ w.heap.size ≤ g
set_option maxHeartbeats 400000 in
theorem rnew_any (w : World) (cap : Int) : Calls Try.prog 9 #[.int .i64 cap] w (RNewQ w (max cap 0)) := by
  have hfin : RNewQ w (max cap 0) (.returned (.pointer (some ⟨w.heap.size, 0, none⟩))) (w.alloc (.cells #[.int .i64 (max cap 0), .slice none 0 0] 38)) :=
    ⟨w.heap.size, rfl, ⟨_, Blk.new _ _ _, World.ownsRow_nil _ _ _ _⟩, by_alloc (by_refl _ _) _, Nat.le_refl _⟩
  have Hfin := Lib.hid hfin
  clear hfin
  go_enter Try.func9, Try.ntmps9
  go_wp2
  go_ret
  exact Hfin.out

theorem flat_one (ps : List (Int × Int)) : ∀ u ∈ flat ps, u.oneCell' = true := by
  intro u hu
  simp only [flat, List.mem_flatMap] at hu
  obtain ⟨q, _, hq⟩ := hu
  simp [enc2] at hq
  rcases hq with rfl | rfl <;> rfl
def RFirstQ (w : World) (g : Nat) (cap : Int) (ps : List (Int × Int)) (e : Ending) (w2 : World) : Prop :=
  e = .returned (.tuple #[]) ∧ RefAt w2 g cap ps ∧ w.grownBy w2 (some g)
theorem rfirst_close {w w3 : World} {g : Nat} {cap qk qv : Int} {ps : List (Int × Int)} {v v9 : Value} {c0 c1 : Obj} (_hb : Blk w g 38 #[.int .i64 cap, v])
    (hown : w3.ownsRow 0 79 2 v9 (1 + ps.length) ([.int .i64 qk, .int .i64 qv] ++ flat ps)) (hby : (((w.alloc c0).alloc c1).drew).grownBy w3 (Value.slice (some ⟨w.heap.size + 1, 0, none⟩) 1 1).ownBlock)
    (hB : Blk w3 g 38 #[.int .i64 cap, v]) : RFirstQ w g cap ((qk, qv) :: ps) (.returned (.tuple #[])) (w3.setCell ⟨g, 1, none⟩ v9) := by
  have hne := own_blk_ne hown hB (by decide)
  refine ⟨rfl, ⟨v9, hB.set_ 1 v9, ?_⟩, ?_⟩
  · have h2 := ownsRow_setCell_other hown (a := ⟨g, 1, none⟩) hne v9
    rw [Nat.add_comm] at h2
    exact h2
  · refine by_set (by_trans (by_drew (by_alloc (by_alloc (by_refl w (some g)) _) _)) hby ?_) (.inl rfl) _
    intro x hx
    simp [Value.ownBlock] at hx
    right
    omega
set_option maxHeartbeats 400000 in
theorem rfirst_any (w : World) (g : Nat) (cap qk qv : Int) (ps : List (Int × Int)) (h : RefAt w g cap ps) (hn : ps.length < 1000000) :
    Calls Try.prog 41 #[.pointer (some ⟨g, 0, none⟩), .agg #[.int .i64 qk, .int .i64 qv]] w (RFirstQ w g cap ((qk, qv) :: ps)) := by
  obtain ⟨pv, hb, ho⟩ := h
  have H := Lib.hid (And.intro hb (And.intro ho hn))
  obtain ⟨A, c, rfl, hAc⟩ := own_slice ho
  have c1 : w.cell? ⟨g, 1, none⟩ = some (.slice A ps.length c) := hb.cell 1
  have hg := hb.lt
  have hne : g ≠ w.heap.size := by omega
  have hO : (((w.alloc (.cells #[.int .i64 qk, .int .i64 qv] 79)).alloc (.cells #[.int .i64 qk, .int .i64 qv] 79)).drew).ownsRow 0 79 2 (.slice (some ⟨w.heap.size + 1, 0, none⟩) 1 1) 1 [.int .i64 qk, .int .i64 qv] := by
    rw [show w.heap.size + 1 = (w.alloc (.cells #[.int .i64 qk, .int .i64 qv] 79)).heap.size from by simp]
    exact World.ownsRow_lit (base := 0) (e := 79) (size := 2) (w.alloc (.cells #[.int .i64 qk, .int .i64 qv] 79)) #[.int .i64 qk, .int .i64 qv] 1 (Nat.zero_le _) (by decide) rfl
  have HO := Lib.hid hO
  clear hO
  have HR := Lib.hid (((Reads.of_own ho).alloc (Nat.le_refl _) (.cells #[.int .i64 qk, .int .i64 qv] 79)).alloc (by simp) (.cells #[.int .i64 qk, .int .i64 qv] 79))
  have Hne2 : Hid (some g ≠ (Value.slice (some ⟨w.heap.size + 1, 0, none⟩) 1 1).ownBlock) := Lib.hid (fun e => by simp [Value.ownBlock] at e; omega)
  obtain ⟨i0, hi, hz0, hz1, hz2⟩ := info_parts infoP
  have Hi := Lib.hid (And.intro hi (And.intro hz0 (And.intro hz1 hz2)))
  clear hb ho hn hi hz0 hz1 hz2
  go_enter Try.func41, Try.ntmps41
  go_wp2
  go_region_law ((refine step_append_any _ rfl (.tmp 6) (.tmp 10) 36 rfl 0 79 i0 (.agg #[.int .i64 0, .int .i64 0]) 2 16 Try.underlying36 Hi.out.1 Hi.out.2.1 Hi.out.2.2.1 Hi.out.2.2.2 rfl (by decide) (.slice (some ⟨w.heap.size + 1, 0, none⟩) 1 1) 1 [.int .i64 qk, .int .i64 qv] rfl ?h1 w.heap.size A ps.length c (flat ps) rfl ?h2 ?h3 ?h4 ?h5 (Nat.zero_le _) ?_; (case h1 => exact HO.out); (case h2 => exact HR.out); (case h3 => exact flat_one ps); (case h4 => have := H.out.2.2; unfold maxLen; omega); (case h5 => have := H.out.2.2; omega); intro v' w3 hown3 hby3 hv3; obtain ⟨A9, c9, rfl, _⟩ := own_slice hown3; have hB := ((H.out.1.alloc (.cells #[.int .i64 qk, .int .i64 qv] 79)).alloc (.cells #[.int .i64 qk, .int .i64 qv] 79)).drew.grown hby3 Hne2.out; have k1 : w3.cell? ⟨g, 1, none⟩ = some (.slice A ps.length c) := hB.cell 1; have k2 : w3.frozen? ⟨g, 1, none⟩ = false := hB.frozen 1; have H3 := Lib.hid (And.intro hown3 (And.intro hby3 (And.intro hv3 hB))); clear hown3 hby3 hv3 hB))
  all_goals
    have Hfin := Lib.hid (rfirst_close H.out.1 H3.out.1 H3.out.2.1 H3.out.2.2.2)
    clear H3 k1 k2
    go_end0
    exact Hfin.out

theorem lastM_skip (k : Int) (a : (Int × Int) × Bool) : ∀ (l : List (Int × Int)), (∀ q ∈ l, q.1 ≠ k) → l.foldl (fun a q => if q.1 = k then (q, true) else a) a = a
  | [], _ => rfl
  | q :: l, h => by
    rw [List.foldl_cons, if_neg (h q (by simp))]
    exact lastM_skip k a l fun x hx => h x (by simp [hx])
theorem lastM_none {ps : List (Int × Int)} {k : Int} (h : ∀ q ∈ ps, q.1 ≠ k) : lastM ps k = ((0, 0), false) := lastM_skip k _ ps h
theorem lastM_at {l1 l2 : List (Int × Int)} {k v : Int} (h : ((l1 ++ (k, v) :: l2).map (·.1)).Nodup) : lastM (l1 ++ (k, v) :: l2) k = ((k, v), true) := by
  unfold lastM
  rw [List.foldl_append, List.foldl_cons, if_pos rfl]
  refine lastM_skip k _ l2 fun q hq e => ?_
  rw [List.map_append, List.nodup_append] at h
  exact (List.nodup_cons.1 h.2.1).1 (by rw [← e]; exact List.mem_map_of_mem (f := (·.1)) hq)

def RDid (w : World) (g : Nat) (cap : Int) (ps : List (Int × Int)) (v : Value) (e : Ending) (w2 : World) : Prop :=
  e = .returned v ∧ RefAt w2 g cap ps ∧ w.grownBy w2 (some g)
theorem TakeQ.hit {w w2 : World} {g : Nat} {cap k v : Int} {l1 l2 : List (Int × Int)} {e : Ending} (h : TakeQ w g cap (l1 ++ (k, v) :: l2) k e w2) (hd : ((l1 ++ (k, v) :: l2).map (·.1)).Nodup) :
    e = .returned (.tuple #[.agg #[.int .i64 k, .int .i64 v], .bool true]) ∧ RefAt w2 g cap (l1 ++ l2) ∧ w.grownBy w2 (some g) := by
  obtain ⟨h1, h2, h3⟩ := h
  rw [lastM_at hd] at h1
  rw [(look_at hd).2] at h2
  exact ⟨h1, h2, h3⟩
theorem TakeQ.miss {w w2 : World} {g : Nat} {cap k : Int} {ps : List (Int × Int)} {e : Ending} (h : TakeQ w g cap ps k e w2) (hk : ∀ q ∈ ps, q.1 ≠ k) :
    e = .returned (.tuple #[.agg #[.int .i64 0, .int .i64 0], .bool false]) ∧ RefAt w2 g cap ps ∧ w.grownBy w2 (some g) := by
  obtain ⟨h1, h2, h3⟩ := h
  rw [lastM_none hk] at h1
  rw [(look_none hk).2] at h2
  exact ⟨h1, h2, h3⟩

set_option maxHeartbeats 400000 in
theorem rget_any (w : World) (g : Nat) (cap k : Int) (ps : List (Int × Int)) (h : RefAt w g cap ps) (hd : (ps.map (·.1)).Nodup) (hn : ps.length < 1000000) :
    Calls Try.prog 11 #[.pointer (some ⟨g, 0, none⟩), .int .i64 k] w (RDid w g cap (got ps k) (GetV ps k)) := by
  rcases split_ps ps k with ⟨l1, v, l2, rfl⟩ | ⟨h1, h2, h3⟩
  · have hg : got (l1 ++ (k, v) :: l2) k = (k, v) :: (l1 ++ l2) := got_at hd
    have hv : GetV (l1 ++ (k, v) :: l2) k = .tuple #[.int .i64 v, .bool true] := by unfold GetV; rw [(look_at hd).1]
    rw [hg, hv]
    have hn2 : (l1 ++ l2).length < 1000000 := by simp at hn ⊢; omega
    have H := Lib.hid (And.intro h (And.intro hn (And.intro hd hn2)))
    clear h hn hd hn2 hg hv
    go_enter Try.func11, Try.ntmps11
    go_wp2_with fail
    refine (take_any w g cap k _ H.out.1 H.out.2.1).mono ?_
    intro e w1 hq
    obtain ⟨rfl, r1, y1⟩ := hq.hit H.out.2.2.1
    have hgl : g < w.heap.size := by obtain ⟨v, hb, _⟩ := H.out.1; exact hb.lt
    have hgl1 : g < w1.heap.size := Nat.lt_of_lt_of_le hgl y1.size
    have hne : w1.heap.size ≠ g := by omega
    have R1 := Lib.hid (And.intro r1 y1)
    clear hq r1 y1
    go_wp2_with fail
    refine (rfirst_any _ g cap k v (l1 ++ l2) (R1.out.1.by_none (by_alloc (by_refl _ _) _)) H.out.2.2.2).mono ?_
    rintro e w2 ⟨rfl, r2, y2⟩
    have pb := ((Blk.new w1 79 #[.int .i64 k, .int .i64 v]).grown y2 (by simpa using hne))
    have p1 : w2.cell? ⟨w1.heap.size, 1, none⟩ = some (.int .i64 v) := pb.cell 1
    have hfin : RDid w g cap ((k, v) :: (l1 ++ l2)) (.tuple #[.int .i64 v, .bool true]) (.returned (.tuple #[.int .i64 v, .bool true])) w2 :=
      ⟨rfl, r2, by_trans (by_alloc R1.out.2 _) y2 (fun x hx => .inl hx.symm)⟩
    have Hfin := Lib.hid hfin
    clear hfin r2 y2 pb
    go_wp2
    go_ret2
    exact Hfin.out
  · have hg : got ps k = ps := got_none h1
    have hv : GetV ps k = .tuple #[.int .i64 0, .bool false] := by unfold GetV; rw [h1]
    rw [hg, hv]
    have H := Lib.hid (And.intro h (And.intro hn h3))
    clear h hn hd hg hv h1 h2 h3
    go_enter Try.func11, Try.ntmps11
    go_wp2_with fail
    refine (take_any w g cap k _ H.out.1 H.out.2.1).mono ?_
    intro e w1 hq
    obtain ⟨rfl, r1, y1⟩ := hq.miss H.out.2.2
    have hfin : RDid w g cap ps (.tuple #[.int .i64 0, .bool false]) (.returned (.tuple #[.int .i64 0, .bool false])) (w1.alloc (.cells #[.int .i64 0, .int .i64 0] 79)) :=
      ⟨rfl, r1.by_none (by_alloc (by_refl _ _) _), by_alloc y1 _⟩
    have Hfin := Lib.hid hfin
    clear hfin r1 y1 hq
    go_wp2
    go_ret2
    exact Hfin.out

end Go.Proofs.Ytgjklppmimhgnaa
