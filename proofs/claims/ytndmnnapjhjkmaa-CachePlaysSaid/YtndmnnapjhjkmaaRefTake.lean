/-
  The document's cache: take.
-/
import Derived.Test.YtndmnnapjhjkmaaRef
namespace Go.Proofs.Ytndmnnapjhjkmaa
open Go.RowKit iStrRes

def ZP : Value := .agg #[.string ⟨#[]⟩, .slice none 0 0, .string ⟨#[]⟩, .bool false, .slice none 0 0, .slice none 0 0, .int .u64 0]
def RTakeHit (w : World) (r : Nat) (cap : Int) (k : ByteArray) (rv : RV) (ps : List (ByteArray × RV)) (e : Ending) (w' : World) : Prop :=
  e = .returned (.tuple #[.agg #[.string k, .slice rv.d.1 rv.d.2.1 rv.d.2.2, .string rv.p, .bool rv.b, .slice rv.vs.1 rv.vs.2.1 rv.vs.2.2, .slice rv.ts.1 rv.ts.2.1 rv.ts.2.2, .int .u64 rv.c], .bool true]) ∧ RefAt w' r cap ps ∧ w.grownBy w' (some r)
def RTakeMiss (w : World) (r : Nat) (cap : Int) (ps : List (ByteArray × RV)) (e : Ending) (w' : World) : Prop :=
  e = .returned (.tuple #[.agg #[.string ⟨#[]⟩, .slice none 0 0, .string ⟨#[]⟩, .bool false, .slice none 0 0, .slice none 0 0, .int .u64 0], .bool false]) ∧ RefAt w' r cap ps ∧ w.grownBy w' none

theorem key_at {w : World} {v : Value} {ps : List (ByteArray × RV)} {j : Nat} (h : w.ownsRow 0 66 7 v ps.length (pcells ps)) (hj : j < ps.length) :
    ∃ g c, v = .slice (some ⟨g, 0, none⟩) ps.length c ∧ g < w.heap.size ∧ ∀ i, i < 7 → w.cell? ⟨g, j * 7 + i, none⟩ = (pcell ps[j])[i]? := by
  obtain ⟨A, c, rfl, _, _, _, h4⟩ := own_at h
  obtain ⟨g, rfl, hg, hc⟩ := h4 (by omega)
  refine ⟨g, c, rfl, hg, fun i hi => ?_⟩
  have h5 := pcells_at (ps.take j) ps[j] (ps.drop (j + 1)) i hi
  have h6 : ps.take j ++ ps[j] :: ps.drop (j + 1) = ps := by simp
  rw [h6, List.length_take, Nat.min_eq_left (by omega)] at h5
  have h7 : (pcell ps[j])[i]? = some ((pcell ps[j])[i]'(by simp [pcell]; omega)) := List.getElem?_eq_getElem _
  rw [h7] at h5 ⊢
  exact hc _ _ h5

set_option maxRecDepth 100000 in
set_option maxHeartbeats 1000000 in
theorem rtake_miss (w : World) (r : Nat) (cap : Int) (k : ByteArray) (ps : List (ByteArray × RV)) (h : RefAt w r cap ps) (hn : ps.length < 1000000) (hk : ∀ q ∈ ps, q.1 ≠ k) :
    Calls Try.prog 20 #[.pointer (some ⟨r, 0, none⟩), .string k] w (RTakeMiss w r cap ps) := by
  obtain ⟨v, hb, ho⟩ := h
  obtain ⟨A, c, rfl, hc1, hc2, hA, hcell⟩ := own_at ho
  obtain ⟨w1, hw1⟩ : ∃ w1, w1 = w.alloc (.cells #[.string ⟨#[]⟩, .slice none 0 0, .string ⟨#[]⟩, .bool false, .slice none 0 0, .slice none 0 0, .int .u64 0] 66) := ⟨_, rfl⟩
  have y1 : w.grownBy w1 none := by rw [hw1]; exact by_alloc (by_refl _ _) _
  have hb4 : Blk w1 w.heap.size 66 #[.string ⟨#[]⟩, .slice none 0 0, .string ⟨#[]⟩, .bool false, .slice none 0 0, .slice none 0 0, .int .u64 0] := by rw [hw1]; exact Blk.new _ _ _
  have hb1 := hb.grown y1 (by simp)
  have ho1 := own_chg ho (Chg.of_none (S := fun _ => False) y1) fun _ _ h => h
  have r1 : w1.cell? ⟨r, 1, none⟩ = some (.slice A ps.length c) := hb1.cell 1
  have H := Lib.hid (And.intro hb1 (And.intro ho1 (And.intro hk (And.intro hb4 y1))))
  have HW := Lib.hid hw1
  have Ho := Lib.hid (fun b hb => (World.ownsRow.lt ho b hb).2)
  clear hb ho hb4 hb1 ho1 hk hw1 y1 hA hcell
  go_enter Try.func20, Try.ntmps20
  go_wp2_with fail
  rw [← HW.out]
  go_loopg [6] ps.length (fun m i wr => ∃ j : Nat, j ≤ ps.length ∧ m = ps.length - j ∧ i = .int .i64 (j : Nat) ∧ wr = w1)
  case atStart => exact ⟨0, Nat.zero_le _, rfl, rfl, rfl⟩
  case round =>
    obtain ⟨j, hj, hm, rfl, rfl⟩ := hrel
    rcases Nat.lt_or_ge j ps.length with hlt | hge
    · obtain ⟨g, c', e, _, hkey⟩ := key_at H.out.2.1 hlt
      injection e with e1 e2 e3
      subst e1 e3
      have k0 : wr.cell? ⟨g, j * 7, none⟩ = some (.string ps[j].1) := hkey 0 (by omega)
      have hne := tl_ne (H.out.2.2.1 _ (List.getElem_mem hlt))
      have hI : (j : Int) < (ps.length : Int) := by omega
      have hI0 : (0 : Int) ≤ (j : Int) := by omega
      have hI4 : (ps.length : Int) ≤ 1000000 := by omega
      have Hm := Lib.hid (And.intro hm hlt)
      generalize hkj : ps[j].1 = kj at *
      clear hkey hkj hm hlt hj
      go_wp2
      go_roundg (ps.length - (j + 1))
      case measure => have h1 := Hm.out.1; have h2 := Hm.out.2; omega
      case rel => exact ⟨j + 1, by have := Hm.out.2; omega, rfl, by go_num, rfl⟩
    · obtain rfl : j = ps.length := by omega
      have hI : ¬ ((ps.length : Int) < (ps.length : Int)) := by omega
      have hB := H.out.2.2.2.1
      have HB := Lib.hid hB
      clear hB
      have hs := sz7 ⟨#[]⟩ ⟨#[]⟩ (none, 0, 0) (none, 0, 0) (none, 0, 0) false 0
      have h1 := one7 ⟨#[]⟩ ⟨#[]⟩ (none, 0, 0) (none, 0, 0) (none, 0, 0) false 0
      have Hs := Lib.hid (And.intro hs h1)
      clear hs h1
      go_wp2_with (refine wpList_store_row rfl 66 (.tmp 4) (.tmp 56) rfl w.heap.size #[.string ⟨#[]⟩, .slice none 0 0, .string ⟨#[]⟩, .bool false, .slice none 0 0, .slice none 0 0, .int .u64 0] rfl rfl 66 #[.string ⟨#[]⟩, .slice none 0 0, .string ⟨#[]⟩, .bool false, .slice none 0 0, .slice none 0 0, .int .u64 0] HB.out Hs.out.1 rfl Hs.out.2 ?_)
      have hC : Chg wr (wr.setRow w.heap.size #[.string ⟨#[]⟩, .slice none 0 0, .string ⟨#[]⟩, .bool false, .slice none 0 0, .slice none 0 0, .int .u64 0]) (fun b => b = w.heap.size) := (Chg.refl wr (fun b => b = w.heap.size)).row (g := w.heap.size) (.inl rfl) _
      have HC := Lib.hid hC
      clear hC
      (try simp only [Exit.inBlock, Exit.then])
      refine bodyPost_ret (v := .tuple #[.agg #[.string ⟨#[]⟩, .slice none 0 0, .string ⟨#[]⟩, .bool false, .slice none 0 0, .slice none 0 0, .int .u64 0], .bool false]) ?_ rfl ⟨rfl, ?_, ?_⟩
      · rw [results_cell_tmp rfl]
        have hl := run_loadVar_row (P := Try.prog) _ w.heap.size 66 66 _ _ _ (HB.out.row #[.string ⟨#[]⟩, .slice none 0 0, .string ⟨#[]⟩, .bool false, .slice none 0 0, .slice none 0 0, .int .u64 0]) Try.underlying66 rfl Hs.out.1
        simp [asAddr, Result.andThen, hl]
      · have h3 := H.out.1.lt
        refine ⟨_, H.out.1.chg HC.out (H.out.1.ne_ HB.out (by decide)), own_chg H.out.2.1 HC.out fun g hg e => ?_⟩
        have := Ho.out _ hg
        omega
      · exact ((Chg.of_none (S := fun b => b = w.heap.size) H.out.2.2.2.2).trans HC.out (fun _ h => .inl h)).none_ (fun b hb => by rw [hb]; exact Nat.le_refl _)

theorem Reads.take_ {w : World} {B size n k : Nat} {A : Option Addr} {xs : List Value} (h : Reads w B size A n xs) (hk : k ≤ n) : Reads w B size A k (xs.take (k * size)) :=
  ⟨by rw [List.length_take, h.1, Nat.min_eq_left (Nat.mul_le_mul_right size hk)], fun hp => by
    obtain ⟨ad, e, hb, hc⟩ := h.2 (by omega)
    refine ⟨ad, e, hb, fun j u hu => hc j u ?_⟩
    rw [List.getElem?_take] at hu
    split at hu
    · exact hu
    · cases hu⟩
set_option maxRecDepth 100000 in
set_option maxHeartbeats 2000000 in
theorem rtake_hit (w : World) (r : Nat) (cap : Int) (k : ByteArray) (rv : RV) (l1 l2 : List (ByteArray × RV)) (h : RefAt w r cap (l1 ++ (k, rv) :: l2)) (hn : (l1 ++ (k, rv) :: l2).length < 1000000) (hk : ∀ q ∈ l1, q.1 ≠ k) :
    Calls Try.prog 20 #[.pointer (some ⟨r, 0, none⟩), .string k] w (RTakeHit w r cap k rv (l1 ++ l2)) := by
  obtain ⟨v, hb, ho⟩ := h
  obtain ⟨A, c, rfl, hc1, hc2, hA, hcell⟩ := own_at ho
  obtain ⟨g, rfl, hg, hcell⟩ := hcell (by simp only [List.length_append, List.length_cons]; omega)
  obtain ⟨w1, hw1⟩ : ∃ w1, w1 = w.alloc (.cells #[.string ⟨#[]⟩, .slice none 0 0, .string ⟨#[]⟩, .bool false, .slice none 0 0, .slice none 0 0, .int .u64 0] 66) := ⟨_, rfl⟩
  have y1 : w.grownBy w1 none := by rw [hw1]; exact by_alloc (by_refl _ _) _
  have hb4 : Blk w1 w.heap.size 66 #[.string ⟨#[]⟩, .slice none 0 0, .string ⟨#[]⟩, .bool false, .slice none 0 0, .slice none 0 0, .int .u64 0] := by rw [hw1]; exact Blk.new _ _ _
  have hb1 := hb.grown y1 (by simp)
  have ho1 := own_chg ho (Chg.of_none (S := fun _ => False) y1) fun _ _ h => h
  obtain ⟨n, hnn⟩ : ∃ n, n = (l1 ++ (k, rv) :: l2).length := ⟨_, rfl⟩
  have hll : n = l1.length + 1 + l2.length := by rw [hnn]; simp; omega
  have hr : Reads w1 w1.heap.size 7 (some ⟨g, 0, none⟩) n (pcells (l1 ++ (k, rv) :: l2)) := by rw [hnn]; exact Reads.of_own ho1
  rw [← hnn] at hc1 hn
  have r1 : w1.cell? ⟨r, 1, none⟩ = some (.slice (some ⟨g, 0, none⟩) n c) := by rw [hnn]; exact hb1.cell 1
  have hgr : g ≠ r := fun e => own_blk_ne ho hb (by decide) (by simp [Value.ownBlock, e])
  have H := Lib.hid (And.intro (by rw [hnn]; exact hb1 : Blk w1 r 28 #[.int .i64 cap, .slice (some ⟨g, 0, none⟩) n c]) (And.intro hr (And.intro hk (And.intro hb4 (And.intro y1 (And.intro hll (And.intro hgr hg)))))))
  have hrow : ∀ i, i < 7 → w1.cell? ⟨g, l1.length * 7 + i, none⟩ = (pcell (k, rv))[i]? := fun i hi => by
    have h5 := pcells_at l1 (k, rv) l2 i hi
    have h7 : (pcell (k, rv))[i]? = some ((pcell (k, rv))[i]'(by simp [pcell]; omega)) := List.getElem?_eq_getElem _
    rw [h7] at h5 ⊢
    exact y1.cell (hcell _ _ h5) (by simp)
  have hkeys : ∀ j, j < l1.length → ∃ kj, w1.cell? ⟨g, j * 7, none⟩ = some (.string kj) ∧ kj ≠ k := fun j hj => by
    obtain ⟨g', c', e, _, h6⟩ := key_at ho1 (j := j) (by simp; omega)
    injection e with e1
    injection e1 with e1
    injection e1 with e1
    subst e1
    have h7 := h6 0 (by omega)
    rw [List.getElem_append_left (by omega)] at h7
    exact ⟨l1[j].1, h7, hk _ (List.getElem_mem hj)⟩
  have HK := Lib.hid (And.intro hrow hkeys)
  have HW := Lib.hid hw1
  have hcb : c ≤ 9223372036854775807 := by unfold maxLen at hc2; omega
  clear hb ho hb4 hb1 ho1 hk hw1 y1 hA hcell hrow hkeys hr hnn hgr hg hc2
  go_enter Try.func20, Try.ntmps20
  go_wp2_with fail
  rw [← HW.out]
  go_loopg [6] l1.length (fun m i wr => ∃ j : Nat, j ≤ l1.length ∧ m = l1.length - j ∧ i = .int .i64 (j : Nat) ∧ wr = w1)
  case atStart => exact ⟨0, Nat.zero_le _, rfl, rfl, rfl⟩
  case round =>
    obtain ⟨j, hj, hm, rfl, rfl⟩ := hrel
    have hI : (j : Int) < (n : Int) := by omega
    have hI0 : (0 : Int) ≤ (j : Int) := by omega
    have hI4 : (n : Int) ≤ 1000000 := by omega
    rcases Nat.lt_or_ge j l1.length with hlt | hge
    · obtain ⟨kj, k0, hne⟩ := HK.out.2 j hlt
      have hne := tl_ne hne
      have Hm := Lib.hid (And.intro hm hlt)
      clear hm hlt hj
      go_wp2
      go_roundg (l1.length - (j + 1))
      case measure => have h1 := Hm.out.1; have h2 := Hm.out.2; omega
      case rel => exact ⟨j + 1, by have := Hm.out.2; omega, rfl, by go_num, rfl⟩
    · obtain rfl : l1.length = j := by omega
      have q0 := HK.out.1 0 (by omega)
      have q1 := HK.out.1 1 (by omega)
      have q2 := HK.out.1 2 (by omega)
      have q3 := HK.out.1 3 (by omega)
      have q4 := HK.out.1 4 (by omega)
      have q5 := HK.out.1 5 (by omega)
      have q6 := HK.out.1 6 (by omega)
      simp only [pcell, Nat.add_zero, List.getElem?_cons_zero, List.getElem?_cons_succ] at q0 q1 q2 q3 q4 q5 q6
      have heq := tl_eq k
      obtain ⟨wa, hwa⟩ : ∃ wa, wa = wr.alloc (.cells #[.string k, .slice rv.d.1 rv.d.2.1 rv.d.2.2, .string rv.p, .bool rv.b, .slice rv.vs.1 rv.vs.2.1 rv.vs.2.2, .slice rv.ts.1 rv.ts.2.1 rv.ts.2.2, .int .u64 rv.c] 66) := ⟨_, rfl⟩
      have ya : wr.grownBy wa none := by rw [hwa]; exact by_alloc (by_refl _ _) _
      have hb7 : Blk wa wr.heap.size 66 #[.string k, .slice rv.d.1 rv.d.2.1 rv.d.2.2, .string rv.p, .bool rv.b, .slice rv.vs.1 rv.vs.2.1 rv.vs.2.2, .slice rv.ts.1 rv.ts.2.1 rv.ts.2.2, .int .u64 rv.c] := by rw [hwa]; exact Blk.new _ _ _
      have hra := (H.out.2.1.grown ya (Nat.le_refl _) (by simp)).more ya.size
      have hba := H.out.1.grown ya (by simp)
      have x1 : wa.cell? ⟨r, 1, none⟩ = some (.slice (some ⟨g, 0, none⟩) n c) := hba.cell 1
      rw [hwa] at x1
      have hr1 := hra.take_ (k := l1.length) (by omega)
      rw [pcells_take] at hr1
      have Ha := Lib.hid (And.intro hba (And.intro hra (And.intro hb7 (And.intro ya hr1))))
      have Hwa := Lib.hid hwa
      obtain ⟨i0, hi, hz0, hz1, hz2⟩ := info_some infoPair
      have Hi := Lib.hid (And.intro hi (And.intro hz0 (And.intro hz1 hz2)))
      clear hra hba hb7 ya hwa hr1 hi hz0 hz1 hz2 hm hj
      obtain ⟨j, hjj⟩ : ∃ j, j = l1.length := ⟨_, rfl⟩
      rw [← hjj] at q0 q1 q2 q3 q4 q5 q6 hI hI0 hll hge Ha ⊢
      have hjn : j + 1 ≤ n := by omega
      have hjm : j ≤ n := by omega
      have Hj := Lib.hid (And.intro hjj hll)
      clear hjj hge hll
      go_wp2_with (at_builtin; rw [← Hwa.out]; refine wpList_append_any wa rfl (.tmp 35) (.tmp 41) 26 rfl 0 66 i0 _ 7 120 Try.underlying26 Hi.out.1 Hi.out.2.1 Hi.out.2.2.1 Hi.out.2.2.2 rfl (by decide) (.slice none 0 0) 0 [] rfl (World.ownsRow_nil _ _ _ _) wa.heap.size (some ⟨g, 0, none⟩) j c (pcells l1) rfl ?h1 ?h2 ?h3 ?h4 (Nat.zero_le _) ?_)
      case h1 => exact Ha.out.2.2.2.2
      case h2 => exact pcells_one l1
      case h3 => unfold maxLen; omega
      case h4 => omega
      intro v1 w2 ho2 y2 hv1
      try simp only [Nat.zero_add, List.nil_append] at ho2
      have y2 : wa.grownBy w2 none := y2
      obtain ⟨A1, c1, rfl, _, _, _, _⟩ := own_at ho2
      have hb2 := Ha.out.1.grown y2 (by simp)
      have x2 : w2.cell? ⟨r, 1, none⟩ = some (.slice (some ⟨g, 0, none⟩) n c) := hb2.cell 1
      have z2 : w2.frozen? ⟨r, 1, none⟩ = false := hb2.frozen 1
      have hr2 := ((Ha.out.2.1.grown y2 (Nat.le_refl _) (by simp)).more y2.size).cut (k := j + 1) (by have := Hj.out.2; omega) hc1
      have hpd : (pcells (l1 ++ (k, rv) :: l2)).drop ((j + 1) * 7) = pcells l2 := by
        have e : l1 ++ (k, rv) :: l2 = (l1 ++ [(k, rv)]) ++ l2 := by simp
        rw [e, Hj.out.1, show l1.length + 1 = (l1 ++ [(k, rv)]).length from by simp]
        exact pcells_drop _ _
      rw [hpd] at hr2
      have h72 := Ha.out.2.2.1.grown y2 (by simp)
      have H2 := Lib.hid (And.intro ho2 (And.intro y2 (And.intro hb2 (And.intro hr2 h72))))
      have hnj : n - (j + 1) = l2.length := by have := Hj.out.2; omega
      obtain ⟨A2, hsl, hrA⟩ : ∃ A2, (∀ W, (Instr.slice 26 (.slice (some ⟨g, 0, none⟩) n c) (some (.int .i64 ((j : Int) + 1))) none none).run Try.prog W = .ok (.slice A2 l2.length (c - (j + 1))) W) ∧ Reads w2 w2.heap.size 7 A2 l2.length (pcells l2) := by
        refine ⟨_, fun W => ?_, by rw [hnj] at hr2; exact hr2⟩
        have hu : Try.prog.underlying 26 = some (.slice (Try.prog.elem 26)) := by kernel_rfl
        have hz : (Go.sizeOf (Try.prog.elem 26)).run Try.prog W = .ok 7 W := by kernel_rfl
        rw [run_slice_l W 26 (some ⟨g, 0, none⟩) n c hu .i64 ((j : Int) + 1) (by omega) (by omega), hz]
        simp only [Result.andThen, sliced]
        rw [show ((j : Int) + 1).toNat = j + 1 by omega, hnj]
      have hv1 : ∀ b, (Value.slice A1 j c1).ownBlock = some b → b = wa.heap.size := fun b hb => by
        rcases hv1 with h | h
        · rw [h] at hb; cases hb
        · rw [h] at hb; cases hb; rfl
      have H2 := Lib.hid (And.intro ho2 (And.intro y2 (And.intro hb2 (And.intro hrA (And.intro h72 hv1)))))
      have hj1 : ((j : Int) + 1) ≤ (n : Int) := by have := Hj.out.2; omega
      have hnc : (n : Int) ≤ (c : Int) := by omega
      have hlb : (l2.length : Int) ≤ 1000000 := by have := Hj.out.2; omega
      obtain ⟨m2, hm2⟩ : ∃ m2, m2 = l2.length := ⟨_, rfl⟩
      rw [← hm2] at hsl H2 hlb
      have hjm2 : j + m2 < 1000000 := by have := Hj.out.2; omega
      have Hm2 := Lib.hid hm2
      clear ho2 y2 hb2 hr2 h72 hpd hnj hrA hm2 hv1
      go_wp2_with (at_builtin; refine wpList_append_any w2 rfl (.tmp 44) (.tmp 51) 26 rfl 0 66 i0 _ 7 120 Try.underlying26 Hi.out.1 Hi.out.2.1 Hi.out.2.2.1 Hi.out.2.2.2 rfl (by decide) (.slice A1 j c1) j (pcells l1) rfl ?k1 w2.heap.size A2 m2 (c - (j + 1)) (pcells l2) rfl ?k2 ?k3 ?k4 ?k5 (Nat.zero_le _) ?_)
      case k1 => exact H2.out.1
      case k2 => exact H2.out.2.2.2.1
      case k3 => exact pcells_one l2
      case k4 => unfold maxLen; omega
      case k5 => omega
      intro v2 w3 ho3 y3 hv2
      obtain ⟨A3, c3, rfl, _, _, _, _⟩ := own_at ho3
      have hb3 := H2.out.2.2.1.grown y3 (Ne.symm (own_blk_ne H2.out.1 H2.out.2.2.1 (by decide)))
      have hsa : wr.heap.size < wa.heap.size := by have := Ha.out.2.2.1.lt; exact this
      have hws : w.heap.size < wr.heap.size := H.out.2.2.2.1.lt
      have h73 := H2.out.2.2.2.2.1.grown y3 (fun e => by have := H2.out.2.2.2.2.2 _ e.symm; omega)
      have h43 := (((H.out.2.2.2.1.grown Ha.out.2.2.2.1 (by simp)).grown H2.out.2.1 (by simp)).grown y3 (fun e => by have := H2.out.2.2.2.2.2 _ e.symm; omega))
      have hgy : w.grownBy w3 none := ⟨y3.os.trans (by_trans (by_trans H.out.2.2.2.2.1 Ha.out.2.2.2.1 (by simp)) H2.out.2.1 (by simp)).os, y3.tape.trans (by_trans (by_trans H.out.2.2.2.2.1 Ha.out.2.2.2.1 (by simp)) H2.out.2.1 (by simp)).tape, y3.output.trans (by_trans (by_trans H.out.2.2.2.2.1 Ha.out.2.2.2.1 (by simp)) H2.out.2.1 (by simp)).output, Nat.le_trans (by_trans (by_trans H.out.2.2.2.2.1 Ha.out.2.2.2.1 (by simp)) H2.out.2.1 (by simp)).size y3.size, fun b hb _ => by
        have h0 := by_trans (by_trans H.out.2.2.2.2.1 Ha.out.2.2.2.1 (by simp)) H2.out.2.1 (by simp)
        rw [y3.block b (Nat.lt_of_lt_of_le hb h0.size) (fun e => by have := H2.out.2.2.2.2.2 _ e.symm; omega)]
        exact h0.block b hb (by simp)⟩
      have hv2 : ∀ b, (Value.slice A3 (j + m2) c3).ownBlock = some b → wa.heap.size ≤ b := fun b hb => by
        rcases hv2 with h | h
        · rw [h] at hb; exact Nat.le_of_eq (H2.out.2.2.2.2.2 b hb).symm
        · rw [h] at hb; cases hb; exact H2.out.2.1.size
      have x3 : w3.cell? ⟨r, 1, none⟩ = some (.slice (some ⟨g, 0, none⟩) n c) := hb3.cell 1
      have z3 : w3.frozen? ⟨r, 1, none⟩ = false := hb3.frozen 1
      have hne4 : w.heap.size ≠ r := fun e => h43.ne_ (e ▸ hb3) (by decide) rfl
      have hne7 : wr.heap.size ≠ r := fun e => h73.ne_ (e ▸ hb3) (by decide) rfl
      have h44 := h43.far (p := ⟨r, 1, none⟩) hne4 (.slice A3 (j + m2) c3)
      have h74 := h73.far (p := ⟨r, 1, none⟩) hne7 (.slice A3 (j + m2) c3)
      have hb4 := hb3.set_ 1 (.slice A3 (j + m2) c3)
      have ho4 := own_chg ho3 ((Chg.refl w3 (fun b => b = r)).set_ (p := ⟨r, 1, none⟩) (.inl rfl) (.slice A3 (j + m2) c3)) (fun b hb e => own_blk_ne ho3 hb3 (by decide) (e ▸ hb))
      have hC5 := (Chg.refl (w3.setCell ⟨r, 1, none⟩ (.slice A3 (j + m2) c3)) (fun b => b = w.heap.size)).row (g := w.heap.size) (.inl rfl) #[.string k, .slice rv.d.1 rv.d.2.1 rv.d.2.2, .string rv.p, .bool rv.b, .slice rv.vs.1 rv.vs.2.1 rv.vs.2.2, .slice rv.ts.1 rv.ts.2.1 rv.ts.2.2, .int .u64 rv.c]
      have hfin : RTakeHit w r cap k rv (l1 ++ l2) (.returned (.tuple #[.agg #[.string k, .slice rv.d.1 rv.d.2.1 rv.d.2.2, .string rv.p, .bool rv.b, .slice rv.vs.1 rv.vs.2.1 rv.vs.2.2, .slice rv.ts.1 rv.ts.2.1 rv.ts.2.2, .int .u64 rv.c], .bool true])) ((w3.setCell ⟨r, 1, none⟩ (.slice A3 (j + m2) c3)).setRow w.heap.size #[.string k, .slice rv.d.1 rv.d.2.1 rv.d.2.2, .string rv.p, .bool rv.b, .slice rv.vs.1 rv.vs.2.1 rv.vs.2.2, .slice rv.ts.1 rv.ts.2.1 rv.ts.2.2, .int .u64 rv.c]) := by
        refine ⟨rfl, ⟨.slice A3 (j + m2) c3, hb4.chg hC5 (Ne.symm hne4), ?_⟩, ?_⟩
        · rw [pcells_app, List.length_append, ← Hj.out.1, ← Hm2.out]
          exact own_chg ho4 hC5 fun b hb e => by have := hv2 b hb; omega
        · have h1 := ((Chg.of_none (S := fun b => b = r) hgy).set_ (p := ⟨r, 1, none⟩) (.inl rfl) (.slice A3 (j + m2) c3))
          have h2 := (h1.mono (T := fun b => b = r) fun _ _ h => h).trans hC5 (fun b hb => .inr (by rw [hb]; exact Nat.le_refl _))
          exact ⟨h2.os, h2.tape, h2.output, h2.size, fun b hb hne => h2.block b hb (fun e => hne (by rw [e]))⟩
      have HF := Lib.hid hfin
      have Hrow := Lib.hid (And.intro h44 h74)
      have Hsz := Lib.hid (And.intro (sz7 k rv.p rv.d rv.vs rv.ts rv.b rv.c) (one7 k rv.p rv.d rv.vs rv.ts rv.b rv.c))
      clear ho3 y3 hv2 hb3 h73 h43 hgy hne4 hne7 h44 h74 hb4 ho4 hC5 hfin hsa hws
      go_wp2_with (first | (refine wpList_load_row rfl 66 (.tmp 7) rfl wr.heap.size rfl 66 #[.string k, .slice rv.d.1 rv.d.2.1 rv.d.2.2, .string rv.p, .bool rv.b, .slice rv.vs.1 rv.vs.2.1 rv.vs.2.2, .slice rv.ts.1 rv.ts.2.1 rv.ts.2.2, .int .u64 rv.c] (0, 0) _ Hrow.out.2 Try.underlying66 rfl Hsz.out.1 ?_) | (refine wpList_store_row rfl 66 (.tmp 4) (.tmp 55) rfl w.heap.size #[.string k, .slice rv.d.1 rv.d.2.1 rv.d.2.2, .string rv.p, .bool rv.b, .slice rv.vs.1 rv.vs.2.1 rv.vs.2.2, .slice rv.ts.1 rv.ts.2.1 rv.ts.2.2, .int .u64 rv.c] rfl rfl 66 #[.string ⟨#[]⟩, .slice none 0 0, .string ⟨#[]⟩, .bool false, .slice none 0 0, .slice none 0 0, .int .u64 0] Hrow.out.1 Hsz.out.1 rfl Hsz.out.2 ?_))
      (try simp only [Exit.inBlock, Exit.then])
      refine bodyPost_ret (v := .tuple #[.agg #[.string k, .slice rv.d.1 rv.d.2.1 rv.d.2.2, .string rv.p, .bool rv.b, .slice rv.vs.1 rv.vs.2.1 rv.vs.2.2, .slice rv.ts.1 rv.ts.2.1 rv.ts.2.2, .int .u64 rv.c], .bool true]) ?_ rfl HF.out
      rw [results_cell_tmp rfl]
      have hl := run_loadVar_row (P := Try.prog) _ w.heap.size 66 66 _ _ _ (Hrow.out.1.row #[.string k, .slice rv.d.1 rv.d.2.1 rv.d.2.2, .string rv.p, .bool rv.b, .slice rv.vs.1 rv.vs.2.1 rv.vs.2.2, .slice rv.ts.1 rv.ts.2.1 rv.ts.2.2, .int .u64 rv.c]) Try.underlying66 rfl Hsz.out.1
      simp [asAddr, Result.andThen, hl]
end Go.Proofs.Ytndmnnapjhjkmaa
