/-
  Of a number the sort: the walk of wire.of.
-/
import Derived.Test.YtlnlpphhnbodpaaSorts
namespace Go.Proofs.Ytlnlpphhnbodpaa
open Go.RowKit Go.Shelf

attribute [local go_sem] Oper.semAt_some

def sortOf (n : Int) : Srt := (rows.find? (fun x => decide (n ≤ x.2.1))).getD (0, 0, 0, 0)
def lastS (l : List Srt) : Srt := l.getLast?.getD (0, 0, 0, 0)
theorem lastS_snoc (l : List Srt) (x : Srt) : lastS (l ++ [x]) = x := by simp [lastS]
theorem find_pre {n : Int} {pre l : List Srt} {x : Srt} (h : pre ++ [x] <+: l) (h1 : ∀ y ∈ pre, y.2.1 < n) (h2 : n ≤ x.2.1) : l.find? (fun x => decide (n ≤ x.2.1)) = some x := by
  obtain ⟨t, rfl⟩ := h
  rw [List.append_assoc, List.find?_append, List.find?_eq_none.2 (by intro y hy; have := h1 y hy; simp; omega)]
  simp [h2]

theorem blk_own {W W' : World} {row : Option Nat} {g : Nat} {t : TypeId} {cs : Array Value} (h : Blk W g t cs) (hg : W.grownBy W' row) (hr : ∀ r, row = some r → ∃ o : Obj, W.heap[r]? = some o ∧ o.isCells = false) : Blk W' g t cs :=
  h.grown hg fun e => by
    obtain ⟨o, ho, hc⟩ := hr g e.symm
    rw [show W.heap[g]? = _ from h] at ho
    cases ho
    cases hc

theorem blk_store {W : World} {b : Nat} {y : Srt} (h : Blk W b 43 (cellS y)) (x : Srt) :
    Blk ((((W.setCell ⟨b, 0, none⟩ (.int .u64 x.1)).setCell ⟨b, 1, none⟩ (.int .u64 x.2.1)).setCell ⟨b, 2, none⟩ (.int .u8 x.2.2.1)).setCell ⟨b, 3, none⟩ (.int .i64 x.2.2.2)) b 43 (cellS x) := by
  have := (((h.set_ 0 (.int .u64 x.1)).set_ 1 (.int .u64 x.2.1)).set_ 2 (.int .u8 x.2.2.1)).set_ 3 (.int .i64 x.2.2.2)
  simpa [cellS] using this
theorem below_store {w W : World} {n b : Nat} (h : Below n w W) (hb : n ≤ b) (v1 v2 v3 v4 : Value) :
    Below n w ((((W.setCell ⟨b, 0, none⟩ v1).setCell ⟨b, 1, none⟩ v2).setCell ⟨b, 2, none⟩ v3).setCell ⟨b, 3, none⟩ v4) :=
  (((h.setCell (p := ⟨b, 0, none⟩) hb _).setCell (p := ⟨b, 1, none⟩) hb _).setCell (p := ⟨b, 2, none⟩) hb _).setCell (p := ⟨b, 3, none⟩) hb _

/-- what the loop knows between two rounds -/
structure OfI (w : World) (bn bo : Nat) (n : Int) (pre : List Srt) (W : World) : Prop where
  num : Blk W bn 25 #[.int .u64 n]
  out : Blk W bo 43 (cellS (lastS pre))
  lt : ∀ y ∈ pre, y.2.1 < n
  below : Below w.heap.size w W
structure OfX (w : World) (bo : Nat) (n : Int) (c : Code) (pre : List Srt) (W : World) : Prop where
  c_ : c = .exit 0
  out : Blk W bo 43 (cellS (lastS pre))
  is : ∃ pre' x, pre = pre' ++ [x] ∧ (∀ y ∈ pre', y.2.1 < n) ∧ n ≤ x.2.1
  below : Below w.heap.size w W

set_option maxRecDepth 100000 in
set_option maxHeartbeats 4000000 in
theorem of_in (F : Fence) (n : Nat) (h3 : F.fn 22) (h4 : F.fn 28) (h5 : F.fn 29) (hro : F.round = none) (hn : 6 ≤ n) (m : Int) (_hm0 : 0 ≤ m) (hm1 : m ≤ 18446744073709551615) (w : World) :
    CallsIn F n Try.prog 22 #[.int .u64 m] w fun e W' => e = .returned (encS (sortOf m)) ∧ Below w.heap.size w W' := by
  have h1 : 1 ≤ n := by omega
  refine callsIn_of_wp_marks Try.func22 rfl h3 ?_ hro
  simp only [Try.ntmps22, List.size_toArray, List.length_cons, List.length_nil, Nat.reduceAdd, Nat.reduceSub, Array.replicate_succ, Array.replicate_zero, List.push_toArray, List.append_toArray, List.nil_append, List.cons_append]
  gi_wp2_with (gi_at_call 28; refine (sorts_in F (n - 1) h4 hro _).mono ?_; rintro e w' ⟨rfl, rfl⟩)
  obtain ⟨W0, hW0⟩ : ∃ W0, (w.alloc (.cells #[.int .u64 m] 25)).alloc (.cells #[.int .u64 0, .int .u64 0, .int .u8 0, .int .i64 0] 43) = W0 := ⟨_, rfl⟩
  have hb : Below w.heap.size w W0 := by rw [← hW0]; exact ((Below.refl _ w).alloc (Nat.le_refl _) _).alloc (by simp) _
  have hsz : W0.heap.size = w.heap.size + 2 := by rw [← hW0]; simp
  have hn0 : Blk W0 w.heap.size 25 #[.int .u64 m] := by rw [← hW0]; exact (Blk.new w _ _).alloc _
  have ho0 : Blk W0 (w.heap.size + 1) 43 (cellS (lastS [])) := by
    rw [← hW0]
    have := Blk.new (w.alloc (.cells #[.int .u64 m] 25)) 43 #[.int .u64 0, .int .u64 0, .int .u8 0, .int .i64 0]
    rw [World.size_alloc] at this
    exact this
  rw [hW0]
  clear hW0
  refine wpIn_rangeFunc_ownH hro h1 (gf := 29) (lb := #[]) rfl h5 (enters_of Try.func29 (by kernel_rfl) rfl)
    (sorts_stops F (n - 1) h5 hro (by omega) W0) walksK_t (walksK_b (w := W0)) (Below.refl _ _) (fun _ => rfl)
    (fun pre W => OfI w w.heap.size (w.heap.size + 1) m pre W)
    (fun c pre W => OfX w (w.heap.size + 1) m c pre W)
    (fun pre X Y row hs hg hr => ⟨blk_own hs.num hg fun r e => (hr r e).2, blk_own hs.out hg fun r e => (hr r e).2, hs.lt, ownFrom_below (β := Unit) (Nat.le_refl _) (by omega) () X Y row hs.below hg hr⟩)
    (fun c pre X Y row hs hg hr => ⟨hs.c_, blk_own hs.out hg fun r e => (hr r e).2, hs.is, ownFrom_below (β := Unit) (Nat.le_refl _) (by omega) () X Y row hs.below hg hr⟩)
    ⟨hn0, ho0, by simp, hb⟩
    (fun x a' W => ∃ Bx, w.heap.size + 1 < Bx ∧ Blk W Bx 43 (cellS x) ∧ a' = { tmps := #[.int .u64 m, .pointer (some ⟨w.heap.size, 0, none⟩), .pointer (some ⟨w.heap.size + 1, 0, none⟩), .pointer (some ⟨Bx, 0, none⟩), .func (.func 29) #[] #[], encS x, undef, undef, undef, undef, undef, undef], defers := [] })
    (fun x a' _ X Y row hs hg hr => by obtain ⟨Bx, h1, h2, h3⟩ := hs; exact ⟨Bx, h1, blk_own h2 hg fun r e => (hr r e).2, h3⟩)
    ?assign ?body ?done ?stop
  case assign =>
    rintro l pre x W K hi hK
    have hs := hi.below.size
    have hlt := hi.out.lt
    dsimp only [encS]
    gi_wp2
    exact hK _ _ ((KeepsOthers.alloc _ _).from _) (KeepsWalks.alloc _ _) ⟨hi.num.alloc _, hi.out.alloc _, hi.lt, hi.below.alloc hs _⟩ ⟨W.heap.size, hlt, Blk.new W _ _, rfl⟩
  case body =>
    rintro l pre x a' W hl ⟨r, hr⟩ hi ⟨Bx, hBx, bX, rfl⟩ hlt
    obtain ⟨x1, x2, x3, x4⟩ := x
    have Hi := Lib.hid (And.intro hi bX)
    have n0 := hi.num.cell 0
    have o0 := hi.out.cell 0
    have o1 := hi.out.cell 1
    have o2 := hi.out.cell 2
    have o3 := hi.out.cell 3
    have f0 := hi.out.frozen 0
    have f1 := hi.out.frozen 1
    have f2 := hi.out.frozen 2
    have f3 := hi.out.frozen 3
    have b0 := bX.cell 0
    have b1 := bX.cell 1
    have b2 := bX.cell 2
    have b3 := bX.cell 3
    simp [cellS] at n0 o0 o1 o2 o3 b0 b1 b2 b3
    clear hi bX hr
    dsimp only [encS]
    by_cases hle : m ≤ x2
    · gi_wp2
      obtain ⟨hi, bX⟩ := Hi.out
      have hs := hi.below.size
      exact ⟨((((KeepsOthers.setCell _ _ _).trans (KeepsOthers.setCell _ _ _)).trans (KeepsOthers.setCell _ _ _)).trans (KeepsOthers.setCell _ _ _)).from _,
        ⟨rfl, by rw [lastS_snoc]; exact blk_store hi.out (x1, x2, x3, x4), ⟨pre, _, rfl, hi.lt, hle⟩, below_store hi.below (by omega) _ _ _ _⟩⟩
    · gi_wp2
      obtain ⟨hi, bX⟩ := Hi.out
      have hs := hi.below.size
      refine ⟨((((KeepsOthers.setCell _ _ _).trans (KeepsOthers.setCell _ _ _)).trans (KeepsOthers.setCell _ _ _)).trans (KeepsOthers.setCell _ _ _)).from _,
        (((KeepsWalks.setCell _ _ _).trans (KeepsWalks.setCell _ _ _)).trans (KeepsWalks.setCell _ _ _)).trans (KeepsWalks.setCell _ _ _), ?_⟩
      refine ⟨(((hi.num.far (by simp) _).far (by simp) _).far (by simp) _).far (by simp) _, by rw [lastS_snoc]; exact blk_store hi.out (x1, x2, x3, x4), fun y hy => ?_, below_store hi.below (by omega) _ _ _ _⟩
      rcases List.mem_append.1 hy with hy | hy
      · exact hi.lt y hy
      · simp at hy; subst hy; exact (by omega : x2 < m)
  case done =>
    rintro D zs W hD rfl hi hK
    have := hi.lt (0, 18446744073709551615, 255, 8) (by decide)
    dsimp only at this
    omega
  case stop =>
    rintro D c pre W hD hSp hx hK
    obtain ⟨rfl, ho, ⟨pre', x, rfl, h1, h2⟩, hb⟩ := hx
    have hf := find_pre hSp h1 h2
    rw [lastS_snoc] at ho
    have o0 := ho.cell 0
    have o1 := ho.cell 1
    have o2 := ho.cell 2
    have o3 := ho.cell 3
    have f0 := ho.frozen 0
    have f1 := ho.frozen 1
    have f2 := ho.frozen 2
    have f3 := ho.frozen 3
    obtain ⟨x1, x2, x3, x4⟩ := x
    simp [cellS] at o0 o1 o2 o3
    have H := Lib.hid (And.intro ho (And.intro hf hb))
    clear ho hf hb hSp h1 h2
    gi_wp2
    obtain ⟨ho, hf, hb⟩ := H.out
    have hs := hb.size
    have ho9 := blk_store ho (x1, x2, x3, x4)
    have hb9 := below_store hb (b := w.heap.size + 1) (by omega) (.int .u64 x1) (.int .u64 x2) (.int .u8 x3) (.int .i64 x4)
    have hK9 := ((((KeepsOthers.setCell W ⟨w.heap.size + 1, 0, none⟩ (.int .u64 x1)).trans (KeepsOthers.setCell _ ⟨w.heap.size + 1, 1, none⟩ (.int .u64 x2))).trans (KeepsOthers.setCell _ ⟨w.heap.size + 1, 2, none⟩ (.int .u8 x3))).trans (KeepsOthers.setCell _ ⟨w.heap.size + 1, 3, none⟩ (.int .i64 x4))).same D _ hK rfl
    clear o0 o1 o2 o3 f0 f1 f2 f3 hK ho
    dsimp only at ho9
    generalize ((((W.setCell ⟨w.heap.size + 1, 0, none⟩ (.int .u64 x1)).setCell ⟨w.heap.size + 1, 1, none⟩ (.int .u64 x2)).setCell ⟨w.heap.size + 1, 2, none⟩ (.int .u8 x3)).setCell ⟨w.heap.size + 1, 3, none⟩ (.int .i64 x4)) = W9 at *
    refine ⟨by simp, .inl ⟨_, _, rfl, run_takeDeferred hK9, ?_⟩⟩
    have ho8 := ho9.grown (grownBy_putObj' W9 D (.deferred none)) (by simp; omega)
    have hb8 := hb9.trans (belowK_b (w := w) (Nat.le_refl _) W9 D _ (.deferred none) (by omega) hK9 rfl rfl)
    have o0 := ho8.cell 0
    have o1 := ho8.cell 1
    have o2 := ho8.cell 2
    have o3 := ho8.cell 3
    simp [cellS] at o0 o1 o2 o3
    refine ⟨encS (x1, x2, x3, x4), ?_, ?_, hb8⟩
    · simp [results, Try.results22, go_sem, o0, o1, o2, o3, encS]
    · unfold sortOf
      rw [hf]
      rfl

theorem of_any (w : World) (m : Int) (h0 : 0 ≤ m) (h1 : m ≤ 18446744073709551615) :
    Calls Try.prog 22 #[.int .u64 m] w fun e w' => e = .returned (encS (sortOf m)) ∧ w.grownBy w' none :=
  (callsIn_wide.1 (of_in Fence.wide 6 trivial trivial trivial rfl (Nat.le_refl _) m h0 h1 w)).mono fun _ _ h => ⟨h.1, by_of_below h.2⟩
end Go.Proofs.Ytlnlpphhnbodpaa
