/-
  FrameWhole: what was packed, one behind the other, comes out just so, in whatever pieces it comes (all inputs, no condition).
-/
import Derived.Test.YteidcneijjnkaaaStep
import Derived.Test.YteidcneijjnkaaaAppend
import Derived.Test.YteidcneijjnkaaaRow
namespace Go.Proofs.Yteidcneijjnkaaa.frameWhole
open Go.ChangeShapes Go.WideShapes Go.ChangeAt Go.RowKit
open Go.ChangeMaps (open_string shut_string)

/-! ### the plain law -/
def fits (s : ByteArray) : Bool := decide (1 ≤ s.size) && decide (s.size ≤ 8192)
def cat : List ByteArray → ByteArray
  | [] => ⟨#[]⟩
  | s :: r => packed s ++ cat r

theorem packed_size (s : ByteArray) : (packed s).size = 2 + s.size := by unfold packed; rw [app_size]; rfl
theorem packed_n (s : ByteArray) (h : s.size ≤ 8192) : nOf (packed s) = s.size := by
  unfold packed
  rw [nOf_app ⟨#[(s.size / 256).toUInt8, (s.size % 256).toUInt8]⟩ s (Nat.le_refl 2)]
  show ((s.size / 256).toUInt8).toNat * 256 + ((s.size % 256).toUInt8).toNat = s.size
  have e1 : ((s.size / 256).toUInt8).toNat = s.size / 256 % 256 := UInt8.toNat_ofNat'
  have e2 : ((s.size % 256).toUInt8).toNat = s.size % 256 % 256 := UInt8.toNat_ofNat'
  rw [e1, e2]
  omega
theorem pack_cut (s : ByteArray) (h1 : 1 ≤ s.size) (h2 : s.size ≤ 8192) : cutAll (packed s) = ([s], ⟨#[]⟩, false) := by
  have hz := packed_size s
  have hn := packed_n s h2
  rw [← cutAll_of (k := s.size + 1 + 1) (by omega), cut_one (by omega) (by omega) (by omega), hn]
  have e1 : (packed s).extract 2 (2 + s.size) = s := by
    apply ba_ext
    rw [data_ext]
    unfold packed
    rw [data_app]
    simp
    rw [List.take_of_length_le (by simp)]
  have e2 : (packed s).extract (2 + s.size) (packed s).size = ⟨#[]⟩ := by
    apply ba_ext
    rw [data_ext, hz]
    simp
  rw [e1, e2]
  rfl
theorem cat_cut : ∀ l : List ByteArray, (∀ s ∈ l, fits s = true) → cutAll (cat l) = (l, ⟨#[]⟩, false) := by
  intro l
  induction l with
  | nil => intro _; rfl
  | cons s r ih =>
    intro h
    have hs := h s (by simp)
    simp only [fits, Bool.and_eq_true, decide_eq_true_eq] at hs
    have h1 := pack_cut s hs.1 hs.2
    show cutAll (packed s ++ cat r) = _
    rw [cutAll_go (by rw [h1]), h1]
    rw [empty_app, ih (fun x hx => h x (by simp [hx]))]
    simp
theorem cat_snoc : ∀ (l : List ByteArray) (s : ByteArray), cat (l ++ [s]) = cat l ++ packed s := by
  intro l
  induction l with
  | nil => intro s; simp [cat]; apply ba_ext; simp
  | cons x r ih => intro s; simp [cat, ih]; apply ba_ext; simp [data_app]
theorem cat_size : ∀ (l : List ByteArray), (∀ s ∈ l, fits s = true) → (cat l).size ≤ 8194 * l.length := by
  intro l
  induction l with
  | nil => intro _; exact Nat.le_refl _
  | cons s r ih =>
    intro h
    have hs := h s (by simp)
    simp only [fits, Bool.and_eq_true, decide_eq_true_eq] at hs
    have := ih (fun x hx => h x (by simp [hx]))
    simp only [cat, app_size, packed_size, List.length_cons]
    omega
/-- what is there of the first j texts -/
def good (l : List ByteArray) (j : Nat) : List ByteArray := (l.take j).filter fits
theorem good_fits (l : List ByteArray) (j : Nat) : ∀ s ∈ good l j, fits s = true := fun s hs => (List.mem_filter.1 hs).2
theorem good_len (l : List ByteArray) (j : Nat) : (good l j).length ≤ j := Nat.le_trans (List.length_filter_le _ _) (List.length_take_le _ _)
theorem good_yes (l : List ByteArray) (j : Nat) (h : j < l.length) (hf : fits l[j] = true) : good l (j + 1) = good l j ++ [l[j]] := by
  unfold good
  rw [List.take_succ_eq_append_getElem h, List.filter_append]
  simp [hf]
theorem good_no (l : List ByteArray) (j : Nat) (h : j < l.length) (hf : fits l[j] = false) : good l (j + 1) = good l j := by
  unfold good
  rw [List.take_succ_eq_append_getElem h, List.filter_append]
  simp [hf]
theorem unbroken {St R A : ByteArray} (h : St ++ R = A) (hA : (cutAll A).2.2 = false) : (cutAll St).2.2 = false := by
  cases hb : (cutAll St).2.2 with
  | false => rfl
  | true =>
    have := cutAll_stay (t := R) hb
    rw [h] at this
    rw [this] at hA
    cases hA

/-! ### the walk -/
structure Rel1 (w0 : World) (l : List ByteArray) (k : Nat) (a v i : Value) (wr : World) (j : Nat) : Prop where
  slot : i = .int .i64 j
  all : a = .string (cat (good l j))
  le : j ≤ l.length
  top : j ≤ 30
  num : k = l.length - j
  own : wr.ownsRow w0.heap.size 9 1 v (good l j).length ((good l j).map .string)
  by_ : w0.grownBy wr none

theorem rel1_yes {w0 wr w1 w2 : World} {l : List ByteArray} {k j : Nat} {a v i v' : Value} {nn : Nat} {xs : List Value} (h : Rel1 w0 l k a v i wr j) (hlt : j < l.length) (ht : j < 30) (hf : fits l[j] = true)
    (y1 : wr.grownBy w1 none) (own : w2.ownsRow w0.heap.size 9 1 v' nn xs) (hn : nn = (good l j).length + 1) (hx : xs = (good l j).map .string ++ [.string l[j]]) (y2 : w1.grownBy w2 v.ownBlock) :
    Rel1 w0 l (l.length - (j + 1)) (.string (cat (good l j) ++ packed l[j])) v' (.int .i64 ((j : Int) + 1)) w2 (j + 1) := by
  have e := good_yes l j hlt hf
  have hb := World.ownsRow.lt h.own
  refine ⟨by go_num, by rw [e, cat_snoc], by omega, by omega, rfl, ?_, ?_⟩
  · rw [e]
    simpa [hn, hx] using own
  · exact by_trans (by_trans h.by_ y1 (fun x hx => by cases hx)) y2 (fun x hx => .inr (hb x hx).1)
theorem rel1_no {w0 wr w1 : World} {l : List ByteArray} {k j : Nat} {a v i : Value} (h : Rel1 w0 l k a v i wr j) (hlt : j < l.length) (ht : j < 30) (hf : fits l[j] = false)
    (y1 : wr.grownBy w1 none) : Rel1 w0 l (l.length - (j + 1)) a v (.int .i64 ((j : Int) + 1)) w1 (j + 1) := by
  have e := good_no l j hlt hf
  refine ⟨by go_num, by rw [e]; exact h.all, by omega, by omega, rfl, ?_, ?_⟩
  · rw [e]
    exact h.own.kept y1 (by cases h : v.ownBlock <;> simp)
  · exact by_trans h.by_ y1 (fun x hx => by cases hx)

structure Rel2 (w0 : World) (W : List ByteArray) (gc k : Nat) (vw a v i : Value) (wr : World) (q : Nat) (St R : ByteArray) : Prop where
  slot : i = .int .i64 q
  all : a = .string R
  eq : St ++ R = cat W
  top : q ≤ 200 ∨ R.size = 0
  top2 : q ≤ 201
  num : k = (200 - q) + (if R.size = 0 then 0 else 1)
  c : Blk wr gc 39 #[.string (cutAll St).2.1, .bool (cutAll St).2.2]
  own : wr.ownsRow w0.heap.size 9 1 v (cutAll St).1.length ((cutAll St).1.map .string)
  want : Strs wr vw W
  other : vw.ownBlock ≠ some gc
  other2 : vw.ownBlock = none ∨ vw.ownBlock ≠ v.ownBlock
  wlt : ∀ b, vw.ownBlock = some b → b < wr.heap.size
  by_ : w0.grownBy wr none

theorem rel2_step {w0 wr w3 w4 : World} {W : List ByteArray} {gc k q : Nat} {vw a v i v4 : Value} {St R x R' : ByteArray} {nn : Nat} {xs : List Value} (h : Rel2 w0 W gc k vw a v i wr q St R)
    (hgc : w0.heap.size ≤ gc) (hR : 0 < R.size) (hxR : x ++ R' = R) (hq : q ≤ 200) (hpr : q < 200 ∨ R'.size = 0)
    (c3 : Blk w3 gc 39 #[.string (cutAll (St ++ x)).2.1, .bool (cutAll (St ++ x)).2.2]) (y3 : wr.grownBy w3 (some gc))
    (own : w4.ownsRow w0.heap.size 9 1 v4 nn xs) (hn : nn = (cutAll St).1.length + (more St (x)).length)
    (hx : xs = (cutAll St).1.map .string ++ (more St (x)).map .string) (y4 : w3.grownBy w4 v.ownBlock) (hat : v4.ownBlock = v.ownBlock ∨ v4.ownBlock = some w3.heap.size) :
    (200 - (q + 1)) + (if R'.size = 0 then 0 else 1) < k ∧
    Rel2 w0 W gc ((200 - (q + 1)) + (if R'.size = 0 then 0 else 1)) vw (.string R') v4 (.int .i64 ((q : Int) + 1)) w4 (q + 1) (St ++ x) R' := by
  have e2 := more_app St (x)
  have hne := own_blk_ne h.own h.c (by decide)
  have hlt := World.ownsRow.lt h.own
  have hs3 := h.want.grown y3 (.inr h.other)
  have hs4 := hs3.grown y4 (by
    rcases h.other2 with h1 | h1
    · cases hv : v.ownBlock with
      | none => exact .inl rfl
      | some b => right; rw [h1]; simp
    · exact .inr h1)
  refine ⟨?_, ⟨by go_num, rfl, ?_, ?_, ?_, rfl, c3.grown y4 hne.symm, ?_, hs4, h.other, ?_, ?_, ?_⟩⟩
  · rw [h.num, if_neg (by omega : ¬ R.size = 0)]
    split <;> omega
  · rw [← h.eq]
    apply ba_ext
    rw [data_app, data_app, data_app, List.append_assoc, ← data_app, hxR]
  · omega
  · omega
  · rw [← e2]
    simpa [hn, hx] using own
  · rcases hat with h1 | h1
    · rw [h1]; exact h.other2
    · cases hv : vw.ownBlock with
      | none => exact .inl rfl
      | some b =>
        right
        rw [h1]
        intro e
        injection e with e
        have h2 := h.wlt b hv
        have h3 := y3.size
        omega
  · intro b hb
    have h2 := h.wlt b hb
    have h3 := y3.size
    have h4 := y4.size
    omega
  · exact by_trans (by_trans h.by_ y3 (fun x hx => .inr (by cases hx; exact hgc))) y4 (fun x hx => .inr (hlt x hx).1)

theorem start2 {w0 wr : World} {W : List ByteArray} {gc : Nat} {vw : Value} (b3 : Blk wr gc 39 #[.string ⟨#[]⟩, .bool false]) (hw3 : Strs wr vw W) (hne3 : vw.ownBlock ≠ some gc)
    (hwl : ∀ b, vw.ownBlock = some b → b < wr.heap.size) (y : w0.grownBy wr none) :
    ∃ q St R, Rel2 w0 W gc (200 + (if (cat W).size = 0 then 0 else 1)) vw (.string (cat W)) (.slice none 0 0) (.int .i64 0) wr q St R := by
  refine ⟨0, ⟨#[]⟩, cat W, rfl, rfl, empty_app _, .inl (by omega), by omega, rfl, b3, World.ownsRow_nil _ _ _ _, hw3, hne3, ?_, hwl, y⟩
  cases h : vw.ownBlock with
  | none => exact .inl rfl
  | some b => exact .inr (by simp [Value.ownBlock])

set_option maxRecDepth 100000 in
set_option maxHeartbeats 2000000 in
theorem walk (w : World) (v0 : Value) (l : List ByteArray) (hv : Strs w v0 l) (hl : l.length ≤ maxLen) (hw : ∀ s ∈ l, s.size ≤ maxLen)
    (v1 : Value) (ps : List Int) (hp : Nums w .u8 v1 ps) (hpl : ps.length ≤ maxLen) (hpz : ∀ z ∈ ps, (Lit.int .u8 z).wf = true) :
    Calls Try.prog 5 #[v0, v1] w fun e w' => e = .returned (.bool true) ∧ w.grownBy w' none := by
  unfold maxLen at hl hw hpl
  have HV := Lib.hid hv
  obtain ⟨A, cap, rfl, hcap, _⟩ := hv
  have HP := Lib.hid (And.intro hp hpz)
  obtain ⟨A2, cap2, rfl, hcap2, _⟩ := hp
  have HW := Lib.hid hw
  clear hw hpz
  go_enter Try.func5, Try.ntmps5
  go_wp2_with fail
  refine (works_walk w).mono ?_
  rintro e w1 ⟨rfl, y1⟩
  have Y1 := Lib.hid y1
  clear y1
  go_wp2_with fail
  go_loopg [5, 6, 7] l.length (fun k a v i wr => ∃ j, Rel1 w l k a v i wr j)
  case atStart => exact ⟨0, rfl, by simp [good, cat], by omega, by omega, by omega, by simpa [good] using World.ownsRow_nil w1 w.heap.size 9 1, Y1.out⟩
  case round =>
    obtain ⟨j, hr⟩ := hrel
    obtain rfl := hr.slot
    obtain rfl := hr.all
    have hle := hr.le
    have htop := hr.top
    have Hr := Lib.hid hr
    clear hr
    by_cases h12 : j < l.length ∧ j < 30
    · obtain ⟨h1, h2⟩ := h12
      · obtain ⟨A', cap', hA, _, hcell⟩ := (HV.out.grown Hr.out.by_ (.inl rfl))
        injection hA with hA hA2 hA3
        subst hA; subst hA3
        obtain ⟨b, off, rfl, _, hc⟩ := hcell (by omega)
        have c1 := hc j h1
        have hsz := HW.out l[j] (List.getElem_mem h1)
        have hcz := cat_size (good l j) (good_fits l j)
        have hgl := good_len l j
        have hlt' : (j : Int) < (l.length : Int) := by omega
        have hz : (0 : Int) ≤ (j : Int) := by omega
        clear hcell hc
        have Hcz := Lib.hid (And.intro hcz hgl)
        by_cases hf : fits l[j] = true
        · have hf' := hf
          simp only [fits, Bool.and_eq_true, decide_eq_true_eq] at hf'
          have hry := fun (w1 w2 : World) (v' : Value) (nn : Nat) (xs : List Value) => rel1_yes (w1 := w1) (w2 := w2) (v' := v') (nn := nn) (xs := xs) Hr.out h1 h2 hf
          have Hry := Lib.hid hry
          clear hf hry
          obtain ⟨x, hx⟩ : ∃ x, x = l[j] := ⟨_, rfl⟩
          rw [← hx] at c1 hf' hsz
          have Hx := Lib.hid hx
          clear hx
          obtain ⟨hf1, hf2⟩ := hf'
          generalize hct : cat (good l j) = ct at *
          have Hct := Lib.hid hct
          clear hct
          go_wp2_with fail
          refine (pack_ok x wr hf1 hf2).mono ?_
          rintro e w2 ⟨rfl, y2⟩
          have hown2 := Hr.out.own.kept y2 (by cases h : u6.ownBlock <;> simp)
          have hgl2 := good_len l j
          have c2 := y2.cell c1 (by simp)
          have hps := packed_size x
          have Hps := Lib.hid hps
          have Y2 := Lib.hid y2
          obtain ⟨i0, hi, hz0, hz1, hz2⟩ := info_parts info9
          have hctz : ct.size + (packed x).size ≤ 9223372036854775807 := by omega
          clear y2 hps hgl2
          go_wp2_with (at_builtin; refine wpList_append_own _ rfl _ _ 22 rfl (w.heap.size) 9 i0 (.string ⟨#[]⟩) 1 16 Try.underlying22 hi hz0 hz1 hz2 rfl (by decide) _ _ _ rfl (hown2.alloc _) ⟨w2.heap.size, 0, none⟩ 1 1 [.string x] rfl rfl ?c1 ?c2 ?c3 ?c4 ?c5 ?_)
          case c1 => exact cell_one_new _ _ _
          case c2 => simp [Value.oneCell']
          case c3 => have := Hcz.out.2; unfold maxLen; omega
          case c4 => have := Hcz.out.2; omega
          case c5 => have h1 := Hr.out.by_.size; have h2 := Y2.out.size; simp; omega
          intro v' w3 hown3 hby3 _
          have H3 := Lib.hid (And.intro hown3 hby3)
          clear hown3 hby3 hown2
          go_wp2
          go_roundg (l.length - (j + 1))
          case measure => have := Hr.out.num; omega
          case rel =>
            have e1 : packed x = packed l[j] := by rw [Hx.out]
            rw [e1]
            exact ⟨j + 1, Hry.out _ w3 v' _ _ (by_alloc Y2.out _) H3.out.1 rfl (by rw [Hx.out]) H3.out.2⟩
        · have hf' : fits l[j] = false := by simpa using hf
          have Hrn := Lib.hid (fun (w1 : World) => rel1_no (w1 := w1) Hr.out h1 h2 hf')
          simp only [fits, Bool.and_eq_false_iff, decide_eq_false_iff_not] at hf'
          clear hf
          generalize l[j] = x at *
          by_cases h0 : x.size = 0
          · go_wp2_with fail
            refine (pack_none x wr h0).mono ?_
            rintro e w' ⟨rfl, rfl⟩
            go_wp2
            go_roundg (l.length - (j + 1))
            case measure => have := Hr.out.num; omega
            case rel => exact ⟨j + 1, Hrn.out wr (by_refl _ _)⟩
          · have h3 : 8192 < x.size := by omega
            go_wp2_with fail
            refine (pack_long x wr h3 hsz).mono ?_
            rintro e w' ⟨rfl, rfl⟩
            go_wp2
            go_roundg (l.length - (j + 1))
            case measure => have := Hr.out.num; omega
            case rel => exact ⟨j + 1, Hrn.out wr (by_refl _ _)⟩
    · have hor : l.length ≤ j ∨ j < l.length ∧ 30 ≤ j := by omega
      clear h12
      have hcz := cat_size (good l j) (good_fits l j)
      have hgl : (good l j).length ≤ 30 := by have := good_len l j; omega
      have hcc := cat_cut (good l j) (good_fits l j)
      have hown := Hr.out.own
      have hy := Hr.out.by_
      clear Hr
      generalize good l j = Wt at *
      have HW := Lib.hid (And.intro hcz (And.intro hcc (And.intro hown hy)))
      clear hcz hcc hown hy
      rcases hor with h1 | ⟨h1, h2⟩
      all_goals
        go_wp2_with fail
        refine (new_c wr).mono ?_
        rintro e w3 ⟨gc, rfl, b3, y3, l3⟩
        obtain ⟨hcz, hcc, hown, hy⟩ := HW.out
        have hown3 := hown.kept y3 (by cases h : u6.ownBlock <;> simp)
        have hw3 := Strs.of_own hown3
        have hne3 := own_blk_ne hown3 b3 (by decide)
        have Y3 := Lib.hid (by_trans hy y3 (fun x hx => by cases hx))
        have hgc : w.heap.size ≤ gc := by have := hy.size; omega
        have hwl3 := fun b hb => (World.ownsRow.lt hown3 b hb).2
        have X3 := Lib.hid (And.intro b3 (And.intro hw3 (And.intro hne3 (And.intro hcz hcc))))
        clear b3 y3 l3 hcz hcc hown hy hown3 hw3 hne3 HW
        go_wp2_with fail
        go_loopg [5, 11, 12] (200 + (if (cat Wt).size = 0 then 0 else 1)) (fun k a v i wr => ∃ q St R, Rel2 w Wt gc k u6 a v i wr q St R)
        case atStart =>
          obtain ⟨b3, hw3, hne3, hcz, hcc⟩ := X3.out
          exact start2 b3 hw3 hne3 hwl3 Y3.out
        case round =>
          obtain ⟨q, St, R, hr⟩ := hrel
          obtain rfl := hr.slot
          obtain rfl := hr.all
          have htop := hr.top
          have htop2 := hr.top2
          have hbig : St.size + R.size ≤ 245820 := by
            have h1 := X3.out.2.2.2.1
            have h2 := app_size St R
            rw [hr.eq] at h2
            omega
          have Hr := Lib.hid hr
          clear hr
          by_cases hR : R.size = 0
          · have hcc := X3.out.2.2.2.2
            have hR0 : R = ⟨#[]⟩ := by apply ByteArray.ext; exact Array.eq_empty_of_size_eq_zero hR
            have hSt : St = cat Wt := by
              rw [← Hr.out.eq, hR0]
              apply ba_ext
              rw [data_app]
              simp
            have hC := Hr.out.c
            have hown := Hr.out.own
            rw [hSt, hcc] at hC hown
            have s1 := Hr.out.want
            have s2 := Strs.of_own hown
            have S1 := Lib.hid (And.intro s1 (And.intro s2 (And.intro hC Hr.out.by_)))
            obtain ⟨A1, cap1, rfl, hc1, _⟩ := s1
            obtain ⟨A5, cap5, rfl, hc5, _⟩ := s2
            clear hC hown hSt hR0 hcc
            go_wp2_with fail
            refine (broken_any gc _ _ wr S1.out.2.2.1).mono ?_
            rintro e w' ⟨rfl, rfl⟩
            go_wp2_with fail
            go_loopg [14] Wt.length (fun k i wx => ∃ (q n : Nat), i = .int .i64 q ∧ q ≤ Wt.length ∧ k = Wt.length - q ∧ wx = wr.drewN n)
            case atStart => exact ⟨0, 0, rfl, by omega, by omega, rfl⟩
            case round =>
              obtain ⟨q2, n, rfl, hq2, hk, rfl⟩ := hrel
              by_cases hlt : q2 < Wt.length
              · obtain ⟨s1, s5, _, _⟩ := S1.out
                obtain ⟨_, _, hA, _, ha2⟩ := s1
                injection hA with hA1 hA2 hA3
                subst hA1; subst hA3
                obtain ⟨_, _, hB, _, hb2⟩ := s5
                injection hB with hB1 hB2 hB3
                subst hB1; subst hB3
                obtain ⟨b, off, rfl, _, hc⟩ := ha2 (by omega)
                obtain ⟨b', off', rfl, _, hc'⟩ := hb2 (by omega)
                have c1 : (wr.drewN n).cell? ⟨b, off + q2, none⟩ = some (.string Wt[q2]) := hc q2 hlt
                have c2 : (wr.drewN n).cell? ⟨b', off' + q2, none⟩ = some (.string Wt[q2]) := hc' q2 hlt
                have hz : (0 : Int) ≤ (q2 : Int) := by omega
                have hlt' : (q2 : Int) < (Wt.length : Int) := by omega
                generalize Wt[q2] = x at *
                generalize hw1 : wr.drewN n = w1 at *
                have Hw := Lib.hid hw1
                have Hk := Lib.hid hk
                clear ha2 hb2 hc hc' hw1 hk hA2 hB2
                go_wp2
                go_quiet (fail)
                go_wp2
                go_roundg (Wt.length - (q2 + 1))
                case measure => have := Hk.out; omega
                case rel => exact ⟨q2 + 1, n + nq, by go_num, by omega, rfl, by rw [← Hw.out, World.drewN_drewN]⟩
              · clear hk
                have Yf := Lib.hid (by_drewN S1.out.2.2.2 n)
                go_wp2
                go_ret
                exact ⟨rfl, Yf.out⟩
          · have hR1 : 0 < R.size := by omega
            have hq : q ≤ 200 := by omega
            clear hR htop
            by_cases hpq : q < ps.length ∧ q < 200
            · obtain ⟨hp1, hp2⟩ := hpq
              obtain ⟨A', cap', hA, _, hcell⟩ := (HP.out.1.grown Hr.out.by_ (.inl rfl))
              injection hA with hA hA2 hA3
              subst hA; subst hA3
              obtain ⟨b, off, rfl, _, hc⟩ := hcell (by omega)
              have c1 := hc q hp1
              have hzz := bounds_u8 (HP.out.2 ps[q] (List.getElem_mem hp1))
              obtain ⟨z, hz⟩ : ∃ z : Nat, ps[q] = (z : Int) := ⟨ps[q].toNat, by omega⟩
              rw [hz] at c1 hzz
              clear hcell hc hz
              go_wp2_with fail
              obtain ⟨m, hm⟩ : ∃ m : Nat, min (R.size : Int) (z : Int) = (m : Int) := ⟨(min (R.size : Int) (z : Int)).toNat, by omega⟩
              have hmR : m ≤ R.size := by omega
              rw [hm]
              simp only [Int.toNat_natCast]
              clear hm c1 hzz
              have hpr : q < 200 ∨ (R.extract m R.size).size = 0 := .inl hp2
              have hxR : R.extract 0 m ++ R.extract m R.size = R := by
                have e3 := ext_step R m R.size hmR (Nat.le_refl _)
                rw [ext_all] at e3
                exact e3
              have hsz := by_trans Hr.out.by_ (by_refl wr none) (fun x hx => by cases hx)
              refine (feed_step gc St (R.extract 0 m) wr Hr.out.c (by rw [ext_size _ _ _ hmR]; omega)).mono ?_
              rintro e w4 ⟨v4, rfl, c4, s4, ne4, y4, f4⟩
              have hownb := own_blk_ne Hr.out.own Hr.out.c (by decide)
              have hown4 := Hr.out.own.kept y4 (.inr hownb)
              obtain ⟨A4, cap4, rfl, hc4, _⟩ := id s4
              have hmm := more_many St (R.extract 0 m)
              have hmm2 := cutAll_many St
              have hxz := ext_size R 0 m hmR
              have hsz := by_trans Hr.out.by_ y4 (fun x hx => .inr (by cases hx; exact hgc))
              have X4 := Lib.hid (And.intro c4 (And.intro y4 (And.intro hmm (And.intro hmm2 (And.intro hsz hxz)))))
              have hrd := s4.reads
              have h1c := strs_one (more St (R.extract 0 m))
              obtain ⟨i0, hi, hz0, hz1, hz2⟩ := info_parts info9
              clear c4 y4 ne4 f4 hc4 s4 hmm hmm2 hsz hxz
              generalize hmr : more St (R.extract 0 m) = mr at *
              have Hmr := Lib.hid hmr
              clear hmr
              go_wp2_with (at_builtin; refine wpList_append_any w4 rfl _ _ 22 rfl w.heap.size 9 i0 (.string ⟨#[]⟩) 1 16 Try.underlying22 hi hz0 hz1 hz2 rfl (by decide) _ _ _ rfl hown4 w4.heap.size A4 mr.length cap4 _ rfl hrd h1c ?c3 ?c4 ?c5 ?_)
              case c3 => have h1 := X4.out.2.2.1; have h2 := X4.out.2.2.2.1; have h3 := X4.out.2.2.2.2.2; unfold maxLen; omega
              case c4 => have h1 := X4.out.2.2.1; have h2 := X4.out.2.2.2.1; have h3 := X4.out.2.2.2.2.2; omega
              case c5 => exact X4.out.2.2.2.2.1.size
              intro v5 w5 hown5 hby5 hat5
              have X5 := Lib.hid (And.intro hown5 (And.intro hby5 hat5))
              clear hown5 hby5 hat5 hrd h1c hown4 hownb
              go_wp2
              have hst := rel2_step Hr.out hgc hR1 hxR hq hpr X4.out.1 X4.out.2.1 X5.out.1 (by rw [Hmr.out]) (by rw [Hmr.out]) X5.out.2.1 X5.out.2.2
              go_roundg ((200 - (q + 1)) + (if (R.extract m R.size).size = 0 then 0 else 1))
              case measure => exact hst.1
              case rel => exact ⟨q + 1, _, _, hst.2⟩
            · have hor2 : ps.length ≤ q ∨ q < ps.length ∧ 200 ≤ q := by omega
              clear hpq
              rcases hor2 with hp1 | ⟨hp1, hp2⟩
              all_goals
                have hslB : ∀ W, (Instr.slice 9 (.string R) (some (.int .i64 R.size)) none none).run Try.prog W = .ok (.string ⟨#[]⟩) W := fun W => by
                  rw [run_slice_string_from_if W 9 _ .i64 _ Try.underlying9, if_pos ⟨by omega, by omega⟩]
                  have : R.extract (R.size : Int).toNat R.size = ⟨#[]⟩ := by apply ba_ext; rw [data_ext]; simp
                  rw [this]
                go_wp2_with fail
                have hpr : q < 200 ∨ (⟨#[]⟩ : ByteArray).size = 0 := .inr rfl
                have hxR : R ++ (⟨#[]⟩ : ByteArray) = R := by apply ba_ext; rw [data_app]; simp
                have hsz := by_trans Hr.out.by_ (by_refl wr none) (fun x hx => by cases hx)
                refine (feed_step gc St R wr Hr.out.c (by omega)).mono ?_
                rintro e w4 ⟨v4, rfl, c4, s4, ne4, y4, f4⟩
                have hownb := own_blk_ne Hr.out.own Hr.out.c (by decide)
                have hown4 := Hr.out.own.kept y4 (.inr hownb)
                obtain ⟨A4, cap4, rfl, hc4, _⟩ := id s4
                have hmm := more_many St R
                have hmm2 := cutAll_many St
                have hxz := Nat.le_refl R.size
                have hsz := by_trans Hr.out.by_ y4 (fun x hx => .inr (by cases hx; exact hgc))
                have X4 := Lib.hid (And.intro c4 (And.intro y4 (And.intro hmm (And.intro hmm2 (And.intro hsz hxz)))))
                have hrd := s4.reads
                have h1c := strs_one (more St R)
                obtain ⟨i0, hi, hz0, hz1, hz2⟩ := info_parts info9
                clear c4 y4 ne4 f4 hc4 s4 hmm hmm2 hsz hxz
                generalize hmr : more St R = mr at *
                have Hmr := Lib.hid hmr
                clear hmr
                go_wp2_with (at_builtin; refine wpList_append_any w4 rfl _ _ 22 rfl w.heap.size 9 i0 (.string ⟨#[]⟩) 1 16 Try.underlying22 hi hz0 hz1 hz2 rfl (by decide) _ _ _ rfl hown4 w4.heap.size A4 mr.length cap4 _ rfl hrd h1c ?c3 ?c4 ?c5 ?_)
                case c3 => have h1 := X4.out.2.2.1; have h2 := X4.out.2.2.2.1; have h3 := X4.out.2.2.2.2.2; unfold maxLen; omega
                case c4 => have h1 := X4.out.2.2.1; have h2 := X4.out.2.2.2.1; have h3 := X4.out.2.2.2.2.2; omega
                case c5 => exact X4.out.2.2.2.2.1.size
                intro v5 w5 hown5 hby5 hat5
                have X5 := Lib.hid (And.intro hown5 (And.intro hby5 hat5))
                clear hown5 hby5 hat5 hrd h1c hown4 hownb
                go_wp2
                have hst := rel2_step Hr.out hgc hR1 hxR hq hpr X4.out.1 X4.out.2.1 X5.out.1 (by rw [Hmr.out]) (by rw [Hmr.out]) X5.out.2.1 X5.out.2.2
                go_roundg ((200 - (q + 1)) + (if (⟨#[]⟩ : ByteArray).size = 0 then 0 else 1))
                case measure => exact hst.1
                case rel => exact ⟨q + 1, _, _, hst.2⟩
set_option maxRecDepth 100000 in
theorem lifted (os : Os) (started : os.Started) (H : Type) (enc : TypeId × Value → H) :
    ReturnsInHanded {} Try.checked os 5 .any (Rows.frameWholeSpec.pre6 enc Try.prog Try.f5 Rows.frameWholeRow.domain false) (Rows.frameWholeSpec.post enc Try.prog Try.f5 false true false false) := by
  refine returnsInHanded_of_change (C := Try.checked) own started (by kernel_rfl) Try.func5
    (ChangeSpec.witness6 (enc := enc) (C := Try.checked) false ⟨#[], #[.slice none 0 0, .slice none 0 0], []⟩ 8 (by kernel_rfl) (by kernel_rfl) (by kernel_rfl) (by kernel_rfl)) ?_
  intro W base args ds gs before hval0 hW hcnd _
  have hval : ∀ (j : Nat) t v, Try.f5.params[j]? = some t → args[j]? = some v → Value.okWide Try.prog W .any base t v := hval0
  have hW' := hW
  obtain ⟨p, q, hA0, hV, rfl, hfz, hnd⟩ := hW
  have hA : DataW.TrodAll enc Try.prog W 0 (fun _ => true) true Try.f5.params.toList args.toList ds p := hA0
  rw [Try.params5] at hA hval
  obtain ⟨v0, vs0, d0, ds0, p0, q0, hargs, rfl, rfl, h0, r0⟩ := trodAll_cons hA
  obtain ⟨v1, vs1, d1, ds1, p1, q1, rfl, rfl, rfl, h1, r1⟩ := trodAll_cons r0
  obtain ⟨rfl, rfl, rfl⟩ := trodAll_nil r1
  obtain rfl : args = #[v0, v1] := by cases args; simp_all
  obtain ⟨rfl, rfl⟩ := trodVars_none hV
  obtain ⟨l0, hl0, hm0, hn0⟩ := arg_strs Try.underlying22 Try.underlying9 (by kernel_rfl) (hval 0 22 v0 rfl rfl) h0
  obtain ⟨l1, hl1, hm1, hn1⟩ := arg_nums Try.underlying36 Try.underlying5 (by kernel_rfl) (hval 1 36 v1 rfl rfl) h1
  refine (walk W v0 l0 hl0 hn0 hm0 v1 l1 hl1 hn1 hm1).mono fun e W' ⟨he, hg⟩ => ?_
  subst he
  exact ⟨_, rfl, law_post laidOut rfl hW' (by kernel_rfl) rfl Try.underlying4 rfl (below_of_by hg)⟩

theorem proved : Rows.FrameWholeSaid :=
  OpenClaim.holds_of_wide 5 Try.f5 rfl rfl rfl rfl rfl rfl rfl ⟨rfl, rfl, rfl, rfl, rfl⟩ rfl rfl rfl rfl rfl (by kernel_rfl) Try.func5 (by kernel_rfl)
    (of_decide_eq_true (by kernel_rfl)) (by unfold Func.isWrapper; first | (rw [if_pos (by decide +kernel)]; kernel_rfl) | (rw [if_neg (by decide +kernel)]; exact ⟨rfl, rfl⟩))
    (fun os started H enc _ => lifted os started H enc)
#print axioms proved
end Go.Proofs.Yteidcneijjnkaaa.frameWhole
