/-
  FrameParts: for every text, fed byte by byte or at once, the same frames come (all inputs, no condition).
-/
import Derived.Test.YteidcneijjnkaaaStep
import Derived.Test.YteidcneijjnkaaaAppend
import Derived.Test.YteidcneijjnkaaaRow
namespace Go.Proofs.Yteidcneijjnkaaa.frameParts
open Go.ChangeShapes Go.WideShapes Go.ChangeAt Go.RowKit
open Go.ChangeMaps (open_string shut_string)

structure Rel (w0 : World) (S : ByteArray) (gc gd k : Nat) (v i : Value) (wr : World) (j : Nat) : Prop where
  slot : i = .int .i64 j
  le : j ≤ S.size
  num : k = S.size - j
  c : Blk wr gc 39 #[.string (cutAll (S.extract 0 j)).2.1, .bool (cutAll (S.extract 0 j)).2.2]
  d : Blk wr gd 39 #[.string ⟨#[]⟩, .bool false]
  own : wr.ownsRow w0.heap.size 9 1 v (cutAll (S.extract 0 j)).1.length ((cutAll (S.extract 0 j)).1.map .string)
  by_ : w0.grownBy wr none

theorem rel_step {w0 wr w3 w4 : World} {S : ByteArray} {gc gd k j : Nat} {v v4 : Value} {nn : Nat} {xs : List Value} (h : Rel w0 S gc gd k v (.int .i64 j) wr j) (hlt : j < S.size)
    (c3 : Blk w3 gc 39 #[.string (cutAll (S.extract 0 j ++ S.extract j (j + 1))).2.1, .bool (cutAll (S.extract 0 j ++ S.extract j (j + 1))).2.2]) (y3 : wr.grownBy w3 (some gc))
    (own : w4.ownsRow w0.heap.size 9 1 v4 nn xs) (hn : nn = (cutAll (S.extract 0 j)).1.length + (more (S.extract 0 j) (S.extract j (j + 1))).length)
    (hx : xs = (cutAll (S.extract 0 j)).1.map .string ++ (more (S.extract 0 j) (S.extract j (j + 1))).map .string) (y4 : w3.grownBy w4 v.ownBlock)
    (hgc : w0.heap.size ≤ gc) (hne3 : gd ≠ gc) : Rel w0 S gc gd (S.size - (j + 1)) v4 (.int .i64 ((j : Int) + 1)) w4 (j + 1) := by
  have e := ext_step S j (j + 1) (by omega) (by omega)
  have e2 := more_app (S.extract 0 j) (S.extract j (j + 1))
  have hne := own_blk_ne h.own h.c (by decide)
  have hne2 := own_blk_ne h.own h.d (by decide)
  rw [e] at c3 e2
  have hlt := World.ownsRow.lt h.own
  refine ⟨by go_num, by omega, rfl, c3.grown y4 hne.symm, ?_, ?_, ?_⟩
  · exact (h.d.grown y3 (by simpa using hne3)).grown y4 hne2.symm
  · rw [← e2]
    simpa [hn, hx] using own
  · exact by_trans (by_trans h.by_ y3 (fun x hx => .inr (by cases hx; exact hgc))) y4 (fun x hx => .inr (hlt x hx).1)

set_option maxHeartbeats 1000000 in
theorem walk (w : World) (s : ByteArray) (hs : s.size ≤ maxLen) :
    Calls Try.prog 6 #[.string s] w fun e w' => e = .returned (.bool true) ∧ w.grownBy w' none := by
  unfold maxLen at hs
  go_enter Try.func6, Try.ntmps6
  go_wp2_with fail
  refine (works_walk w).mono ?_
  rintro e w0 ⟨rfl, y0⟩
  have Y0 := Lib.hid y0
  clear y0
  go_wp2_with fail
  have hSz : (s.extract 0 (min (s.size : Int) 2000).toNat).size ≤ 2000 := by rw [ext_size _ _ _ (by omega)]; omega
  generalize s.extract 0 (min (s.size : Int) 2000).toNat = S at *
  refine (new_c w0).mono ?_
  rintro e w1 ⟨gc, rfl, b1, y1, l1⟩
  have B1 := Lib.hid (And.intro b1 (And.intro y1 l1))
  clear b1 y1 l1
  go_wp2_with fail
  refine (new_c w1).mono ?_
  rintro e w2 ⟨gd, rfl, d2, y2, l2⟩
  obtain ⟨b1, y1, l1⟩ := B1.out
  have hlt := b1.lt
  have hne : gc ≠ gd := by omega
  have hgc : w.heap.size ≤ gc := by have := Y0.out.size; omega
  have hgd : w.heap.size ≤ gd := by omega
  have b2 := Lib.hid (b1.grown y2 (by simp))
  have d2 := Lib.hid d2
  have Y2 := Lib.hid (by_trans (by_trans Y0.out y1 (fun x hx => by cases hx)) y2 (fun x hx => by cases hx))
  clear b1 y1 y2 l2 Y0 B1 hlt
  go_wp2_with fail
  go_loopg [5, 6] S.size (fun k v i wr => ∃ j, Rel w S gc gd k v i wr j)
  case atStart =>
    refine ⟨0, rfl, by omega, by omega, ?_, d2.out, ?_, Y2.out⟩
    · have : cutAll (S.extract 0 0) = ([], ⟨#[]⟩, false) := by
        have h0 : S.extract 0 0 = ⟨#[]⟩ := by apply ba_ext; rw [data_ext]; simp
        rw [h0]; rfl
      rw [this]
      exact b2.out
    · have : cutAll (S.extract 0 0) = ([], ⟨#[]⟩, false) := by
        have h0 : S.extract 0 0 = ⟨#[]⟩ := by apply ba_ext; rw [data_ext]; simp
        rw [h0]; rfl
      rw [this]
      exact World.ownsRow_nil _ _ _ _
  case round =>
    clear b2 d2 Y2
    obtain ⟨j, hr⟩ := hrel
    obtain rfl := hr.slot
    have hle := hr.le
    have Hr := Lib.hid hr
    clear hr
    by_cases h1 : j < S.size
    · have hsl : ∀ W, (Instr.slice 9 (.string S) (some (.int .i64 j)) (some (.int .i64 (j + 1))) none).run Try.prog W = .ok (.string (S.extract j (j + 1))) W := fun W => by
        rw [run_slice_string_if W 9 S .i64 .i64 _ _ Try.underlying9, if_pos ⟨by omega, by omega⟩, if_pos ⟨by omega, by omega⟩]
        have e2 : ((j : Int) + 1).toNat = j + 1 := by omega
        rw [e2, Int.toNat_natCast]
      have hxs : (S.extract j (j + 1)).size = 1 := by rw [ext_size _ _ _ (by omega)]; omega
      have hss : (S.extract 0 j).size = j := by rw [ext_size _ _ _ (by omega)]; omega
      have Hss := Lib.hid (And.intro hxs hss)
      clear hxs hss
      go_wp2_with fail
      refine (feed_step gc (S.extract 0 j) (S.extract j (j + 1)) wr Hr.out.c (by have := Hss.out; omega)).mono ?_
      rintro e w3 ⟨v3, rfl, c3, s3, ne3, y3, f3⟩
      have hownb := own_blk_ne Hr.out.own Hr.out.c (by decide)
      have hown3 := Hr.out.own.kept y3 (.inr hownb)
      obtain ⟨A3, cap3, rfl, hc3, _⟩ := id s3
      have hmm := more_many (S.extract 0 j) (S.extract j (j + 1))
      have hmm2 := cutAll_many (S.extract 0 j)
      have hsz := by_trans Hr.out.by_ y3 (fun x hx => .inr (by cases hx; exact hgc))
      have X3 := Lib.hid (And.intro c3 (And.intro y3 (And.intro hmm (And.intro hmm2 hsz))))
      have hrd := s3.reads
      have h1c := strs_one (more (S.extract 0 j) (S.extract j (j + 1)))
      obtain ⟨i0, hi, hz0, hz1, hz2⟩ := info_parts info9
      clear c3 y3 ne3 f3 hc3 s3 hmm hmm2 hsz
      generalize hmr : more (S.extract 0 j) (S.extract j (j + 1)) = mr at *
      have Hmr := Lib.hid hmr
      clear hmr
      go_wp2_with (at_builtin; refine wpList_append_any w3 rfl _ _ 22 rfl w.heap.size 9 i0 (.string ⟨#[]⟩) 1 16 Try.underlying22 hi hz0 hz1 hz2 rfl (by decide) _ _ _ rfl hown3 w3.heap.size A3 mr.length cap3 _ rfl hrd h1c ?c3 ?c4 ?c5 ?_)
      case c3 => have h1 := X3.out.2.2.1; have h2 := X3.out.2.2.2.1; have h3 := Hss.out; unfold maxLen; omega
      case c4 => have h1 := X3.out.2.2.1; have h2 := X3.out.2.2.2.1; have h3 := Hss.out; omega
      case c5 => exact X3.out.2.2.2.2.size
      intro v4 w4 hown4 hby4 _
      have X4 := Lib.hid (And.intro hown4 hby4)
      clear hown4 hby4 hrd h1c hown3 hownb
      go_wp2
      go_roundg (S.size - (j + 1))
      case measure => have := Hr.out.num; omega
      case rel => exact ⟨j + 1, rel_step Hr.out h1 X3.out.1 X3.out.2.1 X4.out.1 (by rw [Hmr.out]) (by rw [Hmr.out]) X4.out.2 hgc hne.symm⟩
    · have hj : j = S.size := by omega
      subst hj
      have hr := Hr.out
      have e0 : S.extract 0 S.size = S := ext_all S
      have hown := hr.own
      have hC := hr.c
      have hD := hr.d
      have hY := hr.by_
      have hownb := own_blk_ne hown hD (by decide)
      rw [e0] at hown hC
      have hst := Strs.of_own hown
      have HC := Lib.hid (And.intro hC (And.intro hD (And.intro hY hownb)))
      have Hst := Lib.hid hst
      obtain ⟨A1, cap1, rfl, hc1, _⟩ := hst
      clear hr hown hC hD hY e0 hownb
      go_wp2_with fail
      refine (feed_c gd ⟨#[]⟩ S wr (cutAll S) HC.out.2.1 (by have : (⟨#[]⟩ : ByteArray).size = 0 := rfl; omega) (by rw [empty_app])).mono ?_
      rintro e w5 ⟨v5, rfl, d5, s5, ne5, y5, f5⟩
      obtain ⟨hC, hD, hY, hob⟩ := HC.out
      have c5 := hC.grown y5 (by simpa using hne)
      have s1 := Hst.out.grown y5 (.inr hob)
      have Y5 := Lib.hid (by_trans hY y5 (fun x hx => .inr (by cases hx; exact hgd)))
      have C5 := Lib.hid (And.intro c5 d5)
      have S5 := Lib.hid (And.intro s1 s5)
      obtain ⟨A5, cap5, rfl, hc5, _⟩ := s5
      have hmany := cutAll_many S
      clear c5 d5 s1 ne5 y5 f5 hC hD hY hob
      go_wp2_with fail
      refine (broken_any gc _ _ w5 C5.out.1).mono ?_
      rintro e w' ⟨rfl, rfl⟩
      go_wp2_with fail
      refine (broken_any gd _ _ w5 C5.out.2).mono ?_
      rintro e w' ⟨rfl, rfl⟩
      go_wp2_with fail
      generalize (cutAll S).1 = l at *
      go_loopg [8] l.length (fun k i wr => ∃ (q n : Nat), i = .int .i64 q ∧ q ≤ l.length ∧ k = l.length - q ∧ wr = w5.drewN n)
      case atStart => exact ⟨0, 0, rfl, by omega, by omega, rfl⟩
      case round =>
        obtain ⟨q, n, rfl, hq, hk, rfl⟩ := hrel
        by_cases hlt : q < l.length
        · obtain ⟨s1, s5⟩ := S5.out
          obtain ⟨_, _, hA, _, ha2⟩ := s1
          injection hA with hA1 hA2 hA3
          subst hA1; subst hA3
          obtain ⟨_, _, hB, _, hb2⟩ := s5
          injection hB with hB1 hB2 hB3
          subst hB1; subst hB3
          obtain ⟨b, off, rfl, _, hc⟩ := ha2 (by omega)
          obtain ⟨b', off', rfl, _, hc'⟩ := hb2 (by omega)
          have c1 : (w5.drewN n).cell? ⟨b, off + q, none⟩ = some (.string l[q]) := hc q hlt
          have c2 : (w5.drewN n).cell? ⟨b', off' + q, none⟩ = some (.string l[q]) := hc' q hlt
          have hz : (0 : Int) ≤ (q : Int) := by omega
          have hlt' : (q : Int) < (l.length : Int) := by omega
          generalize l[q] = x at *
          generalize hw1 : w5.drewN n = w1 at *
          have Hw := Lib.hid hw1
          have Hk := Lib.hid hk
          clear ha2 hb2 hc hc' hw1 hk hA2 hB2
          go_wp2
          go_quiet (fail)
          go_wp2
          go_roundg (l.length - (q + 1))
          case measure => have := Hk.out; omega
          case rel => exact ⟨q + 1, n + nq, by go_num, by omega, rfl, by rw [← Hw.out, World.drewN_drewN]⟩
        · clear hk
          have Yf := Lib.hid (by_drewN Y5.out n)
          go_wp2
          go_ret
          exact ⟨rfl, Yf.out⟩

set_option maxRecDepth 100000 in
theorem lifted (os : Os) (started : os.Started) (H : Type) (enc : TypeId × Value → H) :
    ReturnsInHanded {} Try.checked os 6 .any (Rows.framePartsSpec.pre6 enc Try.prog Try.f6 Rows.framePartsRow.domain false) (Rows.framePartsSpec.post enc Try.prog Try.f6 false true false false) := by
  refine returnsInHanded_of_change (C := Try.checked) own started (by kernel_rfl) Try.func6
    (ChangeSpec.witness6 (enc := enc) (C := Try.checked) false ⟨#[], #[.string ByteArray.empty], []⟩ 8 (by kernel_rfl) (by kernel_rfl) (by kernel_rfl) (by kernel_rfl)) ?_
  intro W base args ds gs before hval0 hW hcnd _
  have hval : ∀ (j : Nat) t v, Try.f6.params[j]? = some t → args[j]? = some v → Value.okWide Try.prog W .any base t v := hval0
  have hW' := hW
  obtain ⟨p, q, hA0, hV, rfl, hfz, hnd⟩ := hW
  have hA : DataW.TrodAll enc Try.prog W 0 (fun _ => true) true Try.f6.params.toList args.toList ds p := hA0
  rw [Try.params6] at hA hval
  obtain ⟨v0, vs0, d0, ds0, p0, q0, hargs, rfl, rfl, h0, r0⟩ := trodAll_cons hA
  obtain ⟨rfl, rfl, rfl⟩ := trodAll_nil r0
  obtain rfl : args = #[v0] := by cases args; simp_all
  obtain ⟨rfl, rfl⟩ := trodVars_none hV
  obtain ⟨a0, rfl, rfl, rfl, w0⟩ := open_string Try.underlying9 (hval 0 9 v0 rfl rfl) h0
  refine (walk W a0 w0).mono fun e W' ⟨he, hg⟩ => ?_
  subst he
  exact ⟨_, rfl, law_post laidOut rfl hW' (by kernel_rfl) rfl Try.underlying4 rfl (below_of_by hg)⟩

theorem proved : Rows.FramePartsSaid :=
  OpenClaim.holds_of_wide 6 Try.f6 rfl rfl rfl rfl rfl rfl rfl ⟨rfl, rfl, rfl, rfl, rfl⟩ rfl rfl rfl rfl rfl (by kernel_rfl) Try.func6 (by kernel_rfl)
    (of_decide_eq_true (by kernel_rfl)) (by unfold Func.isWrapper; first | (rw [if_pos (by decide +kernel)]; kernel_rfl) | (rw [if_neg (by decide +kernel)]; exact ⟨rfl, rfl⟩))
    (fun os started H enc _ => lifted os started H enc)
#print axioms proved
end Go.Proofs.Yteidcneijjnkaaa.frameParts
