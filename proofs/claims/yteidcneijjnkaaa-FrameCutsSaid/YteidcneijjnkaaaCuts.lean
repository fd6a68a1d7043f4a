/-
  FrameCuts: for every list of texts, the cutter and the reference tell the same, piece by piece (all inputs, no condition).
-/
import Derived.Test.YteidcneijjnkaaaWorks
import Derived.Test.YteidcneijjnkaaaRow
namespace Go.Proofs.Yteidcneijjnkaaa.frameCuts
open Go.ChangeShapes Go.WideShapes Go.ChangeAt Go.RowKit

/-- the frames that come when s is fed behind St -/
def more (St s : ByteArray) : List ByteArray := (cutAll (St ++ s)).1.drop (cutAll St).1.length

theorem feed_step (g : Nat) (St s : ByteArray) (w : World) (hb : Blk w g 39 #[.string (cutAll St).2.1, .bool (cutAll St).2.2]) (hs : St.size + s.size ≤ 1000000) :
    Calls Try.prog 10 #[.pointer (some ⟨g, 0, none⟩), .string s] w (FedS w g (more St s, (cutAll (St ++ s)).2)) := by
  have hr := cut_rest St.size St
  cases h : (cutAll St).2.2 with
  | true =>
    rw [h] at hb
    have hb0 := cut_broken _ _ h
    have := feed_cb g _ s w hb
    unfold more
    rw [cutAll_stay h]
    unfold cutAll at this ⊢
    rw [hb0] at this
    simpa using this
  | false =>
    rw [h] at hb
    have h1 := feed_c g (cutAll St).2.1 s w _ hb (by unfold cutAll; omega) rfl
    unfold more
    rw [cutAll_go h]
    simpa using h1

structure Rel (w0 : World) (l : List ByteArray) (gc gr k : Nat) (i : Value) (wr : World) (j : Nat) (St : ByteArray) : Prop where
  slot : i = .int .i64 j
  le : j ≤ l.length
  top : j ≤ 60
  num : k = l.length - j
  small : St.size ≤ 1000 * j
  c : Blk wr gc 39 #[.string (cutAll St).2.1, .bool (cutAll St).2.2]
  r : Blk wr gr 27 #[.string St, .int .i64 (cutAll St).1.length]
  by_ : w0.grownBy wr none

set_option maxHeartbeats 1000000 in
theorem walk (v : Value) (l : List ByteArray) (w : World) (hv : Strs w v l) (hl : l.length ≤ maxLen) (hw : ∀ s ∈ l, s.size ≤ maxLen) :
    Calls Try.prog 3 #[v] w fun e w' => e = .returned (.bool true) ∧ w.grownBy w' none := by
  unfold maxLen at hl hw
  have HV := Lib.hid hv
  obtain ⟨A, cap, rfl, hcap, _⟩ := hv
  have HW := Lib.hid hw
  clear hw
  go_enter Try.func3, Try.ntmps3
  go_wp2_with fail
  refine (new_c w).mono ?_
  rintro e w1 ⟨gc, rfl, b1, y1, l1⟩
  have B1 := Lib.hid (And.intro b1 (And.intro y1 l1))
  clear b1 y1 l1
  go_wp2_with fail
  obtain ⟨b1, y1, l1⟩ := B1.out
  have hlt := b1.lt
  have hr2 := Blk.new w1 27 #[.string ⟨#[]⟩, .int .i64 0]
  have hc2 := b1.alloc (.cells #[.string ⟨#[]⟩, .int .i64 0] 27)
  have y2 := by_alloc y1 (.cells #[.string ⟨#[]⟩, .int .i64 0] 27)
  go_loopg [5] l.length (fun k i wr => ∃ j St, Rel w l gc w1.heap.size k i wr j St)
  case atStart => exact ⟨0, ⟨#[]⟩, ⟨rfl, by omega, by omega, by omega, by decide, hc2, hr2, y2⟩⟩
  case round =>
    have hgr : w.heap.size ≤ w1.heap.size := y1.size
    generalize w1.heap.size = gr at *
    clear hr2 hc2 y2 B1 b1 y1
    obtain ⟨j, St, hr⟩ := hrel
    obtain rfl := hr.slot
    have hle := hr.le
    have htop := hr.top
    have Hr := Lib.hid hr
    clear hr
    by_cases h1 : j < l.length
    · by_cases h2 : j < 60
      · obtain ⟨A', cap', hA, _, hcell⟩ := (HV.out.grown Hr.out.by_ (.inl rfl))
        injection hA with hA hA2 hA3
        subst hA
        subst hA3
        obtain ⟨b, off, rfl, _, hc⟩ := hcell (by omega)
        have c1 := hc j h1
        have hsz := HW.out l[j] (List.getElem_mem h1)
        generalize l[j] = x at *
        have hz : (0 : Int) ≤ (j : Int) := by omega
        have hlt' : (j : Int) < (l.length : Int) := by omega
        clear hcell hc
        go_wp2_with fail
        go_quiet (fail)
        have hys : (x.extract 0 (min (x.size : Int) 1000).toNat).size ≤ 1000 := by
          rw [ext_size _ _ _ (by omega)]; omega
        go_wp2_with fail
        generalize x.extract 0 (min (x.size : Int) 1000).toNat = y at *
        have hr := Hr.out
        have hsm := hr.small
        have hne : gc ≠ gr := hr.c.ne_ hr.r (by decide)
        have hne' : gr ≠ gc := fun h => hne h.symm
        have hC := hr.c.drewN nq
        have hR := hr.r.drewN nq
        have hY := by_drewN hr.by_ nq
        clear hr c1 hlt hsz
        generalize wr.drewN nq = w2 at *
        have Hys := Lib.hid hys
        have hgr2 := hR.lt
        have HR := Lib.hid (And.intro hR hY)
        clear hys hR hY
        refine (feed_step gc St y w2 hC (by have := Hys.out; omega)).mono ?_
        rintro e w3 ⟨v3, rfl, c3, s3, ne3, y3, f3⟩
        obtain ⟨hR, hY⟩ := HR.out
        have r3 := hR.grown y3 (by simpa using hne')
        have Y3 := Lib.hid (by_trans hY y3 (fun x hx => .inr (by cases hx; exact l1)))
        have X3 := Lib.hid (And.intro c3 (And.intro s3 (And.intro ne3 f3)))
        have R3 := Lib.hid r3
        clear c3 s3 ne3 y3 f3 r3 hR hY hC HR
        go_wp2_with fail
        refine (rfeed_walk gr (cutAll St).1.length St y w3 R3.out (by have := Hys.out; omega) ?_).mono ?_
        · have h0 : (cutAll (St ++ y)).1.length = (cutB (St ++ y).size (St ++ y)).1.length := rfl
          rw [← h0]
          cases h : (cutAll St).2.2 with
          | true => rw [cutAll_stay h]; exact Nat.le_refl _
          | false => rw [cutAll_go h]; simp
        rintro e w4 ⟨v4, rfl, r4, s4, ne4, y4, f4⟩
        obtain ⟨c3, s3, ne3, f3⟩ := X3.out
        have c4 := c3.grown y4 (by simpa using hne)
        have s3' := s3.grown y4 (.inr (fun hh => by
          have h6 := f3 gr hh
          omega))
        have Y4 := Lib.hid (by_trans Y3.out y4 (fun x hx => .inr (by cases hx; exact hgr)))
        have X4 := Lib.hid (And.intro c4 r4)
        clear c3 s3 ne3 f3 c4 r4 y4 f4 ne4 X3 R3 Y3
        go_wp2_with fail
        refine (texts_same v3 v4 (more St y) w4 s3' s4 (by have := cut_many (St ++ y).size (St ++ y); unfold more cutAll; rw [List.length_drop, app_size] at *; have := Hys.out; omega)).mono ?_
        rintro e w5 ⟨rfl, n5, hw5⟩
        clear s3' s4
        obtain ⟨c5, r5⟩ := X4.out
        have c5 := c5.drewN n5
        have r5 := r5.drewN n5
        have y5 := by_drewN Y4.out n5
        rw [hw5] at c5 r5 y5
        have Y5 := Lib.hid y5
        have C5 := Lib.hid c5
        have R5 := Lib.hid r5
        clear hw5 X4 Y4 c5 r5 y5
        go_wp2_with fail
        refine (broken_any gc _ _ w5 C5.out).mono ?_
        rintro e w' ⟨rfl, rfl⟩
        go_wp2_with fail
        refine (rbroken_walk gr _ _ w5 R5.out (by rw [app_size]; have := Hys.out; omega)).mono ?_
        rintro e w6 ⟨rfl, y6⟩
        have C6 := Lib.hid (C5.out.grown y6 (by simp))
        have R6 := Lib.hid (R5.out.grown y6 (by simp))
        have Y6 := Lib.hid (by_trans Y5.out y6 (fun x hx => by cases hx))
        clear y6 C5 R5 Y5
        rw [show (cutB (St ++ y).size (St ++ y)).2.2 = (cutAll (St ++ y)).2.2 from rfl]
        go_wp2
        go_roundg (l.length - (j + 1))
        case measure => have := Hr.out.num; omega
        case rel => exact ⟨j + 1, St ++ y, ⟨by go_num, by omega, by omega, rfl, by rw [app_size]; have := Hys.out; omega, C6.out, R6.out, Y6.out⟩⟩
      · go_wp2_with fail
        refine (works_walk _).mono ?_
        rintro e w3 ⟨rfl, y3⟩
        have Y := Lib.hid (by_trans Hr.out.by_ y3 (fun x hx => by cases hx))
        clear y3
        go_wp2
        go_ret
        exact ⟨rfl, Y.out⟩
    · go_wp2_with fail
      refine (works_walk _).mono ?_
      rintro e w3 ⟨rfl, y3⟩
      have Y := Lib.hid (by_trans Hr.out.by_ y3 (fun x hx => by cases hx))
      clear y3
      go_wp2
      go_ret
      exact ⟨rfl, Y.out⟩

set_option maxRecDepth 100000 in
theorem lifted (os : Os) (started : os.Started) (H : Type) (enc : TypeId × Value → H) :
    ReturnsInHanded {} Try.checked os 3 .any (Rows.frameCutsSpec.pre6 enc Try.prog Try.f3 Rows.frameCutsRow.domain false) (Rows.frameCutsSpec.post enc Try.prog Try.f3 false true false false) := by
  refine returnsInHanded_of_change (C := Try.checked) own started (by kernel_rfl) Try.func3
    (ChangeSpec.witness6 (enc := enc) (C := Try.checked) false ⟨#[], #[.slice none 0 0], []⟩ 8 (by kernel_rfl) (by kernel_rfl) (by kernel_rfl) (by kernel_rfl)) ?_
  intro W base args ds gs before hval0 hW hcnd _
  have hval : ∀ (j : Nat) t v, Try.f3.params[j]? = some t → args[j]? = some v → Value.okWide Try.prog W .any base t v := hval0
  have hW' := hW
  obtain ⟨p, q, hA0, hV, rfl, hfz, hnd⟩ := hW
  have hA : DataW.TrodAll enc Try.prog W 0 (fun _ => true) true Try.f3.params.toList args.toList ds p := hA0
  rw [Try.params3] at hA hval
  obtain ⟨v0, vs0, d0, ds0, p0, q0, hargs, rfl, rfl, h0, r0⟩ := trodAll_cons hA
  obtain ⟨rfl, rfl, rfl⟩ := trodAll_nil r0
  obtain rfl : args = #[v0] := by cases args; simp_all
  obtain ⟨rfl, rfl⟩ := trodVars_none hV
  obtain ⟨l, hl1, hl2, hl3⟩ := arg_strs Try.underlying22 Try.underlying9 (by kernel_rfl) (hval 0 22 v0 rfl rfl) h0
  refine (walk v0 l W hl1 hl3 hl2).mono fun e W' ⟨he, hg⟩ => ?_
  subst he
  exact ⟨_, rfl, law_post laidOut rfl hW' (by kernel_rfl) rfl Try.underlying4 rfl (below_of_by hg)⟩

theorem proved : Rows.FrameCutsSaid :=
  OpenClaim.holds_of_wide 3 Try.f3 rfl rfl rfl rfl rfl rfl rfl ⟨rfl, rfl, rfl, rfl, rfl⟩ rfl rfl rfl rfl rfl (by kernel_rfl) Try.func3 (by kernel_rfl)
    (of_decide_eq_true (by kernel_rfl)) (by unfold Func.isWrapper; first | (rw [if_pos (by decide +kernel)]; kernel_rfl) | (rw [if_neg (by decide +kernel)]; exact ⟨rfl, rfl⟩))
    (fun os started H enc _ => lifted os started H enc)
#print axioms proved
end Go.Proofs.Yteidcneijjnkaaa.frameCuts
