/-
  FrameKnown: the closed statement.
-/
import Derived.Test.YteidcneijjnkaaaStep
import Derived.Test.YteidcneijjnkaaaRow
namespace Go.Proofs.Yteidcneijjnkaaa.frameKnown
open Go.ChangeShapes Go.WideShapes Go.ChangeAt Go.RowKit

theorem info5 : (Try.prog.info? 5).map (fun i => (i.zero, i.size, i.bytes)) = some (some (.int .u8 0), 1, 1) := by kernel_rfl

def zeros (n : Nat) : ByteArray := ⟨(List.replicate n (0 : UInt8)).toArray⟩
theorem zeros_size (n : Nat) : (zeros n).size = n := by simp [zeros, ByteArray.size]
def zrow (n : Nat) : Array Value := madeCells #[.int .u8 0] n

theorem packed_size (s : ByteArray) : (packed s).size = 2 + s.size := by unfold packed; rw [app_size]; rfl
theorem packed_n (s : ByteArray) (h : s.size ≤ 8192) : nOf (packed s) = s.size := by
  unfold packed
  rw [nOf_app ⟨#[(s.size / 256).toUInt8, (s.size % 256).toUInt8]⟩ s (Nat.le_refl 2)]
  show ((s.size / 256).toUInt8).toNat * 256 + ((s.size % 256).toUInt8).toNat = s.size
  have e1 : ((s.size / 256).toUInt8).toNat = s.size / 256 % 256 := UInt8.toNat_ofNat'
  have e2 : ((s.size % 256).toUInt8).toNat = s.size % 256 % 256 := UInt8.toNat_ofNat'
  rw [e1, e2]
  omega
theorem pack_cut (s : ByteArray) (h1 : 1 ≤ s.size) (h2 : s.size ≤ 8192) : cutAll (packed s) = ([s], ⟨#[]⟩, false) := by
  have hz := packed_size s
  have hn := packed_n s h2
  rw [← cutAll_of (k := s.size + 1 + 1) (by omega), cut_one (by omega) (by omega) (by omega), hn]
  have e1 : (packed s).extract 2 (2 + s.size) = s := by
    apply ba_ext
    rw [data_ext]
    unfold packed
    rw [data_app]
    simp
    rw [List.take_of_length_le (by simp)]
  have e2 : (packed s).extract (2 + s.size) (packed s).size = ⟨#[]⟩ := by
    apply ba_ext
    rw [data_ext, hz]
    simp
  rw [e1, e2]
  rfl

theorem made_strAt (w : World) (n : Nat) : StrAt (w.alloc (.cells (zrow n) 5)) (some ⟨w.heap.size, 0, none⟩) n (zeros n) := by
  refine ⟨zeros_size n, fun hn => ⟨w.heap.size, 0, rfl, by simp, fun j hj => ?_⟩⟩
  have hb := Blk.new w 5 (zrow n)
  rw [hb.cell]
  have hj' : j < n := by rw [zeros_size] at hj; exact hj
  have e1 : (zrow n)[0 + j]? = some (.int .u8 0) := by
    rw [← Array.getElem?_toList]
    unfold zrow
    rw [toList_madeCells_one, List.getElem?_replicate]
    simp [hj']
  rw [e1]
  have e2 : (zeros n)[j].toNat = 0 := by
    have : (zeros n)[j] = (zeros n).data[j] := rfl
    rw [this]
    simp [zeros]
  rw [e2]
  rfl
theorem make_z (n : Nat) (hn : n ≤ 100000) (W : World) : (Instr.makeSlice 36 (.int .i64 (n : Int)) (.int .i64 (n : Int))).run Try.prog W = .ok (.slice (some ⟨W.heap.size, 0, none⟩) n n) (W.alloc (.cells (zrow n) 5)) := by
  obtain ⟨i0, hi, hz0, hz1, hz2⟩ := info_parts info5
  have h := run_make (P := Try.prog) W 36 5 i0 (.int .u8 0) Try.underlying36 hi hz0 .i64 .i64 (n : Int) (n : Int) (by omega) (Int.le_refl _) (by rw [hz2]; omega) (by omega)
  rw [h, hz1]
  simp [zrow, Value.cells]
theorem conv_z (n : Nat) (W : World) : (convert 36 9 (.slice (some ⟨W.heap.size, 0, none⟩) n n)).run Try.prog (W.alloc (.cells (zrow n) 5)) = .ok (.string (zeros n)) (W.alloc (.cells (zrow n) 5)) :=
  conv_str _ 36 5 9 Try.underlying36 Try.underlying5 Try.underlying9 _ _ _ _ (made_strAt W n)

theorem cut_x : cutAll (⟨#[]⟩ ++ (packed (zeros 8192) ++ ⟨#[32, 1]⟩)) = ([zeros 8192], ⟨#[]⟩, true) := by
  have h := pack_cut (zeros 8192) (by rw [zeros_size]; omega) (by rw [zeros_size]; omega)
  rw [empty_app, cutAll_go (by rw [h]), h]
  have h2 : cutAll (⟨#[]⟩ ++ ⟨#[32, 1]⟩) = ([], ⟨#[]⟩, true) := by kernel_rfl
  rw [h2]
  rfl
theorem cut_y : cutAll (⟨#[]⟩ ++ (⟨#[32, 0]⟩ ++ zeros 8191)) = ([], ⟨#[32, 0]⟩ ++ zeros 8191, false) := by
  rw [empty_app]
  have hz : ((⟨#[32, 0]⟩ : ByteArray) ++ zeros 8191).size = 8193 := by rw [app_size, zeros_size]; rfl
  have hn : nOf (⟨#[32, 0]⟩ ++ zeros 8191) = 8192 := by rw [nOf_app ⟨#[32, 0]⟩ _ (Nat.le_refl 2)]; rfl
  rw [← cutAll_of (k := 8192 + 1) (by omega), cut_wait (by omega) (by omega) (by omega)]
theorem cut_y2 : cutAll ((⟨#[32, 0]⟩ ++ zeros 8191) ++ ⟨#[120]⟩) = ([zeros 8191 ++ ⟨#[120]⟩], ⟨#[]⟩, false) := by
  have hz : (zeros 8191 ++ ⟨#[120]⟩ : ByteArray).size = 8192 := by rw [app_size, zeros_size]; rfl
  have h := pack_cut (zeros 8191 ++ ⟨#[120]⟩) (by omega) (by omega)
  have e : packed (zeros 8191 ++ ⟨#[120]⟩) = (⟨#[32, 0]⟩ ++ zeros 8191) ++ ⟨#[120]⟩ := by
    unfold packed
    rw [hz]
    apply ba_ext
    simp only [data_app]
    rfl
  rw [e] at h
  exact h

set_option maxRecDepth 100000 in
set_option maxHeartbeats 1000000 in
theorem walk (w : World) :
    Calls Try.prog 7 #[] w fun e w' => e = .returned (.bool true) ∧ w.grownBy w' none := by
  have m1 : ∀ W, (Instr.makeSlice 36 (.int .i64 8193) (.int .i64 8193)).run Try.prog W = .ok (.slice (some ⟨W.heap.size, 0, none⟩) 8193 8193) (W.alloc (.cells (zrow 8193) 5)) := make_z 8193 (by omega)
  have m2 : ∀ W, (Instr.makeSlice 36 (.int .i64 8192) (.int .i64 8192)).run Try.prog W = .ok (.slice (some ⟨W.heap.size, 0, none⟩) 8192 8192) (W.alloc (.cells (zrow 8192) 5)) := make_z 8192 (by omega)
  have m3 : ∀ W, (Instr.makeSlice 36 (.int .i64 8191) (.int .i64 8191)).run Try.prog W = .ok (.slice (some ⟨W.heap.size, 0, none⟩) 8191 8191) (W.alloc (.cells (zrow 8191) 5)) := make_z 8191 (by omega)
  have k1 := conv_z 8193
  have k2 := conv_z 8192
  have k3 := conv_z 8191
  go_enter Try.func7, Try.ntmps7
  go_wp2_with fail
  refine (pack_long (zeros 8193) _ (by rw [zeros_size]; omega) (by rw [zeros_size]; omega)).mono ?_
  rintro e w1 ⟨rfl, hw1⟩
  have Y1 : Hid (w.grownBy w1 none) := by rw [← hw1]; exact by_alloc (by_refl _ _) _
  clear hw1
  go_wp2_with fail
  refine (pack_ok (zeros 8192) _ (by rw [zeros_size]; omega) (by rw [zeros_size]; omega)).mono ?_
  rintro e w2 ⟨rfl, y2⟩
  have Y2 := Lib.hid (by_trans (by_alloc Y1.out _) y2 (fun x hx => by cases hx))
  clear y2 Y1
  obtain ⟨b, hb⟩ : ∃ b, b = packed (zeros 8192) := ⟨_, rfl⟩
  rw [← hb]
  have hbz : b.size = 8194 := by rw [hb, packed_size, zeros_size]
  have Hb := Lib.hid hb
  clear hb
  go_wp2_with fail
  refine (new_c w2).mono ?_
  rintro e w3 ⟨gx, rfl, x3, y3, l3⟩
  have hgx : w.heap.size ≤ gx := by have := Y2.out.size; omega
  have Y3 := Lib.hid (by_trans Y2.out y3 (fun x hx => by cases hx))
  clear Y2 y3 l3
  have X3 := Lib.hid x3
  clear x3
  go_wp2_with fail
  refine (feed_c gx ⟨#[]⟩ (b ++ (⟨#[32, 1]⟩ : ByteArray)) w3 ([zeros 8192], ⟨#[]⟩, true) X3.out (by rw [app_size, hbz]; decide) (by rw [Hb.out]; exact cut_x)).mono ?_
  rintro e w4 ⟨v4, rfl, x4, s4, ne4, y4, f4⟩
  have hgx4 : gx < w4.heap.size := x4.lt
  have X4 := Lib.hid (And.intro x4 (And.intro s4 ne4))
  have Y4 := Lib.hid (by_trans Y3.out y4 (fun x hx => .inr (by cases hx; exact hgx)))
  have hv4 : ∀ k, v4.ownBlock = some k → k < w4.heap.size := by
    intro k hk
    obtain ⟨A, cap, rfl, _, hc⟩ := s4
    obtain ⟨b, off, rfl, hb, _⟩ := hc (by simp)
    simp [Value.ownBlock] at hk
    omega
  have Hv4 := Lib.hid hv4
  clear x4 s4 ne4 y4 f4 Y3 X3 hv4
  go_wp2_with fail
  refine (new_c w4).mono ?_
  rintro e w5 ⟨gy, rfl, yb5, y5, l5⟩
  have X5 := Lib.hid (And.intro (X4.out.1.grown y5 (by simp)) (X4.out.2.1.grown y5 (.inl rfl)))
  have L45 := Lib.hid y5.size
  have hne5 : v4.ownBlock ≠ some gy := fun h => by have := Hv4.out gy h; omega
  have hgy : w.heap.size ≤ gy := by have := Y4.out.size; omega
  have hxy : gx ≠ gy := by omega
  have Y5 := Lib.hid (by_trans Y4.out y5 (fun x hx => by cases hx))
  have B5 := Lib.hid yb5
  clear yb5 y5 l5 Y4 X4 hgx4
  go_wp2_with fail
  refine (feed_c gy ⟨#[]⟩ ((⟨#[32, 0]⟩ : ByteArray) ++ zeros 8191) _ ([], (⟨#[32, 0]⟩ : ByteArray) ++ zeros 8191, false) (B5.out.alloc _) (by rw [app_size, zeros_size]; decide) cut_y).mono ?_
  rintro e w6 ⟨v6, rfl, b6, s6, _, y6, _⟩
  obtain ⟨A6, cap6, rfl, _, _⟩ := s6
  have X6 := Lib.hid (And.intro ((X5.out.1.alloc _).grown y6 (by simpa using hxy)) ((X5.out.2.alloc _).grown y6 (.inr hne5)))
  have Y6 := Lib.hid (by_trans (by_alloc Y5.out _) y6 (fun x hx => .inr (by cases hx; exact hgy)))
  have hgy6 : gy < w6.heap.size := b6.lt
  have hgx6 : gx < w6.heap.size := X6.out.1.lt
  have B6 := Lib.hid b6
  have hv6 : ∀ k, v4.ownBlock = some k → k < w6.heap.size := fun k hk => Nat.lt_of_lt_of_le (Hv4.out k hk) (Nat.le_trans L45.out (by have := y6.size; simp at this; omega))
  have Hv6 := Lib.hid hv6
  clear b6 y6 X5 Y5 B5 hv6 hne5 Hv4
  go_wp2_with fail
  refine (new_c w6).mono ?_
  rintro e w7 ⟨gz, rfl, z7, y7, l7⟩
  have X7 := Lib.hid (And.intro (X6.out.1.grown y7 (by simp)) (X6.out.2.grown y7 (.inl rfl)))
  have B7 := Lib.hid (B6.out.grown y7 (by simp))
  have hne7 : v4.ownBlock ≠ some gz := fun h => by have := Hv6.out gz h; omega
  have hgz : w.heap.size ≤ gz := by have := Y6.out.size; omega
  have hxz : gx ≠ gz := by omega
  have hyz : gy ≠ gz := by omega
  have Y7 := Lib.hid (by_trans Y6.out y7 (fun x hx => by cases hx))
  have Z7 := Lib.hid z7
  clear z7 y7 l7 Y6 X6 B6 Hv6
  go_wp2_with fail
  refine (feed_c gz ⟨#[]⟩ ⟨#[0]⟩ w7 ([], ⟨#[0]⟩, false) Z7.out (by decide) (by kernel_rfl)).mono ?_
  rintro e w8 ⟨v8, rfl, z8, _, _, y8, _⟩
  have X8 := Lib.hid (And.intro (X7.out.1.grown y8 (by simpa using hxz)) (X7.out.2.grown y8 (.inr hne7)))
  have B8 := Lib.hid (B7.out.grown y8 (by simpa using hyz))
  have Z8 := Lib.hid z8
  have Y8 := Lib.hid (by_trans Y7.out y8 (fun x hx => .inr (by cases hx; exact hgz)))
  clear z8 y8 Y7 X7 B7 Z7
  go_wp2_with fail
  refine (works_walk w8).mono ?_
  rintro e w9 ⟨rfl, y9⟩
  have hX9 := X8.out.1.grown y9 (by simp)
  have hS9 := X8.out.2.grown y9 (.inl rfl)
  have X9 := Lib.hid hX9
  have B9 := Lib.hid (B8.out.grown y9 (by simp))
  have Z9 := Lib.hid (Z8.out.grown y9 (by simp))
  have Y9 := Lib.hid (by_trans Y8.out y9 (fun x hx => by cases hx))
  obtain ⟨A4, cap4, rfl, _, hcell⟩ := hS9
  obtain ⟨bb, oo, rfl, _, hc⟩ := hcell (by simp)
  have hc9 : w9.cell? ⟨bb, oo, none⟩ = some (.string (zeros 8192)) := hc 0 (by simp)
  have hzs := zeros_size 8192
  clear hX9 hcell hc y9 X8 B8 Z8 Y8
  go_wp2_with fail
  refine (broken_any gx _ _ w9 X9.out).mono ?_
  rintro e w' ⟨rfl, rfl⟩
  go_wp2_with fail
  refine (broken_any gy _ _ w9 B9.out).mono ?_
  rintro e w' ⟨rfl, rfl⟩
  go_wp2_with fail
  refine (feed_c gy ((⟨#[32, 0]⟩ : ByteArray) ++ zeros 8191) ⟨#[120]⟩ w9 ([zeros 8191 ++ (⟨#[120]⟩ : ByteArray)], ⟨#[]⟩, false) B9.out (by rw [app_size, zeros_size]; decide) cut_y2).mono ?_
  rintro e w10 ⟨v10, rfl, _, ⟨A10, c10, rfl, _, _⟩, _, y10, _⟩
  have Z10 := Lib.hid (Z9.out.grown y10 (by simpa using hyz.symm))
  have Y10 := Lib.hid (by_trans Y9.out y10 (fun x hx => .inr (by cases hx; exact hgy)))
  clear y10 Z9 Y9
  go_wp2_with fail
  refine (broken_any gz _ _ w10 Z10.out).mono ?_
  rintro e w' ⟨rfl, rfl⟩
  go_wp2_with fail
  refine (feed_nil ⟨#[0, 1, 97]⟩ w10).mono ?_
  rintro e w11 ⟨rfl, y11⟩
  have Y11 := Lib.hid (by_trans Y10.out y11 (fun x hx => by cases hx))
  clear y11 Y10 Z10
  go_wp2_with fail
  refine (broken_nil w11).mono ?_
  rintro e w' ⟨rfl, rfl⟩
  go_wp2_with fail
  refine (new_c w11).mono ?_
  rintro e w12 ⟨ge, rfl, b12, y12, l12⟩
  have hge : w.heap.size ≤ ge := by have := Y11.out.size; omega
  have Y12 := Lib.hid (by_trans Y11.out y12 (fun x hx => by cases hx))
  have B12 := Lib.hid b12
  clear b12 y12 l12 Y11
  go_wp2_with fail
  refine (feed_c ge ⟨#[]⟩ ⟨#[]⟩ w12 ([], ⟨#[]⟩, false) B12.out (by decide) (by kernel_rfl)).mono ?_
  rintro e w13 ⟨v13, rfl, _, ⟨A13, c13, rfl, _, _⟩, _, y13, _⟩
  have Y13 := Lib.hid (by_trans Y12.out y13 (fun x hx => .inr (by cases hx; exact hge)))
  clear y13 Y12 B12
  go_wp2
  go_ret
  exact ⟨rfl, Y13.out⟩

set_option maxRecDepth 100000 in
theorem lifted (os : Os) (started : os.Started) (H : Type) (enc : TypeId × Value → H) :
    ReturnsInHanded {} Try.checked os 7 .any (Rows.frameKnownSpec.pre6 enc Try.prog Try.f7 Rows.frameKnownRow.domain false) (Rows.frameKnownSpec.post enc Try.prog Try.f7 false true false false) := by
  refine returnsInHanded_of_change (C := Try.checked) own started (by kernel_rfl) Try.func7
    (ChangeSpec.witness6 (enc := enc) (C := Try.checked) false ⟨#[], #[], []⟩ 8 (by kernel_rfl) (by kernel_rfl) (by kernel_rfl) (by kernel_rfl)) ?_
  intro W base args ds gs before hval0 hW hcnd _
  have hval : ∀ (j : Nat) t v, Try.f7.params[j]? = some t → args[j]? = some v → Value.okWide Try.prog W .any base t v := hval0
  have hW' := hW
  obtain ⟨p, q, hA0, hV, rfl, hfz, hnd⟩ := hW
  have hA : DataW.TrodAll enc Try.prog W 0 (fun _ => true) true Try.f7.params.toList args.toList ds p := hA0
  rw [Try.params7] at hA hval
  obtain ⟨hargs, rfl, rfl⟩ := trodAll_nil hA
  obtain rfl : args = #[] := by cases args; simp_all
  obtain ⟨rfl, rfl⟩ := trodVars_none hV
  refine (walk W).mono fun e W' ⟨he, hg⟩ => ?_
  subst he
  exact ⟨_, rfl, law_post laidOut rfl hW' (by kernel_rfl) rfl Try.underlying4 rfl (below_of_by hg)⟩

theorem proved : Rows.FrameKnownSaid :=
  OpenClaim.holds_of_wide 7 Try.f7 rfl rfl rfl rfl rfl rfl rfl ⟨rfl, rfl, rfl, rfl, rfl⟩ rfl rfl rfl rfl rfl (by kernel_rfl) Try.func7 (by kernel_rfl)
    (of_decide_eq_true (by kernel_rfl)) (by unfold Func.isWrapper; first | (rw [if_pos (by decide +kernel)]; kernel_rfl) | (rw [if_neg (by decide +kernel)]; exact ⟨rfl, rfl⟩))
    (fun os started H enc _ => lifted os started H enc)
#print axioms proved
end Go.Proofs.Yteidcneijjnkaaa.frameKnown
