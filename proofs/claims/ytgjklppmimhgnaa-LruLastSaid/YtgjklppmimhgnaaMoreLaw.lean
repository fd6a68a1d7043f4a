/-
  LruMore: an Lru of more capacity has all that one of less has (all inputs, no condition).
-/
import Derived.Test.YtgjklppmimhgnaaPlaysLaw
namespace Go.Proofs.Ytgjklppmimhgnaa
open Go.ChangeShapes Go.WideShapes Go.ChangeAt Go.RowKit

/-- two Lrus side by side -/
def Duo (w0 w : World) (la lb : Nat) (ca cb : Int) (pa pb : PL) : Prop :=
  ∃ oa ob, Lru w la oa ca pa ∧ Lru w lb ob cb pb ∧ w0.grownBy w none ∧ (∀ b, oa b → w0.heap.size ≤ b) ∧ (∀ b, ob b → w0.heap.size ≤ b) ∧ ∀ b, oa b → ¬ ob b
section
variable {w0 w w' : World} {la lb : Nat} {ca cb : Int} {pa pb : PL}
theorem Duo.by_none (h : Duo w0 w la lb ca cb pa pb) (hg : w.grownBy w' none) : Duo w0 w' la lb ca cb pa pb := by
  obtain ⟨oa, ob, h1, h2, h3, h4, h5, h6⟩ := h
  exact ⟨oa, ob, h1.by_none hg, h2.by_none hg, by_trans h3 hg (by simp), h4, h5, h6⟩
theorem Duo.by_ (h : Duo w0 w la lb ca cb pa pb) : w0.grownBy w none := by obtain ⟨_, _, _, _, h3, _⟩ := h; exact h3
theorem Duo.swap (h : Duo w0 w la lb ca cb pa pb) : Duo w0 w lb la cb ca pb pa := by
  obtain ⟨oa, ob, h1, h2, h3, h4, h5, h6⟩ := h
  exact ⟨ob, oa, h2, h1, h3, h5, h4, fun b hb ha => h6 b ha hb⟩
theorem Duo.one (h : Duo w0 w la lb ca cb pa pb) : One w0 w la ca pa := by
  obtain ⟨oa, ob, h1, h2, h3, h4, h5, h6⟩ := h
  exact ⟨oa, h1, h3, h4⟩
theorem Duo.put {k v : Int} (h : Duo w0 w la lb ca cb pa pb) (hk : WfI k) (hn : pa.length < 1000000) :
    Calls Try.prog 12 #[.pointer (some ⟨la, 0, none⟩), .int .i64 k, .int .i64 v] w fun e w' => e = .returned (.tuple #[]) ∧ Duo w0 w' la lb ca cb (putted ca pa k v) pb := by
  obtain ⟨oa, ob, h1, h2, h3, h4, h5, h6⟩ := h
  refine (put_any w la oa ca k v pa h1 hk hn).mono fun e w' hd => ?_
  obtain ⟨he, _⟩ := One.did h3 h4 hd
  obtain ⟨_, hc, own', h', hsub⟩ := hd
  refine ⟨he, own', ob, h', h2.chg hc fun b hb ha => h6 b ha hb, ?_, fun b hb => ?_, h5, fun b hb ho => ?_⟩
  · have : Chg w0 w' oa := (Chg.of_none (S := oa) h3).trans hc fun k hk => .inl hk
    exact this.none_ h4
  · rcases hsub b hb with h | h
    · exact h4 b h
    · have := h3.size; omega
  · rcases hsub b hb with h | h
    · exact h6 b h ho
    · have := h2.lt b ho; omega
theorem Duo.put2 {k v : Int} (h : Duo w0 w la lb ca cb pa pb) (hk : WfI k) (hn : pb.length < 1000000) :
    Calls Try.prog 12 #[.pointer (some ⟨lb, 0, none⟩), .int .i64 k, .int .i64 v] w fun e w' => e = .returned (.tuple #[]) ∧ Duo w0 w' la lb ca cb pa (putted cb pb k v) :=
  (h.swap.put hk hn).mono fun _ _ ⟨he, h'⟩ => ⟨he, h'.swap⟩
theorem Duo.keys (h : Duo w0 w la lb ca cb pa pb) (hn : pa.length < 1000000) :
    Calls Try.prog 14 #[.pointer (some ⟨la, 0, none⟩)] w fun e w' => ∃ v, e = .returned v ∧ Nums w' .i64 v (pa.map (·.1)) ∧ Duo w0 w' la lb ca cb pa pb ∧ w.grownBy w' none :=
  (h.one.keys hn).mono fun _ _ ⟨v, he, h1, _, h3⟩ => ⟨v, he, h1, h.by_none h3, h3⟩
theorem Duo.keys2 (h : Duo w0 w la lb ca cb pa pb) (hn : pb.length < 1000000) :
    Calls Try.prog 14 #[.pointer (some ⟨lb, 0, none⟩)] w fun e w' => ∃ v, e = .returned v ∧ Nums w' .i64 v (pb.map (·.1)) ∧ Duo w0 w' la lb ca cb pa pb ∧ w.grownBy w' none :=
  (h.swap.keys hn).mono fun _ _ ⟨v, he, h1, h2, h3⟩ => ⟨v, he, h1, h2.swap, h3⟩
end
theorem new_duo (w0 w : World) (la : Nat) (ca cap : Int) (h : One w0 w la ca []) :
    Calls Try.prog 8 #[.int .i64 cap] w fun e w' => ∃ lb, e = .returned (.pointer (some ⟨lb, 0, none⟩)) ∧ Duo w0 w' la lb ca (max cap 0) [] [] := by
  obtain ⟨oa, h1, h2, h3⟩ := h
  refine (new_any w cap).mono fun e w' ⟨lb, ob, he, k1, k2, k3⟩ => ⟨lb, he, oa, ob, h1.by_none k2, k1, by_trans h2 k2 (by simp), h3, fun b hb => Nat.le_trans h2.size (k3 b hb), fun b ha hb => ?_⟩
  have := h1.lt b ha
  have := k3 b hb
  omega
theorem Nums.slice {w : World} {k : IntKind} {v : Value} {l : List Int} (h : Nums w k v l) : ∃ A c, v = .slice A l.length c ∧ l.length ≤ c := by
  obtain ⟨A, c, h1, h2, _⟩ := h
  exact ⟨A, c, h1, h2⟩
theorem Nums.cut {w : World} {k : IntKind} {A : Option Addr} {n q c : Nat} {l : List Int} (h : Nums w k (.slice A n c) l) (hq : q ≤ l.length) : Nums w k (.slice A q c) (l.take q) := by
  obtain ⟨A', c', h1, h2, h3⟩ := h
  injection h1 with e1 e2 e3
  subst e1; subst e3
  have hlen : (l.take q).length = q := by rw [List.length_take]; omega
  refine ⟨A, c, by rw [hlen], by rw [hlen]; omega, fun hp => ?_⟩
  rw [hlen] at hp
  obtain ⟨b, off, rfl, hb, hc⟩ := h3 (by omega)
  refine ⟨b, off, rfl, hb, fun i hi => ?_⟩
  rw [hlen] at hi
  rw [hc i (by omega), List.getElem_take]

namespace lruMore

structure Rel (w0 : World) (l : List Act3) (la lb n m : Nat) (k : Nat) (i : Value) (wr : World) (j : Nat) (ps : PL) : Prop where
  slot : i = .int .i64 j
  le : j ≤ l.length
  num : k = l.length - j
  fine : Fine m ps
  len : ps.length ≤ j
  duo : Duo w0 wr la lb n m (ps.take n) ps

theorem putted_len {n : Nat} {ps : PL} (h : Fine n ps) (k v : Int) : (putted n ps k v).length ≤ ps.length + 1 := by
  rcases split_ps ps k with ⟨l1, u, l2, rfl⟩ | ⟨h1, h2, h3⟩
  · rw [putted_at h.keys]; simp
  · rw [putted_none h1]
    split
    · omega
    · split
      · simp
      · simp

set_option maxRecDepth 100000 in
set_option maxHeartbeats 2000000 in
theorem walk (w : World) (less : Int) (w1 : (Lit.int .u8 less).wf = true) (more : Int) (w2 : (Lit.int .u8 more).wf = true) (v : Value) (l : List Act3) (hv : Acts w v l) (hw : ∀ x ∈ l, (Lit.int .i64 x.2.1).wf = true ∧ (Lit.int .i64 x.2.2).wf = true) (hl : l.length ≤ maxLen) :
    Calls Try.prog 6 #[.int .u8 less, .int .u8 more, v] w fun e w' => e = .returned (.bool true) ∧ w.grownBy w' none := by
  unfold maxLen at hl
  have HV := Lib.hid (And.intro hv hw)
  obtain ⟨A, c, rfl, hcap, _⟩ := hv
  have hb1 : 0 ≤ less ∧ less ≤ 255 := bounds_u8 w1
  have hb2 : 0 ≤ more ∧ more ≤ 255 := bounds_u8 w2
  obtain ⟨b10, b11⟩ := hb1
  obtain ⟨b20, b21⟩ := hb2
  obtain ⟨n, hn⟩ : ∃ n : Nat, less % 41 = (n : Int) := ⟨(less % 41).toNat, by omega⟩
  obtain ⟨m', hm'⟩ : ∃ n : Nat, more % 41 = (n : Int) := ⟨(more % 41).toNat, by omega⟩
  have hn41 : n ≤ 40 := by omega
  have hm41 : m' ≤ 40 := by omega
  obtain ⟨m, hm⟩ : ∃ m : Nat, (n : Int) + (m' : Int) = (m : Int) := ⟨n + m', by omega⟩
  have hnm : n ≤ m := by omega
  clear hw w1 w2
  go_enter Try.func6, Try.ntmps6
  go_wp2_with fail
  refine (new_one w w n (by_refl _ _)).mono ?_
  rintro e w3 ⟨la, rfl, S3⟩
  rw [show max (n : Int) 0 = (n : Int) by omega] at S3
  have H3 := Lib.hid S3
  clear S3
  go_wp2_with fail
  refine (new_duo w w3 la n m H3.out).mono ?_
  rintro e w4 ⟨lb, rfl, S4⟩
  rw [show max (m : Int) 0 = (m : Int) by omega] at S4
  have H4 := Lib.hid S4
  clear S4 H3
  have Hm := Lib.hid (And.intro hnm (show m ≤ 80 by omega))
  clear hnm hm hm' hn
  go_wp2_with fail
  go_loopg [11] l.length (fun k i wr => ∃ j ps, Rel w l la lb n m k i wr j ps)
  case atStart => exact ⟨0, [], rfl, by omega, by omega, ⟨by simp, by simp⟩, by simp, by simpa using H4.out⟩
  case round =>
    clear H4
    obtain ⟨j, ps, hr⟩ := hrel
    obtain rfl := hr.slot
    have hle := hr.le
    have Hr := Lib.hid hr
    clear hr
    by_cases h1 : j < l.length
    · by_cases h2 : j < 150
      · obtain ⟨A', cap', hA, _, hcell⟩ := HV.out.1
        injection hA with hA1 hA2 hA3
        subst hA1; subst hA3
        obtain ⟨b, off, rfl, hb, hc⟩ := hcell (by omega)
        obtain ⟨x0, x1, x2⟩ := hc j h1
        have hwf := (HV.out.2 l[j] (List.getElem_mem h1)).1
        have hlt' : (j : Int) < (l.length : Int) := by omega
        have hz0 : (0 : Int) ≤ (j : Int) := by omega
        generalize l[j].2.1 = k at *
        generalize l[j].2.2 = u at *
        have HX := Lib.hid (And.intro x1 (And.intro x2 hwf))
        clear hcell hc hb hA2 hwf x0 x1 x2
        have hps : ps.length ≤ 150 := by have := Hr.out.len; omega
        have htk : (ps.take n).length ≤ 150 := by rw [List.length_take]; omega
        have hstep := more_step n m ps k u Hr.out.fine.keys Hm.out.1 Hr.out.fine.len
        have HP := Lib.hid (And.intro hps (And.intro htk (And.intro hstep (And.intro (Hr.out.fine.put k u) (putted_len Hr.out.fine k u)))))
        clear hps htk hstep
        have z1 : wr.cell? ⟨b, off + j * 3 + 1, none⟩ = some (.int .i64 k) := Hr.out.duo.by_.cell HX.out.1 (by simp)
        have z2 : wr.cell? ⟨b, off + j * 3 + 2, none⟩ = some (.int .i64 u) := Hr.out.duo.by_.cell HX.out.2.1 (by simp)
        go_wp2_with fail
        go_still_tail 11, (by kernel_rfl)
        change wpList _ _ _ _ _ wr.drew
        have S0 : Duo w wr.drew la lb n m (ps.take n) ps := Hr.out.duo.by_none (by_drew (by_refl _ _))
        have H0 := Lib.hid S0
        clear S0 z1 z2
        generalize wr.drew = wq at *
        go_wp2_with fail
        refine (H0.out.put HX.out.2.2 (by have := HP.out.2.1; omega)).mono ?_
        rintro e w5 ⟨rfl, S5⟩
        have z1 : w5.cell? ⟨b, off + j * 3 + 1, none⟩ = some (.int .i64 k) := S5.by_.cell HX.out.1 (by simp)
        have z2 : w5.cell? ⟨b, off + j * 3 + 2, none⟩ = some (.int .i64 u) := S5.by_.cell HX.out.2.1 (by simp)
        have H5 := Lib.hid S5
        clear S5
        go_wp2_with fail
        go_still_tail 11, (by kernel_rfl)
        change wpList _ _ _ _ _ w5.drew
        have S6 := H5.out.by_none (by_drew (by_refl w5 none))
        have H6 := Lib.hid S6
        clear S6 z1 z2
        generalize w5.drew = w6 at *
        go_wp2_with fail
        refine (H6.out.put2 HX.out.2.2 (by have := HP.out.1; omega)).mono ?_
        rintro e w7 ⟨rfl, S7⟩
        rw [HP.out.2.2.1] at S7
        have H7 := Lib.hid (And.intro S7 HP.out.2.2.2)
        clear S7 HP H5 H6 H0
        generalize putted m ps k u = qs at *
        have hq : qs.length ≤ 1000 := by have := H7.out.2.2; have := Hr.out.len; omega
        have hqk : (qs.take n).length ≤ 1000 := by rw [List.length_take]; omega
        have Hq := Lib.hid (And.intro hq hqk)
        clear hq hqk
        go_wp2_with fail
        refine (H7.out.1.keys (by have := Hq.out.2; omega)).mono ?_
        rintro e w8 ⟨v8, rfl, n8, S8, y8⟩
        have H8 := Lib.hid (And.intro n8 S8)
        clear n8 S8 y8
        go_wp2_with fail
        refine (H8.out.2.keys2 (by have := Hq.out.1; omega)).mono ?_
        rintro e w9 ⟨v9, rfl, n9, S9, y9⟩
        have n8' := H8.out.1.grown y9 (.inl rfl)
        obtain ⟨A8, c8, rfl, _⟩ := n8'.slice
        obtain ⟨A9, c9, rfl, hc9⟩ := n9.slice
        obtain ⟨p, hp⟩ : ∃ p, (qs.map (·.1)).length = p := ⟨_, rfl⟩
        obtain ⟨q, hqq⟩ : ∃ q, ((qs.take n).map (·.1)).length = q := ⟨_, rfl⟩
        have hqp : q ≤ p := by rw [← hp, ← hqq, List.length_map, List.length_map, List.length_take]; omega
        have hqp2 : (q : Int) ≤ (p : Int) := by omega
        have hmin : min (n : Int) (p : Int) = (q : Int) := by rw [← hp, ← hqq, List.length_map, List.length_map, List.length_take]; omega
        rw [hp] at n9 hc9 ⊢
        rw [hqq] at n8' ⊢
        have hcut := n9.cut (q := q) (by rw [hp]; exact hqp)
        have hqc : q ≤ c9 := by omega
        have hkk : (qs.map (·.1)).take q = (qs.take n).map (·.1) := by
          rw [← hqq, List.length_map, List.length_take, ← List.map_take]
          congr 1
          rw [List.take_eq_take_iff]
          omega
        rw [hkk] at hcut
        have H9 := Lib.hid (And.intro S9 (And.intro n8' (And.intro hcut hqq)))
        have Hq2 := Lib.hid (And.intro hp hqq)
        clear S9 n8' hcut hkk n9 y9 hp hqq
        go_wp2_with fail
        refine (ints_same (.slice A8 q c8) (.slice A9 q c9) ((qs.take n).map (·.1)) w9 H9.out.2.1 H9.out.2.2.1 (by have := Hq.out.2; simp at this ⊢; omega)).mono ?_
        rintro e w10 ⟨rfl, n10, rfl⟩
        have H10 := Lib.hid (H9.out.1.by_none (by_drewN (by_refl w9 none) n10))
        clear H9 H8
        go_wp2_with fail
        go_roundg (l.length - (j + 1))
        case measure => have := Hr.out.num; omega
        case rel => exact ⟨j + 1, qs, by go_num, by omega, rfl, H7.out.2.1, by have := H7.out.2.2; have := Hr.out.len; omega, H10.out⟩
      · go_wp2_with fail
        refine (works_any _).mono ?_
        rintro e w9 ⟨rfl, y9⟩
        have Hf := Lib.hid (by_trans Hr.out.duo.by_ y9 (by simp))
        clear y9
        go_wp2
        go_ret
        exact ⟨rfl, Hf.out⟩
    · go_wp2_with fail
      refine (works_any _).mono ?_
      rintro e w9 ⟨rfl, y9⟩
      have Hf := Lib.hid (by_trans Hr.out.duo.by_ y9 (by simp))
      clear y9
      go_wp2
      go_ret
      exact ⟨rfl, Hf.out⟩

set_option maxRecDepth 100000 in
theorem lifted (os : Os) (started : os.Started) (H : Type) (enc : TypeId × Value → H) :
    ReturnsInHanded {} Try.checked os 6 .any (Rows.lruMoreSpec.pre6 enc Try.prog Try.f6 Rows.lruMoreRow.domain false) (Rows.lruMoreSpec.post enc Try.prog Try.f6 false true false false) := by
  refine returnsInHanded_of_change (C := Try.checked) own started (by kernel_rfl) Try.func6
    (ChangeSpec.witness6 (enc := enc) (C := Try.checked) false ⟨#[], #[.int .u8 0, .int .u8 0, .slice none 0 0], []⟩ 8 (by kernel_rfl) (by kernel_rfl) (by kernel_rfl) (by kernel_rfl)) ?_
  intro W base args ds gs before hval0 hW hcnd _
  have hval : ∀ (j : Nat) t v, Try.f6.params[j]? = some t → args[j]? = some v → Value.okWide Try.prog W .any base t v := hval0
  have hW' := hW
  obtain ⟨p, q, hA0, hV, rfl, hfz, hnd⟩ := hW
  have hA : DataW.TrodAll enc Try.prog W 0 (fun _ => true) true Try.f6.params.toList args.toList ds p := hA0
  rw [Try.params6] at hA hval
  obtain ⟨v0, vs0, d0, ds0, p0, q0, hargs, rfl, rfl, h0, r0⟩ := trodAll_cons hA
  obtain ⟨v1, vs1, d1, ds1, p1, q1, rfl, rfl, rfl, h1, r1⟩ := trodAll_cons r0
  obtain ⟨v2, vs2, d2, ds2, p2, q2, rfl, rfl, rfl, h2, r2⟩ := trodAll_cons r1
  obtain ⟨rfl, rfl, rfl⟩ := trodAll_nil r2
  obtain rfl : args = #[v0, v1, v2] := by cases args; simp_all
  obtain ⟨rfl, rfl⟩ := trodVars_none hV
  obtain ⟨a0, rfl, rfl, rfl, w0⟩ := open_int Try.underlying5 (hval 0 5 v0 rfl rfl) h0
  obtain ⟨a1, rfl, rfl, rfl, w1⟩ := open_int Try.underlying5 (hval 1 5 v1 rfl rfl) h1
  obtain ⟨l2, hl2, hm2, hn2⟩ := arg_acts (hval 2 22 v2 rfl rfl) h2
  refine (walk W a0 w0 a1 w1 v2 l2 hl2 hm2 hn2).mono fun e W' ⟨he, hg⟩ => ?_
  subst he
  exact ⟨_, rfl, law_post laidOut rfl hW' (by kernel_rfl) rfl Try.underlying4 rfl (below_of_by hg)⟩

theorem proved : Rows.LruMoreSaid :=
  OpenClaim.holds_of_wide 6 Try.f6 rfl rfl rfl rfl rfl rfl rfl ⟨rfl, rfl, rfl, rfl, rfl⟩ rfl rfl rfl rfl rfl (by kernel_rfl) Try.func6 (by kernel_rfl)
    (of_decide_eq_true (by kernel_rfl)) (by unfold Func.isWrapper; first | (rw [if_pos (by decide +kernel)]; kernel_rfl) | (rw [if_neg (by decide +kernel)]; exact ⟨rfl, rfl⟩))
    (fun os started H enc _ => lifted os started H enc)
#print axioms proved
end lruMore
end Go.Proofs.Ytgjklppmimhgnaa
