/-
  WireReads: of any bytes what each reading answers is as the document says (all inputs, no condition).
-/
import Derived.Test.YtlnlpphhnbodpaaPutsLaw
import Derived.Deep.Grids
import Derived.ChangeMaps5
namespace Go.Proofs.Ytlnlpphhnbodpaa
open Go.ChangeShapes Go.ChangeMaps Go.WideShapes Go.ChangeAt Go.RowKit Go.Deep

/-- A slice value that reads as a list of bools. -/
def Bools (w : World) (v : Value) (l : List Bool) : Prop :=
  ∃ A cap, v = .slice A l.length cap ∧ l.length ≤ cap ∧ (0 < l.length → ∃ b off, A = some ⟨b, off, none⟩ ∧ b < w.heap.size ∧ ∀ i (h : i < l.length), w.cell? ⟨b, off + i, none⟩ = some (.bool l[i]))
theorem arg_bools {H : Type} {enc : TypeId × Value → H} {P : Program} {t e : TypeId} (ht : P.underlying t = some (.slice e)) (he : P.underlying e = some .bool) (hc : P.cellsOf e = 1) {W : World} {base : Nat} {v : Value} {d : DataW H} {p : List MemPlace}
    (hv : Value.okWide P W .any base t v) (h : DataW.Trod enc P W 0 (fun _ => true) true t v d p) : ∃ l : List Bool, Bools W v l ∧ l.length ≤ maxLen := by
  obtain ⟨a0, len, cap, rfl⟩ := okWide_slice ht hv
  obtain ⟨fuel, hf⟩ := h
  rcases open_bools ht he hc hf with ⟨hcs, _⟩ | ⟨a, len', cap', B, hcs, _, hl, hm, _, hcell⟩
  · simp [Value.cells] at hcs
    obtain ⟨rfl, rfl, rfl⟩ := hcs
    exact ⟨[], ⟨none, 0, rfl, by simp, fun h => by simp at h⟩, by simp⟩
  · simp [Value.cells] at hcs
    obtain ⟨rfl, rfl, rfl⟩ := hcs
    have hlen : ((List.range len).map B).length = len := by simp
    refine ⟨(List.range len).map B, ⟨some a, cap, by rw [hlen], by rw [hlen]; exact hl, fun hp => ?_⟩, by rw [hlen]; omega⟩
    obtain ⟨b, off, spot⟩ := a
    rw [hlen] at hp
    have h0 := hcell 0 (by omega)
    have hspot : spot = none := by simpa [Addr.add] using World.cell?_spot h0
    subst hspot
    refine ⟨b, off, rfl, World.block_lt_of_cell? W _ (by rw [addr_add] at h0; exact h0), fun i hi => ?_⟩
    rw [hlen] at hi
    have := hcell i (by omega)
    rw [addr_add] at this
    rw [this]
    simp

def numV (s : ByteArray) : Nat := match numR s with | none => 0 | some (n, _) => n
def numS (s : ByteArray) (bad : Bool) : ByteArray × Bool := match numR s with | none => (⟨#[]⟩, true) | some (_, k) => (s.extract k s.size, bad)
def txtV (s : ByteArray) : ByteArray := match textR s with | none => ⟨#[]⟩ | some (t, _) => t
def txtS (s : ByteArray) (bad : Bool) : ByteArray × Bool := match textR s with | none => (⟨#[]⟩, true) | some (_, q) => (q, bad)
theorem numS_le (s : ByteArray) (bad : Bool) : (numS s bad).1.size ≤ s.size := by
  unfold numS
  split
  · exact Nat.zero_le _
  · exact ext_le s _
theorem txtS_le (s : ByteArray) (bad : Bool) : (txtS s bad).1.size ≤ s.size := by
  unfold txtS
  cases h : textR s with
  | none => exact Nat.zero_le _
  | some q =>
    obtain ⟨t, r⟩ := q
    unfold textR at h
    cases hn : numR s with
    | none => rw [hn] at h; cases h
    | some p =>
      obtain ⟨n, k⟩ := p
      rw [hn] at h
      dsimp only at h
      split at h
      · injection h with h
        injection h with h1 h2
        rw [← h2]
        exact Nat.le_trans (ext_le _ _) (ext_le s k)
      · cases h

theorem Rd.by_ref {w w' : World} {r g : Nat} {s s2 : ByteArray} {bad b2 : Bool} (h : Rd w r s bad) (hr : RRd w g s2 b2) (hg : w.grownBy w' (some g)) : Rd w' r s bad := by
  have hr' : Blk w g 34 #[.string s2, .bool b2] := hr
  obtain ⟨A, c, h1, h2, h3, h4, h5⟩ := h
  refine ⟨A, c, h1, h2.grown hg (by simpa using h2.ne_ hr' (by decide)), ⟨h3.1, fun hn => ?_⟩, h4, h5⟩
  obtain ⟨b, off, rfl, hb, hc⟩ := h3.2 hn
  refine ⟨b, off, rfl, Nat.lt_of_lt_of_le hb hg.size, fun j hj => hg.cell (hc j hj) (fun e => ?_)⟩
  injection e with e
  dsimp only at e
  subst e
  have h7 := hc j hj
  rw [hr'.cell] at h7
  rcases hk : off + j with _ | _ | m <;> rw [hk] at h7 <;> simp at h7

/-- the reader and the reference's, side by side -/
structure Pr (w0 w : World) (r g : Nat) (s1 : ByteArray) (b1 : Bool) (s2 : ByteArray) (b2 : Bool) : Prop where
  rd : Rd w r s1 b1
  rf : RRd w g s2 b2
  by_ : w0.grownBy w none
  r_ : w0.heap.size ≤ r
  g_ : w0.heap.size ≤ g
  ne_ : g ≠ r
section
variable {w0 w w' : World} {r g : Nat} {s1 s2 : ByteArray} {b1 b2 : Bool}
theorem Pr.left {t : ByteArray} {b : Bool} (h : Pr w0 w r g s1 b1 s2 b2) (hg : w.grownBy w' (some r)) (hr : Rd w' r t b) : Pr w0 w' r g t b s2 b2 :=
  ⟨hr, Blk.grown h.rf hg (by simpa using h.ne_), by_trans h.by_ hg (fun x hx => .inr (by cases hx; exact h.r_)), h.r_, h.g_, h.ne_⟩
theorem Pr.right {t : ByteArray} {b : Bool} (h : Pr w0 w r g s1 b1 s2 b2) (hg : w.grownBy w' (some g)) (hr : RRd w' g t b) : Pr w0 w' r g s1 b1 t b :=
  ⟨h.rd.by_ref h.rf hg, hr, by_trans h.by_ hg (fun x hx => .inr (by cases hx; exact h.g_)), h.r_, h.g_, h.ne_⟩
theorem Pr.num (h : Pr w0 w r g s1 b1 s2 b2) (hs : s1.size ≤ 4000) :
    Calls Try.prog 14 #[.pointer (some ⟨r, 0, none⟩)] w fun e w' => e = .returned (.int .u64 (numV s1 : Nat)) ∧ Pr w0 w' r g (numS s1 b1).1 (numS s1 b1).2 s2 b2 := by
  refine (num_any w r s1 b1 h.rd (by omega)).mono fun e w' ⟨h1, h2⟩ => ?_
  unfold numV numS
  cases hn : numR s1 with
  | none => rw [hn] at h2; exact ⟨h2.1, h.left h1 h2.2⟩
  | some q => rw [hn] at h2; exact ⟨h2.1, h.left h1 h2.2⟩
theorem Pr.rnum (h : Pr w0 w r g s1 b1 s2 b2) (hs : s2.size ≤ 4000) :
    Calls Try.prog 15 #[.pointer (some ⟨g, 0, none⟩)] w fun e w' => e = .returned (.int .u64 (numV s2 : Nat)) ∧ Pr w0 w' r g s1 b1 (numS s2 b2).1 (numS s2 b2).2 := by
  refine (rnum_any w g s2 b2 h.rf (by omega)).mono fun e w' ⟨h1, h2⟩ => ?_
  unfold numV numS
  cases hn : numR s2 with
  | none => rw [hn] at h2; exact ⟨h2.1, h.right h1 h2.2⟩
  | some q => rw [hn] at h2; exact ⟨h2.1, h.right h1 h2.2⟩
theorem Pr.text (h : Pr w0 w r g s1 b1 s2 b2) (hs : s1.size ≤ 4000) :
    Calls Try.prog 16 #[.pointer (some ⟨r, 0, none⟩)] w fun e w' => e = .returned (.string (txtV s1)) ∧ Pr w0 w' r g (txtS s1 b1).1 (txtS s1 b1).2 s2 b2 := by
  refine (text_any w r s1 b1 h.rd (by omega)).mono fun e w' ⟨h1, h2⟩ => ?_
  unfold txtV txtS
  cases hn : textR s1 with
  | none => rw [hn] at h2; exact ⟨h2.1, h.left h1 h2.2⟩
  | some q => rw [hn] at h2; exact ⟨h2.1, h.left h1 h2.2⟩
theorem Pr.rtext (h : Pr w0 w r g s1 b1 s2 b2) (hs : s2.size ≤ 4000) :
    Calls Try.prog 17 #[.pointer (some ⟨g, 0, none⟩)] w fun e w' => e = .returned (.string (txtV s2)) ∧ Pr w0 w' r g s1 b1 (txtS s2 b2).1 (txtS s2 b2).2 := by
  refine (rtext_any w g s2 b2 h.rf (by omega)).mono fun e w' ⟨h1, h2⟩ => ?_
  unfold txtV txtS
  cases hn : textR s2 with
  | none => rw [hn] at h2; exact ⟨h2.1, h.right h1 h2.2⟩
  | some q => rw [hn] at h2; exact ⟨h2.1, h.right h1 h2.2⟩
end

namespace wireReads
structure R1 (w0 : World) (l : List Bool) (r g : Nat) (k : Nat) (i : Value) (wr : World) (j : Nat) (S : ByteArray) (b : Bool) : Prop where
  slot : i = .int .i64 (j : Int)
  le : j ≤ l.length
  le2 : j ≤ 80
  num : k = l.length - j
  sz : S.size ≤ 4000
  pr : Pr w0 wr r g S b S b

set_option maxRecDepth 100000 in
set_option maxHeartbeats 4000000 in
theorem walk (w : World) (s : ByteArray) (hs : s.size ≤ maxLen) (v : Value) (l : List Bool) (hv : Bools w v l) (hl : l.length ≤ maxLen) :
    Calls Try.prog 4 #[.string s, v] w fun e w' => e = .returned (.bool true) ∧ w.grownBy w' none := by
  unfold maxLen at hl hs
  have HV := Lib.hid hv
  obtain ⟨A, c, rfl, hcap, _⟩ := hv
  have hS : (s.extract 0 (min s.size 4000)).size ≤ 4000 := by rw [ext_size _ _ _ (Nat.min_le_left _ _)]; omega
  have HS := Lib.hid hS
  clear hS
  go_enter Try.func4, Try.ntmps4
  go_upto_region 1 with fail
  go_cut [0] (fun s0 wx => s0 = .string (s.extract 0 (min s.size 4000)) ∧ w = wx)
  case first =>
    by_cases hm : s.size ≤ 4000
    · have hmin : min (s.size : Int) 4000 = (s.size : Int) := by omega
      go_wp2_with fail
      go_meet
      refine ⟨?_, rfl⟩
      rw [Nat.min_eq_left hm, ext_all]
    · have hmin : min (s.size : Int) 4000 = 4000 := by omega
      have hm2 : (4000 : Int) ≤ (s.size : Int) := by omega
      go_wp2_with fail
      go_meet
      refine ⟨?_, rfl⟩
      rw [Nat.min_eq_right (by omega)]
  case rest =>
    obtain ⟨rfl, rfl⟩ := hcut
    obtain ⟨S, hSS⟩ : ∃ S, s.extract 0 (min s.size 4000) = S := ⟨_, rfl⟩
    rw [hSS] at HS ⊢
    clear hSS
    go_wp2_with fail
    refine (newreader_any w S).mono ?_
    rintro e w1 ⟨r, rfl, R1', y1, l1⟩
    have hpr : Pr w (w1.alloc (.cells #[.string S, .bool false] 34)) r w1.heap.size S false S false :=
      ⟨R1'.by_ (by_alloc (by_refl _ _) _), Blk.new w1 _ _, by_alloc y1 _, l1, y1.size, by have := R1'.lt; omega⟩
    have H1 := Lib.hid hpr
    clear hpr R1' y1 l1
    go_wp2_with fail
    go_loopg [7] l.length (fun k i wr => ∃ j S b, R1 w l r w1.heap.size k i wr j S b)
    case atStart => exact ⟨0, S, false, rfl, by omega, by omega, by omega, HS.out, H1.out⟩
    case round =>
      clear H1
      obtain ⟨j, T, bad, hr⟩ := hrel
      obtain rfl := hr.slot
      have hle := hr.le
      have hle2 := hr.le2
      have Hr := Lib.hid hr
      clear hr
      by_cases h1 : j < l.length
      · by_cases h2 : j < 80
        · obtain ⟨A', cap', hA, _, hcell⟩ := HV.out
          injection hA with hA1 hA2 hA3
          subst hA1; subst hA3
          obtain ⟨b, off, rfl, hb, hc⟩ := hcell (by omega)
          have x0 := hc j h1
          have x1 : wr.cell? ⟨b, off + j, none⟩ = some (.bool l[j]) := Hr.out.pr.by_.cell x0 (by simp)
          have hz0 : (0 : Int) ≤ (j : Int) := by omega
          have hz1 : (j : Int) < (l.length : Int) := by omega
          obtain ⟨mk, hmk⟩ : ∃ mk, l[j] = mk := ⟨_, rfl⟩
          rw [hmk] at x0 x1
          have HX := Lib.hid x0
          clear hcell hc hb x0 hA2 hmk
          cases mk with
          | true =>
            go_wp2_with fail
            refine (Hr.out.pr.num Hr.out.sz).mono ?_
            rintro e w2 ⟨rfl, P2⟩
            have H2 := Lib.hid P2
            clear P2 x1
            go_wp2_with fail
            refine (H2.out.rnum Hr.out.sz).mono ?_
            rintro e w3 ⟨rfl, P3⟩
            have x3 : w3.cell? ⟨b, off + j, none⟩ = some (.bool true) := P3.by_.cell HX.out (by simp)
            have hsz := Nat.le_trans (numS_le T bad) Hr.out.sz
            have H3 := Lib.hid (And.intro P3 hsz)
            clear P3 hsz
            generalize numS T bad = NS at *
            go_wp2_with fail
            refine (ok_any w3 r _ _ H3.out.1.rd).mono ?_
            rintro e w4 ⟨rfl, rfl⟩
            go_wp2_with fail
            refine (rok_any w3 _ _ _ H3.out.1.rf).mono ?_
            rintro e w4 ⟨rfl, rfl⟩
            go_wp2_with fail
            refine (end_any w3 r _ _ H3.out.1.rd).mono ?_
            rintro e w4 ⟨rfl, rfl⟩
            go_wp2_with fail
            refine (rend_any w3 _ _ _ H3.out.1.rf).mono ?_
            rintro e w4 ⟨rfl, rfl⟩
            clear x3
            go_wp2
            go_roundg (l.length - (j + 1))
            case measure => have := Hr.out.num; omega
            case rel => exact ⟨j + 1, NS.1, NS.2, by go_num, by omega, by omega, rfl, H3.out.2, H3.out.1⟩
          | false =>
            go_wp2_with fail
            refine (Hr.out.pr.text Hr.out.sz).mono ?_
            rintro e w2 ⟨rfl, P2⟩
            have H2 := Lib.hid P2
            clear P2 x1
            go_wp2_with fail
            refine (H2.out.rtext Hr.out.sz).mono ?_
            rintro e w3 ⟨rfl, P3⟩
            have hsz := Nat.le_trans (txtS_le T bad) Hr.out.sz
            have H3 := Lib.hid (And.intro P3 hsz)
            clear P3 hsz
            generalize txtS T bad = NS at *
            go_wp2_with fail
            refine (ok_any w3 r _ _ H3.out.1.rd).mono ?_
            rintro e w4 ⟨rfl, rfl⟩
            go_wp2_with fail
            refine (rok_any w3 _ _ _ H3.out.1.rf).mono ?_
            rintro e w4 ⟨rfl, rfl⟩
            go_wp2_with fail
            refine (end_any w3 r _ _ H3.out.1.rd).mono ?_
            rintro e w4 ⟨rfl, rfl⟩
            go_wp2_with fail
            refine (rend_any w3 _ _ _ H3.out.1.rf).mono ?_
            rintro e w4 ⟨rfl, rfl⟩
            go_wp2
            go_roundg (l.length - (j + 1))
            case measure => have := Hr.out.num; omega
            case rel => exact ⟨j + 1, NS.1, NS.2, by go_num, by omega, by omega, rfl, H3.out.2, H3.out.1⟩
        · have Hf := Lib.hid Hr.out.pr.by_
          go_wp2_with fail
          refine (works_any _).mono ?_
          rintro e w9 ⟨rfl, y9⟩
          have H9 := Lib.hid (by_trans Hf.out y9 (by simp))
          clear y9
          go_wp2
          go_ret
          exact ⟨rfl, H9.out⟩
      · have Hf := Lib.hid Hr.out.pr.by_
        go_wp2_with fail
        refine (works_any _).mono ?_
        rintro e w9 ⟨rfl, y9⟩
        have H9 := Lib.hid (by_trans Hf.out y9 (by simp))
        clear y9
        go_wp2
        go_ret
        exact ⟨rfl, H9.out⟩

set_option maxRecDepth 100000 in
theorem lifted (os : Os) (started : os.Started) (H : Type) (enc : TypeId × Value → H) :
    ReturnsInHanded {} Try.checked os 4 .any (Rows.wireReadsSpec.pre6 enc Try.prog Try.f4 Rows.wireReadsRow.domain false) (Rows.wireReadsSpec.post enc Try.prog Try.f4 false true false false) := by
  refine returnsInHanded_of_change (C := Try.checked) own started (by kernel_rfl) Try.func4
    (ChangeSpec.witness6 (enc := enc) (C := Try.checked) false ⟨#[], #[.string ByteArray.empty, .slice none 0 0], []⟩ 8 (by kernel_rfl) (by kernel_rfl) (by kernel_rfl) (by kernel_rfl)) ?_
  intro W base args ds gs before hval0 hW hcnd _
  have hval : ∀ (j : Nat) t v, Try.f4.params[j]? = some t → args[j]? = some v → Value.okWide Try.prog W .any base t v := hval0
  have hW' := hW
  obtain ⟨p, q, hA0, hV, rfl, hfz, hnd⟩ := hW
  have hA : DataW.TrodAll enc Try.prog W 0 (fun _ => true) true Try.f4.params.toList args.toList ds p := hA0
  rw [Try.params4] at hA hval
  obtain ⟨v0, vs0, d0, ds0, p0, q0, hargs, rfl, rfl, h0, r0⟩ := trodAll_cons hA
  obtain ⟨v1, vs1, d1, ds1, p1, q1, rfl, rfl, rfl, h1, r1⟩ := trodAll_cons r0
  obtain ⟨rfl, rfl, rfl⟩ := trodAll_nil r1
  obtain rfl : args = #[v0, v1] := by cases args; simp_all
  obtain ⟨rfl, rfl⟩ := trodVars_none hV
  obtain ⟨a0, rfl, rfl, rfl, w0⟩ := open_string Try.underlying9 (hval 0 9 v0 rfl rfl) h0
  obtain ⟨l1, hl1, hm1⟩ := arg_bools Try.underlying29 Try.underlying4 (by kernel_rfl) (hval 1 29 v1 rfl rfl) h1
  refine (walk W a0 w0 v1 l1 hl1 hm1).mono fun e W' ⟨he, hg⟩ => ?_
  subst he
  exact ⟨_, rfl, law_post laidOut rfl hW' (by kernel_rfl) rfl Try.underlying4 rfl (below_of_by hg)⟩

theorem proved : Rows.WireReadsSaid :=
  OpenClaim.holds_of_wide 4 Try.f4 rfl rfl rfl rfl rfl rfl rfl ⟨rfl, rfl, rfl, rfl, rfl⟩ rfl rfl rfl rfl rfl (by kernel_rfl) Try.func4 (by kernel_rfl)
    (of_decide_eq_true (by kernel_rfl)) (by unfold Func.isWrapper; first | (rw [if_pos (by decide +kernel)]; kernel_rfl) | (rw [if_neg (by decide +kernel)]; exact ⟨rfl, rfl⟩))
    (fun os started H enc _ => lifted os started H enc)
#print axioms proved
end wireReads
end Go.Proofs.Ytlnlpphhnbodpaa
