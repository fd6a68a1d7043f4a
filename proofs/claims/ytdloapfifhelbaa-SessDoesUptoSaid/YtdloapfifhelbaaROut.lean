/-
  The reference: Logout.
-/
import Derived.Test.YtdloapfifhelbaaRLive
import Derived.Test.YtdloapfifhelbaaAppend
namespace Go.Proofs.Ytdloapfifhelbaa
open Go.RowKit

theorem infoOne : (Try.prog.info? 62).map (fun i => (i.zero, i.size, i.bytes)) = some (some (.agg #[.string ⟨#[]⟩, .int .u64 0]), 2, 24) := by kernel_rfl
theorem Reads.take2 {w : World} {B size n : Nat} {A : Option Addr} {xs : List Value} (h : Reads w B size A n xs) {k : Nat} (hk : k ≤ n) : Reads w B size A k (xs.take (k * size)) := by
  refine ⟨by rw [List.length_take, h.1]; exact Nat.min_eq_left (Nat.mul_le_mul_right _ hk), fun hn => ?_⟩
  obtain ⟨ad, e, hb, hc⟩ := h.2 (by omega)
  refine ⟨ad, e, hb, fun j u hu => hc j u ?_⟩
  rw [List.getElem?_take] at hu
  by_cases hj : j < k * size
  · rw [if_pos hj] at hu; exact hu
  · rw [if_neg hj] at hu; cases hu
def ROutQ (w : World) (s : Nat) (own : Nat → Prop) (st' : Ses) (z : Int) (e : Ending) (w' : World) : Prop :=
  e = .returned (.int .i64 z) ∧ ∃ own', RAt w' s own' st' ∧ Chg w w' own ∧ ∀ b, own' b → own b ∨ w.heap.size ≤ b
set_option maxRecDepth 100000 in
set_option maxHeartbeats 2000000 in
theorem rlogout_any (w : World) (s : Nat) (own : Nat → Prop) (st : Ses) (token : ByteArray) (now : Nat) (hn : now < 18446744073709551616) (h : RAt w s own st) :
    Calls Try.prog 14 #[.pointer (some ⟨s, 0, none⟩), .string token, .int .u64 (now : Int)] w (ROutQ w s own (st.out token now) (st.use token now)) := by
  by_cases hz : st.find token now < 0
  · have e1 : st.out token now = st := if_pos hz
    have e2 : st.use token now = 8 := if_pos hz
    have hu := rfind_any w s own st token now hn h
    obtain ⟨z, hzz⟩ : ∃ z, z = st.find token now := ⟨_, rfl⟩
    rw [← hzz] at hu hz
    rw [e1, e2]
    have H := Lib.hid (And.intro hu h)
    clear hu h hn e1 e2 hzz
    go_enter Try.func14, Try.ntmps14
    go_wp2_with fail
    refine H.out.1.mono ?_
    rintro e w2 ⟨rfl, y2⟩
    have hfin : ROutQ w s own st 8 (.returned (.int .i64 8)) w2 := ⟨rfl, own, H.out.2.grown y2, Chg.of_none y2, fun b hb => .inl hb⟩
    have HF := Lib.hid hfin
    clear hfin y2
    go_wp2
    go_ret
    exact HF.out
  · obtain ⟨i, hi, hil⟩ := find_lt st token now hz
    have e1 : st.out token now = { st with l := st.l.take i ++ st.l.drop (i + 1) } := by unfold Ses.out; rw [if_neg hz, hi]; rfl
    have e2 : st.use token now = 0 := if_neg hz
    have hfd := rfind_any w s own st token now hn h
    rw [hi] at hfd
    rw [e1, e2]
    have hlt0 : (i : Int) ≤ 1000000 := by have := h.few; omega
    obtain ⟨⟨v, hb, hl, ho⟩, hfew, htok⟩ := h
    obtain ⟨A, c, rfl, hc1, hc2, _, _, hA, _⟩ := hl.at_
    obtain ⟨g, rfl⟩ := hA (by omega)
    obtain ⟨n, hnn⟩ : ∃ n, n = st.l.length := ⟨_, rfl⟩
    have hr : Reads w w.heap.size 2 (some ⟨g, 0, none⟩) n (scells st.l) := by rw [hnn]; exact Reads.of_own hl
    have hgs : g ≠ s := fun e => own_blk_ne hl hb (by decide) (by simp [Value.ownBlock, e])
    rw [← hnn] at hb hc1 hil hfew
    have hcb : c ≤ 9223372036854775807 := by unfold maxLen at hc2; omega
    have H := Lib.hid (And.intro hfd (And.intro hb (And.intro hr (And.intro ho (And.intro htok (And.intro hfew (And.intro hnn hl)))))))
    obtain ⟨i0, hi0, hz0, hz1, hz2⟩ := info_some infoOne
    have Hi := Lib.hid (And.intro hi0 (And.intro hz0 (And.intro hz1 hz2)))
    have hnb : (n : Int) ≤ 1000000 := by omega
    clear hn hz e1 e2 hi hfd hb hl ho htok hA hr hnn hi0 hz0 hz1 hz2 hc2
    have hI0 : (0 : Int) ≤ (i : Int) := by omega
    have hI : (i : Int) < (n : Int) := by omega
    go_enter Try.func14, Try.ntmps14
    go_wp2_with fail
    refine H.out.1.mono ?_
    rintro e wa ⟨rfl, ya⟩
    have hba := H.out.2.1.grown ya (by simp)
    have c4 : wa.cell? ⟨s, 4, none⟩ = some (.slice (some ⟨g, 0, none⟩) n c) := hba.cell 4
    have hra := (H.out.2.2.1.grown ya (Nat.le_refl _) (by simp)).more ya.size
    have hr1 := hra.take2 (k := i) (by omega)
    rw [scells_take st.l i (by have := H.out.2.2.2.2.2.2.1; omega)] at hr1
    have Ha := Lib.hid (And.intro hba (And.intro hra (And.intro ya hr1)))
    have hjn : i + 1 ≤ n := by omega
    have hjm : i ≤ n := by omega
    have hli : (st.l.take i).length = i := by rw [List.length_take]; have := H.out.2.2.2.2.2.2.1; omega
    have Hli := Lib.hid hli
    clear hba hra ya hr1 hli
    go_wp2_with (at_builtin; refine wpList_append_any wa rfl (.tmp 15) (.tmp 21) 28 rfl wa.heap.size 62 i0 _ 2 24 Try.underlying28 Hi.out.1 Hi.out.2.1 Hi.out.2.2.1 Hi.out.2.2.2 rfl (by decide) (.slice none 0 0) 0 [] rfl (World.ownsRow_nil _ _ _ _) wa.heap.size (some ⟨g, 0, none⟩) i c (scells (st.l.take i)) rfl ?h1 ?h2 ?h3 ?h4 (Nat.le_refl _) ?_)
    case h1 => exact Ha.out.2.2.2
    case h2 => exact scells_one _
    case h3 => unfold maxLen; omega
    case h4 => omega
    intro v1 w2 ho2 y2 hv1
    try simp only [Nat.zero_add, List.nil_append] at ho2
    have y2 : wa.grownBy w2 none := y2
    obtain ⟨l1, hl1⟩ : ∃ l1, l1 = st.l.take i := ⟨_, rfl⟩
    obtain ⟨l2, hl2⟩ : ∃ l2, l2 = st.l.drop (i + 1) := ⟨_, rfl⟩
    have hlen1 : l1.length = i := by rw [hl1]; exact Hli.out
    have hlen2 : l2.length = n - (i + 1) := by rw [hl2, List.length_drop]; have := H.out.2.2.2.2.2.2.1; omega
    rw [← hl1] at ho2
    have hL2 : RLst w2 v1 l1 := by
      show w2.ownsRow 0 _ 2 v1 l1.length (scells l1)
      rw [hlen1]
      refine ⟨ho2.1, ?_⟩
      rcases ho2.2 with h | ⟨g, cap, cur, h1, _, h2⟩
      · exact .inl h
      · exact .inr ⟨g, cap, cur, h1, Nat.zero_le _, h2⟩
    obtain ⟨A1, c1, rfl, _⟩ := hL2.at_
    have hnew1 : ∀ b, (Value.slice A1 l1.length c1).ownBlock = some b → wa.heap.size ≤ b := fun b hb => by
      rcases hv1 with h | h
      · rw [h] at hb; cases hb
      · rw [h] at hb; cases hb; exact Nat.le_refl _
    rw [hlen1] at ho2 hnew1 hL2 ⊢
    have hb2 := Ha.out.1.grown y2 (by simp)
    have x2 : w2.cell? ⟨s, 4, none⟩ = some (.slice (some ⟨g, 0, none⟩) n c) := hb2.cell 4
    have hr2 := ((Ha.out.2.1.grown y2 (Nat.le_refl _) (by simp)).more y2.size).cut (k := i + 1) hjn hc1
    rw [scells_drop st.l (i + 1) (by have := H.out.2.2.2.2.2.2.1; omega), ← hl2] at hr2
    have hnj : n - (i + 1) = l2.length := hlen2.symm
    obtain ⟨A2, hsl, hrA⟩ : ∃ A2, (∀ W, (Instr.slice 28 (.slice (some ⟨g, 0, none⟩) n c) (some (.int .i64 ((i : Int) + 1))) none none).run Try.prog W = .ok (.slice A2 l2.length (c - (i + 1))) W) ∧ Reads w2 w2.heap.size 2 A2 l2.length (scells l2) := by
      refine ⟨_, fun W => ?_, by rw [hnj] at hr2; exact hr2⟩
      have hu : Try.prog.underlying 28 = some (.slice (Try.prog.elem 28)) := by kernel_rfl
      have hz : (Go.sizeOf (Try.prog.elem 28)).run Try.prog W = .ok 2 W := by kernel_rfl
      rw [run_slice_l W 28 (some ⟨g, 0, none⟩) n c hu .i64 ((i : Int) + 1) (by omega) (by omega), hz]
      simp only [Result.andThen, sliced]
      rw [show ((i : Int) + 1).toNat = i + 1 by omega, hnj]
    obtain ⟨m2, hm2⟩ : ∃ m2, m2 = l2.length := ⟨_, rfl⟩
    rw [← hm2] at hsl hrA
    have hj1 : ((i : Int) + 1) ≤ (n : Int) := by omega
    have hnc : (n : Int) ≤ (c : Int) := by omega
    have hjm2 : i + m2 < 1000000 := by omega
    have H2 := Lib.hid (And.intro ho2 (And.intro y2 (And.intro hb2 (And.intro hrA (And.intro hnew1 hL2)))))
    have HL := Lib.hid (And.intro hl1 (And.intro hl2 (And.intro hm2 (And.intro hlen1 hlen2))))
    clear ho2 y2 hb2 hrA hnew1 hL2 hr2 hnj hm2 hlen1 hlen2 hl1 hl2 hv1
    go_wp2_with (at_builtin; refine wpList_append_any w2 rfl (.tmp 24) (.tmp 31) 28 rfl wa.heap.size 62 i0 _ 2 24 Try.underlying28 Hi.out.1 Hi.out.2.1 Hi.out.2.2.1 Hi.out.2.2.2 rfl (by decide) (.slice A1 i c1) i (scells l1) rfl ?k1 w2.heap.size A2 m2 (c - (i + 1)) (scells l2) rfl ?k2 ?k3 ?k4 ?k5 ?k6 ?_)
    case k1 => exact H2.out.1
    case k2 => exact H2.out.2.2.2.1
    case k3 => exact scells_one l2
    case k4 => unfold maxLen; omega
    case k5 => omega
    case k6 => exact H2.out.2.1.size
    intro v2 w3 ho3 y3 hv2
    have hL3 : RLst w3 v2 (l1 ++ l2) := by
      show w3.ownsRow 0 _ 2 v2 (l1 ++ l2).length (scells (l1 ++ l2))
      rw [scells_app, List.length_append, HL.out.2.2.2.1, ← HL.out.2.2.1]
      refine ⟨ho3.1, ?_⟩
      rcases ho3.2 with h | ⟨g, cap, cur, h1, _, h2⟩
      · exact .inl h
      · exact .inr ⟨g, cap, cur, h1, Nat.zero_le _, h2⟩
    obtain ⟨A3, c3, rfl, _⟩ := hL3.at_
    obtain ⟨n3, hn3⟩ : ∃ n3, n3 = (l1 ++ l2).length := ⟨_, rfl⟩
    rw [← hn3] at hL3 hv2 ho3 ⊢
    have hb3 := H2.out.2.2.1.grown y3 (fun e => own_blk_ne H2.out.1 H2.out.2.2.1 (by decide) e.symm)
    have x3 : w3.cell? ⟨s, 4, none⟩ = some (.slice (some ⟨g, 0, none⟩) n c) := hb3.cell 4
    have z3 : w3.frozen? ⟨s, 4, none⟩ = false := hb3.frozen 4
    have hv3 : ∀ b, (Value.slice A3 n3 c3).ownBlock = some b → wa.heap.size ≤ b := fun b hb => by
      rcases hv2 with h | h
      · rw [h] at hb; exact H2.out.2.2.2.2.1 b hb
      · rw [h] at hb; cases hb; exact H2.out.2.1.size
    have hvs : (Value.slice A3 n3 c3).ownBlock ≠ some s := own_blk_ne hL3 hb3 (by decide)
    have hC3 : Chg w w3 own := ((Chg.of_none (S := own) (by_trans Ha.out.2.2.1 H2.out.2.1 (by simp))).trans (Chg.of_by (S := fun b => (Value.slice A1 i c1).ownBlock = some b) y3 fun g h => h) (fun b hb => .inr (Nat.le_trans Ha.out.2.2.1.size (H2.out.2.2.2.2.1 b hb))))
    have hfin : ROutQ w s own { st with l := st.l.take i ++ st.l.drop (i + 1) } 0 (.returned (.int .i64 0)) (w3.setCell ⟨s, 4, none⟩ (.slice A3 n3 c3)) := by
      rw [← HL.out.1, ← HL.out.2.1]
      refine ⟨rfl, fun b => b = s ∨ (Value.slice A3 n3 c3).ownBlock = some b, ⟨⟨.slice A3 n3 c3, hb3.set_ 4 _, ?_, fun b => Iff.rfl⟩, ?_, ?_⟩, ?_, ?_⟩
      · exact own_chg hL3 ((Chg.refl w3 (fun b => b = s)).set_ (p := ⟨s, 4, none⟩) (.inl rfl) _) (fun g hg e => hvs (by rw [hg, e]))
      · show (l1 ++ l2).length < 1000000
        rw [List.length_append, HL.out.2.2.2.1, HL.out.2.2.2.2]
        have := H.out.2.2.2.2.2.1
        omega
      · intro x hx
        refine H.out.2.2.2.2.1 x ?_
        have hx : x ∈ st.l.take i ++ st.l.drop (i + 1) := by rw [← HL.out.1, ← HL.out.2.1]; exact hx
        rcases List.mem_append.1 hx with h | h
        · exact List.mem_of_mem_take h
        · exact List.mem_of_mem_drop h
      · exact hC3.set_ (.inl ((H.out.2.2.2.1 s).2 (.inl rfl))) _
      · rintro b (rfl | hb)
        · exact .inl ((H.out.2.2.2.1 b).2 (.inl rfl))
        · exact .inr (Nat.le_trans Ha.out.2.2.1.size (hv3 b hb))
    have HF := Lib.hid hfin
    clear hfin hC3 hvs hv3 hb3 hL3 ho3 hv2 y3 hn3
    go_wp2
    go_ret
    exact HF.out
end Go.Proofs.Ytdloapfifhelbaa
