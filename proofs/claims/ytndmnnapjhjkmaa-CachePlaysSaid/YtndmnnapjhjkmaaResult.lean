/-
  lodgerlaw24.result: the result of a number.
-/
import Derived.Test.YtndmnnapjhjkmaaResP
import Derived.Test.YtndmnnapjhjkmaaOwn
namespace Go.Proofs.Ytndmnnapjhjkmaa
open Go.RowKit iStrRes

def ResInv (w wr : World) (n m : Nat) (i : Value) : Prop := ∃ k d v t P Q, k ≤ n % 4 ∧ m = n % 4 - k ∧ i = .int .i64 (k : Nat) ∧ RR w wr n k k k d v t P Q

theorem u8_mod (n : Nat) (h : n < 256) : (n : Int).tmod 4 = ((n % 4 : Nat) : Int) ∧ (n : Int).tmod 5 = ((n % 5 : Nat) : Int) := by
  rw [Int.tmod_eq_emod_of_nonneg (by omega), Int.tmod_eq_emod_of_nonneg (by omega)]
  omega
theorem news_new (w : World) (t : TypeId) (xs : List Value) (cs : Array Value) (h : cs = xs.toArray) : ∀ j u, xs[j]? = some u → (w.alloc (.cells cs t)).cell? ((⟨w.heap.size, 0, none⟩ : Addr).add j) = some u := by
  subst h
  intro j u hu
  rw [addr_add, Nat.zero_add, (Blk.new w t xs.toArray).cell j]
  simpa using hu
theorem news_of {w : World} {g : Nat} {t : TypeId} {cs : Array Value} {xs : List Value} (hb : Blk w g t cs) (h : cs = xs.toArray) : ∀ (j : Nat) (u : Value), xs[j]? = some u → w.cell? ((⟨g, 0, none⟩ : Addr).add j) = some u := by
  subst h
  intro j u hu
  rw [addr_add, Nat.zero_add, hb.cell j]
  simpa using hu
theorem after_alloc2 {W we : World} {N : Nat} {c1 c2 : Array Value} {t1 t2 : TypeId} (h : we = (W.alloc (.cells c1 t1)).alloc (.cells c2 t2)) (hN : W.heap.size = N) :
    W.grownBy we none ∧ Blk we N t1 c1 ∧ Blk we (N + 1) t2 c2 ∧ we.heap.size = N + 1 + 1 := by
  subst h hN
  have h1 := Blk.new W t1 c1
  have h2 := Blk.new (W.alloc (.cells c1 t1)) t2 c2
  simp only [World.size_alloc] at h2
  exact ⟨by_alloc (by_alloc (by_refl _ _) _) _, h1.alloc _, h2, by simp only [World.size_alloc]⟩
theorem after_alloc3 {W we : World} {N : Nat} {c1 c2 c3 : Array Value} {t1 t2 t3 : TypeId} (h : we = ((W.alloc (.cells c1 t1)).alloc (.cells c2 t2)).alloc (.cells c3 t3)) (hN : W.heap.size = N) :
    W.grownBy we none ∧ Blk we N t1 c1 ∧ Blk we (N + 1) t2 c2 ∧ Blk we (N + 1 + 1) t3 c3 ∧ we.heap.size = N + 1 + 1 + 1 := by
  subst h hN
  have h1 := Blk.new W t1 c1
  have h2 := Blk.new (W.alloc (.cells c1 t1)) t2 c2
  have h3 := Blk.new ((W.alloc (.cells c1 t1)).alloc (.cells c2 t2)) t3 c3
  simp only [World.size_alloc] at h2 h3
  exact ⟨by_alloc (by_alloc (by_alloc (by_refl _ _) _) _) _, (h1.alloc _).alloc _, h2.alloc _, h3, by simp only [World.size_alloc]⟩
theorem letter_run (W : World) (N k : Nat) (hN : W.heap.size = N) (hk : k < 4) : (convert 60 9 (.slice (some ⟨N, 0, none⟩) 1 1)).run Try.prog (W.alloc (.cells #[.int .u8 (97 + (k : Int))] 5)) = .ok (.string ⟨#[97 + UInt8.ofNat k]⟩) (W.alloc (.cells #[.int .u8 (97 + (k : Int))] 5)) := by
  subst hN
  have hb := Blk.new W 5 #[.int .u8 (97 + (k : Int))]
  refine conv_str _ 60 5 9 Try.underlying60 Try.underlying5 Try.underlying9 _ 1 1 _ ⟨rfl, fun _ => ⟨W.heap.size, 0, rfl, by simp, fun j hj => ?_⟩⟩
  obtain rfl : j = 0 := by
    have : (ByteArray.mk #[97 + UInt8.ofNat k]).size = 1 := rfl
    omega
  rw [hb.cell 0]
  have e : (97 + UInt8.ofNat k).toNat = 97 + k := by
    rw [UInt8.toNat_add, UInt8.toNat_ofNat']
    show (97 + k % 256) % 256 = 97 + k
    omega
  show some (Value.int .u8 (97 + (k : Int))) = some (Value.int .u8 (((97 + UInt8.ofNat k).toNat : Nat) : Int))
  rw [e]
  rfl
set_option maxRecDepth 100000 in
set_option maxHeartbeats 1000000 in
theorem result_any (w : World) (n : Nat) (hn : n < 256) :
    Calls Try.prog 9 #[.int .u8 (n : Int)] w (ResQ w n) := by
  obtain ⟨w1, hw1⟩ : ∃ w1, w1 = (w.alloc (.cells #[.slice none 0 0, .string ⟨#[]⟩, .bool false, .slice none 0 0, .slice none 0 0, .int .u64 0] 38)).alloc (.cells #[.slice none 0 0, .string ⟨#[109]⟩, .bool (decide (n % 5 = 0)), .slice none 0 0, .slice none 0 0, .int .u64 (n : Int)] 38) := ⟨_, rfl⟩
  have h0 : RR w w1 n 0 0 0 (none, 0, 0) (none, 0, 0) (none, 0, 0) id id := by
    rw [hw1]
    refine ⟨by_alloc (by_alloc (by_refl _ _) _) _, (Blk.new w _ _).alloc _, ?_, World.ownsRow_nil _ _ _ _, World.ownsRow_nil _ _ _ _, World.ownsRow_nil _ _ _ _, fun g h => (by cases h), fun i hi => absurd hi (by omega), fun i hi => absurd hi (by omega)⟩
    have := Blk.new (w.alloc (.cells #[.slice none 0 0, .string ⟨#[]⟩, .bool false, .slice none 0 0, .slice none 0 0, .int .u64 0] 38)) 38 (rA n (none, 0, 0) (none, 0, 0) (none, 0, 0))
    rw [World.size_alloc] at this
    exact this
  have hbe : decide (n % 5 = 0) = ((n : Int) % 5 == 0) := by
    rw [Bool.eq_iff_iff]
    simp
    omega
  rw [hbe] at hw1
  have HW := Lib.hid hw1
  have H := Lib.hid h0
  have hlt : (n : Int) < 256 := by omega
  have hge : (0 : Int) ≤ (n : Int) := by omega
  clear hw1 h0
  go_enter Try.func9, Try.ntmps9
  go_wp2_with fail
  rw [← HW.out]
  go_loopg [4] (n % 4) (fun m i wr => ResInv w wr n m i)
  case atStart => exact ⟨0, _, _, _, _, _, Nat.zero_le _, rfl, rfl, H.out⟩
  case round =>
    obtain ⟨k, ⟨d1, d2, d3⟩, ⟨v1, v2, v3⟩, ⟨t1, t2, t3⟩, P, Q, hk, hm, rfl, hr⟩ := hrel
    have hk4 : n % 4 < 4 := Nat.mod_lt _ (by omega)
    have hkI : (k : Int) ≤ 3 := by omega
    have hkI0 : (0 : Int) ≤ (k : Int) := by omega
    rcases Nat.lt_or_ge k (n % 4) with hlt4 | hge4
    · have hI : (k : Int) < (n : Int) % 4 := by omega
      have c0 : wr.cell? ⟨w.heap.size + 1, 0, none⟩ = some (.slice d1 d2 d3) := hr.b3.cell 0
      have z0 : wr.frozen? ⟨w.heap.size + 1, 0, none⟩ = false := hr.b3.frozen 0
      have Hr := Lib.hid hr
      have Hk := Lib.hid (And.intro hm (And.intro hlt4 hk4))
      clear hr hm hk hlt4 hk4
      obtain ⟨i0, hi, hz0, hz1, hz2⟩ := info_some infoDiag
      go_wp2_with (at_builtin; refine wpList_append_lies _ rfl (.tmp 20) (.tmp 26) 32 rfl (w.heap.size + 2) 50 i0 (.agg #[.string ⟨#[]⟩, .int .i64 0, .int .i64 0]) 3 32 Try.underlying32 hi hz0 hz1 hz2 rfl (by decide) (.slice d1 d2 d3) k _ rfl (Hr.out.oD.alloc _) ⟨wr.heap.size, 0, none⟩ 1 1 (dcell n k) rfl rfl ?c1 ?c2 ?c0 ?c3 ?c4 ?c5 (wr.heap.size + 1) (by simp) ?_)
      case c1 => exact news_new _ _ _ _ (by simp [dcell])
      case c2 => exact dcell_one n k
      case c0 => decide
      case c3 => unfold maxLen; omega
      case c4 => omega
      case c5 => have := Hr.out.b3.lt; simp; omega
      intro g cap wd ho hg hat hglt
      have hr2 := (Hr.out.grown (by_alloc (by_refl wr none) _)).stepD ho hg
      have c0 := Hr.out.b3.alloc (.cells #[.string ⟨#[109]⟩, .int .i64 (n : Int), .int .i64 (1 + (k : Int))] 50) |>.grown hg (Ne.symm (own_blk_ne Hr.out.oD Hr.out.b3 (by decide)))
      have c1 : wd.cell? ⟨w.heap.size + 1, 0, none⟩ = some (.slice d1 d2 d3) := c0.cell 0
      have z1 : wd.frozen? ⟨w.heap.size + 1, 0, none⟩ = false := c0.frozen 0
      have v0 : (wd.setCell ⟨w.heap.size + 1, 0, none⟩ (.slice (some ⟨g, 0, none⟩) (k + 1) cap)).cell? ⟨w.heap.size + 1, 3, none⟩ = some (.slice v1 v2 v3) := hr2.b3.cell 3
      have Hr2 := Lib.hid hr2
      clear hr2 c0 ho hg hat hglt
      have hcv := letter_run (wd.setCell ⟨w.heap.size + 1, 0, none⟩ (.slice (some ⟨g, 0, none⟩) (k + 1) cap)) wd.heap.size k (by simp [World.setCell]) (by have := Hk.out; omega)
      obtain ⟨i1, hi1, hy0, hy1, hy2⟩ := info_some infoExport
      obtain ⟨we, hwe⟩ : ∃ we, we = (((wd.setCell ⟨w.heap.size + 1, 0, none⟩ (.slice (some ⟨g, 0, none⟩) (k + 1) cap)).alloc (.cells #[.int .u8 (97 + (k : Int))] 5)).alloc (.cells #[.int .i64 (1 + (n : Int) % 5), .string ⟨#[]⟩, .slice none 0 0, .slice none 0 0, .pointer none] 64)).alloc (.cells #[.string ⟨#[97 + UInt8.ofNat k]⟩, .pointer (some ⟨wd.heap.size + 1, 0, none⟩)] 53) := ⟨_, rfl⟩
      have hsz : (wd.setCell ⟨w.heap.size + 1, 0, none⟩ (.slice (some ⟨g, 0, none⟩) (k + 1) cap)).heap.size = wd.heap.size := by simp [World.setCell]
      have hE := after_alloc3 hwe hsz
      have HE := Lib.hid hE
      have Hwe := Lib.hid hwe
      clear hwe hsz hE
      go_wp2_with (at_builtin; rw [← Hwe.out]; refine wpList_append_lies _ rfl (.tmp 31) (.tmp 44) 33 rfl (w.heap.size + 2) 53 i1 (.agg #[.string ⟨#[]⟩, .pointer none]) 2 24 Try.underlying33 hi1 hy0 hy1 hy2 rfl (by decide) (.slice v1 v2 v3) k _ rfl (((Hr2.out.typeP (wd.heap.size + 1)).grown HE.out.1).oV) ⟨wd.heap.size + 1 + 1, 0, none⟩ 1 1 (vcell (upd P k (wd.heap.size + 1)) k) rfl rfl ?e1 ?e2 ?e0 ?e3 ?e4 ?e5 (wd.heap.size + 1 + 1 + 1) ?e6 ?_)
      case e1 => exact news_of HE.out.2.2.2.1 (by simp [vcell, upd_same])
      case e2 => exact vcell_one _ k
      case e0 => decide
      case e3 => unfold maxLen; omega
      case e4 => omega
      case e5 => have h1 := Hr2.out.b3.lt; have h2 := HE.out.1.size; omega
      case e6 => exact HE.out.2.2.2.2
      intro g2 cap2 wv ho2 hg2 hat2 _
      have hsw : w.heap.size ≤ wd.heap.size := by have h1 := Hr2.out.by_.size; simpa [World.setCell] using h1
      have hp : Blk we (upd P k (wd.heap.size + 1) k) 64 (tyCells (1 + n % 5)) ∧ w.heap.size ≤ upd P k (wd.heap.size + 1) k := by
        rw [upd_same]
        refine ⟨?_, by omega⟩
        have h1 := HE.out.2.2.1
        have e1 : (1 + (n : Int) % 5) = ((1 + n % 5 : Nat) : Int) := by omega
        rw [e1] at h1
        exact h1
      have hr3 := ((Hr2.out.typeP (wd.heap.size + 1)).grown HE.out.1).stepV ho2 hg2 hp (by rw [HE.out.2.2.2.2]; exact hat2)
      have c3 := (((Hr2.out.grown HE.out.1).b3)).grown hg2 (Ne.symm (own_blk_ne (Hr2.out.grown HE.out.1).oV (Hr2.out.grown HE.out.1).b3 (by decide)))
      have c4 : wv.cell? ⟨w.heap.size + 1, 3, none⟩ = some (.slice v1 v2 v3) := c3.cell 3
      have z4 : wv.frozen? ⟨w.heap.size + 1, 3, none⟩ = false := c3.frozen 3
      have t0 : (wv.setCell ⟨w.heap.size + 1, 3, none⟩ (.slice (some ⟨g2, 0, none⟩) (k + 1) cap2)).cell? ⟨w.heap.size + 1, 4, none⟩ = some (.slice t1 t2 t3) := hr3.b3.cell 4
      have Hr3 := Lib.hid hr3
      clear hr3 c3 ho2 hg2 hat2 hp hcv v0 c1 z1
      obtain ⟨wf, hwf⟩ : ∃ wf, wf = ((wv.setCell ⟨w.heap.size + 1, 3, none⟩ (.slice (some ⟨g2, 0, none⟩) (k + 1) cap2)).alloc (.cells #[.int .i64 2, .string ⟨#[]⟩, .slice none 0 0, .slice none 0 0, .pointer none] 64)).alloc (.cells #[.string ⟨#[84]⟩, .pointer (some ⟨wv.heap.size, 0, none⟩)] 53) := ⟨_, rfl⟩
      have hsz2 : (wv.setCell ⟨w.heap.size + 1, 3, none⟩ (.slice (some ⟨g2, 0, none⟩) (k + 1) cap2)).heap.size = wv.heap.size := by simp [World.setCell]
      have hF := after_alloc2 hwf hsz2
      have HF := Lib.hid hF
      have Hwf := Lib.hid hwf
      clear hwf hsz2 hF
      go_wp2_with (at_builtin; rw [← Hwf.out]; refine wpList_append_lies _ rfl (.tmp 50) (.tmp 54) 33 rfl (w.heap.size + 2) 53 i1 (.agg #[.string ⟨#[]⟩, .pointer none]) 2 24 Try.underlying33 hi1 hy0 hy1 hy2 rfl (by decide) (.slice t1 t2 t3) k _ rfl (((Hr3.out.typeQ wv.heap.size).grown HF.out.1).oT) ⟨wv.heap.size + 1, 0, none⟩ 1 1 (tcell (upd Q k wv.heap.size) k) rfl rfl ?f1 ?f2 ?f0 ?f3 ?f4 ?f5 (wv.heap.size + 1 + 1) ?f6 ?_)
      case f1 => exact news_of HF.out.2.2.1 (by simp [tcell, upd_same])
      case f2 => exact tcell_one _ k
      case f0 => decide
      case f3 => unfold maxLen; omega
      case f4 => omega
      case f5 => have h1 := Hr3.out.b3.lt; have h2 := HF.out.1.size; omega
      case f6 => exact HF.out.2.2.2
      intro g3 cap3 wt ho3 hg3 hat3 _
      have hsw2 : w.heap.size ≤ wv.heap.size := by have h1 := Hr3.out.by_.size; simpa [World.setCell] using h1
      have hq : Blk wf (upd Q k wv.heap.size k) 64 (tyCells 2) ∧ w.heap.size ≤ upd Q k wv.heap.size k := by
        rw [upd_same]
        exact ⟨HF.out.2.1, hsw2⟩
      have hr4 := ((Hr3.out.typeQ wv.heap.size).grown HF.out.1).stepT ho3 hg3 hq (by rw [HF.out.2.2.2]; exact hat3)
      have c5 := (((Hr3.out.grown HF.out.1).b3)).grown hg3 (Ne.symm (own_blk_ne (Hr3.out.grown HF.out.1).oT (Hr3.out.grown HF.out.1).b3 (by decide)))
      have c6 : wt.cell? ⟨w.heap.size + 1, 4, none⟩ = some (.slice t1 t2 t3) := c5.cell 4
      have z6 : wt.frozen? ⟨w.heap.size + 1, 4, none⟩ = false := c5.frozen 4
      have Hr4 := Lib.hid hr4
      clear hr4 c5 ho3 hg3 hat3 hq t0 c4 z4
      go_wp2
      go_roundg (n % 4 - (k + 1))
      case measure => have := Hk.out; omega
      case rel => exact ⟨k + 1, _, _, _, _, _, by have := Hk.out; omega, rfl, by go_num, Hr4.out⟩
    · obtain rfl : k = n % 4 := by omega
      have hI : ¬ ((n % 4 : Nat) : Int) < (n : Int) % 4 := by omega
      have Hr := Lib.hid hr
      have hs : (Try.prog.info? 38).map (·.size) = some (rA n (d1, d2, d3) (v1, v2, v3) (t1, t2, t3)).size := by
        show _ = some 6
        kernel_rfl
      have h1 : (rA n (d1, d2, d3) (v1, v2, v3) (t1, t2, t3)).all (·.oneCell') = true := six_one (d1, d2, d3) (v1, v2, v3) (t1, t2, t3) _ _ _
      have Hs := Lib.hid (And.intro hs h1)
      have hfin := hr.done ((Chg.refl wr (fun b => b = w.heap.size)).row (g := w.heap.size) (.inl rfl) (rA n (d1, d2, d3) (v1, v2, v3) (t1, t2, t3)))
      have HF := Lib.hid hfin
      clear hs h1 hr hfin hbe hk hm
      go_wp2_with (first | (refine wpList_load_row rfl 38 (.tmp 3) rfl (w.heap.size + 1) rfl 38 (rA n (d1, d2, d3) (v1, v2, v3) (t1, t2, t3)) (0, 0) _ Hr.out.b3 Try.underlying38 rfl Hs.out.1 ?_) | (refine wpList_store_row rfl 38 (.tmp 2) (.tmp 58) rfl w.heap.size (rA n (d1, d2, d3) (v1, v2, v3) (t1, t2, t3)) rfl rfl 38 #[.slice none 0 0, .string ⟨#[]⟩, .bool false, .slice none 0 0, .slice none 0 0, .int .u64 0] Hr.out.b2 Hs.out.1 rfl Hs.out.2 ?_))
      (try simp only [Exit.inBlock, Exit.then])
      exact bodyPost_ret (results_cell_row rfl _ _ w.heap.size 38 _ (0, 0) _ rfl (Hr.out.b2.row _) Try.underlying38 rfl Hs.out.1) rfl HF.out
end Go.Proofs.Ytndmnnapjhjkmaa
