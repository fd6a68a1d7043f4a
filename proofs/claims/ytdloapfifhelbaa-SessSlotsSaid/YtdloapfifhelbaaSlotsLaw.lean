/-
  SessSlots: no more sessions than slots.
-/
import Derived.Test.YtdloapfifhelbaaSlP
import Derived.Deep.LoopGhost
namespace Go.Proofs.Ytdloapfifhelbaa
open Go.ChangeShapes Go.WideShapes Go.ChangeAt Go.RowKit
namespace sessSlots

theorem row_at {W : World} {base n : Nat} {v : Value} {l : List Nat} (h : W.ownsRow base 23 1 v n (nums64 l)) (hn : n = l.length) :
    ∃ A c, v = .slice A n c ∧ ∀ q (hq : q < l.length), ∃ g, A = some ⟨g, 0, none⟩ ∧ W.cell? ⟨g, q, none⟩ = some (.int .u64 (l[q] : Int)) := by
  rcases h.2 with ⟨rfl, h0⟩ | ⟨g, cap, cur, rfl, _, h3, h4, h5, h6, h7⟩
  · exact ⟨none, 0, by rw [h0], fun q hq => by omega⟩
  · refine ⟨some ⟨g, 0, none⟩, cap, rfl, fun q hq => ⟨g, rfl, ?_⟩⟩
    have := h.cells (g := g) rfl q (.int .u64 (l[q] : Int)) (by simp [nums64, hq])
    rw [addr_add, Nat.zero_add] at this
    exact this

theorem infoU : (Try.prog.info? 23).map (fun i => (i.zero, i.size, i.bytes)) = some (some (.int .u64 0), 1, 8) := by kernel_rfl
structure Rel (w0 : World) (n s most ttl : Nat) (k : Nat) (a b c : Value) (wr : World) (j now lg : Nat) (times : List Nat) (l : List (ByteArray × Nat)) : Prop where
  slot : c = .int .i64 j
  nowv : a = .int .u64 now
  le : j ≤ n
  num : k = n - j
  inv : Inv most ttl now j times lg l
  cs : CS w0.heap.size w0 wr s ⟨⟨#[107, 101, 121]⟩, ttl, most, lg, l⟩
  row : wr.ownsRow w0.heap.size 23 1 b times.length (nums64 times)

set_option maxRecDepth 100000 in
set_option maxHeartbeats 4000000 in
theorem walk1 (w : World) (v : Value) (l0 : List Int) (hv : Nums w .u8 v l0) (hl : l0.length ≤ maxLen) (hw : ∀ z ∈ l0, (Lit.int .u8 z).wf = true) (sn tn : Nat) (hs : sn < 256) (ht : tn < 256) :
    Calls Try.prog 5 #[v, .int .u8 (sn : Int), .int .u8 (tn : Int)] w fun e w' => e = .returned (.bool true) ∧ w.grownBy w' none := by
  unfold maxLen at hl
  have HV := Lib.hid (And.intro hv hw)
  obtain ⟨A, cap, rfl, hcap, _⟩ := hv
  clear hw
  go_enter Try.func5, Try.ntmps5
  go_wp2_with fail
  refine (sworks_any w).mono ?_
  rintro e w1 ⟨rfl, y1⟩
  have Y1 := Lib.hid y1
  clear y1
  go_wp2_with fail
  obtain ⟨most, hmo⟩ : ∃ m, m = sn % 20 := ⟨_, rfl⟩
  have hme : (sn : Int) % 20 = (most : Int) := by omega
  have hm20 : most < 20 := by omega
  rw [hme]
  clear hme hmo
  refine (cs_new w1 ⟨#[107, 101, 121]⟩ tn most _ rfl).mono ?_
  rintro e w2 ⟨s, rfl, hc⟩
  have hc2 : CS w.heap.size w w2 s ⟨⟨#[107, 101, 121]⟩, tn, most, 0, []⟩ := by
    obtain ⟨own, a, b, c⟩ := hc
    exact ⟨own, a, (Chg.of_none (S := fun b => w.heap.size ≤ b) Y1.out).trans b (fun k hk => .inr (Nat.le_trans Y1.out.size hk)), fun b hb => Nat.le_trans Y1.out.size (c b hb)⟩
  have hr2 : w2.ownsRow w.heap.size 23 1 (.slice none 0 0) ([] : List Nat).length (nums64 []) := World.ownsRow_nil _ _ _ _
  have hi2 : Inv most tn 0 0 [] 0 [] := ⟨by simp, fun _ _ => rfl, Nat.zero_le _, Nat.le_refl _, Nat.le_refl _, Nat.le_refl _⟩
  have H2 := Lib.hid (And.intro hc2 (And.intro hr2 hi2))
  clear hc hc2 hr2 hi2 Y1
  go_wp2_with fail
  go_loopg [9, 10, 11] l0.length (fun k a b c wr => ∃ j now lg times l, Rel w l0.length s most tn k a b c wr j now lg times l)
  case atStart => exact ⟨0, 0, 0, [], [], rfl, rfl, by omega, by omega, H2.out.2.2, H2.out.1, H2.out.2.1⟩
  case round =>
    clear H2
    obtain ⟨j, now, lg, times, l, hr⟩ := hrel
    obtain rfl := hr.slot
    obtain rfl := hr.nowv
    have hle := hr.le
    have Hr := Lib.hid hr
    clear hr
    by_cases h1 : j < l0.length
    · by_cases h2 : j < 50
      · obtain ⟨A', cap', hA, _, hcell⟩ := (HV.out.1.grown Hr.out.cs.by_ (.inl rfl))
        injection hA with hA1 hA2 hA3
        subst hA1; subst hA3
        obtain ⟨b, off, rfl, hb, hc⟩ := hcell (by omega)
        have c1 := hc j h1
        have hlt' : (j : Int) < (l0.length : Int) := by omega
        have hj50 : (j : Int) < 50 := by omega
        have hj51 : decide ((j : Int) < 50) = true := decide_eq_true hj50
        obtain ⟨z0, z1⟩ : 0 ≤ l0[j] ∧ l0[j] ≤ 255 := by
          have := HV.out.2 l0[j] (List.getElem_mem h1)
          simp only [Lit.wf, Bool.and_eq_true, decide_eq_true_eq] at this
          exact ⟨this.1, this.2⟩
        generalize l0[j] = z at *
        obtain ⟨x, rfl⟩ := Int.eq_ofNat_of_zero_le z0
        obtain ⟨n2, hn2⟩ : ∃ n, n = now + x % 16 := ⟨_, rfl⟩
        have hw2 : IntKind.u64.wrap ((now : Int) + (x : Int) % 16) = (n2 : Int) := by
          have := Hr.out.inv.nw
          rw [IntKind.wrap_u64]
          omega
        have hinv := Hr.out.inv.to (n := n2) (by omega) (by have := Hr.out.inv.nw; omega)
        obtain ⟨Z, zc, rfl, hzc⟩ := row_at Hr.out.row rfl
        have HI := Lib.hid (And.intro hinv (And.intro hzc (show n2 < 1000 by have := hinv.nw; omega)))
        have hlen : times.length ≤ j := Hr.out.inv.len
        clear hcell hc hA2 hb hinv hzc hn2
        go_wp2_with fail
        go_loopg [12, 13] times.length (fun k a b W => ∃ q : Nat, q ≤ times.length ∧ k = times.length - q ∧ a = .int .i64 (liveT tn n2 (times.take q) : Nat) ∧ b = .int .i64 q ∧ W = wr)
        case atStart => exact ⟨0, Nat.zero_le _, rfl, rfl, rfl, rfl⟩
        case round =>
          obtain ⟨q, hq, hm, rfl, rfl, rfl⟩ := hrel
          rcases Nat.lt_or_ge q times.length with hlt | hge
          · obtain ⟨g, rfl, ct⟩ := HI.out.2.1 q hlt
            have hstep := liveT_take (ttl := tn) (n := n2) hlt
            have htl := HI.out.1.le times[q] (List.getElem_mem hlt)
            generalize times[q] = t at *
            obtain ⟨lv, hlv⟩ : ∃ lv, lv = liveT tn n2 (times.take q) := ⟨_, rfl⟩
            have hlb : lv ≤ q := by rw [hlv]; exact Nat.le_trans (liveT_le _ _ _) (by rw [List.length_take]; omega)
            rw [← hlv] at hstep ⊢
            obtain ⟨d, hd⟩ : ∃ d, d = n2 - t := ⟨_, rfl⟩
            have hwd : IntKind.u64.wrap ((n2 : Int) - (t : Int)) = (d : Int) := by
              have := HI.out.2.2
              rw [IntKind.wrap_u64]
              omega
            have hqi : (q : Int) < (times.length : Int) := by omega
            have hli : (lv : Int) ≤ 50 := by omega
            by_cases hdt : d < tn
            · have ho : overB n2 tn t = false := by unfold overB; rw [decide_eq_true htl, decide_eq_false (by omega)]; rfl
              rw [ho] at hstep
              have hdi : (d : Int) < (tn : Int) := by omega
              have Hst := Lib.hid (And.intro hlv hstep)
              clear hlv hstep hd htl ho
              go_wp2
              go_roundg (times.length - (q + 1))
              case measure => omega
              case rel => exact ⟨q + 1, by omega, rfl, by rw [Hst.out.2]; rfl, by go_num, rfl⟩
            · have ho : overB n2 tn t = true := by unfold overB; rw [decide_eq_true htl, decide_eq_true (by omega)]; rfl
              rw [ho] at hstep
              have hdi : ¬ ((d : Int) < (tn : Int)) := by omega
              have Hst := Lib.hid (And.intro hlv hstep)
              clear hlv hstep hd htl ho
              go_wp2
              go_roundg (times.length - (q + 1))
              case measure => omega
              case rel => exact ⟨q + 1, by omega, rfl, by rw [Hst.out.2]; rfl, by go_num, rfl⟩
          · obtain rfl : q = times.length := by omega
            rw [List.take_length]
            obtain ⟨lv, hlv⟩ : ∃ lv, lv = liveT tn n2 times := ⟨_, rfl⟩
            rw [← hlv]
            have hliv : ((livL ⟨⟨#[107, 101, 121]⟩, tn, most, lg, l⟩ n2).length : Int) = (lv : Int) := by rw [HI.out.1.live (Nat.le_refl _), hlv]
            have Hlv := Lib.hid (And.intro hlv hliv)
            clear hlv hliv
            go_wp2_with fail
            refine (Hr.out.cs.live2 (now := n2) rfl (by have := HI.out.2.2; omega) Hlv.out.2).mono ?_
            rintro e w3 ⟨rfl, y3⟩
            have H3 := Lib.hid y3
            clear y3
            obtain ⟨L, hL⟩ : ∃ L, L = livL ⟨⟨#[107, 101, 121]⟩, tn, most, lg, l⟩ n2 := ⟨_, rfl⟩
            by_cases hlm : lv < most
            · obtain ⟨T, hT⟩ : ∃ T, T = tokB ⟨#[107, 101, 121]⟩ ⟨#[]⟩ (lg + 1) := ⟨_, rfl⟩
              have hlogs : (⟨⟨#[107, 101, 121]⟩, tn, most, lg, l⟩ : Ses).logs ⟨#[107, 101, 121]⟩ ⟨#[]⟩ n2 = (⟨⟨#[107, 101, 121]⟩, tn, most, lg + 1, L ++ [(T, n2)]⟩, T, 0) := by
                unfold Ses.logs
                rw [if_pos rfl, if_pos (by rw [Hlv.out.2]; show (lv : Int) < (most : Int); omega)]
                unfold Ses.in_
                rw [hL, hT]
              have hinv5 : Inv most tn n2 (j + 1) (times ++ [n2]) (lg + 1) (L ++ [(T, n2)]) := by
                rw [hL]
                exact HI.out.1.ok Hr.out.inv.len Hr.out.inv.lg (by rw [← Hlv.out.1]; exact hlm)
              have H4 := Lib.hid (And.intro hlogs hinv5)
              clear hlogs hinv5 hL hT
              have hlmi : (lv : Int) < (most : Int) := by omega
              go_wp2_with fail
              refine ((Hr.out.cs.grown H3.out).login2 (by unfold maxLen; decide) (by show (3 : Nat) ≤ 268435456; decide) (by decide) (now := n2) rfl (by have := HI.out.2.2; omega) (by show lg < 1000000; have := Hr.out.inv.lg; omega) (by show l.length < 999999; have := Hr.out.inv.most; omega) H4.out.1).mono ?_
              rintro e w4 ⟨rfl, hcs4, hk4⟩
              have hrow4 := hk4.row (by decide) (by decide) (own_chg Hr.out.row (Chg.of_none (S := fun _ => False) H3.out) (fun _ _ h => h))
              obtain ⟨i0, hi0, hz0, hz1, hz2⟩ := info_some infoU
              obtain ⟨wn, hwn⟩ : ∃ W, W = w4.alloc (.cells #[.int .u64 (n2 : Int)] 23) := ⟨_, rfl⟩
              have yn : w4.grownBy wn none := by rw [hwn]; exact by_alloc (by_refl _ _) _
              have hbn : Blk wn w4.heap.size 23 #[.int .u64 (n2 : Int)] := by rw [hwn]; exact Blk.new _ _ _
              have hO : (w4.alloc (.cells #[.int .u64 (n2 : Int)] 23)).ownsRow w.heap.size 23 1 (.slice Z times.length zc) times.length (nums64 times) := by rw [← hwn]; exact own_chg hrow4 (Chg.of_none (S := fun _ => False) yn) (fun _ _ h => h)
              have hnews : ∀ j u, (nums64 [n2])[j]? = some u → (w4.alloc (.cells #[.int .u64 (n2 : Int)] 23)).cell? ((⟨w4.heap.size, 0, none⟩ : Addr).add j) = some u := by rw [← hwn]; exact World.news_of_block hbn
              have HN := Lib.hid (And.intro hO (And.intro hnews (And.intro hi0 (And.intro hz0 (And.intro hz1 hz2)))))
              have H5 := Lib.hid (And.intro hwn (And.intro (hcs4.grown yn) (Nat.le_trans hcs4.by_.size yn.size)))
              clear hcs4 hk4 hrow4 hi0 hz0 hz1 hz2 yn hbn hO hnews hwn
              go_wp2_with (at_builtin; refine wpList_append_own_at _ rfl (.tmp 87) (.tmp 89) 48 rfl w.heap.size 23 i0 _ 1 8 Try.underlying48 HN.out.2.2.1 HN.out.2.2.2.1 HN.out.2.2.2.2.1 HN.out.2.2.2.2.2 rfl (by decide) (.slice Z times.length zc) times.length (nums64 times) rfl HN.out.1 ⟨w4.heap.size, 0, none⟩ 1 1 (nums64 [n2]) rfl ?k1 ?k2 ?k3 ?k4 ?k5 ?k6 ?_)
              case k1 => rfl
              case k2 => exact HN.out.2.1
              case k3 => intro u hu; rw [List.mem_singleton.1 hu]; rfl
              case k4 => unfold maxLen; omega
              case k5 => omega
              case k6 => rw [← H5.out.1]; exact H5.out.2.2
              rw [← H5.out.1]
              intro v5 w5 ho5 y5 _ hv5
              have hrow5 : w5.ownsRow w.heap.size 23 1 v5 (times ++ [n2]).length (nums64 (times ++ [n2])) := by
                have e1 : (times ++ [n2]).length = times.length + 1 := by simp
                have e2 : nums64 (times ++ [n2]) = nums64 times ++ nums64 [n2] := by simp [nums64]
                rw [e1, e2]; exact ho5
              have hcs5 : CS w.heap.size w w5 s ⟨⟨#[107, 101, 121]⟩, tn, most, lg + 1, L ++ [(T, n2)]⟩ := by
                refine H5.out.2.1.beside (Chg.of_by (S := fun b => (Value.slice Z times.length zc).ownBlock = some b) y5 fun g h => h) (fun g hg => ?_) (fun g hg => ?_)
                · rcases HN.out.1.2 with ⟨h1, _⟩ | ⟨g', cap, cur, h1, hB, _⟩
                  · rw [h1] at hg; cases hg
                  · cases h1; cases hg; exact hB
                · rcases HN.out.1.2 with ⟨h1, _⟩ | ⟨g', cap, cur, h1, _, hgg, _⟩
                  · rw [h1] at hg; cases hg
                  · rw [h1] at hg; cases hg
                    rw [← H5.out.1] at hgg
                    exact ⟨_, cur, hgg, by decide, by decide⟩
              obtain ⟨n5, hn5⟩ : ∃ n, n = (livL ⟨⟨#[107, 101, 121]⟩, tn, most, lg + 1, L ++ [(T, n2)]⟩ n2).length := ⟨_, rfl⟩
              have hn5b : n5 ≤ most := by rw [hn5]; exact H4.out.2.few
              have hgt : ¬ ((most : Int) < (n5 : Int)) := by omega
              have hgt2 : ¬ most < n5 := by omega
              have H6 := Lib.hid (And.intro hrow5 (And.intro hcs5 hn5))
              clear hrow5 hcs5 hn5 ho5 y5 hv5
              go_wp2_with fail
              refine (H6.out.2.1.live2 (now := n2) rfl (by have := HI.out.2.2; omega) (z := (n5 : Int)) (by rw [H6.out.2.2])).mono ?_
              rintro e w6 ⟨rfl, y6⟩
              have H7 := Lib.hid (And.intro (own_chg H6.out.1 (Chg.of_none (S := fun _ => False) y6) (fun _ _ h => h)) (H6.out.2.1.grown y6))
              clear y6
              go_wp2
              go_roundg (l0.length - (j + 1))
              case measure => have := Hr.out.num; omega
              case rel => exact ⟨j + 1, n2, lg + 1, times ++ [n2], _, by go_num, rfl, by omega, rfl, H4.out.2, H7.out.2, H7.out.1⟩
            · have hlogs : (⟨⟨#[107, 101, 121]⟩, tn, most, lg, l⟩ : Ses).logs ⟨#[107, 101, 121]⟩ ⟨#[]⟩ n2 = (⟨⟨#[107, 101, 121]⟩, tn, most, lg, L⟩, ⟨#[]⟩, 12) := by
                unfold Ses.logs
                rw [if_pos rfl, if_neg (by rw [Hlv.out.2]; show ¬ ((lv : Int) < (most : Int)); omega)]
                unfold Ses.cut
                rw [hL]
              have hinv5 : Inv most tn n2 (j + 1) times lg L := by rw [hL]; exact HI.out.1.full
              have H4 := Lib.hid (And.intro hlogs hinv5)
              clear hlogs hinv5 hL
              have hlmi : ¬ ((lv : Int) < (most : Int)) := by omega
              obtain ⟨n5, hn5⟩ : ∃ n, n = (livL ⟨⟨#[107, 101, 121]⟩, tn, most, lg, L⟩ n2).length := ⟨_, rfl⟩
              have hn5b : n5 ≤ most := by rw [hn5]; exact H4.out.2.few
              have hgt : ¬ ((most : Int) < (n5 : Int)) := by omega
              have hgt2 : ¬ most < n5 := by omega
              have Hn5 := Lib.hid hn5
              clear hn5
              go_wp2_with fail
              refine ((Hr.out.cs.grown H3.out).login2 (by unfold maxLen; decide) (by show (3 : Nat) ≤ 268435456; decide) (by decide) (now := n2) rfl (by have := HI.out.2.2; omega) (by show lg < 1000000; have := Hr.out.inv.lg; omega) (by show l.length < 999999; have := Hr.out.inv.most; omega) H4.out.1).mono ?_
              rintro e w4 ⟨rfl, hcs4, hk4⟩
              have hrow4 := hk4.row (by decide) (by decide) (own_chg Hr.out.row (Chg.of_none (S := fun _ => False) H3.out) (fun _ _ h => h))
              have H6 := Lib.hid (And.intro hrow4 hcs4)
              clear hrow4 hcs4 hk4
              go_wp2_with fail
              refine (H6.out.2.live2 (now := n2) rfl (by have := HI.out.2.2; omega) (z := (n5 : Int)) (by rw [Hn5.out])).mono ?_
              rintro e w6 ⟨rfl, y6⟩
              have H7 := Lib.hid (And.intro (own_chg H6.out.1 (Chg.of_none (S := fun _ => False) y6) (fun _ _ h => h)) (H6.out.2.grown y6))
              clear y6
              go_wp2
              go_roundg (l0.length - (j + 1))
              case measure => have := Hr.out.num; omega
              case rel => exact ⟨j + 1, n2, lg, times, _, by go_num, rfl, by omega, rfl, H4.out.2, H7.out.2, H7.out.1⟩
      · go_wp2
        go_ret
        exact ⟨rfl, Hr.out.cs.by_⟩
    · go_wp2
      go_ret
      exact ⟨rfl, Hr.out.cs.by_⟩

theorem walk (w : World) (v : Value) (l : List Int) (hv : Nums w .u8 v l) (hl : l.length ≤ maxLen) (hw : ∀ z ∈ l, (Lit.int .u8 z).wf = true) (a : Int) (ha : (Lit.int .u8 a).wf = true) (b : Int) (hb : (Lit.int .u8 b).wf = true) :
    Calls Try.prog 5 #[v, .int .u8 a, .int .u8 b] w fun e w' => e = .returned (.bool true) ∧ w.grownBy w' none := by
  have h : ∀ z : Int, (Lit.int .u8 z).wf = true → ∃ n : Nat, z = (n : Int) ∧ n < 256 := fun z hz => by
    simp only [Lit.wf, Bool.and_eq_true, decide_eq_true_eq] at hz
    have h0 : 0 ≤ z := hz.1
    have h1 : z ≤ 255 := hz.2
    exact ⟨z.toNat, by omega, by omega⟩
  obtain ⟨sn, rfl, hs⟩ := h a ha
  obtain ⟨tn, rfl, ht⟩ := h b hb
  exact walk1 w v l hv hl hw sn tn hs ht

set_option maxRecDepth 100000 in
theorem lifted (os : Os) (started : os.Started) (H : Type) (enc : TypeId × Value → H) :
    ReturnsInHanded {} Try.checked os 5 .any (Rows.sessSlotsSpec.pre6 enc Try.prog Try.f5 Rows.sessSlotsRow.domain false) (Rows.sessSlotsSpec.post enc Try.prog Try.f5 false true false false) := by
  refine returnsInHanded_of_change (C := Try.checked) own started (by kernel_rfl) Try.func5
    (ChangeSpec.witness6 (enc := enc) (C := Try.checked) false ⟨#[], #[.slice none 0 0, .int .u8 0, .int .u8 0], []⟩ 8 (by kernel_rfl) (by kernel_rfl) (by kernel_rfl) (by kernel_rfl)) ?_
  intro W base args ds gs before hval0 hW hcnd _
  have hval : ∀ (j : Nat) t v, Try.f5.params[j]? = some t → args[j]? = some v → Value.okWide Try.prog W .any base t v := hval0
  have hW' := hW
  obtain ⟨p, q, hA0, hV, rfl, hfz, hnd⟩ := hW
  have hA : DataW.TrodAll enc Try.prog W 0 (fun _ => true) true Try.f5.params.toList args.toList ds p := hA0
  rw [Try.params5] at hA hval
  obtain ⟨v0, vs0, d0, ds0, p0, q0, hargs, rfl, rfl, h0, r0⟩ := trodAll_cons hA
  obtain ⟨v1, vs1, d1, ds1, p1, q1, rfl, rfl, rfl, h1, r1⟩ := trodAll_cons r0
  obtain ⟨v2, vs2, d2, ds2, p2, q2, rfl, rfl, rfl, h2, r2⟩ := trodAll_cons r1
  obtain ⟨rfl, rfl, rfl⟩ := trodAll_nil r2
  obtain rfl : args = #[v0, v1, v2] := by cases args; simp_all
  obtain ⟨rfl, rfl⟩ := trodVars_none hV
  obtain ⟨l0, hl0, hm0, hn0⟩ := arg_nums Try.underlying47 Try.underlying5 (by kernel_rfl) (hval 0 47 v0 rfl rfl) h0
  obtain ⟨a1, rfl, rfl, rfl, w1⟩ := open_int Try.underlying5 (hval 1 5 v1 rfl rfl) h1
  obtain ⟨a2, rfl, rfl, rfl, w2⟩ := open_int Try.underlying5 (hval 2 5 v2 rfl rfl) h2
  refine (walk W v0 l0 hl0 hn0 hm0 a1 w1 a2 w2).mono fun e W' ⟨he, hg⟩ => ?_
  subst he
  exact ⟨_, rfl, law_post laidOut rfl hW' (by kernel_rfl) rfl Try.underlying4 rfl (below_of_by hg)⟩

theorem proved : Rows.SessSlotsSaid :=
  OpenClaim.holds_of_wide 5 Try.f5 rfl rfl rfl rfl rfl rfl rfl ⟨rfl, rfl, rfl, rfl, rfl⟩ rfl rfl rfl rfl rfl (by kernel_rfl) Try.func5 (by kernel_rfl)
    (of_decide_eq_true (by kernel_rfl)) (by unfold Func.isWrapper; first | (rw [if_pos (by decide +kernel)]; kernel_rfl) | (rw [if_neg (by decide +kernel)]; exact ⟨rfl, rfl⟩))
    (fun os started H enc _ => lifted os started H enc)
#print axioms proved
end sessSlots
end Go.Proofs.Ytdloapfifhelbaa
