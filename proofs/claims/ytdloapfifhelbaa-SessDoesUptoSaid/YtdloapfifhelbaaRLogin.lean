/-
  The reference: Login.
-/
import Derived.Test.YtdloapfifhelbaaROut
import Derived.Test.YtdloapfifhelbaaRefHex
import Derived.Deep.RegionHeld3
import Derived.Deep.RegionWith
namespace Go.Proofs.Ytdloapfifhelbaa
open Go.RowKit

def RLogQ (w : World) (s : Nat) (own : Nat → Prop) (st' : Ses) (tok : ByteArray) (z : Int) (e : Ending) (w' : World) : Prop :=
  e = .returned (.tuple #[.string tok, .int .i64 z]) ∧ ∃ own', RAt w' s own' st' ∧ Chg w w' own ∧ ∀ b, own' b → own b ∨ w.heap.size ≤ b
theorem own_zero {w : World} {base size n : Nat} {e : TypeId} {v : Value} {xs : List Value} (h : w.ownsRow base e size v n xs) : w.ownsRow 0 e size v n xs := by
  refine ⟨h.1, ?_⟩
  rcases h.2 with h | ⟨g, cap, cur, h1, _, h2⟩
  · exact .inl h
  · exact .inr ⟨g, cap, cur, h1, Nat.zero_le _, h2⟩
theorem own_base {w : World} {base size n : Nat} {e : TypeId} {v : Value} {xs : List Value} (h : w.ownsRow base e size v n xs) {g : Nat} (hg : v.ownBlock = some g) : base ≤ g := by
  rcases h.2 with ⟨h, _⟩ | ⟨g, cap, cur, h1, hb, h2⟩
  · rw [h] at hg; cases hg
  · rw [h1] at hg; cases hg; exact hb
set_option maxRecDepth 100000 in
set_option maxHeartbeats 400000 in
theorem rlogin_no (w : World) (s : Nat) (own : Nat → Prop) (st : Ses) (secret nonce : ByteArray) (now : Nat) (hne : secret ≠ st.secret) (h : RAt w s own st) :
    Calls Try.prog 9 #[.pointer (some ⟨s, 0, none⟩), .string secret, .string nonce, .int .u64 (now : Int)] w (RLogQ w s own st ⟨#[]⟩ 8) := by
  have hfin : ∀ w', w.grownBy w' none → RLogQ w s own st ⟨#[]⟩ 8 (.returned (.tuple #[.string ⟨#[]⟩, .int .i64 8])) w' := fun w' y => ⟨rfl, own, h.grown y, Chg.of_none y, fun b hb => .inl hb⟩
  obtain ⟨⟨v, hb, hl, ho⟩, hfew, htok⟩ := h
  have c0 : w.cell? ⟨s, 0, none⟩ = some (.string st.secret) := hb.cell 0
  have hd : decide (secret = st.secret) = false := by simpa using hne
  have H := Lib.hid (And.intro hfin hd)
  clear hfin hb hl ho hfew htok hne hd
  go_enter Try.func9, Try.ntmps9
  go_wp2_with fail
  refine (rsame_any secret st.secret w).mono ?_
  rintro e w2 ⟨rfl, rfl⟩
  rw [tl_eq, H.out.2]
  have HF := Lib.hid (H.out.1 _ (by_refl _ _))
  go_wp2
  go_ret2
  exact HF.out

set_option maxRecDepth 100000 in
set_option maxHeartbeats 4000000 in
theorem rlogin_yes (w : World) (s : Nat) (own : Nat → Prop) (st : Ses) (nonce : ByteArray) (hs2 : st.secret.size ≤ 268435456) (hno : nonce.size ≤ 134217728) (now : Nat) (hn : now < 18446744073709551616) (hlg : st.logins < 1000000) (hfew : st.l.length < 999999) (h : RAt w s own st) :
    Calls Try.prog 9 #[.pointer (some ⟨s, 0, none⟩), .string st.secret, .string nonce, .int .u64 (now : Int)] w
      (if ((livL st now).length : Int) < st.slots then RLogQ w s own (st.in_ nonce now) (tokB st.secret nonce (st.logins + 1)) 0 else RLogQ w s own (st.cut now) ⟨#[]⟩ 12) := by
  obtain ⟨⟨v, hb, hl, ho⟩, hfew1, htok⟩ := h
  obtain ⟨secret, ttl, slots, logins, l⟩ := st
  have c0 : w.cell? ⟨s, 0, none⟩ = some (.string secret) := hb.cell 0
  have hll : livL ⟨secret, ttl, slots, logins, l⟩ now = l.filter fun x => !overB now ttl x.2 := rfl
  obtain ⟨l2, hl2⟩ : ∃ l2, l2 = livL ⟨secret, ttl, slots, logins, l⟩ now := ⟨_, rfl⟩
  have hlen2 : l2.length ≤ l.length := by rw [hl2, hll]; exact List.length_filter_le _ _
  have htok2 : ∀ x ∈ l2, x.1.size ≤ maxLen := fun x hx => htok x (by rw [hl2, hll] at hx; exact (List.mem_filter.1 hx).1)
  rw [← hl2]
  dsimp only at hb hl ho hfew hfew1 hlg hs2 ⊢
  obtain ⟨A, c, rfl, hc1, hc2, _, _, hA, _⟩ := hl.at_
  have H := Lib.hid (And.intro hb (And.intro hl (And.intro ho (And.intro hfew (And.intro hlen2 (And.intro htok2 (And.intro hs2 (And.intro hno (And.intro hn (And.intro hlg (And.intro (hl2.trans hll) (And.intro hfew1 hl2))))))))))))
  have HA := Lib.hid hA
  obtain ⟨Q, hQ⟩ : ∃ Q : Ending → World → Prop, Q = (if (l2.length : Int) < slots then RLogQ w s own (Ses.in_ ⟨secret, ttl, slots, logins, l⟩ nonce now) (tokB secret nonce (logins + 1)) 0 else RLogQ w s own (Ses.cut ⟨secret, ttl, slots, logins, l⟩ now) ⟨#[]⟩ 12) := ⟨_, rfl⟩
  rw [← hQ]
  have HQ := Lib.hid hQ
  obtain ⟨n, hnn⟩ : ∃ n, n = l.length := ⟨_, rfl⟩
  have Hn := Lib.hid hnn
  have hn6 : (n : Int) ≤ 1000000 := by omega
  rw [← hnn] at H HA
  clear hQ hb hl hfew hfew1 hlen2 htok htok2 hs2 hno hn hlg hl2 hll hA hc1 hc2 ho hnn
  obtain ⟨i0, hi0, hz0, hz1, hz2⟩ := info_some infoOne
  have Hi := Lib.hid (And.intro hi0 (And.intro hz0 (And.intro hz1 hz2)))
  clear hi0 hz0 hz1 hz2
  go_enter Try.func9, Try.ntmps9
  go_wp2_with fail
  refine (rsame_any secret secret w).mono ?_
  rintro e w2 ⟨rfl, rfl⟩
  rw [tl_eq, decide_eq_true rfl]
  go_wp2_with fail
  go_loopg [10, 11] n (fun m b i wr => ∃ (j : Nat) (lv : List (ByteArray × Nat)), j ≤ n ∧ m = n - j ∧ i = .int .i64 (j : Nat) ∧ lv = (l.take j).filter (fun x => !overB now ttl x.2) ∧ wr.ownsRow w2.heap.size 62 2 b lv.length (scells lv) ∧ w2.grownBy wr none)
  case atStart => exact ⟨0, [], Nat.zero_le _, rfl, rfl, rfl, World.ownsRow_nil _ _ _ _, by_refl _ _⟩
  case round =>
    obtain ⟨j, lv, hj, hm, rfl, hlv, hown, hy⟩ := hrel
    have hb := H.out.1.grown hy (by simp)
    have c4 : wr.cell? ⟨s, 4, none⟩ = some (.slice A n c) := hb.cell 4
    have hl := H.out.2.1.grown hy
    have Hb := Lib.hid (And.intro hb (And.intro hy (And.intro hm (And.intro hlv hown))))
    clear hb hy hlv hown c0 hm
    have hn7 : n < 1000000 := by have h0 := H.out.2.2.2.2.2.2.2.2.2.2.2.1; have h1 := Hn.out; omega
    rcases Nat.lt_or_ge j n with hlt | hge
    · have hjl : j < l.length := by have := Hn.out; omega
      obtain ⟨g, rfl⟩ := HA.out (by omega)
      have hl' : RLst wr (.slice (some ⟨g, 0, none⟩) n c) l := hl
      obtain ⟨c0, c1⟩ := hl'.cellAt j hjl
      have hji : (j : Int) < (n : Int) := by omega
      obtain ⟨⟨tok, t⟩, hx⟩ : ∃ x, x = l[j] := ⟨_, rfl⟩
      rw [← hx] at c0 c1
      dsimp only at c0 c1
      have hkeep : overB now ttl t = false → (l.take (j + 1)).filter (fun x => !overB now ttl x.2) = lv ++ [(tok, t)] := fun h => by
        rw [filter_keep (p := fun x => overB now ttl x.2) hjl (by show overB now ttl l[j].2 = false; rw [← hx]; exact h), ← Hb.out.2.2.2.1, ← hx]
      have hdrop : overB now ttl t = true → (l.take (j + 1)).filter (fun x => !overB now ttl x.2) = lv := fun h => by
        rw [filter_drop (p := fun x => overB now ttl x.2) hjl (by show overB now ttl l[j].2 = true; rw [← hx]; exact h), ← Hb.out.2.2.2.1]
      have hlvl : lv.length ≤ j := by rw [Hb.out.2.2.2.1]; exact Nat.le_trans (List.length_filter_le _ _) (by rw [List.length_take]; omega)
      have Hst := Lib.hid (And.intro hkeep (And.intro hdrop hl))
      clear hkeep hdrop hl hl' hx
      go_wp2_with fail
      refine (rover_any s now ttl H.out.2.2.2.2.2.2.2.2.1 tok t wr ⟨_, _, _, _, Hb.out.1⟩).mono ?_
      rintro e w3 ⟨rfl, y3⟩
      have Hy := Lib.hid (And.intro y3 (by_trans Hb.out.2.1 y3 (by simp)))
      cases hov : overB now ttl t with
      | true =>
        have Ho := Lib.hid hov
        clear hov y3 c0 c1
        go_wp2
        go_roundg (n - (j + 1))
        case measure => have := Hb.out.2.2.1; omega
        case rel => exact ⟨j + 1, lv, hlt, rfl, by go_num, (Hst.out.2.1 Ho.out).symm, own_chg Hb.out.2.2.2.2 (Chg.of_none (S := fun _ => False) Hy.out.1) (fun _ _ h => h), Hy.out.2⟩
      | false =>
        have Ho := Lib.hid hov
        have d4 : w3.cell? ⟨s, 4, none⟩ = some (.slice (some ⟨g, 0, none⟩) n c) := y3.cell c4 (by simp)
        have d0 : w3.cell? ⟨g, j * 2, none⟩ = some (.string tok) := y3.cell c0 (by simp)
        have d1 : w3.cell? ⟨g, j * 2 + 1, none⟩ = some (.int .u64 (t : Int)) := y3.cell c1 (by simp)
        have hown3 := own_chg Hb.out.2.2.2.2 (Chg.of_none (S := fun _ => False) y3) (fun _ _ h => h)
        obtain ⟨wn, hwn⟩ : ∃ W, W = w3.alloc (.cells #[.string tok, .int .u64 (t : Int)] 62) := ⟨_, rfl⟩
        have yn : w3.grownBy wn none := by rw [hwn]; exact by_alloc (by_refl _ _) _
        have hbn : Blk wn w3.heap.size 62 #[.string tok, .int .u64 (t : Int)] := by rw [hwn]; exact Blk.new _ _ _
        obtain ⟨k, hk⟩ : ∃ k, k = lv.length := ⟨_, rfl⟩
        have hO := own_chg hown3 (Chg.of_none (S := fun _ => False) yn) (fun _ _ h => h)
        have hnews : ∀ j u, (scell (tok, t))[j]? = some u → wn.cell? ((⟨w3.heap.size, 0, none⟩ : Addr).add j) = some u := World.news_of_block hbn
        rw [← hk] at hO hlvl
        have HN := Lib.hid (And.intro hO (And.intro hnews (And.intro hwn (And.intro yn hk))))
        clear hov y3 c0 c1 c4 hown3 yn hbn hO hnews hwn hk
        go_wp2_with (at_builtin; rw [← HN.out.2.2.1]; refine wpList_append_own_at _ rfl (.tmp 40) (.tmp 48) 28 rfl w2.heap.size 62 i0 _ 2 24 Try.underlying28 Hi.out.1 Hi.out.2.1 Hi.out.2.2.1 Hi.out.2.2.2 rfl (by decide) _ k (scells lv) rfl HN.out.1 ⟨w3.heap.size, 0, none⟩ 1 1 (scell (tok, t)) rfl ?k1 ?k2 ?k3 ?k4 ?k5 ?k6 ?_)
        case k1 => rfl
        case k2 => exact HN.out.2.1
        case k3 => have := scells_one [(tok, t)]; simpa [scells] using this
        case k4 => unfold maxLen; omega
        case k5 => omega
        case k6 => exact Nat.le_trans Hy.out.2.size HN.out.2.2.2.1.size
        intro v' w8 ho8 y8 _ hv8
        have h8 : w8.ownsRow w2.heap.size 62 2 v' (lv ++ [(tok, t)]).length (scells (lv ++ [(tok, t)])) := by
          have e1 : (lv ++ [(tok, t)]).length = k + 1 := by rw [HN.out.2.2.2.2]; simp
          have e2 : scells (lv ++ [(tok, t)]) = scells lv ++ scell (tok, t) := by rw [scells_app]; simp [scells]
          rw [e1, e2]; exact ho8
        have yy : w2.grownBy w8 none := ((Chg.of_none (S := fun b => w2.heap.size ≤ b) (by_trans Hy.out.2 HN.out.2.2.2.1 (by simp))).trans (Chg.of_by y8 fun g h => h) (fun b hb => .inl (own_base HN.out.1 hb))).none_ fun _ h => h
        have H8 := Lib.hid (And.intro h8 yy)
        clear h8 yy ho8 y8 hv8
        go_wp2
        go_roundg (n - (j + 1))
        case measure => have := Hb.out.2.2.1; omega
        case rel => exact ⟨j + 1, lv ++ [(tok, t)], hlt, rfl, by go_num, (Hst.out.1 Ho.out).symm, H8.out.1, H8.out.2⟩
    · obtain rfl : j = n := by omega
      have hown := Hb.out.2.2.2.2
      have hl2e : lv = l2 := by rw [Hb.out.2.2.2.1, H.out.2.2.2.2.2.2.2.2.2.2.1, List.take_of_length_le (by have := Hn.out; omega)]
      rw [hl2e] at hown
      have hR : RLst wr _ l2 := own_zero hown
      obtain ⟨A5, k5, rfl, _⟩ := hR.at_
      have z4 : wr.frozen? ⟨s, 4, none⟩ = false := Hb.out.1.frozen 4
      have hvs : (Value.slice A5 l2.length k5).ownBlock ≠ some s := own_blk_ne hR Hb.out.1 (by decide)
      have hnew5 : ∀ b, (Value.slice A5 l2.length k5).ownBlock = some b → w2.heap.size ≤ b := fun b hb => own_base hown hb
      obtain ⟨wc, hwc⟩ : ∃ W, W = wr.setCell ⟨s, 4, none⟩ (.slice A5 l2.length k5) := ⟨_, rfl⟩
      have hb5 : Blk wc s 30 #[.string secret, .int .u64 (ttl : Int), .int .i64 slots, .int .u64 (logins : Int), .slice A5 l2.length k5] := by rw [hwc]; exact Hb.out.1.set_ 4 _
      have hl5 : RLst wc (.slice A5 l2.length k5) l2 := by rw [hwc]; exact own_chg hR ((Chg.refl wr (fun b => b = s)).set_ (p := ⟨s, 4, none⟩) (.inl rfl) _) (fun g hg e => hvs (by rw [hg, e]))
      have hc5 : Chg w2 wc own := by rw [hwc]; exact (Chg.of_none (S := own) Hb.out.2.1).set_ (.inl ((H.out.2.2.1 s).2 (.inl rfl))) _
      have HWC := Lib.hid hwc
      clear hown hR hwc hvs
      have Hnew := Lib.hid hnew5
      clear hnew5 hl
      go_wp2_with fail
      rw [← HWC.out]
      clear c4 z4
      have c0 : wc.cell? ⟨s, 0, none⟩ = some (.string secret) := hb5.cell 0
      have c2 : wc.cell? ⟨s, 2, none⟩ = some (.int .i64 slots) := hb5.cell 2
      have c3 : wc.cell? ⟨s, 3, none⟩ = some (.int .u64 (logins : Int)) := hb5.cell 3
      have c4 : wc.cell? ⟨s, 4, none⟩ = some (.slice A5 l2.length k5) := hb5.cell 4
      have z3 : wc.frozen? ⟨s, 3, none⟩ = false := hb5.frozen 3
      have HC := Lib.hid (And.intro hb5 (And.intro hl5 (And.intro trivial hc5)))
      clear hb5 hl5 hc5
      by_cases hfull : (l2.length : Int) < slots
      · have HFU := Lib.hid hfull
        have hge : ¬ slots ≤ (l2.length : Int) := by omega
        obtain ⟨lg1, hlg1⟩ : ∃ n, n = logins + 1 := ⟨_, rfl⟩
        have hwr : IntKind.u64.wrap ((logins : Int) + 1) = (lg1 : Int) := by
          have := H.out.2.2.2.2.2.2.2.2.2.1
          rw [IntKind.wrap_u64]
          omega
        have Hlg := Lib.hid hlg1
        clear hlg1 hfull
        go_quiet (fail)
        go_wp2_with fail
        obtain ⟨V, hV⟩ : ∃ V, V = ((wc.drewN nq).setCell ⟨s, 3, none⟩ (.int .u64 (lg1 : Int))) := ⟨_, rfl⟩
        rw [← hV]
        have hbV : Blk V s 30 #[.string secret, .int .u64 (ttl : Int), .int .i64 slots, .int .u64 (lg1 : Int), .slice A5 l2.length k5] := by rw [hV]; exact (HC.out.1.drewN nq).set_ 3 _
        have hlV : RLst V (.slice A5 l2.length k5) l2 := by
          rw [hV]
          refine own_chg (HC.out.2.1.drewN nq) ((Chg.refl (wc.drewN nq) (fun b => b = s)).set_ (p := ⟨s, 3, none⟩) (.inl rfl) _) (fun g hg e => ?_)
          exact own_blk_ne HC.out.2.1 HC.out.1 (by decide) (by rw [hg, e])
        have hcV : Chg w2 V own := by rw [hV]; exact (HC.out.2.2.2.drewN nq).set_ (.inl ((H.out.2.2.1 s).2 (.inl rfl))) _
        clear hV c0 c2 c3 c4 z3
        obtain ⟨B8, hB8⟩ : ∃ B, B = beB lg1 := ⟨_, rfl⟩
        obtain ⟨L, hL⟩ : ∃ L, L = (u8s (markB secret (nonce ++ B8))).toArray := ⟨_, rfl⟩
        obtain ⟨T, hT⟩ : ∃ T, T = tokB secret nonce lg1 := ⟨_, rfl⟩
        have hsz8 : B8.size = 8 := by rw [hB8]; exact beB_size _
        have hadd : ¬ 9223372036854775807 < nonce.size + B8.size := by have := H.out.2.2.2.2.2.2.2.1; omega
        have k1 : ∀ W, Calls Try.prog 28 #[.int .u64 (lg1 : Int)] W fun e w' => e = .returned (.string B8) ∧ W.grownBy w' none := fun W => by
          rw [hB8]; exact rbytes_any W lg1 (by have := H.out.2.2.2.2.2.2.2.2.2.1; have := Hlg.out; omega)
        have k2 : ∀ W, Calls Try.prog 27 #[.string secret, .string (nonce ++ B8)] W fun e w' => e = .returned (.agg L) ∧ W.grownBy w' none := fun W => by
          rw [hL]; exact rmac_any _ _ H.out.2.2.2.2.2.2.1 (by have := H.out.2.2.2.2.2.2.2.1; rw [ByteArray.size_append]; omega) W
        have k3 : ∀ W, Calls Try.prog 26 #[.agg L] W fun e w' => e = .returned (.string T) ∧ W.grownBy w' none := fun W => by
          rw [hL, hT, hB8]; exact rhex_any _ (markB_len _ _) W
        have HK := Lib.hid (And.intro k1 (And.intro k2 k3))
        have HV := Lib.hid (And.intro hbV (And.intro hlV hcV))
        have HT := Lib.hid hT
        clear hbV hlV hcV k1 k2 k3 hB8 hL hT hsz8
        refine wp_region_noPanic ?_
        refine wp_region_held_drew (S := fun W => V.grownBy W none ∧ Blk W s 30 #[.string secret, .int .u64 (ttl : Int), .int .i64 slots, .int .u64 (lg1 : Int), .slice A5 l2.length k5]) (by kernel_rfl) (⟨by_drew (by_refl _ _), HV.out.1.drew⟩) (fun hHeld => ?_)
        refine wpAnyH_take (i := 0) (oi := _) (v := _) rfl (by kernel_rfl) (by kernel_rfl) (by kernel_rfl) (fun _ _ _ h => h) (Or.inl ⟨by rfl, fun _ _ => by go_simp; try rfl⟩) hHeld ?_
        try simp only [Act.put, List.getElem_toArray, List.getElem_cons_zero, List.getElem_cons_succ, List.setIfInBounds_toArray, List.set_cons_zero, List.set_cons_succ]
        refine wpAnyH_take (i := 1) (oi := _) (v := _) rfl (by kernel_rfl) (by kernel_rfl) (by kernel_rfl) (fun _ _ _ h => h) (Or.inl ⟨by rfl, fun _ _ => by go_simp; try rfl⟩) hHeld ?_
        try simp only [Act.put, List.getElem_toArray, List.getElem_cons_zero, List.getElem_cons_succ, List.setIfInBounds_toArray, List.set_cons_zero, List.set_cons_succ]
        refine wpAnyH_take (i := 2) (oi := _) (v := _) rfl (by kernel_rfl) (by kernel_rfl) (by kernel_rfl) (fun _ _ _ h => h) (Or.inl ⟨by rfl, fun _ _ => by go_simp; try rfl⟩) hHeld ?_
        try simp only [Act.put, List.getElem_toArray, List.getElem_cons_zero, List.getElem_cons_succ, List.setIfInBounds_toArray, List.set_cons_zero, List.set_cons_succ]
        refine wpAnyH_take (i := 3) (oi := _) (v := _) rfl (by kernel_rfl) (by kernel_rfl) (by kernel_rfl) (fun _ _ _ h => h) (Or.inl ⟨by rfl, fun _ h => by have hx := h.2.cell 0; (try simp only [List.getElem_toArray, List.getElem_cons_zero, List.getElem_cons_succ]); go_simp; try rfl⟩) hHeld ?_
        try simp only [Act.put, List.getElem_toArray, List.getElem_cons_zero, List.getElem_cons_succ, List.setIfInBounds_toArray, List.set_cons_zero, List.set_cons_succ]
        refine wpAnyH_take (i := 4) (oi := _) (v := _) rfl (by kernel_rfl) (by kernel_rfl) (by kernel_rfl) (fun _ _ _ h => h) (Or.inl ⟨by rfl, fun _ _ => by go_simp; try rfl⟩) hHeld ?_
        try simp only [Act.put, List.getElem_toArray, List.getElem_cons_zero, List.getElem_cons_succ, List.setIfInBounds_toArray, List.set_cons_zero, List.set_cons_succ]
        refine wpAnyH_take (i := 5) (oi := _) (v := _) rfl (by kernel_rfl) (by kernel_rfl) (by kernel_rfl) (fun _ _ _ h => h) (Or.inl ⟨by rfl, fun _ _ => by go_simp; try rfl⟩) hHeld ?_
        try simp only [Act.put, List.getElem_toArray, List.getElem_cons_zero, List.getElem_cons_succ, List.setIfInBounds_toArray, List.set_cons_zero, List.set_cons_succ]
        refine wpAnyH_take (i := 6) (oi := _) (v := _) rfl (by kernel_rfl) (by kernel_rfl) (by kernel_rfl) (fun _ _ _ h => h) (Or.inl ⟨by rfl, fun _ _ => by go_simp; try rfl⟩) hHeld ?_
        try simp only [Act.put, List.getElem_toArray, List.getElem_cons_zero, List.getElem_cons_succ, List.setIfInBounds_toArray, List.set_cons_zero, List.set_cons_succ]
        refine wpAnyH_take (i := 7) (oi := _) (v := _) rfl (by kernel_rfl) (by kernel_rfl) (by kernel_rfl) (fun _ _ _ h => h) (Or.inl ⟨by rfl, fun _ _ => by go_simp; try rfl⟩) hHeld ?_
        try simp only [Act.put, List.getElem_toArray, List.getElem_cons_zero, List.getElem_cons_succ, List.setIfInBounds_toArray, List.set_cons_zero, List.set_cons_succ]
        refine wpAnyH_take (i := 8) (oi := _) (v := _) rfl (by kernel_rfl) (by kernel_rfl) (by kernel_rfl) (fun _ _ _ h => h) (Or.inl ⟨by rfl, fun _ h => by have hx := h.2.cell 3; (try simp only [List.getElem_toArray, List.getElem_cons_zero, List.getElem_cons_succ]); go_simp; try rfl⟩) hHeld ?_
        try simp only [Act.put, List.getElem_toArray, List.getElem_cons_zero, List.getElem_cons_succ, List.setIfInBounds_toArray, List.set_cons_zero, List.set_cons_succ]
        refine wpAnyH_ready (rs := [9]) (by kernel_rfl) (by simp) ?_
        refine AllReadyH.cons (o := _) rfl (fun K hK => ?_) AllReadyH.nil
        go_simp
        refine (HK.out.1 _).mono ?_
        rintro e w4 ⟨rfl, y4⟩
        dsimp only
        refine hK.out _ _ (⟨by_trans hHeld.1 y4 (by simp), hHeld.2.grown y4 (by simp)⟩) (fun hHeld => ?_)
        clear hK K
        try simp only [Act.put, List.getElem_toArray, List.getElem_cons_zero, List.getElem_cons_succ, List.setIfInBounds_toArray, List.set_cons_zero, List.set_cons_succ]
        refine wpAnyH_take (i := 10) (oi := _) (v := _) rfl (by kernel_rfl) (by kernel_rfl) (by kernel_rfl) (fun _ _ _ h => h) (Or.inl ⟨by rfl, fun _ _ => by go_simp; try rfl⟩) hHeld ?_
        try simp only [Act.put, List.getElem_toArray, List.getElem_cons_zero, List.getElem_cons_succ, List.setIfInBounds_toArray, List.set_cons_zero, List.set_cons_succ]
        refine wpAnyH_ready (rs := [11]) (by kernel_rfl) (by simp) ?_
        refine AllReadyH.cons (o := _) rfl (fun K hK => ?_) AllReadyH.nil
        go_simp
        refine (HK.out.2.1 _).mono ?_
        rintro e w5 ⟨rfl, y5⟩
        dsimp only
        refine hK.out _ _ (⟨by_trans hHeld.1 y5 (by simp), hHeld.2.grown y5 (by simp)⟩) (fun hHeld => ?_)
        clear hK K
        try simp only [Act.put, List.getElem_toArray, List.getElem_cons_zero, List.getElem_cons_succ, List.setIfInBounds_toArray, List.set_cons_zero, List.set_cons_succ]
        refine wpAnyH_ready (rs := [12]) (by kernel_rfl) (by simp) ?_
        refine AllReadyH.cons (o := _) rfl (fun K hK => ?_) AllReadyH.nil
        go_simp
        refine (HK.out.2.2 _).mono ?_
        rintro e w6 ⟨rfl, y6⟩
        dsimp only
        refine hK.out _ _ (⟨by_trans hHeld.1 y6 (by simp), hHeld.2.grown y6 (by simp)⟩) (fun hHeld => ?_)
        clear hK K
        try simp only [Act.put, List.getElem_toArray, List.getElem_cons_zero, List.getElem_cons_succ, List.setIfInBounds_toArray, List.set_cons_zero, List.set_cons_succ]
        refine wpAnyH_take (i := 13) (oi := _) (v := _) rfl (by kernel_rfl) (by kernel_rfl) (by kernel_rfl) (fun _ _ _ h => h) (Or.inl ⟨by rfl, fun _ _ => by go_simp; try rfl⟩) hHeld ?_
        try simp only [Act.put, List.getElem_toArray, List.getElem_cons_zero, List.getElem_cons_succ, List.setIfInBounds_toArray, List.set_cons_zero, List.set_cons_succ]
        refine wpAnyH_done (by kernel_rfl) (NoPanic.normal ?_) _
        have hb6 := hHeld.2
        have hl6 := HV.out.2.1.grown hHeld.1
        have hc6 := HV.out.2.2.trans (Chg.of_none (S := own) hHeld.1) fun _ h => .inl h
        have c4 : w6.cell? ⟨s, 4, none⟩ = some (.slice A5 l2.length k5) := hb6.cell 4
        clear hHeld
        obtain ⟨wn, hwn⟩ : ∃ W, W = w6.alloc (.cells #[.string T, .int .u64 (now : Int)] 62) := ⟨_, rfl⟩
        have yn : w6.grownBy wn none := by rw [hwn]; exact by_alloc (by_refl _ _) _
        have hbn : Blk wn w6.heap.size 62 #[.string T, .int .u64 (now : Int)] := by rw [hwn]; exact Blk.new _ _ _
        have hO : (w6.alloc (.cells #[.string T, .int .u64 (now : Int)] 62)).ownsRow 0 62 2 (.slice A5 l2.length k5) l2.length (scells l2) := by rw [← hwn]; exact hl6.grown yn
        have hnews : ∀ j u, (scell (T, now))[j]? = some u → (w6.alloc (.cells #[.string T, .int .u64 (now : Int)] 62)).cell? ((⟨w6.heap.size, 0, none⟩ : Addr).add j) = some u := by rw [← hwn]; exact World.news_of_block hbn
        obtain ⟨i0, hi0, hz0, hz1, hz2⟩ := info_some infoOne
        have hbn2 := hb6.grown yn (by simp)
        have HN := Lib.hid (And.intro hO (And.intro hnews (And.intro hi0 (And.intro hz0 (And.intro hz1 hz2)))))
        have H7 := Lib.hid (And.intro hbn2 (And.intro (hc6.trans (Chg.of_none (S := own) yn) fun _ h => .inl h) (And.intro hl6 yn.size)))
        have HW := Lib.hid hwn
        have hlen7 : l2.length < 1000000 := by have h1 := H.out.2.2.2.2.1; have h2 := H.out.2.2.2.1; omega
        clear hb6 hl6 hc6 yn hbn hO hnews hi0 hz0 hz1 hz2 hbn2 hwn
        go_wp2_with (at_builtin; refine wpList_append_own_at _ rfl (.tmp 88) (.tmp 92) 28 rfl 0 62 i0 _ 2 24 Try.underlying28 HN.out.2.2.1 HN.out.2.2.2.1 HN.out.2.2.2.2.1 HN.out.2.2.2.2.2 rfl (by decide) (.slice A5 l2.length k5) l2.length (scells l2) rfl HN.out.1 ⟨w6.heap.size, 0, none⟩ 1 1 (scell (T, now)) rfl ?k1 ?k2 ?k3 ?k4 ?k5 (Nat.zero_le _) ?_)
        case k1 => rfl
        case k2 => exact HN.out.2.1
        case k3 => have := scells_one [(T, now)]; simpa [scells] using this
        case k4 => unfold maxLen; omega
        case k5 => omega
        rw [← HW.out]
        intro v' w8 ho8 y8 _ hv8
        have hl8 : RLst w8 v' (l2 ++ [(T, now)]) := by
          have e1 : (l2 ++ [(T, now)]).length = l2.length + 1 := by simp
          have e2 : scells (l2 ++ [(T, now)]) = scells l2 ++ scell (T, now) := by rw [scells_app]; simp [scells]
          show w8.ownsRow 0 _ 2 v' (l2 ++ [(T, now)]).length (scells (l2 ++ [(T, now)]))
          rw [e1, e2]; exact ho8
        have hne : ∀ g, (Value.slice A5 l2.length k5).ownBlock = some g → g ≠ s := fun g hg e => own_blk_ne HV.out.2.1 HV.out.1 (by decide) (by rw [hg, e])
        have hb8 := H7.out.1.grown y8 (fun e => hne s e.symm rfl)
        have hvo : v'.ownBlock ≠ some s := own_blk_ne hl8 hb8 (by decide)
        have x4 : w8.cell? ⟨s, 4, none⟩ = some (.slice A5 l2.length k5) := hb8.cell 4
        have z4 : w8.frozen? ⟨s, 4, none⟩ = false := hb8.frozen 4
        have hc8 : Chg w2 w8 own := H7.out.2.1.trans (Chg.of_by (S := fun b => (Value.slice A5 l2.length k5).ownBlock = some b) y8 fun g h => h) (fun b hb => .inr (Hnew.out b hb))
        have hown : ∀ b, v'.ownBlock = some b → own b ∨ w2.heap.size ≤ b := fun b hb => by
          rcases hv8 with h | h
          · exact .inr (Hnew.out b (by rw [← h]; exact hb))
          · right
            rw [h] at hb
            cases hb
            have e7 := H7.out.2.1.size
            rw [HW.out] at e7
            simpa using e7
        obtain ⟨A8, k8, rfl, _⟩ := hl8.at_
        obtain ⟨n8, hn8⟩ : ∃ n, n = (l2 ++ [(T, now)]).length := ⟨_, rfl⟩
        have hfin : Q (.returned (.tuple #[.string T, .int .i64 0])) (w8.setCell ⟨s, 4, none⟩ (.slice A8 n8 k8)) := by
          rw [HQ.out, if_pos HFU.out]
          have eT := HT.out
          rw [Hlg.out] at eT
          rw [← eT]
          have ein : Ses.in_ ⟨secret, ttl, slots, logins, l⟩ nonce now = ⟨secret, ttl, slots, lg1, l2 ++ [(T, now)]⟩ := by
            unfold Ses.in_
            rw [← H.out.2.2.2.2.2.2.2.2.2.2.2.2, ← eT, ← Hlg.out]
          rw [ein]
          refine ⟨rfl, fun b => b = s ∨ (Value.slice A8 n8 k8).ownBlock = some b, ⟨⟨.slice A8 n8 k8, hb8.set_ 4 _, ?_, fun b => Iff.rfl⟩, ?_, ?_⟩, ?_, ?_⟩
          · have hS := own_chg hl8 ((Chg.refl w8 (fun b => b = s)).set_ (p := ⟨s, 4, none⟩) (.inl rfl) (.slice A8 n8 k8)) (fun g hg e => hvo (by rw [hg, e]))
            rw [← hn8] at hS
            show World.ownsRow _ 0 _ 2 _ (l2 ++ [(T, now)]).length _
            rw [← hn8]; exact hS
          · show (l2 ++ [(T, now)]).length < _
            rw [List.length_append]
            have h1 := H.out.2.2.2.2.1; have h2 := H.out.2.2.2.1
            show l2.length + 1 < _
            omega
          · intro x hx
            rcases List.mem_append.1 (show x ∈ l2 ++ [(T, now)] from hx) with h | h
            · exact H.out.2.2.2.2.2.1 x h
            · obtain rfl := List.mem_singleton.1 h
              show T.size ≤ maxLen
              rw [eT, tokB_size]; unfold maxLen; omega
          · exact hc8.set_ (.inl ((H.out.2.2.1 s).2 (.inl rfl))) _
          · rintro b (rfl | hb)
            · exact .inl ((H.out.2.2.1 b).2 (.inl rfl))
            · exact hown b (by rw [← hn8]; exact hb)
        have HF := Lib.hid hfin
        rw [← hn8]
        clear hfin hl8 hne hb8 hvo hc8 hown hn8 ho8 y8 hv8
        go_wp2
        exact HF.out
      · have hge : decide (slots ≤ (l2.length : Int)) = true := by simp only [decide_eq_true_eq]; omega
        have hge2 : slots ≤ (l2.length : Int) := by omega
        have hfin : ∀ n, RLogQ w2 s own (Ses.cut ⟨secret, ttl, slots, logins, l⟩ now) ⟨#[]⟩ 12 (.returned (.tuple #[.string ⟨#[]⟩, .int .i64 12])) (wc.drewN n) := fun n => by
          refine ⟨rfl, fun b => b = s ∨ (Value.slice A5 l2.length k5).ownBlock = some b, ⟨⟨.slice A5 l2.length k5, HC.out.1.drewN n, ?_, fun b => Iff.rfl⟩, ?_, ?_⟩, HC.out.2.2.2.drewN n, fun b hb => ?_⟩
          · show RLst (wc.drewN n) _ (livL ⟨secret, ttl, slots, logins, l⟩ now)
            rw [← H.out.2.2.2.2.2.2.2.2.2.2.2.2]; exact HC.out.2.1.drewN n
          · show (livL ⟨secret, ttl, slots, logins, l⟩ now).length < _
            rw [← H.out.2.2.2.2.2.2.2.2.2.2.2.2]; have h1 := H.out.2.2.2.2.1; have h2 := H.out.2.2.2.1; omega
          · show ∀ x ∈ livL ⟨secret, ttl, slots, logins, l⟩ now, _
            rw [← H.out.2.2.2.2.2.2.2.2.2.2.2.2]; exact H.out.2.2.2.2.2.1
          · rcases hb with rfl | hb
            · exact .inl ((H.out.2.2.1 b).2 (.inl rfl))
            · exact .inr (Hnew.out b hb)
        have HF := Lib.hid (fun n => show Q _ _ by rw [HQ.out, if_neg hfull]; exact hfin n)
        clear hfin hfull
        go_quiet (fail)
        go_wp2
        exact HF.out _
end Go.Proofs.Ytdloapfifhelbaa
