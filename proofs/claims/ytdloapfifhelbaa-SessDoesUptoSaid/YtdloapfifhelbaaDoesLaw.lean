/-
  SessDoes: whatever is done with sessions, they answer what the document says.
-/
import Derived.Test.YtdloapfifhelbaaToken
import Derived.Deep.DeepCutAuto
import Derived.Deep.CutBlock
namespace Go.Proofs.Ytdloapfifhelbaa
open Go.ChangeShapes Go.WideShapes Go.ChangeAt Go.RowKit
open Go.ChangeMaps (open_string)
theorem Act4.Ok.mono {x : Act4} {m k : Nat} (h : x.Ok m) (hm : m ≤ k) : x.Ok k := ⟨h.w, h.n, Nat.le_trans h.t hm, h.now⟩
namespace sessDoes

structure Mid (w0 : World) (s r : Nat) (secret : ByteArray) (v : Value) (wr : World) (j : Nat) (st : Ses) (tokens : List ByteArray) : Prop where
  cs : CS w0.heap.size w0 wr s st
  rs : RCS w0.heap.size w0 wr r st
  tk : Toks wr w0.heap.size v tokens
  sec : st.secret = secret
  lg : st.logins ≤ j
  len : st.l.length ≤ j
  tl : tokens.length ≤ j
  tsz : ∀ t ∈ tokens, t.size ≤ maxLen

theorem CS.base {w W W' : World} {s : Nat} {st : Ses} (hb : w.grownBy W none) (h : CS W.heap.size W W' s st) : CS w.heap.size w W' s st := by
  obtain ⟨own, a, b, c⟩ := h
  exact ⟨own, a, (Chg.of_none (S := fun b => w.heap.size ≤ b) hb).trans b (fun k hk => .inr (Nat.le_trans hb.size hk)), fun b h => Nat.le_trans hb.size (c b h)⟩
theorem rcs_new {w W : World} (hb : w.grownBy W none) (secret : ByteArray) (ttl : Nat) (slots : Int) :
    RCS w.heap.size w (W.alloc (.cells #[.string secret, .int .u64 (ttl : Int), .int .i64 slots, .int .u64 0, .slice none 0 0] 30)) W.heap.size ⟨secret, ttl, slots, 0, []⟩ :=
  ⟨fun b => b = W.heap.size, ⟨⟨.slice none 0 0, Blk.new _ _ _, RLst.nil_ _, fun b => ⟨.inl, fun h => h.elim id (fun h => by cases h)⟩⟩, Nat.succ_pos _, by simp⟩, Chg.of_none (by_alloc hb _), fun b h => by rw [h]; exact hb.size⟩

theorem Mid.grown {w0 wr w' : World} {s r : Nat} {secret : ByteArray} {v : Value} {j : Nat} {st : Ses} {tokens : List ByteArray} (h : Mid w0 s r secret v wr j st tokens) (y : wr.grownBy w' none) : Mid w0 s r secret v w' j st tokens :=
  ⟨h.cs.grown y, h.rs.grown y, own_chg h.tk (Chg.of_none (S := fun _ => False) y) fun _ _ h => h, h.sec, h.lg, h.len, h.tl, h.tsz⟩

theorem infoStr : (Try.prog.info? 9).map (fun i => (i.zero, i.size, i.bytes)) = some (some (.string ⟨#[]⟩), 1, 16) := by kernel_rfl
/-- what a login leaves -/
structure AfterL (w0 : World) (s r : Nat) (secret : ByteArray) (j : Nat) (st' : Ses) (tokens : List ByteArray) (tok : ByteArray) (z : Int) : Prop where
  sec : st'.secret = secret
  lg : st'.logins ≤ j + 1
  len : st'.l.length ≤ j + 1
  tl : tokens.length ≤ j
  tsz : ∀ t ∈ tokens, t.size ≤ maxLen
  tok : z = 0 → tok.size ≤ maxLen
/-- without the tokens' row -/
structure Half (w0 : World) (s r : Nat) (secret : ByteArray) (wr : World) (j : Nat) (st : Ses) (tokens : List ByteArray) : Prop where
  cs : CS w0.heap.size w0 wr s st
  rs : RCS w0.heap.size w0 wr r st
  sec : st.secret = secret
  lg : st.logins ≤ j + 1
  len : st.l.length ≤ j + 1
  tl : tokens.length ≤ j
  tsz : ∀ t ∈ tokens, t.size ≤ maxLen
theorem AfterL.mid {w0 wr : World} {s r : Nat} {secret tok : ByteArray} {j : Nat} {st : Ses} {tokens : List ByteArray} {z : Int} (h : AfterL w0 s r secret j st tokens tok z) (hc : CS w0.heap.size w0 wr s st) (hr : RCS w0.heap.size w0 wr r st) : Half w0 s r secret wr j st tokens :=
  ⟨hc, hr, h.sec, h.lg, h.len, h.tl, h.tsz⟩
theorem Mid.noapp {w0 wr : World} {s r : Nat} {secret : ByteArray} {v : Value} {j : Nat} {st : Ses} {tokens : List ByteArray} (h : Half w0 s r secret wr j st tokens) (ht : Toks wr w0.heap.size v tokens) : Mid w0 s r secret v wr (j + 1) st tokens :=
  ⟨h.cs, h.rs, ht, h.sec, h.lg, h.len, Nat.le_succ_of_le h.tl, h.tsz⟩
theorem Mid.app {w0 wr w5 : World} {s r : Nat} {secret tok : ByteArray} {v v' : Value} {j m : Nat} {st : Ses} {tokens : List ByteArray} (h : Half w0 s r secret wr j st tokens) (hz : tok.size ≤ maxLen) (ho : wr.ownsRow w0.heap.size 9 1 v m (tokens.map .string)) (hm : m = tokens.length)
    (ho5 : w5.ownsRow w0.heap.size 9 1 v' (m + 1) (tokens.map .string ++ [.string tok])) (y : wr.grownBy w5 v.ownBlock) : Mid w0 s r secret v' w5 (j + 1) st (tokens ++ [tok]) := by
  have hk : Kp [9] wr w5 := ⟨fun g t cs ht hb => hb.grown y (fun e => own_blk_ne ho hb (fun e2 => ht (by simp [e2])) e.symm), y.size⟩
  have hc : Chg w0 w5 (fun b => w0.heap.size ≤ b) := h.cs.chg.trans (Chg.of_by (S := fun b => v.ownBlock = some b) y fun g h => h) (fun b hb => .inl (own_base ho hb))
  refine ⟨h.cs.kp hk (by decide) (by decide) hc, h.rs.kp hk (by decide) (by decide) hc, ?_, h.sec, h.lg, h.len, ?_, ?_⟩
  · have e1 : (tokens ++ [tok]).length = m + 1 := by rw [hm]; simp
    have e2 : (tokens ++ [tok]).map Value.string = tokens.map .string ++ [.string tok] := by simp
    show w5.ownsRow _ _ 1 v' (tokens ++ [tok]).length ((tokens ++ [tok]).map Value.string)
    rw [e1, e2]; exact ho5
  · rw [List.length_append]; exact Nat.succ_le_succ h.tl
  · intro t ht
    rcases List.mem_append.1 ht with h1 | h1
    · exact h.tsz t h1
    · rw [List.mem_singleton.1 h1]; exact hz
theorem Mid.logs {w0 wr : World} {s r : Nat} {secret sec2 nonce tok : ByteArray} {v : Value} {j now : Nat} {st st' : Ses} {tokens : List ByteArray} {z : Int} (h : Mid w0 s r secret v wr j st tokens) (hl : st.logs sec2 nonce now = (st', tok, z)) : AfterL w0 s r secret j st' tokens tok z := by
  have hf : (livL st now).length ≤ st.l.length := List.length_filter_le _ _
  have h1 := h.len
  have h2 := h.lg
  unfold Ses.logs at hl
  by_cases he : sec2 = st.secret
  · rw [if_pos he] at hl
    by_cases hs : ((livL st now).length : Int) < st.slots
    · rw [if_pos hs] at hl
      cases hl
      exact ⟨h.sec, Nat.succ_le_succ h2, by unfold Ses.in_; simp only [List.length_append, List.length_cons, List.length_nil]; omega, h.tl, h.tsz, fun _ => by rw [tokB_size]; unfold maxLen; omega⟩
    · rw [if_neg hs] at hl
      cases hl
      exact ⟨h.sec, Nat.le_succ_of_le h2, by unfold Ses.cut; dsimp only; omega, h.tl, h.tsz, fun e => by cases e⟩
  · rw [if_neg he] at hl
    cases hl
    exact ⟨h.sec, Nat.le_succ_of_le h2, Nat.le_succ_of_le h1, h.tl, h.tsz, fun e => by cases e⟩

theorem Blk.range {w : World} {g : Nat} {t : TypeId} {cs : List Value} (h : Blk w g t cs.toArray) : w.rangeAt g 0 cs := fun j v hv => by
  rw [Nat.zero_add, h.cell j]
  simpa using hv
theorem tokOf_size {tokens : List ByteArray} {x : Act4} (h : ∀ t ∈ tokens, t.size ≤ maxLen) (hx : x.text.size ≤ maxLen) : (tokOf tokens x).size ≤ maxLen := by
  unfold tokOf
  split
  · exact hx
  · rename_i hh
    have hk : x.n.toNat < tokens.length := by omega
    rw [List.getD_eq_getElem?_getD, List.getElem?_eq_getElem hk]
    exact h _ (List.getElem_mem hk)
theorem Mid.next {w0 wr : World} {s r : Nat} {secret : ByteArray} {v : Value} {j : Nat} {st : Ses} {tokens : List ByteArray} (h : Mid w0 s r secret v wr j st tokens) : Mid w0 s r secret v wr (j + 1) st tokens :=
  ⟨h.cs, h.rs, h.tk, h.sec, Nat.le_succ_of_le h.lg, Nat.le_succ_of_le h.len, Nat.le_succ_of_le h.tl, h.tsz⟩
theorem Mid.after {w0 wr w6 : World} {s r : Nat} {secret T : ByteArray} {v : Value} {j now : Nat} {st : Ses} {tokens : List ByteArray} (h : Mid w0 s r secret v wr j st tokens) (hc : CS w0.heap.size w0 w6 s (st.out T now)) (hr : RCS w0.heap.size w0 w6 r (st.out T now)) (ht : Toks w6 w0.heap.size v tokens) : Mid w0 s r secret v w6 (j + 1) (st.out T now) tokens := by
  have h1 : (st.out T now).secret = st.secret ∧ (st.out T now).logins = st.logins ∧ (st.out T now).l.length ≤ st.l.length := by
    unfold Ses.out
    split
    · exact ⟨rfl, rfl, Nat.le_refl _⟩
    · refine ⟨rfl, rfl, ?_⟩
      dsimp only
      rw [List.length_append, List.length_take, List.length_drop]
      omega
  exact ⟨hc, hr, ht, h1.1.trans h.sec, by rw [h1.2.1]; exact Nat.le_succ_of_le h.lg, Nat.le_trans h1.2.2 (Nat.le_succ_of_le h.len), Nat.le_succ_of_le h.tl, h.tsz⟩

set_option maxRecDepth 100000 in
set_option maxHeartbeats 4000000 in
theorem walk2 (w : World) (v : Value) (l : List Act4) (hv : Acts w v l) (hx : ∀ x ∈ l, x.Ok 1048576) (hl : l.length ≤ maxLen) (secret : ByteArray) (hs : secret.size ≤ 1048576) (ttl sz : Nat) (h1 : ttl < 18446744073709551616) (h2 : sz < 18446744073709551616) :
    Calls Try.prog 3 #[v, .string secret, .agg #[.int .u64 (ttl : Int), .int .u64 (sz : Int)]] w fun e w' => e = .returned (.bool true) ∧ w.grownBy w' none := by
  unfold maxLen at hl
  have HV := Lib.hid (And.intro hv (And.intro hx (And.intro hs (And.intro h1 h2))))
  obtain ⟨A, cap, rfl, hcap, _⟩ := hv
  clear hx hs h1 h2
  obtain ⟨wa, hwa⟩ : ∃ wa, wa = w.alloc (.cells #[.int .u64 (ttl : Int), .int .u64 (sz : Int)] 24) := ⟨_, rfl⟩
  have ya : w.grownBy wa none := by rw [hwa]; exact by_alloc (by_refl _ _) _
  have hba : Blk wa w.heap.size 24 #[.int .u64 (ttl : Int), .int .u64 (sz : Int)] := by rw [hwa]; exact Blk.new _ _ _
  obtain ⟨b0, hb0⟩ : ∃ b, b = w.heap.size := ⟨_, rfl⟩
  rw [← hb0] at hba
  have Ha := Lib.hid (And.intro hwa (And.intro ya (And.intro hba hb0)))
  clear hwa ya hba
  go_enter Try.func3, Try.ntmps3
  obtain ⟨slots, hsl⟩ : ∃ z : Int, z = (sz : Int) % 70 - 2 := ⟨_, rfl⟩
  go_upto_region 2 with fail
  rw [← hsl]
  clear hsl
  rw [← Ha.out.1, ← Ha.out.2.2.2]
  clear hb0
  go_cut [8, 9] (fun p q wx => ∃ s r, p = .pointer (some ⟨s, 0, none⟩) ∧ q = .pointer (some ⟨r, 0, none⟩) ∧ CS w.heap.size w wx s ⟨secret, ttl, slots, 0, []⟩ ∧ RCS w.heap.size w wx r ⟨secret, ttl, slots, 0, []⟩)
  case first =>
    refine wp_region_noPanic ?_
    refine wp_region_held_drew (S := fun W => Blk W b0 24 #[.int .u64 (ttl : Int), .int .u64 (sz : Int)]) (by kernel_rfl) (Ha.out.2.2.1.drew) (fun hHeld => ?_)
    refine wpAnyH_take (i := 0) (oi := _) (v := _) rfl (by kernel_rfl) (by kernel_rfl) (by kernel_rfl) (fun _ _ _ h => h) (Or.inl ⟨by rfl, fun _ _ => by go_simp; try rfl⟩) hHeld ?_
    try simp only [Act.put, List.getElem_toArray, List.getElem_cons_zero, List.getElem_cons_succ, List.setIfInBounds_toArray, List.set_cons_zero, List.set_cons_succ]
    refine wpAnyH_take (i := 1) (oi := _) (v := _) rfl (by kernel_rfl) (by kernel_rfl) (by kernel_rfl) (fun _ _ _ h => h) (Or.inl ⟨by rfl, fun _ _ => by go_simp; try rfl⟩) hHeld ?_
    try simp only [Act.put, List.getElem_toArray, List.getElem_cons_zero, List.getElem_cons_succ, List.setIfInBounds_toArray, List.set_cons_zero, List.set_cons_succ]
    refine wpAnyH_take (i := 3) (oi := _) (v := _) rfl (by kernel_rfl) (by kernel_rfl) (by kernel_rfl) (fun _ _ _ h => h) (Or.inl ⟨by rfl, fun _ _ => by go_simp; try rfl⟩) hHeld ?_
    try simp only [Act.put, List.getElem_toArray, List.getElem_cons_zero, List.getElem_cons_succ, List.setIfInBounds_toArray, List.set_cons_zero, List.set_cons_succ]
    refine wpAnyH_take (i := 5) (oi := _) (v := _) rfl (by kernel_rfl) (by kernel_rfl) (by kernel_rfl) (fun _ _ _ h => h) (Or.inl ⟨by rfl, fun _ _ => by go_simp; try rfl⟩) hHeld ?_
    try simp only [Act.put, List.getElem_toArray, List.getElem_cons_zero, List.getElem_cons_succ, List.setIfInBounds_toArray, List.set_cons_zero, List.set_cons_succ]
    refine wpAnyH_take (i := 6) (oi := _) (v := _) rfl (by kernel_rfl) (by kernel_rfl) (by kernel_rfl) (fun _ _ _ h => h) (Or.inl ⟨by rfl, fun _ _ => by go_simp; try rfl⟩) hHeld ?_
    try simp only [Act.put, List.getElem_toArray, List.getElem_cons_zero, List.getElem_cons_succ, List.setIfInBounds_toArray, List.set_cons_zero, List.set_cons_succ]
    refine wpAnyH_take (i := 8) (oi := _) (v := _) rfl (by kernel_rfl) (by kernel_rfl) (by kernel_rfl) (fun _ _ _ h => h) (Or.inl ⟨by rfl, fun _ _ => by go_simp; try rfl⟩) hHeld ?_
    try simp only [Act.put, List.getElem_toArray, List.getElem_cons_zero, List.getElem_cons_succ, List.setIfInBounds_toArray, List.set_cons_zero, List.set_cons_succ]
    refine wpAnyH_take (i := 2) (oi := _) (v := _) rfl (by kernel_rfl) (by kernel_rfl) (by kernel_rfl) (fun _ _ _ h => h) (Or.inl ⟨by rfl, fun _ h => by have hx := h.cell 0; (try simp only [List.getElem_toArray, List.getElem_cons_zero, List.getElem_cons_succ]); go_simp; try rfl⟩) hHeld ?_
    try simp only [Act.put, List.getElem_toArray, List.getElem_cons_zero, List.getElem_cons_succ, List.setIfInBounds_toArray, List.set_cons_zero, List.set_cons_succ]
    refine wpAnyH_take (i := 7) (oi := _) (v := _) rfl (by kernel_rfl) (by kernel_rfl) (by kernel_rfl) (fun _ _ _ h => h) (Or.inl ⟨by rfl, fun _ h => by have hx := h.cell 0; (try simp only [List.getElem_toArray, List.getElem_cons_zero, List.getElem_cons_succ]); go_simp; try rfl⟩) hHeld ?_
    try simp only [Act.put, List.getElem_toArray, List.getElem_cons_zero, List.getElem_cons_succ, List.setIfInBounds_toArray, List.set_cons_zero, List.set_cons_succ]
    refine wpAnyH_take (i := 9) (oi := _) (v := _) rfl (by kernel_rfl) (by kernel_rfl) (by kernel_rfl) (fun _ _ _ h => h) (Or.inl ⟨by rfl, fun _ _ => by go_simp; try rfl⟩) hHeld ?_
    try simp only [Act.put, List.getElem_toArray, List.getElem_cons_zero, List.getElem_cons_succ, List.setIfInBounds_toArray, List.set_cons_zero, List.set_cons_succ]
    refine wpAnyH_ready (rs := [4, 10]) (by kernel_rfl) (by simp) ?_
    refine AllReadyH.cons (o := _) rfl (fun K hK => ?_) (AllReadyH.cons (o := _) rfl (fun K hK => ?_) AllReadyH.nil)
    · go_simp
      refine (cs_new _ secret ttl slots _ rfl).mono ?_
      rintro e w3 ⟨s, rfl, hc3⟩
      dsimp only
      refine hK.out _ _ (Ha.out.2.2.1.drew.grown hc3.by_ (by simp)) (fun hHeld => ?_)
      clear hK K
      try simp only [Act.put, List.getElem_toArray, List.getElem_cons_zero, List.getElem_cons_succ, List.setIfInBounds_toArray, List.set_cons_zero, List.set_cons_succ]
      have HC3 := Lib.hid (CS.base (by_drew Ha.out.2.1) hc3)
      clear hc3
      refine wpAnyH_take (i := 11) (oi := _) (v := _) rfl (by kernel_rfl) (by kernel_rfl) (by kernel_rfl) (fun _ _ _ h => h) (Or.inl ⟨by rfl, fun _ _ => by go_simp; try rfl⟩) hHeld ?_
      try simp only [Act.put, List.getElem_toArray, List.getElem_cons_zero, List.getElem_cons_succ, List.setIfInBounds_toArray, List.set_cons_zero, List.set_cons_succ]
      refine wpAnyH_ready (rs := [10]) (by kernel_rfl) (by simp) ?_
      refine AllReadyH.cons (o := _) rfl (fun K hK => ?_) AllReadyH.nil
      go_simp
      refine hK.out _ _ (hHeld.alloc _) (fun hHeld => ?_)
      clear hK K
      try simp only [Act.put, List.getElem_toArray, List.getElem_cons_zero, List.getElem_cons_succ, List.setIfInBounds_toArray, List.set_cons_zero, List.set_cons_succ]
      refine wpAnyH_take (i := 12) (oi := _) (v := _) rfl (by kernel_rfl) (by kernel_rfl) (by kernel_rfl) (fun _ _ _ h => h) (Or.inl ⟨by rfl, fun _ _ => by go_simp; try rfl⟩) hHeld ?_
      try simp only [Act.put, List.getElem_toArray, List.getElem_cons_zero, List.getElem_cons_succ, List.setIfInBounds_toArray, List.set_cons_zero, List.set_cons_succ]
      refine wpAnyH_done (by kernel_rfl) (NoPanic.normal ?_) _
      go_wp2_with fail
      go_meet
      exact ⟨s, _, rfl, rfl, HC3.out.grown (by_alloc (by_refl _ _) _), rcs_new HC3.out.by_ _ _ _⟩
    · go_simp
      refine hK.out _ _ (Ha.out.2.2.1.drew.alloc _) (fun hHeld => ?_)
      clear hK K
      try simp only [Act.put, List.getElem_toArray, List.getElem_cons_zero, List.getElem_cons_succ, List.setIfInBounds_toArray, List.set_cons_zero, List.set_cons_succ]
      have hr3 := rcs_new (by_drew Ha.out.2.1) secret ttl slots
      have y3 : w.grownBy (wa.drew.alloc (.cells #[.string secret, .int .u64 (ttl : Int), .int .i64 slots, .int .u64 0, .slice none 0 0] 30)) none := by_alloc (by_drew Ha.out.2.1) _
      have HR3 := Lib.hid (And.intro hr3 y3)
      clear hr3 y3
      refine wpAnyH_ready (rs := [4]) (by kernel_rfl) (by simp) ?_
      refine AllReadyH.cons (o := _) rfl (fun K hK => ?_) AllReadyH.nil
      go_simp
      refine (cs_new _ secret ttl slots _ rfl).mono ?_
      rintro e w4 ⟨s, rfl, hc4⟩
      dsimp only
      refine hK.out _ _ (hHeld.grown hc4.by_ (by simp)) (fun hHeld => ?_)
      clear hK K
      try simp only [Act.put, List.getElem_toArray, List.getElem_cons_zero, List.getElem_cons_succ, List.setIfInBounds_toArray, List.set_cons_zero, List.set_cons_succ]
      have HC4 := Lib.hid (And.intro (CS.base HR3.out.2 hc4) (HR3.out.1.grown hc4.by_))
      clear hc4
      refine wpAnyH_take (i := 11) (oi := _) (v := _) rfl (by kernel_rfl) (by kernel_rfl) (by kernel_rfl) (fun _ _ _ h => h) (Or.inl ⟨by rfl, fun _ _ => by go_simp; try rfl⟩) hHeld ?_
      try simp only [Act.put, List.getElem_toArray, List.getElem_cons_zero, List.getElem_cons_succ, List.setIfInBounds_toArray, List.set_cons_zero, List.set_cons_succ]
      refine wpAnyH_take (i := 12) (oi := _) (v := _) rfl (by kernel_rfl) (by kernel_rfl) (by kernel_rfl) (fun _ _ _ h => h) (Or.inl ⟨by rfl, fun _ _ => by go_simp; try rfl⟩) hHeld ?_
      try simp only [Act.put, List.getElem_toArray, List.getElem_cons_zero, List.getElem_cons_succ, List.setIfInBounds_toArray, List.set_cons_zero, List.set_cons_succ]
      refine wpAnyH_done (by kernel_rfl) (NoPanic.normal ?_) _
      go_wp2_with fail
      go_meet
      exact ⟨s, _, rfl, rfl, HC4.out.1, HC4.out.2⟩
  case rest =>
    obtain ⟨s, r, rfl, rfl, hc, hr⟩ := hcut
    have H0 := Lib.hid (And.intro hc hr)
    clear hc hr
    go_wp2_with fail
    go_loopg [10, 11] l.length (fun k v i wr => ∃ (j : Nat) (st : Ses) (tokens : List ByteArray), i = .int .i64 (j : Nat) ∧ j ≤ l.length ∧ k = l.length - j ∧ Mid w s r secret v wr j st tokens)
    case atStart => exact ⟨0, _, [], rfl, Nat.zero_le _, rfl, H0.out.1, H0.out.2, World.ownsRow_nil _ _ _ _, rfl, Nat.le_refl _, Nat.le_refl _, Nat.le_refl _, by simp⟩
    case round =>
      clear H0
      obtain ⟨j, st, tokens, rfl, hle, hnum, hM⟩ := hrel
      have HM := Lib.hid hM
      have Hnum := Lib.hid hnum
      clear hM hnum
      by_cases h1 : j < l.length
      · by_cases h2 : j < 60
        · obtain ⟨A', cap', hA, _, hcell⟩ := HV.out.1.grown HM.out.cs.by_
          injection hA with hA1 hA2 hA3
          subst hA1; subst hA3
          obtain ⟨b, off, rfl, hb, hc⟩ := hcell (by omega)
          obtain ⟨c0, c1, c2, c3⟩ := hc j h1
          have hok := HV.out.2.1 l[j] (List.getElem_mem h1)
          have hlt' : (j : Int) < (l.length : Int) := by omega
          have hj60 : (j : Int) < 60 := by omega
          have hj61 : decide ((j : Int) < 60) = true := decide_eq_true hj60
          obtain ⟨x, hx⟩ : ∃ x, x = l[j] := ⟨_, rfl⟩
          rw [← hx] at c0 c1 c2 c3 hok
          obtain ⟨wh, n, text, nw⟩ := x
          obtain ⟨now, hnw, hnow⟩ : ∃ k : Nat, nw = (k : Int) ∧ k < 18446744073709551616 := by
            have h := hok.now
            simp only [Lit.wf, Bool.and_eq_true, decide_eq_true_eq] at h
            have h0 : 0 ≤ nw := h.1
            have h1 : nw ≤ 18446744073709551615 := h.2
            exact ⟨nw.toNat, by omega, by omega⟩
          subst hnw
          dsimp only at c0 c1 c2 c3
          have Hok := Lib.hid (And.intro hok (And.intro hnow hx))
          clear hcell hc hA2 hb hok hnow hx
          obtain ⟨W1, hW1⟩ : ∃ W, W = wr.alloc (.cells #[.int .i64 wh, .int .i64 n, .string text, .int .u64 (now : Int)] 33) := ⟨_, rfl⟩
          obtain ⟨px, hpx⟩ : ∃ p, p = wr.heap.size := ⟨_, rfl⟩
          have y1 : wr.grownBy W1 none := by rw [hW1]; exact by_alloc (by_refl _ _) _
          have hM1 : Mid w s r secret _ W1 j st tokens := HM.out.grown y1
          have hb1 : Blk W1 px 33 #[.int .i64 wh, .int .i64 n, .string text, .int .u64 (now : Int)] := by rw [hW1, hpx]; exact Blk.new _ _ _
          have H1 := Lib.hid (And.intro hM1 (And.intro hb1 (And.intro hW1 hpx)))
          clear hM1 hb1 y1 hW1 hpx
          go_upto_block 2 with fail
          rw [← H1.out.2.2.1, ← H1.out.2.2.2]
          clear c0 c1 c2 c3
          have d0 : W1.cell? ⟨px, 0, none⟩ = some (.int .i64 wh) := H1.out.2.1.cell 0
          have d2 : W1.cell? ⟨px, 2, none⟩ = some (.string text) := H1.out.2.1.cell 2
          have d3 : W1.cell? ⟨px, 3, none⟩ = some (.int .u64 (now : Int)) := H1.out.2.1.cell 3
          go_cut [10] (fun v wx => ∃ (st' : Ses) (tokens' : List ByteArray), Mid w s r secret v wx (j + 1) st' tokens' ∧ Blk wx px 33 #[.int .i64 wh, .int .i64 n, .string text, .int .u64 (now : Int)])
          case first =>
            have hX := H1.out.2.1
            have HX := Lib.hid hX
            have HM1 := Lib.hid H1.out.1
            have hE : secret.size ≤ maxLen ∧ st.secret.size ≤ 268435456 ∧ text.size ≤ 134217728 ∧ now < 18446744073709551616 ∧ st.logins < 1000000 ∧ st.l.length < 999999 ∧ text.size ≤ maxLen := by
              have a1 := HV.out.2.2.1; have a2 := Hok.out.1.t; have a3 := HM1.out.lg; have a4 := HM1.out.len; have a5 := Hok.out.2.1
              dsimp only at a2
              rw [HM1.out.sec]
              unfold maxLen
              omega
            have HE0 := Lib.hid hE
            clear hX hE
            by_cases w0 : wh = 0
            · subst w0
              have HE := HE0
              obtain ⟨⟨st', tok, z⟩, hlg⟩ : ∃ q, q = st.logs secret text now := ⟨_, rfl⟩
              have hMl := HM1.out.logs hlg.symm
              have HL := Lib.hid (And.intro hlg.symm hMl)
              clear hlg hMl
              have heq : (tok.toList == tok.toList) = true := by simp
              go_wp2_with fail
              refine (HM1.out.cs.login2 (secret := secret) (nonce := text) (now := now) HE.out.1 HE.out.2.1 HE.out.2.2.1 rfl HE.out.2.2.2.1 HE.out.2.2.2.2.1 HE.out.2.2.2.2.2.1 HL.out.1).mono ?_
              rintro e w3 ⟨rfl, hc3, hk3⟩
              have hr3 := HM1.out.rs.kp hk3.kp (by decide) (by decide) hc3.chg
              have ht3 : Toks w3 w.heap.size _ tokens := hk3.row (by decide) (by decide) HM1.out.tk
              have hb3 := hk3.blk _ _ _ (by decide) (by decide) HX.out
              have e2 : w3.cell? ⟨px, 2, none⟩ = some (.string text) := hb3.cell 2
              have e3 : w3.cell? ⟨px, 3, none⟩ = some (.int .u64 (now : Int)) := hb3.cell 3
              have H3 := Lib.hid (And.intro hc3 (And.intro hr3 (And.intro ht3 hb3)))
              clear hc3 hk3 hr3 ht3 hb3
              go_wp2_with fail
              refine (H3.out.2.1.login (secret := secret) (nonce := text) (now := now) HE.out.2.1 HE.out.2.2.1 rfl HE.out.2.2.2.1 HE.out.2.2.2.2.1 HE.out.2.2.2.2.2.1 HL.out.1).mono ?_
              rintro e w4 ⟨rfl, hr4, hk4⟩
              have hc4 := H3.out.1.kp hk4 (by decide) (by decide) hr4.chg
              have ht4 : Toks w4 w.heap.size _ tokens := hk4.row (by decide) H3.out.2.2.1
              have hb4 := hk4.blk _ _ _ (by decide) H3.out.2.2.2
              have H4 := Lib.hid (And.intro hc4 (And.intro hr4 (And.intro ht4 hb4)))
              clear hc4 hr4 ht4 hb4 hk4
              by_cases hz : z = 0
              · subst hz
                obtain ⟨A4, k4, rfl, _⟩ := H4.out.2.2.1.form
                obtain ⟨m, hm⟩ : ∃ m, m = tokens.length := ⟨_, rfl⟩
                have Hm := Lib.hid hm
                have hm6 : m < 1000 := by have := HM1.out.tl; omega
                obtain ⟨i0, hi0, hz0, hz1, hz2⟩ := info_some infoStr
                obtain ⟨wn, hwn⟩ : ∃ W, W = w4.alloc (.cells #[.string tok] 9) := ⟨_, rfl⟩
                have yn : w4.grownBy wn none := by rw [hwn]; exact by_alloc (by_refl _ _) _
                have hbn : Blk wn w4.heap.size 9 #[.string tok] := by rw [hwn]; exact Blk.new _ _ _
                have hO : wn.ownsRow w.heap.size 9 1 (.slice A4 m k4) m (tokens.map .string) := by rw [hm]; exact own_chg H4.out.2.2.1 (Chg.of_none (S := fun _ => False) yn) (fun _ _ h => h)
                have HN := Lib.hid (And.intro hO (And.intro (World.news_of_block hbn) (And.intro hi0 (And.intro hz0 (And.intro hz1 (And.intro hz2 (And.intro hwn yn)))))))
                rw [← hm]
                clear hO hbn hi0 hz0 hz1 hz2 hwn yn hm
                go_wp2_with (at_builtin; rw [← HN.out.2.2.2.2.2.2.1]; refine wpList_append_own_at _ rfl (.tmp 104) (.tmp 106) 31 rfl w.heap.size 9 i0 _ 1 16 Try.underlying31 HN.out.2.2.1 HN.out.2.2.2.1 HN.out.2.2.2.2.1 HN.out.2.2.2.2.2.1 rfl (by decide) (.slice A4 m k4) m (tokens.map .string) rfl HN.out.1 ⟨w4.heap.size, 0, none⟩ 1 1 [.string tok] rfl ?k1 ?k2 ?k3 ?k4 ?k5 ?k6 ?_)
                case k1 => rfl
                case k2 => exact HN.out.2.1
                case k3 => intro u hu; rw [List.mem_singleton.1 hu]; rfl
                case k4 => unfold maxLen; omega
                case k5 => omega
                case k6 => exact Nat.le_trans H4.out.1.bound HN.out.2.2.2.2.2.2.2.size
                intro v5 w5 ho5 y5 _ hv5
                have hf := Mid.app (tok := tok) (v' := v5) (wr := wn) (HL.out.2.mid (H4.out.1.grown HN.out.2.2.2.2.2.2.2) (H4.out.2.1.grown HN.out.2.2.2.2.2.2.2)) (HL.out.2.tok rfl) HN.out.1 Hm.out ho5 y5
                have hb5 := (H4.out.2.2.2.grown HN.out.2.2.2.2.2.2.2 (by simp)).grown y5 (fun e => own_blk_ne HN.out.1 (H4.out.2.2.2.grown HN.out.2.2.2.2.2.2.2 (by simp)) (by decide) e.symm)
                have HF := Lib.hid (And.intro hf hb5)
                clear hf hb5 ho5 y5 hv5
                go_wp2_with fail
                go_meet
                exact ⟨_, _, HF.out.1, HF.out.2⟩
              · have HF := Lib.hid (And.intro (Mid.noapp (HL.out.2.mid H4.out.1 H4.out.2.1) H4.out.2.2.1) H4.out.2.2.2)
                go_wp2_with fail
                go_meet
                exact ⟨_, _, HF.out.1, HF.out.2⟩
            · by_cases w1 : wh = 1
              · subst w1
                have HE := Lib.hid (And.intro HE0.out.2.2.2.2.2.2 HE0.out.2)
                obtain ⟨⟨st', tok, z⟩, hlg⟩ : ∃ q, q = st.logs text text now := ⟨_, rfl⟩
                have hMl := HM1.out.logs hlg.symm
                have HL := Lib.hid (And.intro hlg.symm hMl)
                clear hlg hMl
                have heq : (tok.toList == tok.toList) = true := by simp
                go_wp2_with fail
                refine (HM1.out.cs.login2 (secret := text) (nonce := text) (now := now) HE.out.1 HE.out.2.1 HE.out.2.2.1 rfl HE.out.2.2.2.1 HE.out.2.2.2.2.1 HE.out.2.2.2.2.2.1 HL.out.1).mono ?_
                rintro e w3 ⟨rfl, hc3, hk3⟩
                have hr3 := HM1.out.rs.kp hk3.kp (by decide) (by decide) hc3.chg
                have ht3 : Toks w3 w.heap.size _ tokens := hk3.row (by decide) (by decide) HM1.out.tk
                have hb3 := hk3.blk _ _ _ (by decide) (by decide) HX.out
                have e2 : w3.cell? ⟨px, 2, none⟩ = some (.string text) := hb3.cell 2
                have e3 : w3.cell? ⟨px, 3, none⟩ = some (.int .u64 (now : Int)) := hb3.cell 3
                have H3 := Lib.hid (And.intro hc3 (And.intro hr3 (And.intro ht3 hb3)))
                clear hc3 hk3 hr3 ht3 hb3
                go_wp2_with fail
                refine (H3.out.2.1.login (secret := text) (nonce := text) (now := now) HE.out.2.1 HE.out.2.2.1 rfl HE.out.2.2.2.1 HE.out.2.2.2.2.1 HE.out.2.2.2.2.2.1 HL.out.1).mono ?_
                rintro e w4 ⟨rfl, hr4, hk4⟩
                have hc4 := H3.out.1.kp hk4 (by decide) (by decide) hr4.chg
                have ht4 : Toks w4 w.heap.size _ tokens := hk4.row (by decide) H3.out.2.2.1
                have hb4 := hk4.blk _ _ _ (by decide) H3.out.2.2.2
                have H4 := Lib.hid (And.intro hc4 (And.intro hr4 (And.intro ht4 hb4)))
                clear hc4 hr4 ht4 hb4 hk4
                by_cases hz : z = 0
                · subst hz
                  obtain ⟨A4, k4, rfl, _⟩ := H4.out.2.2.1.form
                  obtain ⟨m, hm⟩ : ∃ m, m = tokens.length := ⟨_, rfl⟩
                  have Hm := Lib.hid hm
                  have hm6 : m < 1000 := by have := HM1.out.tl; omega
                  obtain ⟨i0, hi0, hz0, hz1, hz2⟩ := info_some infoStr
                  obtain ⟨wn, hwn⟩ : ∃ W, W = w4.alloc (.cells #[.string tok] 9) := ⟨_, rfl⟩
                  have yn : w4.grownBy wn none := by rw [hwn]; exact by_alloc (by_refl _ _) _
                  have hbn : Blk wn w4.heap.size 9 #[.string tok] := by rw [hwn]; exact Blk.new _ _ _
                  have hO : wn.ownsRow w.heap.size 9 1 (.slice A4 m k4) m (tokens.map .string) := by rw [hm]; exact own_chg H4.out.2.2.1 (Chg.of_none (S := fun _ => False) yn) (fun _ _ h => h)
                  have HN := Lib.hid (And.intro hO (And.intro (World.news_of_block hbn) (And.intro hi0 (And.intro hz0 (And.intro hz1 (And.intro hz2 (And.intro hwn yn)))))))
                  rw [← hm]
                  clear hO hbn hi0 hz0 hz1 hz2 hwn yn hm
                  go_wp2_with (at_builtin; rw [← HN.out.2.2.2.2.2.2.1]; refine wpList_append_own_at _ rfl (.tmp 104) (.tmp 106) 31 rfl w.heap.size 9 i0 _ 1 16 Try.underlying31 HN.out.2.2.1 HN.out.2.2.2.1 HN.out.2.2.2.2.1 HN.out.2.2.2.2.2.1 rfl (by decide) (.slice A4 m k4) m (tokens.map .string) rfl HN.out.1 ⟨w4.heap.size, 0, none⟩ 1 1 [.string tok] rfl ?k1 ?k2 ?k3 ?k4 ?k5 ?k6 ?_)
                  case k1 => rfl
                  case k2 => exact HN.out.2.1
                  case k3 => intro u hu; rw [List.mem_singleton.1 hu]; rfl
                  case k4 => unfold maxLen; omega
                  case k5 => omega
                  case k6 => exact Nat.le_trans H4.out.1.bound HN.out.2.2.2.2.2.2.2.size
                  intro v5 w5 ho5 y5 _ hv5
                  have hf := Mid.app (tok := tok) (v' := v5) (wr := wn) (HL.out.2.mid (H4.out.1.grown HN.out.2.2.2.2.2.2.2) (H4.out.2.1.grown HN.out.2.2.2.2.2.2.2)) (HL.out.2.tok rfl) HN.out.1 Hm.out ho5 y5
                  have hb5 := (H4.out.2.2.2.grown HN.out.2.2.2.2.2.2.2 (by simp)).grown y5 (fun e => own_blk_ne HN.out.1 (H4.out.2.2.2.grown HN.out.2.2.2.2.2.2.2 (by simp)) (by decide) e.symm)
                  have HF := Lib.hid (And.intro hf hb5)
                  clear hf hb5 ho5 y5 hv5
                  go_wp2_with fail
                  go_meet
                  exact ⟨_, _, HF.out.1, HF.out.2⟩
                · have HF := Lib.hid (And.intro (Mid.noapp (HL.out.2.mid H4.out.1 H4.out.2.1) H4.out.2.2.1) H4.out.2.2.2)
                  go_wp2_with fail
                  go_meet
                  exact ⟨_, _, HF.out.1, HF.out.2⟩
              · by_cases w2 : wh = 2
                · subst w2
                  obtain ⟨T, hT⟩ : ∃ T, T = tokOf tokens ⟨2, n, text, now⟩ := ⟨_, rfl⟩
                  have hTs : T.size ≤ maxLen := by rw [hT]; exact tokOf_size HM1.out.tsz HE0.out.2.2.2.2.2.2
                  have kT : ∀ W v', Toks W w.heap.size v' tokens → Calls Try.prog 11 #[v', .agg #[.int .i64 2, .int .i64 n, .string text, .int .u64 (now : Int)]] W fun e w' => e = .returned (.string T) ∧ W.grownBy w' none := fun W v' h => by rw [hT]; exact token_any W _ v' tokens ⟨2, n, text, now⟩ h (by have := HM1.out.tl; omega)
                  obtain ⟨z, hz⟩ : ∃ z, z = st.use T now := ⟨_, rfl⟩
                  have HT := Lib.hid (And.intro hTs (And.intro kT (And.intro hz.symm HE0.out.2.2.2.1)))
                  clear hT hTs kT hz
                  have hi4 : (Try.prog.info? 33).map (·.size) = some ([.int .i64 2, .int .i64 n, .string text, .int .u64 (now : Int)] : List Value).length := by show _ = some 4; kernel_rfl
                  have Hi4 := Lib.hid hi4
                  clear hi4
                  go_wp2_with fail
                  have hM2 := HM1.out.grown (by_drew (by_refl W1 none))
                  have HM2 := Lib.hid hM2
                  clear hM2
                  refine wp_region_noPanic ?_
                  refine wp_region_held_drew (S := fun W => Blk W px 33 #[.int .i64 2, .int .i64 n, .string text, .int .u64 (now : Int)]) (by kernel_rfl) (HX.out.drew) (fun hHeld => ?_)
                  refine wpAnyH_take (i := 0) (oi := _) (v := _) rfl (by kernel_rfl) (by kernel_rfl) (by kernel_rfl) (fun _ _ _ h => h) (Or.inl ⟨by rfl, fun _ _ => by go_simp; try rfl⟩) hHeld ?_
                  try simp only [Act.put, List.getElem_toArray, List.getElem_cons_zero, List.getElem_cons_succ, List.setIfInBounds_toArray, List.set_cons_zero, List.set_cons_succ]
                  refine wpAnyH_take (i := 1) (oi := _) (v := _) rfl (by kernel_rfl) (by kernel_rfl) (by kernel_rfl) (fun _ _ _ h => h) (Or.inl ⟨by rfl, fun _ _ => by go_simp; try rfl⟩) hHeld ?_
                  try simp only [Act.put, List.getElem_toArray, List.getElem_cons_zero, List.getElem_cons_succ, List.setIfInBounds_toArray, List.set_cons_zero, List.set_cons_succ]
                  refine wpAnyH_take (i := 2) (oi := _) (v := _) rfl (by kernel_rfl) (by kernel_rfl) (by kernel_rfl) (fun _ _ _ h => h) (yieldsIf_load_mid (by rfl) _ _ rfl _ _ rfl ([.int .i64 2, .int .i64 n, .string text, .int .u64 (now : Int)] : List Value) _ (fun _ h => Blk.range h) Try.underlying33 rfl Hi4.out) hHeld ?_
                  try simp only [Act.put, List.getElem_toArray, List.getElem_cons_zero, List.getElem_cons_succ, List.setIfInBounds_toArray, List.set_cons_zero, List.set_cons_succ]
                  refine wpAnyH_take (i := 4) (oi := _) (v := _) rfl (by kernel_rfl) (by kernel_rfl) (by kernel_rfl) (fun _ _ _ h => h) (Or.inl ⟨by rfl, fun _ _ => by go_simp; try rfl⟩) hHeld ?_
                  try simp only [Act.put, List.getElem_toArray, List.getElem_cons_zero, List.getElem_cons_succ, List.setIfInBounds_toArray, List.set_cons_zero, List.set_cons_succ]
                  refine wpAnyH_take (i := 5) (oi := _) (v := _) rfl (by kernel_rfl) (by kernel_rfl) (by kernel_rfl) (fun _ _ _ h => h) (Or.inl ⟨by rfl, fun _ h => by have hx := h.cell 3; (try simp only [List.getElem_toArray, List.getElem_cons_zero, List.getElem_cons_succ]); go_simp; try rfl⟩) hHeld ?_
                  try simp only [Act.put, List.getElem_toArray, List.getElem_cons_zero, List.getElem_cons_succ, List.setIfInBounds_toArray, List.set_cons_zero, List.set_cons_succ]
                  refine wpAnyH_take (i := 7) (oi := _) (v := _) rfl (by kernel_rfl) (by kernel_rfl) (by kernel_rfl) (fun _ _ _ h => h) (Or.inl ⟨by rfl, fun _ _ => by go_simp; try rfl⟩) hHeld ?_
                  try simp only [Act.put, List.getElem_toArray, List.getElem_cons_zero, List.getElem_cons_succ, List.setIfInBounds_toArray, List.set_cons_zero, List.set_cons_succ]
                  refine wpAnyH_take (i := 8) (oi := _) (v := _) rfl (by kernel_rfl) (by kernel_rfl) (by kernel_rfl) (fun _ _ _ h => h) (Or.inl ⟨by rfl, fun _ _ => by go_simp; try rfl⟩) hHeld ?_
                  try simp only [Act.put, List.getElem_toArray, List.getElem_cons_zero, List.getElem_cons_succ, List.setIfInBounds_toArray, List.set_cons_zero, List.set_cons_succ]
                  refine wpAnyH_take (i := 9) (oi := _) (v := _) rfl (by kernel_rfl) (by kernel_rfl) (by kernel_rfl) (fun _ _ _ h => h) (yieldsIf_load_mid (by rfl) _ _ rfl _ _ rfl ([.int .i64 2, .int .i64 n, .string text, .int .u64 (now : Int)] : List Value) _ (fun _ h => Blk.range h) Try.underlying33 rfl Hi4.out) hHeld ?_
                  try simp only [Act.put, List.getElem_toArray, List.getElem_cons_zero, List.getElem_cons_succ, List.setIfInBounds_toArray, List.set_cons_zero, List.set_cons_succ]
                  refine wpAnyH_take (i := 11) (oi := _) (v := _) rfl (by kernel_rfl) (by kernel_rfl) (by kernel_rfl) (fun _ _ _ h => h) (Or.inl ⟨by rfl, fun _ _ => by go_simp; try rfl⟩) hHeld ?_
                  try simp only [Act.put, List.getElem_toArray, List.getElem_cons_zero, List.getElem_cons_succ, List.setIfInBounds_toArray, List.set_cons_zero, List.set_cons_succ]
                  refine wpAnyH_take (i := 12) (oi := _) (v := _) rfl (by kernel_rfl) (by kernel_rfl) (by kernel_rfl) (fun _ _ _ h => h) (Or.inl ⟨by rfl, fun _ h => by have hx := h.cell 3; (try simp only [List.getElem_toArray, List.getElem_cons_zero, List.getElem_cons_succ]); go_simp; try rfl⟩) hHeld ?_
                  try simp only [Act.put, List.getElem_toArray, List.getElem_cons_zero, List.getElem_cons_succ, List.setIfInBounds_toArray, List.set_cons_zero, List.set_cons_succ]
                  refine wpAnyH_ready (rs := [3]) (by kernel_rfl) (by simp) ?_
                  refine AllReadyH.cons (o := _) rfl (fun K hK => ?_) AllReadyH.nil
                  go_simp
                  refine (HT.out.2.1 _ _ HM2.out.tk).mono ?_
                  rintro e w3 ⟨rfl, y3⟩
                  dsimp only
                  refine hK.out _ _ (hHeld.grown y3 (by simp)) (fun hHeld => ?_)
                  clear hK K
                  try simp only [Act.put, List.getElem_toArray, List.getElem_cons_zero, List.getElem_cons_succ, List.setIfInBounds_toArray, List.set_cons_zero, List.set_cons_succ]
                  have HM3 := Lib.hid (HM2.out.grown y3)
                  clear y3
                  refine wpAnyH_ready (rs := [6]) (by kernel_rfl) (by simp) ?_
                  refine AllReadyH.cons (o := _) rfl (fun K hK => ?_) AllReadyH.nil
                  go_simp
                  refine (HM3.out.cs.use2 HT.out.1 rfl HT.out.2.2.2 HT.out.2.2.1).mono ?_
                  rintro e w4 ⟨rfl, y4⟩
                  dsimp only
                  refine hK.out _ _ (hHeld.grown y4 (by simp)) (fun hHeld => ?_)
                  clear hK K
                  try simp only [Act.put, List.getElem_toArray, List.getElem_cons_zero, List.getElem_cons_succ, List.setIfInBounds_toArray, List.set_cons_zero, List.set_cons_succ]
                  have HM4 := Lib.hid (HM3.out.grown y4)
                  clear y4
                  refine wpAnyH_ready (rs := [10]) (by kernel_rfl) (by simp) ?_
                  refine AllReadyH.cons (o := _) rfl (fun K hK => ?_) AllReadyH.nil
                  go_simp
                  refine (HT.out.2.1 _ _ HM4.out.tk).mono ?_
                  rintro e w5 ⟨rfl, y5⟩
                  dsimp only
                  refine hK.out _ _ (hHeld.grown y5 (by simp)) (fun hHeld => ?_)
                  clear hK K
                  try simp only [Act.put, List.getElem_toArray, List.getElem_cons_zero, List.getElem_cons_succ, List.setIfInBounds_toArray, List.set_cons_zero, List.set_cons_succ]
                  have HM5 := Lib.hid (HM4.out.grown y5)
                  clear y5
                  refine wpAnyH_ready (rs := [13]) (by kernel_rfl) (by simp) ?_
                  refine AllReadyH.cons (o := _) rfl (fun K hK => ?_) AllReadyH.nil
                  go_simp
                  refine (HM5.out.rs.use rfl HT.out.2.2.2 HT.out.2.2.1).mono ?_
                  rintro e w6 ⟨rfl, y6⟩
                  dsimp only
                  refine hK.out _ _ (hHeld.grown y6 (by simp)) (fun hHeld => ?_)
                  clear hK K
                  try simp only [Act.put, List.getElem_toArray, List.getElem_cons_zero, List.getElem_cons_succ, List.setIfInBounds_toArray, List.set_cons_zero, List.set_cons_succ]
                  have HM6 := Lib.hid (HM5.out.grown y6)
                  clear y6
                  refine wpAnyH_take (i := 14) (oi := _) (v := _) rfl (by kernel_rfl) (by kernel_rfl) (by kernel_rfl) (fun _ _ _ h => h) (Or.inl ⟨by rfl, fun _ _ => by go_simp; try rfl⟩) hHeld ?_
                  try simp only [Act.put, List.getElem_toArray, List.getElem_cons_zero, List.getElem_cons_succ, List.setIfInBounds_toArray, List.set_cons_zero, List.set_cons_succ]
                  refine wpAnyH_done (by kernel_rfl) (NoPanic.normal ?_) _
                  have HH := Lib.hid hHeld
                  clear hHeld
                  go_wp2_with fail
                  go_meet
                  exact ⟨_, _, HM6.out.next, HH.out⟩
                · by_cases w4 : wh = 4
                  · subst w4
                    obtain ⟨T, hT⟩ : ∃ T, T = tokOf tokens ⟨4, n, text, now⟩ := ⟨_, rfl⟩
                    have hTs : T.size ≤ maxLen := by rw [hT]; exact tokOf_size HM1.out.tsz HE0.out.2.2.2.2.2.2
                    have kT : ∀ W v', Toks W w.heap.size v' tokens → Calls Try.prog 11 #[v', .agg #[.int .i64 4, .int .i64 n, .string text, .int .u64 (now : Int)]] W fun e w' => e = .returned (.string T) ∧ W.grownBy w' none := fun W v' h => by rw [hT]; exact token_any W _ v' tokens ⟨4, n, text, now⟩ h (by have := HM1.out.tl; omega)
                    obtain ⟨z, hz⟩ : ∃ z, z = st.use T now := ⟨_, rfl⟩
                    have HT := Lib.hid (And.intro hTs (And.intro kT (And.intro hz.symm HE0.out.2.2.2.1)))
                    clear hT hTs kT hz
                    have hi4 : (Try.prog.info? 33).map (·.size) = some ([.int .i64 4, .int .i64 n, .string text, .int .u64 (now : Int)] : List Value).length := by show _ = some 4; kernel_rfl
                    have Hi4 := Lib.hid hi4
                    clear hi4
                    go_wp2_with fail
                    have hM2 := HM1.out.grown (by_drew (by_refl W1 none))
                    have HM2 := Lib.hid hM2
                    clear hM2
                    refine wp_region_noPanic ?_
                    refine wp_region_held_drew (S := fun W => Blk W px 33 #[.int .i64 4, .int .i64 n, .string text, .int .u64 (now : Int)]) (by kernel_rfl) (HX.out.drew) (fun hHeld => ?_)
                    refine wpAnyH_take (i := 0) (oi := _) (v := _) rfl (by kernel_rfl) (by kernel_rfl) (by kernel_rfl) (fun _ _ _ h => h) (Or.inl ⟨by rfl, fun _ _ => by go_simp; try rfl⟩) hHeld ?_
                    try simp only [Act.put, List.getElem_toArray, List.getElem_cons_zero, List.getElem_cons_succ, List.setIfInBounds_toArray, List.set_cons_zero, List.set_cons_succ]
                    refine wpAnyH_take (i := 1) (oi := _) (v := _) rfl (by kernel_rfl) (by kernel_rfl) (by kernel_rfl) (fun _ _ _ h => h) (Or.inl ⟨by rfl, fun _ _ => by go_simp; try rfl⟩) hHeld ?_
                    try simp only [Act.put, List.getElem_toArray, List.getElem_cons_zero, List.getElem_cons_succ, List.setIfInBounds_toArray, List.set_cons_zero, List.set_cons_succ]
                    refine wpAnyH_take (i := 2) (oi := _) (v := _) rfl (by kernel_rfl) (by kernel_rfl) (by kernel_rfl) (fun _ _ _ h => h) (yieldsIf_load_mid (by rfl) _ _ rfl _ _ rfl ([.int .i64 4, .int .i64 n, .string text, .int .u64 (now : Int)] : List Value) _ (fun _ h => Blk.range h) Try.underlying33 rfl Hi4.out) hHeld ?_
                    try simp only [Act.put, List.getElem_toArray, List.getElem_cons_zero, List.getElem_cons_succ, List.setIfInBounds_toArray, List.set_cons_zero, List.set_cons_succ]
                    refine wpAnyH_take (i := 4) (oi := _) (v := _) rfl (by kernel_rfl) (by kernel_rfl) (by kernel_rfl) (fun _ _ _ h => h) (Or.inl ⟨by rfl, fun _ _ => by go_simp; try rfl⟩) hHeld ?_
                    try simp only [Act.put, List.getElem_toArray, List.getElem_cons_zero, List.getElem_cons_succ, List.setIfInBounds_toArray, List.set_cons_zero, List.set_cons_succ]
                    refine wpAnyH_take (i := 5) (oi := _) (v := _) rfl (by kernel_rfl) (by kernel_rfl) (by kernel_rfl) (fun _ _ _ h => h) (Or.inl ⟨by rfl, fun _ h => by have hx := h.cell 3; (try simp only [List.getElem_toArray, List.getElem_cons_zero, List.getElem_cons_succ]); go_simp; try rfl⟩) hHeld ?_
                    try simp only [Act.put, List.getElem_toArray, List.getElem_cons_zero, List.getElem_cons_succ, List.setIfInBounds_toArray, List.set_cons_zero, List.set_cons_succ]
                    refine wpAnyH_take (i := 7) (oi := _) (v := _) rfl (by kernel_rfl) (by kernel_rfl) (by kernel_rfl) (fun _ _ _ h => h) (Or.inl ⟨by rfl, fun _ _ => by go_simp; try rfl⟩) hHeld ?_
                    try simp only [Act.put, List.getElem_toArray, List.getElem_cons_zero, List.getElem_cons_succ, List.setIfInBounds_toArray, List.set_cons_zero, List.set_cons_succ]
                    refine wpAnyH_take (i := 8) (oi := _) (v := _) rfl (by kernel_rfl) (by kernel_rfl) (by kernel_rfl) (fun _ _ _ h => h) (Or.inl ⟨by rfl, fun _ _ => by go_simp; try rfl⟩) hHeld ?_
                    try simp only [Act.put, List.getElem_toArray, List.getElem_cons_zero, List.getElem_cons_succ, List.setIfInBounds_toArray, List.set_cons_zero, List.set_cons_succ]
                    refine wpAnyH_take (i := 9) (oi := _) (v := _) rfl (by kernel_rfl) (by kernel_rfl) (by kernel_rfl) (fun _ _ _ h => h) (yieldsIf_load_mid (by rfl) _ _ rfl _ _ rfl ([.int .i64 4, .int .i64 n, .string text, .int .u64 (now : Int)] : List Value) _ (fun _ h => Blk.range h) Try.underlying33 rfl Hi4.out) hHeld ?_
                    try simp only [Act.put, List.getElem_toArray, List.getElem_cons_zero, List.getElem_cons_succ, List.setIfInBounds_toArray, List.set_cons_zero, List.set_cons_succ]
                    refine wpAnyH_take (i := 11) (oi := _) (v := _) rfl (by kernel_rfl) (by kernel_rfl) (by kernel_rfl) (fun _ _ _ h => h) (Or.inl ⟨by rfl, fun _ _ => by go_simp; try rfl⟩) hHeld ?_
                    try simp only [Act.put, List.getElem_toArray, List.getElem_cons_zero, List.getElem_cons_succ, List.setIfInBounds_toArray, List.set_cons_zero, List.set_cons_succ]
                    refine wpAnyH_take (i := 12) (oi := _) (v := _) rfl (by kernel_rfl) (by kernel_rfl) (by kernel_rfl) (fun _ _ _ h => h) (Or.inl ⟨by rfl, fun _ h => by have hx := h.cell 3; (try simp only [List.getElem_toArray, List.getElem_cons_zero, List.getElem_cons_succ]); go_simp; try rfl⟩) hHeld ?_
                    try simp only [Act.put, List.getElem_toArray, List.getElem_cons_zero, List.getElem_cons_succ, List.setIfInBounds_toArray, List.set_cons_zero, List.set_cons_succ]
                    refine wpAnyH_ready (rs := [3]) (by kernel_rfl) (by simp) ?_
                    refine AllReadyH.cons (o := _) rfl (fun K hK => ?_) AllReadyH.nil
                    go_simp
                    refine (HT.out.2.1 _ _ HM2.out.tk).mono ?_
                    rintro e w3 ⟨rfl, y3⟩
                    dsimp only
                    refine hK.out _ _ (hHeld.grown y3 (by simp)) (fun hHeld => ?_)
                    clear hK K
                    try simp only [Act.put, List.getElem_toArray, List.getElem_cons_zero, List.getElem_cons_succ, List.setIfInBounds_toArray, List.set_cons_zero, List.set_cons_succ]
                    have HM3 := Lib.hid (HM2.out.grown y3)
                    clear y3
                    refine wpAnyH_ready (rs := [6]) (by kernel_rfl) (by simp) ?_
                    refine AllReadyH.cons (o := _) rfl (fun K hK => ?_) AllReadyH.nil
                    go_simp
                    refine (HM3.out.cs.use2 HT.out.1 rfl HT.out.2.2.2 HT.out.2.2.1).mono ?_
                    rintro e w4 ⟨rfl, y4⟩
                    dsimp only
                    refine hK.out _ _ (hHeld.grown y4 (by simp)) (fun hHeld => ?_)
                    clear hK K
                    try simp only [Act.put, List.getElem_toArray, List.getElem_cons_zero, List.getElem_cons_succ, List.setIfInBounds_toArray, List.set_cons_zero, List.set_cons_succ]
                    have HM4 := Lib.hid (HM3.out.grown y4)
                    clear y4
                    refine wpAnyH_ready (rs := [10]) (by kernel_rfl) (by simp) ?_
                    refine AllReadyH.cons (o := _) rfl (fun K hK => ?_) AllReadyH.nil
                    go_simp
                    refine (HT.out.2.1 _ _ HM4.out.tk).mono ?_
                    rintro e w5 ⟨rfl, y5⟩
                    dsimp only
                    refine hK.out _ _ (hHeld.grown y5 (by simp)) (fun hHeld => ?_)
                    clear hK K
                    try simp only [Act.put, List.getElem_toArray, List.getElem_cons_zero, List.getElem_cons_succ, List.setIfInBounds_toArray, List.set_cons_zero, List.set_cons_succ]
                    have HM5 := Lib.hid (HM4.out.grown y5)
                    clear y5
                    refine wpAnyH_ready (rs := [13]) (by kernel_rfl) (by simp) ?_
                    refine AllReadyH.cons (o := _) rfl (fun K hK => ?_) AllReadyH.nil
                    go_simp
                    refine (HM5.out.rs.use rfl HT.out.2.2.2 HT.out.2.2.1).mono ?_
                    rintro e w6 ⟨rfl, y6⟩
                    dsimp only
                    refine hK.out _ _ (hHeld.grown y6 (by simp)) (fun hHeld => ?_)
                    clear hK K
                    try simp only [Act.put, List.getElem_toArray, List.getElem_cons_zero, List.getElem_cons_succ, List.setIfInBounds_toArray, List.set_cons_zero, List.set_cons_succ]
                    have HM6 := Lib.hid (HM5.out.grown y6)
                    clear y6
                    refine wpAnyH_take (i := 14) (oi := _) (v := _) rfl (by kernel_rfl) (by kernel_rfl) (by kernel_rfl) (fun _ _ _ h => h) (Or.inl ⟨by rfl, fun _ _ => by go_simp; try rfl⟩) hHeld ?_
                    try simp only [Act.put, List.getElem_toArray, List.getElem_cons_zero, List.getElem_cons_succ, List.setIfInBounds_toArray, List.set_cons_zero, List.set_cons_succ]
                    refine wpAnyH_done (by kernel_rfl) (NoPanic.normal ?_) _
                    have HH := Lib.hid hHeld
                    clear hHeld
                    go_wp2_with fail
                    go_meet
                    exact ⟨_, _, HM6.out.next, HH.out⟩
                  · have q0 : decide (wh = 0) = false := decide_eq_false w0
                    have q1 : decide (wh = 1) = false := decide_eq_false w1
                    have q2 : decide (wh = 2) = false := decide_eq_false w2
                    have q4 : decide (wh = 4) = false := decide_eq_false w4
                    obtain ⟨T, hT⟩ : ∃ T, T = tokOf tokens ⟨wh, n, text, now⟩ := ⟨_, rfl⟩
                    have hTs : T.size ≤ maxLen := by rw [hT]; exact tokOf_size HM1.out.tsz HE0.out.2.2.2.2.2.2
                    have kT : ∀ W v', Toks W w.heap.size v' tokens → Calls Try.prog 11 #[v', .agg #[.int .i64 wh, .int .i64 n, .string text, .int .u64 (now : Int)]] W fun e w' => e = .returned (.string T) ∧ W.grownBy w' none := fun W v' h => by rw [hT]; exact token_any W _ v' tokens ⟨wh, n, text, now⟩ h (by have := HM1.out.tl; omega)
                    obtain ⟨z, hz⟩ : ∃ z, z = st.use T now := ⟨_, rfl⟩
                    have HT := Lib.hid (And.intro hTs (And.intro kT (And.intro hz.symm HE0.out.2.2.2.1)))
                    clear hT hTs kT hz
                    have hi4 : (Try.prog.info? 33).map (·.size) = some ([.int .i64 wh, .int .i64 n, .string text, .int .u64 (now : Int)] : List Value).length := by show _ = some 4; kernel_rfl
                    have Hi4 := Lib.hid hi4
                    clear hi4
                    go_wp2_with fail
                    have hM2 := HM1.out.grown (by_drew (by_refl W1 none))
                    have HM2 := Lib.hid hM2
                    clear hM2
                    refine wp_region_noPanic ?_
                    refine wp_region_held_drew (S := fun W => Blk W px 33 #[.int .i64 wh, .int .i64 n, .string text, .int .u64 (now : Int)]) (by kernel_rfl) (HX.out.drew) (fun hHeld => ?_)
                    refine wpAnyH_take (i := 0) (oi := _) (v := _) rfl (by kernel_rfl) (by kernel_rfl) (by kernel_rfl) (fun _ _ _ h => h) (Or.inl ⟨by rfl, fun _ _ => by go_simp; try rfl⟩) hHeld ?_
                    try simp only [Act.put, List.getElem_toArray, List.getElem_cons_zero, List.getElem_cons_succ, List.setIfInBounds_toArray, List.set_cons_zero, List.set_cons_succ]
                    refine wpAnyH_take (i := 1) (oi := _) (v := _) rfl (by kernel_rfl) (by kernel_rfl) (by kernel_rfl) (fun _ _ _ h => h) (Or.inl ⟨by rfl, fun _ _ => by go_simp; try rfl⟩) hHeld ?_
                    try simp only [Act.put, List.getElem_toArray, List.getElem_cons_zero, List.getElem_cons_succ, List.setIfInBounds_toArray, List.set_cons_zero, List.set_cons_succ]
                    refine wpAnyH_take (i := 2) (oi := _) (v := _) rfl (by kernel_rfl) (by kernel_rfl) (by kernel_rfl) (fun _ _ _ h => h) (yieldsIf_load_mid (by rfl) _ _ rfl _ _ rfl ([.int .i64 wh, .int .i64 n, .string text, .int .u64 (now : Int)] : List Value) _ (fun _ h => Blk.range h) Try.underlying33 rfl Hi4.out) hHeld ?_
                    try simp only [Act.put, List.getElem_toArray, List.getElem_cons_zero, List.getElem_cons_succ, List.setIfInBounds_toArray, List.set_cons_zero, List.set_cons_succ]
                    refine wpAnyH_take (i := 4) (oi := _) (v := _) rfl (by kernel_rfl) (by kernel_rfl) (by kernel_rfl) (fun _ _ _ h => h) (Or.inl ⟨by rfl, fun _ _ => by go_simp; try rfl⟩) hHeld ?_
                    try simp only [Act.put, List.getElem_toArray, List.getElem_cons_zero, List.getElem_cons_succ, List.setIfInBounds_toArray, List.set_cons_zero, List.set_cons_succ]
                    refine wpAnyH_take (i := 5) (oi := _) (v := _) rfl (by kernel_rfl) (by kernel_rfl) (by kernel_rfl) (fun _ _ _ h => h) (Or.inl ⟨by rfl, fun _ h => by have hx := h.cell 3; (try simp only [List.getElem_toArray, List.getElem_cons_zero, List.getElem_cons_succ]); go_simp; try rfl⟩) hHeld ?_
                    try simp only [Act.put, List.getElem_toArray, List.getElem_cons_zero, List.getElem_cons_succ, List.setIfInBounds_toArray, List.set_cons_zero, List.set_cons_succ]
                    refine wpAnyH_take (i := 7) (oi := _) (v := _) rfl (by kernel_rfl) (by kernel_rfl) (by kernel_rfl) (fun _ _ _ h => h) (Or.inl ⟨by rfl, fun _ _ => by go_simp; try rfl⟩) hHeld ?_
                    try simp only [Act.put, List.getElem_toArray, List.getElem_cons_zero, List.getElem_cons_succ, List.setIfInBounds_toArray, List.set_cons_zero, List.set_cons_succ]
                    refine wpAnyH_take (i := 8) (oi := _) (v := _) rfl (by kernel_rfl) (by kernel_rfl) (by kernel_rfl) (fun _ _ _ h => h) (Or.inl ⟨by rfl, fun _ _ => by go_simp; try rfl⟩) hHeld ?_
                    try simp only [Act.put, List.getElem_toArray, List.getElem_cons_zero, List.getElem_cons_succ, List.setIfInBounds_toArray, List.set_cons_zero, List.set_cons_succ]
                    refine wpAnyH_take (i := 9) (oi := _) (v := _) rfl (by kernel_rfl) (by kernel_rfl) (by kernel_rfl) (fun _ _ _ h => h) (yieldsIf_load_mid (by rfl) _ _ rfl _ _ rfl ([.int .i64 wh, .int .i64 n, .string text, .int .u64 (now : Int)] : List Value) _ (fun _ h => Blk.range h) Try.underlying33 rfl Hi4.out) hHeld ?_
                    try simp only [Act.put, List.getElem_toArray, List.getElem_cons_zero, List.getElem_cons_succ, List.setIfInBounds_toArray, List.set_cons_zero, List.set_cons_succ]
                    refine wpAnyH_take (i := 11) (oi := _) (v := _) rfl (by kernel_rfl) (by kernel_rfl) (by kernel_rfl) (fun _ _ _ h => h) (Or.inl ⟨by rfl, fun _ _ => by go_simp; try rfl⟩) hHeld ?_
                    try simp only [Act.put, List.getElem_toArray, List.getElem_cons_zero, List.getElem_cons_succ, List.setIfInBounds_toArray, List.set_cons_zero, List.set_cons_succ]
                    refine wpAnyH_take (i := 12) (oi := _) (v := _) rfl (by kernel_rfl) (by kernel_rfl) (by kernel_rfl) (fun _ _ _ h => h) (Or.inl ⟨by rfl, fun _ h => by have hx := h.cell 3; (try simp only [List.getElem_toArray, List.getElem_cons_zero, List.getElem_cons_succ]); go_simp; try rfl⟩) hHeld ?_
                    try simp only [Act.put, List.getElem_toArray, List.getElem_cons_zero, List.getElem_cons_succ, List.setIfInBounds_toArray, List.set_cons_zero, List.set_cons_succ]
                    refine wpAnyH_ready (rs := [3]) (by kernel_rfl) (by simp) ?_
                    refine AllReadyH.cons (o := _) rfl (fun K hK => ?_) AllReadyH.nil
                    go_simp
                    refine (HT.out.2.1 _ _ HM2.out.tk).mono ?_
                    rintro e w3 ⟨rfl, y3⟩
                    dsimp only
                    refine hK.out _ _ (hHeld.grown y3 (by simp)) (fun hHeld => ?_)
                    clear hK K
                    try simp only [Act.put, List.getElem_toArray, List.getElem_cons_zero, List.getElem_cons_succ, List.setIfInBounds_toArray, List.set_cons_zero, List.set_cons_succ]
                    have HM3 := Lib.hid (HM2.out.grown y3)
                    clear y3
                    refine wpAnyH_ready (rs := [6]) (by kernel_rfl) (by simp) ?_
                    refine AllReadyH.cons (o := _) rfl (fun K hK => ?_) AllReadyH.nil
                    go_simp
                    refine (HM3.out.cs.logout2 HT.out.1 rfl HT.out.2.2.2 HT.out.2.2.1 rfl).mono ?_
                    rintro e w4 ⟨rfl, hc4, hk4⟩
                    dsimp only
                    refine hK.out _ _ (hk4.blk _ _ _ (by decide) (by decide) hHeld) (fun hHeld => ?_)
                    clear hK K
                    try simp only [Act.put, List.getElem_toArray, List.getElem_cons_zero, List.getElem_cons_succ, List.setIfInBounds_toArray, List.set_cons_zero, List.set_cons_succ]
                    have HM4 := Lib.hid (And.intro hc4 (And.intro (HM3.out.rs.kp hk4.kp (by decide) (by decide) hc4.chg) (show Toks w4 w.heap.size _ tokens from hk4.row (by decide) (by decide) HM3.out.tk)))
                    clear hc4 hk4
                    refine wpAnyH_ready (rs := [10]) (by kernel_rfl) (by simp) ?_
                    refine AllReadyH.cons (o := _) rfl (fun K hK => ?_) AllReadyH.nil
                    go_simp
                    refine (HT.out.2.1 _ _ HM4.out.2.2).mono ?_
                    rintro e w5 ⟨rfl, y5⟩
                    dsimp only
                    refine hK.out _ _ (hHeld.grown y5 (by simp)) (fun hHeld => ?_)
                    clear hK K
                    try simp only [Act.put, List.getElem_toArray, List.getElem_cons_zero, List.getElem_cons_succ, List.setIfInBounds_toArray, List.set_cons_zero, List.set_cons_succ]
                    have HM5 := Lib.hid (And.intro (HM4.out.1.grown y5) (And.intro (HM4.out.2.1.grown y5) (show Toks w5 w.heap.size _ tokens from own_chg HM4.out.2.2 (Chg.of_none (S := fun _ => False) y5) fun _ _ h => h)))
                    clear y5
                    refine wpAnyH_ready (rs := [13]) (by kernel_rfl) (by simp) ?_
                    refine AllReadyH.cons (o := _) rfl (fun K hK => ?_) AllReadyH.nil
                    go_simp
                    refine (HM5.out.2.1.logout rfl HT.out.2.2.2 HT.out.2.2.1 rfl).mono ?_
                    rintro e w6 ⟨rfl, hr6, hk6⟩
                    dsimp only
                    refine hK.out _ _ (hk6.blk _ _ _ (by decide) hHeld) (fun hHeld => ?_)
                    clear hK K
                    try simp only [Act.put, List.getElem_toArray, List.getElem_cons_zero, List.getElem_cons_succ, List.setIfInBounds_toArray, List.set_cons_zero, List.set_cons_succ]
                    have HM6 := Lib.hid (HM1.out.after (HM5.out.1.kp hk6 (by decide) (by decide) hr6.chg) hr6 (hk6.row (by decide) HM5.out.2.2))
                    clear hr6 hk6
                    refine wpAnyH_take (i := 14) (oi := _) (v := _) rfl (by kernel_rfl) (by kernel_rfl) (by kernel_rfl) (fun _ _ _ h => h) (Or.inl ⟨by rfl, fun _ _ => by go_simp; try rfl⟩) hHeld ?_
                    try simp only [Act.put, List.getElem_toArray, List.getElem_cons_zero, List.getElem_cons_succ, List.setIfInBounds_toArray, List.set_cons_zero, List.set_cons_succ]
                    refine wpAnyH_done (by kernel_rfl) (NoPanic.normal ?_) _
                    have HH := Lib.hid hHeld
                    clear hHeld
                    go_wp2_with fail
                    go_meet
                    exact ⟨_, _, HM6.out, HH.out⟩
          case rest =>
            obtain ⟨st2, tokens2, hM9, hb9⟩ := hcut
            have HM9 := Lib.hid hM9
            have HB9 := Lib.hid hb9
            clear hM9 hb9 d0 d2 d3
            obtain ⟨n1, hn1⟩ : ∃ n, n = (livL st2 now).length := ⟨_, rfl⟩
            obtain ⟨n2, hn2⟩ : ∃ n, n = (livL st2 0).length := ⟨_, rfl⟩
            have HN := Lib.hid (And.intro (show ((livL st2 now).length : Int) = (n1 : Int) by rw [hn1]) (And.intro (show ((livL st2 0).length : Int) = (n2 : Int) by rw [hn2]) Hok.out.2.1))
            clear hn1 hn2
            go_wp2_with fail
            have HM2 := Lib.hid (HM9.out.grown (by_drew (by_refl wc none)))
            refine wp_region_noPanic ?_
            refine wp_region_held_drew (S := fun W => Blk W px 33 #[.int .i64 wh, .int .i64 n, .string text, .int .u64 (now : Int)]) (by kernel_rfl) (HB9.out.drew) (fun hHeld => ?_)
            refine wpAnyH_take (i := 0) (oi := _) (v := _) rfl (by kernel_rfl) (by kernel_rfl) (by kernel_rfl) (fun _ _ _ h => h) (Or.inl ⟨by rfl, fun _ _ => by go_simp; try rfl⟩) hHeld ?_
            try simp only [Act.put, List.getElem_toArray, List.getElem_cons_zero, List.getElem_cons_succ, List.setIfInBounds_toArray, List.set_cons_zero, List.set_cons_succ]
            refine wpAnyH_take (i := 1) (oi := _) (v := _) rfl (by kernel_rfl) (by kernel_rfl) (by kernel_rfl) (fun _ _ _ h => h) (Or.inl ⟨by rfl, fun _ _ => by go_simp; try rfl⟩) hHeld ?_
            try simp only [Act.put, List.getElem_toArray, List.getElem_cons_zero, List.getElem_cons_succ, List.setIfInBounds_toArray, List.set_cons_zero, List.set_cons_succ]
            refine wpAnyH_take (i := 2) (oi := _) (v := _) rfl (by kernel_rfl) (by kernel_rfl) (by kernel_rfl) (fun _ _ _ h => h) (Or.inl ⟨by rfl, fun _ h => by have hx := h.cell 3; (try simp only [List.getElem_toArray, List.getElem_cons_zero, List.getElem_cons_succ]); go_simp; try rfl⟩) hHeld ?_
            try simp only [Act.put, List.getElem_toArray, List.getElem_cons_zero, List.getElem_cons_succ, List.setIfInBounds_toArray, List.set_cons_zero, List.set_cons_succ]
            refine wpAnyH_take (i := 4) (oi := _) (v := _) rfl (by kernel_rfl) (by kernel_rfl) (by kernel_rfl) (fun _ _ _ h => h) (Or.inl ⟨by rfl, fun _ _ => by go_simp; try rfl⟩) hHeld ?_
            try simp only [Act.put, List.getElem_toArray, List.getElem_cons_zero, List.getElem_cons_succ, List.setIfInBounds_toArray, List.set_cons_zero, List.set_cons_succ]
            refine wpAnyH_take (i := 5) (oi := _) (v := _) rfl (by kernel_rfl) (by kernel_rfl) (by kernel_rfl) (fun _ _ _ h => h) (Or.inl ⟨by rfl, fun _ _ => by go_simp; try rfl⟩) hHeld ?_
            try simp only [Act.put, List.getElem_toArray, List.getElem_cons_zero, List.getElem_cons_succ, List.setIfInBounds_toArray, List.set_cons_zero, List.set_cons_succ]
            refine wpAnyH_take (i := 6) (oi := _) (v := _) rfl (by kernel_rfl) (by kernel_rfl) (by kernel_rfl) (fun _ _ _ h => h) (Or.inl ⟨by rfl, fun _ h => by have hx := h.cell 3; (try simp only [List.getElem_toArray, List.getElem_cons_zero, List.getElem_cons_succ]); go_simp; try rfl⟩) hHeld ?_
            try simp only [Act.put, List.getElem_toArray, List.getElem_cons_zero, List.getElem_cons_succ, List.setIfInBounds_toArray, List.set_cons_zero, List.set_cons_succ]
            refine wpAnyH_ready (rs := [3]) (by kernel_rfl) (by simp) ?_
            refine AllReadyH.cons (o := _) rfl (fun K hK => ?_) AllReadyH.nil
            go_simp
            refine (HM2.out.cs.live2 rfl HN.out.2.2 HN.out.1).mono ?_
            rintro e w3 ⟨rfl, y3⟩
            dsimp only
            refine hK.out _ _ (hHeld.grown y3 (by simp)) (fun hHeld => ?_)
            clear hK K
            try simp only [Act.put, List.getElem_toArray, List.getElem_cons_zero, List.getElem_cons_succ, List.setIfInBounds_toArray, List.set_cons_zero, List.set_cons_succ]
            have HM3 := Lib.hid (HM2.out.grown y3)
            clear y3
            refine wpAnyH_ready (rs := [7]) (by kernel_rfl) (by simp) ?_
            refine AllReadyH.cons (o := _) rfl (fun K hK => ?_) AllReadyH.nil
            go_simp
            refine (HM3.out.rs.live rfl HN.out.2.2 HN.out.1).mono ?_
            rintro e w4 ⟨rfl, y4⟩
            dsimp only
            refine hK.out _ _ (hHeld.grown y4 (by simp)) (fun hHeld => ?_)
            clear hK K
            try simp only [Act.put, List.getElem_toArray, List.getElem_cons_zero, List.getElem_cons_succ, List.setIfInBounds_toArray, List.set_cons_zero, List.set_cons_succ]
            have HM4 := Lib.hid (HM3.out.grown y4)
            clear y4
            refine wpAnyH_take (i := 8) (oi := _) (v := _) rfl (by kernel_rfl) (by kernel_rfl) (by kernel_rfl) (fun _ _ _ h => h) (Or.inl ⟨by rfl, fun _ _ => by go_simp; try rfl⟩) hHeld ?_
            try simp only [Act.put, List.getElem_toArray, List.getElem_cons_zero, List.getElem_cons_succ, List.setIfInBounds_toArray, List.set_cons_zero, List.set_cons_succ]
            refine wpAnyH_take (i := 9) (oi := _) (v := _) rfl (by kernel_rfl) (by kernel_rfl) (by kernel_rfl) (fun _ _ _ h => h) (Or.inl ⟨by rfl, fun _ _ => by go_simp; try rfl⟩) hHeld ?_
            try simp only [Act.put, List.getElem_toArray, List.getElem_cons_zero, List.getElem_cons_succ, List.setIfInBounds_toArray, List.set_cons_zero, List.set_cons_succ]
            refine wpAnyH_take (i := 10) (oi := _) (v := _) rfl (by kernel_rfl) (by kernel_rfl) (by kernel_rfl) (fun _ _ _ h => h) (Or.inl ⟨by rfl, fun _ _ => by go_simp; try rfl⟩) hHeld ?_
            try simp only [Act.put, List.getElem_toArray, List.getElem_cons_zero, List.getElem_cons_succ, List.setIfInBounds_toArray, List.set_cons_zero, List.set_cons_succ]
            refine wpAnyH_take (i := 12) (oi := _) (v := _) rfl (by kernel_rfl) (by kernel_rfl) (by kernel_rfl) (fun _ _ _ h => h) (Or.inl ⟨by rfl, fun _ _ => by go_simp; try rfl⟩) hHeld ?_
            try simp only [Act.put, List.getElem_toArray, List.getElem_cons_zero, List.getElem_cons_succ, List.setIfInBounds_toArray, List.set_cons_zero, List.set_cons_succ]
            refine wpAnyH_ready (rs := [11]) (by kernel_rfl) (by simp) ?_
            refine AllReadyH.cons (o := _) rfl (fun K hK => ?_) AllReadyH.nil
            go_simp
            refine (HM4.out.cs.live2 (now := 0) rfl (by decide) HN.out.2.1).mono ?_
            rintro e w5 ⟨rfl, y5⟩
            dsimp only
            refine hK.out _ _ (hHeld.grown y5 (by simp)) (fun hHeld => ?_)
            clear hK K
            try simp only [Act.put, List.getElem_toArray, List.getElem_cons_zero, List.getElem_cons_succ, List.setIfInBounds_toArray, List.set_cons_zero, List.set_cons_succ]
            have HM5 := Lib.hid (HM4.out.grown y5)
            clear y5
            refine wpAnyH_ready (rs := [13]) (by kernel_rfl) (by simp) ?_
            refine AllReadyH.cons (o := _) rfl (fun K hK => ?_) AllReadyH.nil
            go_simp
            refine (HM5.out.rs.live (now := 0) rfl (by decide) HN.out.2.1).mono ?_
            rintro e w6 ⟨rfl, y6⟩
            dsimp only
            refine hK.out _ _ (hHeld.grown y6 (by simp)) (fun hHeld => ?_)
            clear hK K
            try simp only [Act.put, List.getElem_toArray, List.getElem_cons_zero, List.getElem_cons_succ, List.setIfInBounds_toArray, List.set_cons_zero, List.set_cons_succ]
            have HM6 := Lib.hid (HM5.out.grown y6)
            clear y6
            refine wpAnyH_take (i := 14) (oi := _) (v := _) rfl (by kernel_rfl) (by kernel_rfl) (by kernel_rfl) (fun _ _ _ h => h) (Or.inl ⟨by rfl, fun _ _ => by go_simp; try rfl⟩) hHeld ?_
            try simp only [Act.put, List.getElem_toArray, List.getElem_cons_zero, List.getElem_cons_succ, List.setIfInBounds_toArray, List.set_cons_zero, List.set_cons_succ]
            refine wpAnyH_take (i := 15) (oi := _) (v := _) rfl (by kernel_rfl) (by kernel_rfl) (by kernel_rfl) (fun _ _ _ h => h) (Or.inl ⟨by rfl, fun _ _ => by go_simp; try rfl⟩) hHeld ?_
            try simp only [Act.put, List.getElem_toArray, List.getElem_cons_zero, List.getElem_cons_succ, List.setIfInBounds_toArray, List.set_cons_zero, List.set_cons_succ]
            refine wpAnyH_done (by kernel_rfl) (NoPanic.normal ?_) _
            clear hHeld
            go_wp2
            go_roundg (l.length - (j + 1))
            case measure => have := Hnum.out; omega
            case rel => exact ⟨j + 1, st2, tokens2, by go_num, h1, rfl, HM6.out⟩
        · go_wp2_with fail
          refine (sworks_any _).mono ?_
          rintro e w9 ⟨rfl, y9⟩
          go_wp2
          go_ret
          exact ⟨rfl, by_trans HM.out.cs.by_ y9 (by simp)⟩
      · go_wp2_with fail
        refine (sworks_any _).mono ?_
        rintro e w9 ⟨rfl, y9⟩
        go_wp2
        go_ret
        exact ⟨rfl, by_trans HM.out.cs.by_ y9 (by simp)⟩

theorem walk (w : World) (v : Value) (l : List Act4) (hv : Acts w v l) (hx : ∀ x ∈ l, x.Ok 1048576) (hl : l.length ≤ maxLen) (secret : ByteArray) (hs : secret.size ≤ 1048576) (q : List Nat) (hq : q.length = 2) (hb : ∀ x ∈ q, x < 18446744073709551616) :
    Calls Try.prog 3 #[v, .string secret, .agg (nums64 q).toArray] w fun e w' => e = .returned (.bool true) ∧ w.grownBy w' none := by
  match q, hq with
  | [a, b], _ => exact walk2 w v l hv hx hl secret hs a b (hb a (by simp)) (hb b (by simp))

set_option maxRecDepth 100000 in
theorem lifted (os : Os) (started : os.Started) (H : Type) (enc : TypeId × Value → H) (F : Stop.Interp) :
    ReturnsInHanded {} Try.checked os 3 .any ((Rows.OpenSpec.upto Rows.sessDoesSpec).pre6 enc Try.prog Try.f3 Rows.sessDoesUptoRow.domain false) (((Rows.OpenSpec.upto Rows.sessDoesSpec).at F).post enc Try.prog Try.f3 false true false false) := by
  refine returnsInHanded_of_cond (C := Try.checked) (s := Rows.OpenSpec.upto Rows.sessDoesSpec) (k := Rows.uptoSmall) rfl own started (by kernel_rfl) Try.func3
    (OpenSpec.witness (enc := enc) (C := Try.checked) (s := Rows.OpenSpec.upto Rows.sessDoesSpec) (k := Rows.uptoSmall) rfl false ⟨#[], #[.slice none 0 0, .string ByteArray.empty, .agg #[.int .u64 0, .int .u64 0]], []⟩ 8 (by kernel_rfl) (by kernel_rfl) (by kernel_rfl)
      (x := ([.nil, .lit (.string []), .agg [.lit (.int .u64 0), .lit (.int .u64 0)]], [], [])) (by kernel_rfl) rfl (by kernel_rfl)) ?_
  intro W base args ds gs before hval0 hW hcnd hk _
  have hval : ∀ (j : Nat) t v, Try.f3.params[j]? = some t → args[j]? = some v → Value.okWide Try.prog W .any base t v := hval0
  have hW' := hW
  obtain ⟨p, q, hA0, hV, rfl, hfz, hnd⟩ := hW
  have hA : DataW.TrodAll enc Try.prog W 0 (fun _ => true) true Try.f3.params.toList args.toList ds p := hA0
  rw [Try.params3] at hA hval
  obtain ⟨v0, vs0, d0, ds0, p0, q0, hargs, rfl, rfl, h0, r0⟩ := trodAll_cons hA
  obtain ⟨v1, vs1, d1, ds1, p1, q1, rfl, rfl, rfl, h1, r1⟩ := trodAll_cons r0
  obtain ⟨v2, vs2, d2, ds2, p2, q2, rfl, rfl, rfl, h2, r2⟩ := trodAll_cons r1
  obtain ⟨rfl, rfl, rfl⟩ := trodAll_nil r2
  obtain rfl : args = #[v0, v1, v2] := by cases args; simp_all
  obtain ⟨rfl, rfl⟩ := trodVars_none hV
  obtain ⟨l0, hl0, hm0, hn0⟩ := arg_acts (hval 0 22 v0 rfl rfl) h0
  obtain ⟨a1, rfl, rfl, rfl, w1⟩ := open_string Try.underlying9 (hval 1 9 v1 rfl rfl) h1
  obtain ⟨l2, hl2, hb2, rfl⟩ := arg_u64s Try.underlying24 Try.underlying23 (by kernel_rfl) (by kernel_rfl) (hval 2 24 v2 rfl rfl) h2
  refine (walk W v0 l0 hl0 (fun x hx => (hm0 x hx).mono (by have := of_decide_eq_true hk; simp only [List.append_nil, List.cons_append, List.nil_append, Rows.uptoBulkAll, Rows.uptoBulk, Array.length_toList] at this; omega)) hn0 a1 (by have := of_decide_eq_true hk; simp only [List.append_nil, List.cons_append, List.nil_append, Rows.uptoBulkAll, Rows.uptoBulk, Array.length_toList] at this; have e1 : a1.size = a1.data.size := rfl; omega) l2 hl2 hb2).mono fun e W' ⟨he, hg⟩ => ?_
  subst he
  exact ⟨_, rfl, law_post (s := Rows.sessDoesSpec) laidOut rfl hW' (by kernel_rfl) rfl Try.underlying4 rfl (below_of_by hg)⟩

theorem proved : Rows.SessDoesUptoSaid :=
  OpenClaim.holds_of_cond 3 Try.f3 rfl rfl rfl rfl rfl rfl rfl ⟨rfl, rfl, rfl, rfl, rfl⟩ rfl rfl rfl rfl rfl (by kernel_rfl) Try.func3 (by kernel_rfl)
    (of_decide_eq_true (by kernel_rfl)) (by unfold Func.isWrapper; first | (rw [if_pos (by decide +kernel)]; kernel_rfl) | (rw [if_neg (by decide +kernel)]; exact ⟨rfl, rfl⟩))
    (fun os started H enc _ F => lifted os started H enc F)
#print axioms proved
end sessDoes
end Go.Proofs.Ytdloapfifhelbaa
