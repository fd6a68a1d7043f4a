/-
  A cache in memory, and cache.Get.
-/
import Derived.Test.YtndmnnapjhjkmaaApart
namespace Go.Proofs.Ytndmnnapjhjkmaa
open Go.RowKit iStrRes

/-! ### the pairs, whatever they bear -/
section
variable {α β : Type}
def glook (ps : List (ByteArray × α)) (k : ByteArray) : Option α := (ps.find? (fun q => decide (q.1 = k))).map (·.2)
def gless (ps : List (ByteArray × α)) (k : ByteArray) : List (ByteArray × α) := ps.filter (fun q => !decide (q.1 = k))
def ggot (ps : List (ByteArray × α)) (k : ByteArray) : List (ByteArray × α) := match glook ps k with | some v => (k, v) :: gless ps k | none => ps
def gput (cap : Int) (ps : List (ByteArray × α)) (k : ByteArray) (v : α) : List (ByteArray × α) :=
  match glook ps k with
  | some _ => (k, v) :: gless ps k
  | none => if cap = 0 then ps else (k, v) :: (if ((ps.length : Nat) : Int) = cap then ps.dropLast else ps)
def gmap (f : α → β) (ps : List (ByteArray × α)) : List (ByteArray × β) := ps.map fun q => (q.1, f q.2)
theorem gmap_len (f : α → β) (ps : List (ByteArray × α)) : (gmap f ps).length = ps.length := by simp [gmap]
theorem glook_map (f : α → β) (ps : List (ByteArray × α)) (k : ByteArray) : glook (gmap f ps) k = (glook ps k).map f := by
  unfold glook gmap
  rw [List.find?_map]
  simp [Function.comp_def, Option.map_map]
theorem gless_map (f : α → β) (ps : List (ByteArray × α)) (k : ByteArray) : gless (gmap f ps) k = gmap f (gless ps k) := by
  unfold gless gmap
  rw [List.filter_map]
  rfl
theorem ggot_map (f : α → β) (ps : List (ByteArray × α)) (k : ByteArray) : ggot (gmap f ps) k = gmap f (ggot ps k) := by
  unfold ggot
  rw [glook_map]
  cases h : glook ps k with
  | none => rfl
  | some v => exact congrArg ((k, f v) :: ·) (gless_map f ps k)
theorem gput_map (f : α → β) (cap : Int) (ps : List (ByteArray × α)) (k : ByteArray) (v : α) : gput cap (gmap f ps) k (f v) = gmap f (gput cap ps k v) := by
  unfold gput
  rw [glook_map]
  cases h : glook ps k with
  | none =>
    simp only [Option.map_none, gmap_len]
    by_cases h0 : cap = 0
    · simp [h0]
    · by_cases h1 : ((ps.length : Nat) : Int) = cap
      · simp [h0, h1, gmap, List.map_dropLast]
      · simp [h0, h1, gmap]
  | some u => exact congrArg ((k, f v) :: ·) (gless_map f ps k)
theorem glook_mem {ps : List (ByteArray × α)} {k : ByteArray} {v : α} (h : glook ps k = some v) : (k, v) ∈ ps := by
  unfold glook at h
  cases h2 : ps.find? (fun q => decide (q.1 = k)) with
  | none => simp [h2] at h
  | some q =>
    simp [h2] at h
    have h3 := List.find?_some h2
    have h4 := List.mem_of_find?_eq_some h2
    have h5 : q.1 = k := by simpa using h3
    rw [← h5, ← h]
    exact h4
theorem mem_ggot {ps : List (ByteArray × α)} {k : ByteArray} {q : ByteArray × α} (h : q ∈ ggot ps k) : q ∈ ps := by
  unfold ggot at h
  cases h2 : glook ps k with
  | none => simpa [h2] using h
  | some v =>
    simp only [h2, List.mem_cons] at h
    rcases h with rfl | h
    · exact glook_mem h2
    · exact (List.mem_filter.1 h).1
theorem mem_gput {cap : Int} {ps : List (ByteArray × α)} {k : ByteArray} {v : α} {q : ByteArray × α} (h : q ∈ gput cap ps k v) : q = (k, v) ∨ q ∈ ps := by
  unfold gput at h
  cases h2 : glook ps k with
  | none =>
    simp only [h2] at h
    by_cases h0 : cap = 0
    · simp only [if_pos h0] at h; exact .inr h
    · simp only [if_neg h0, List.mem_cons] at h
      rcases h with h | h
      · exact .inl h
      · by_cases h1 : ((ps.length : Nat) : Int) = cap
        · simp only [if_pos h1] at h; exact .inr ((List.dropLast_sublist _).mem h)
        · simp only [if_neg h1] at h; exact .inr h
  | some u =>
    simp only [h2, List.mem_cons] at h
    rcases h with h | h
    · exact .inl h
    · exact .inr (List.mem_filter.1 h).1
end
theorem look_is (ps : List (ByteArray × RV)) (k : ByteArray) : iStrRes.look ps k = glook ps k := rfl
theorem got_is (ps : List (ByteArray × RV)) (k : ByteArray) : iStrRes.got ps k = ggot ps k := by
  unfold iStrRes.got ggot
  rw [look_is]
  cases glook ps k <;> rfl
theorem putted_is (cap : Int) (ps : List (ByteArray × RV)) (k : ByteArray) (v : RV) : iStrRes.putted cap ps k v = gput cap ps k v := by
  unfold iStrRes.putted gput
  rw [look_is]
  cases glook ps k <;> rfl

theorem Blk.row {w : World} {g : Nat} {t : TypeId} {old : Array Value} (h : Blk w g t old) (cs : Array Value) : Blk (w.setRow g cs) g t cs := setRow_heap w _ _ _ _ _ h
theorem Chg.row {w w' : World} {S : Nat → Prop} (h : Chg w w' S) {g : Nat} (hg : S g ∨ w.heap.size ≤ g) (cs : Array Value) : Chg w (w'.setRow g cs) S :=
  ⟨h.os, h.tape, h.output, by simpa using h.size, fun k hk hn => by
    rw [setRow_other _ _ _ _ (by
      rintro rfl
      rcases hg with hg | hg
      · exact hn hg
      · omega)]
    exact h.block k hk hn⟩
theorem six_one (d v t : Option Addr × Nat × Nat) (p : ByteArray) (b : Bool) (c : Int) : (#[.slice d.1 d.2.1 d.2.2, .string p, .bool b, .slice v.1 v.2.1 v.2.2, .slice t.1 t.2.1 t.2.2, .int .u64 c] : Array Value).all (·.oneCell') = true := by
  simp [Value.oneCell']
/-- what a pair of a cache bears -/
structure Ent where
  rv : RV
  n : Nat
  G : VG
/-- A cache: M the blocks that it turns itself, K those that it only reads. -/
def CacheAt (w : World) (c : Nat) (M K : Nat → Prop) (cap : Int) (ps : List (ByteArray × Nat)) : Prop :=
  ∃ (l : Nat) (qs : List (ByteArray × Ent)), Blk w c 58 #[.pointer (some ⟨l, 0, none⟩)] ∧ Lru w l M cap (gmap Ent.rv qs) ∧ ps = gmap Ent.n qs ∧ (∀ q ∈ qs, Val w q.2.rv q.2.n q.2.G) ∧
    ∀ b, K b ↔ b = c ∨ ∃ q ∈ qs, q.2.G.inL q.2.n b ∨ q.2.G.inT q.2.n b
section
variable {w w' : World} {c : Nat} {M K S : Nat → Prop} {cap : Int} {ps : List (ByteArray × Nat)}
theorem CacheAt.chg (h : CacheAt w c M K cap ps) (hc : Chg w w' S) (hM : ∀ b, M b → ¬ S b) (hK : ∀ b, K b → ¬ S b) : CacheAt w' c M K cap ps := by
  obtain ⟨l, qs, h1, h2, h3, h4, h5⟩ := h
  exact ⟨l, qs, h1.chg hc (hK c ((h5 c).2 (.inl rfl))), h2.chg hc hM, h3, fun q hq => (h4 q hq).chg hc (fun b hb => hK b ((h5 b).2 (.inr ⟨q, hq, .inl hb⟩))) (fun b hb => hK b ((h5 b).2 (.inr ⟨q, hq, .inr hb⟩))), h5⟩
theorem CacheAt.grown (h : CacheAt w c M K cap ps) (y : w.grownBy w' none) : CacheAt w' c M K cap ps := h.chg (Chg.of_none (S := fun _ => False) y) (fun _ _ h => h) (fun _ _ h => h)
theorem CacheAt.ltM (h : CacheAt w c M K cap ps) : ∀ b, M b → b < w.heap.size := by
  obtain ⟨l, qs, h1, h2, h3, h4, h5⟩ := h
  exact h2.lt
theorem CacheAt.ltK (h : CacheAt w c M K cap ps) : ∀ b, K b → b < w.heap.size := by
  obtain ⟨l, qs, h1, h2, h3, h4, h5⟩ := h
  intro b hb
  rcases (h5 b).1 hb with rfl | ⟨q, hq, hb | hb⟩
  · exact h1.lt
  · exact (h4 q hq).ltL b hb
  · exact (h4 q hq).ltT b hb
theorem CacheAt.apart (h : CacheAt w c M K cap ps) : ∀ b, K b → ¬ M b := by
  obtain ⟨l, qs, h1, h2, h3, h4, h5⟩ := h
  intro b hb
  rcases (h5 b).1 hb with rfl | ⟨q, hq, hb | hb⟩
  · exact h2.apart h1 (by decide) (by decide)
  · exact (h4 q hq).apartL h2 b hb
  · exact (h4 q hq).apartT h2 b hb
/-- what lies beside stands while the cache turns -/
theorem Val.over {rv : RV} {n : Nat} {G : VG} (h : Val w rv n G) (hC : CacheAt w c M K cap ps) (hc : Chg w w' M) : Val w' rv n G := by
  obtain ⟨l, qs, h1, h2, h3, h4, h5⟩ := hC
  exact h.chg hc (h.apartL h2) (h.apartT h2)
end

def KOf (c : Nat) (qs : List (ByteArray × Ent)) (b : Nat) : Prop := b = c ∨ ∃ q ∈ qs, q.2.G.inL q.2.n b ∨ q.2.G.inT q.2.n b
theorem cache_at {w : World} {c l : Nat} {M : Nat → Prop} {cap : Int} {qs : List (ByteArray × Ent)} (h1 : Blk w c 58 #[.pointer (some ⟨l, 0, none⟩)]) (h2 : Lru w l M cap (gmap Ent.rv qs)) (h4 : ∀ q ∈ qs, Val w q.2.rv q.2.n q.2.G) :
    CacheAt w c M (KOf c qs) cap (gmap Ent.n qs) := ⟨l, qs, h1, h2, rfl, h4, fun _ => Iff.rfl⟩
theorem CacheAt.notRes {w : World} {c kb : Nat} {M K : Nat → Prop} {cap : Int} {ps : List (ByteArray × Nat)} {cs : Array Value} (h : CacheAt w c M K cap ps) (hb : Blk w kb 38 cs) : ¬ M kb ∧ ¬ K kb := by
  obtain ⟨l, qs, h1, h2, h3, h4, h5⟩ := h
  refine ⟨h2.apart hb (by decide) (by decide), fun hk => ?_⟩
  rcases (h5 kb).1 hk with rfl | ⟨q, hq, ⟨hn, h⟩ | ⟨i, hi, h⟩⟩
  · exact h1.ne_ hb (by decide) rfl
  · have hv := h4 q hq
    rcases h with h | h | h
    · obtain ⟨_, _, h6, _⟩ := hv.d.at_ hn; exact h6.ne_ hb (by decide) h.symm
    · obtain ⟨_, _, h6, _⟩ := hv.v.at_ hn; exact h6.ne_ hb (by decide) h.symm
    · obtain ⟨_, _, h6, _⟩ := hv.t.at_ hn; exact h6.ne_ hb (by decide) h.symm
  · have hv := h4 q hq
    rcases h with h | h
    · exact (hv.tp i hi).ne_ hb (by decide) h.symm
    · exact (hv.tq i hi).ne_ hb (by decide) h.symm
theorem CacheAt.row {w w' : World} {c kb : Nat} {M K : Nat → Prop} {cap : Int} {ps : List (ByteArray × Nat)} {cs : Array Value} (h : CacheAt w c M K cap ps) (hb : Blk w kb 38 cs) (hC : Chg w w' (fun b => b = kb)) : CacheAt w' c M K cap ps :=
  h.chg hC (fun b h1 e => (h.notRes hb).1 (e ▸ h1)) (fun b h1 e => (h.notRes hb).2 (e ▸ h1))
theorem Val.row {w w' : World} {kb n : Nat} {rv : RV} {G : VG} {cs : Array Value} (h : Val w rv n G) (hb : Blk w kb 38 cs) (hC : Chg w w' (fun b => b = kb)) : Val w' rv n G := by
  refine h.chg hC ?_ ?_
  · rintro b ⟨hn, h1⟩ rfl
    rcases h1 with h1 | h1 | h1
    · obtain ⟨_, _, h6, _⟩ := h.d.at_ hn; exact h6.ne_ hb (by decide) h1.symm
    · obtain ⟨_, _, h6, _⟩ := h.v.at_ hn; exact h6.ne_ hb (by decide) h1.symm
    · obtain ⟨_, _, h6, _⟩ := h.t.at_ hn; exact h6.ne_ hb (by decide) h1.symm
  · rintro b ⟨i, hi, h1⟩ rfl
    rcases h1 with h1 | h1
    · exact (h.tp i hi).ne_ hb (by decide) h1.symm
    · exact (h.tq i hi).ne_ hb (by decide) h1.symm

/-- what a got value is, and a cache behind a look -/
def GetQ (w : World) (c : Nat) (M K : Nat → Prop) (cap : Int) (ps : List (ByteArray × Nat)) (k : ByteArray) (e : Ending) (w' : World) : Prop :=
  Chg w w' M ∧ ∃ M' K', CacheAt w' c M' K' cap (ggot ps k) ∧ (∀ b, M' b → M b ∨ w.heap.size ≤ b) ∧ (∀ b, K' b → K b ∨ w.heap.size ≤ b) ∧
    ((∃ n rv H, glook ps k = some n ∧ e = .returned (.tuple #[.agg #[.slice rv.d.1 rv.d.2.1 rv.d.2.2, .string rv.p, .bool rv.b, .slice rv.vs.1 rv.vs.2.1 rv.vs.2.2, .slice rv.ts.1 rv.ts.2.1 rv.ts.2.2, .int .u64 rv.c], .bool true]) ∧ Val w' rv n H ∧ ∀ b, H.inL n b → w.heap.size ≤ b ∧ ¬ K' b) ∨
     (glook ps k = none ∧ e = .returned (.tuple #[.agg #[.slice none 0 0, .string ⟨#[]⟩, .bool false, .slice none 0 0, .slice none 0 0, .int .u64 0], .bool false])))

/-- a cache behind the look within, at the world where the look ended -/
def MidQ (w : World) (c kb : Nat) (M K : Nat → Prop) (cap : Int) (ps : List (ByteArray × Nat)) (cs : Array Value) (w1 : World) : Prop :=
  Chg w w1 M ∧ w.heap.size ≤ kb ∧ Blk w1 kb 38 cs ∧ ∃ M' K', CacheAt w1 c M' K' cap ps ∧ (∀ b, M' b → M b ∨ w.heap.size ≤ b) ∧ (∀ b, K' b → K b ∨ w.heap.size ≤ b)
theorem MidQ.none_ {w w1 w3 : World} {c kb : Nat} {M K : Nat → Prop} {cap : Int} {ps : List (ByteArray × Nat)} {k : ByteArray} {cs : Array Value} (h : MidQ w c kb M K cap (ggot ps k) cs w1) (hC : Chg w1 w3 (fun b => b = kb)) (hl : glook ps k = none) :
    GetQ w c M K cap ps k (.returned (.tuple #[.agg #[.slice none 0 0, .string ⟨#[]⟩, .bool false, .slice none 0 0, .slice none 0 0, .int .u64 0], .bool false])) w3 := by
  obtain ⟨h1, h2, h3, M', K', h4, h5, h6⟩ := h
  exact ⟨h1.trans hC (fun b hb => .inr (hb ▸ h2)), M', K', h4.row h3 hC, h5, h6, .inr ⟨hl, rfl⟩⟩
theorem MidQ.some_ {w w1 w2 w3 w4 : World} {c kb n : Nat} {M K : Nat → Prop} {cap : Int} {ps : List (ByteArray × Nat)} {k : ByteArray} {cs : Array Value} (h : MidQ w c kb M K cap (ggot ps k) cs w1) (hy : w1.grownBy w2 none) (hl : glook ps k = some n) {rv : RV} {H : VG}
    (hv : Val w3 rv n H) (hy3 : w2.grownBy w3 none) (hL : w2.heap.size ≤ H.d ∧ w2.heap.size ≤ H.v ∧ w2.heap.size ≤ H.t) (hC : Chg w3 w4 (fun b => b = kb)) :
    GetQ w c M K cap ps k (.returned (.tuple #[.agg #[.slice rv.d.1 rv.d.2.1 rv.d.2.2, .string rv.p, .bool rv.b, .slice rv.vs.1 rv.vs.2.1 rv.vs.2.2, .slice rv.ts.1 rv.ts.2.1 rv.ts.2.2, .int .u64 rv.c], .bool true])) w4 := by
  obtain ⟨h1, h2, h3, M', K', h4, h5, h6⟩ := h
  have y := by_trans hy hy3 (by simp)
  have hb := h3.grown y (by simp)
  have hK := h4.ltK
  have hs := h1.size
  have hs2 := hy.size
  refine ⟨(h1.trans (Chg.of_none (S := fun _ => False) y) (fun _ h => h.elim)).trans hC (fun b hb => .inr (hb ▸ h2)), M', K', (h4.grown y).row hb hC, h5, h6, .inl ⟨n, rv, H, hl, rfl, hv.row hb hC, ?_⟩⟩
  rintro b ⟨_, hb⟩
  have : w2.heap.size ≤ b := by rcases hb with rfl | rfl | rfl <;> omega
  exact ⟨by omega, fun hk => by have := hK b hk; omega⟩
theorem mid_got {w wb w1 : World} {c l kb : Nat} {M M' : Nat → Prop} {cap : Int} {qs : List (ByteArray × Ent)} {k : ByteArray} {cs : Array Value} {K : Nat → Prop} (hW : ValIn w wb kb cs) (h1 : Blk wb c 58 #[.pointer (some ⟨l, 0, none⟩)]) (h2 : Lru wb l M cap (gmap Ent.rv qs))
    (h4 : ∀ q ∈ qs, Val wb q.2.rv q.2.n q.2.G) (h5 : ∀ b, K b ↔ KOf c qs b) (hC : Chg wb w1 M) (hL : Lru w1 l M' cap (iStrRes.got (gmap Ent.rv qs) k)) (hM : ∀ b, M' b → M b ∨ wb.heap.size ≤ b) :
    MidQ w c kb M K cap (ggot (gmap Ent.n qs) k) cs w1 := by
  obtain ⟨_, hkb, hbk, hy⟩ := hW
  have hA := cache_at h1 h2 h4
  refine ⟨(Chg.of_none (S := M) hy).trans hC (fun _ h => .inl h), Nat.le_of_eq hkb, hbk.chg hC (hA.notRes hbk).1, M', KOf c (ggot qs k), ?_, fun b hb => (hM b hb).imp id (fun h => Nat.le_trans hy.size h), ?_⟩
  · rw [ggot_map]
    refine cache_at (h1.chg hC (h2.apart h1 (by decide) (by decide))) (by rw [← ggot_map, ← got_is]; exact hL) fun q hq => ?_
    have hv := h4 q (mem_ggot hq)
    exact hv.chg hC (hv.apartL h2) (hv.apartT h2)
  · rintro b (rfl | ⟨q, hq, hb⟩)
    · exact .inl ((h5 _).2 (.inl rfl))
    · exact .inl ((h5 _).2 (.inr ⟨q, mem_ggot hq, hb⟩))

set_option maxRecDepth 100000 in
set_option maxHeartbeats 400000 in
theorem cget_any (w : World) (c : Nat) (M K : Nat → Prop) (cap : Int) (ps : List (ByteArray × Nat)) (k : ByteArray) (h : CacheAt w c M K cap ps) (hk : WfI k) :
    Calls Try.prog 11 #[.pointer (some ⟨c, 0, none⟩), .string k] w (GetQ w c M K cap ps k) := by
  obtain ⟨wb, kb, hW⟩ := valIn w #[.slice none 0 0, .string ⟨#[]⟩, .bool false, .slice none 0 0, .slice none 0 0, .int .u64 0]
  have hb := h.grown hW.2.2.2
  obtain ⟨l, qs, h1, h2, rfl, h4, h5⟩ := hb
  have c0 : (w.alloc (.cells #[.slice none 0 0, .string ⟨#[]⟩, .bool false, .slice none 0 0, .slice none 0 0, .int .u64 0] 38)).cell? ⟨c, 0, none⟩ = some (.pointer (some ⟨l, 0, none⟩)) := by rw [hW.1]; exact h1.cell 0
  have HW := Lib.hid hW
  have hg := get_any wb l M cap k (gmap Ent.rv qs) h2 hk
  have hmid : ∀ (w1 : World) (M' : Nat → Prop), Chg wb w1 M → Lru w1 l M' cap (iStrRes.got (gmap Ent.rv qs) k) → (∀ b, M' b → M b ∨ wb.heap.size ≤ b) → MidQ w c kb M K cap (ggot (gmap Ent.n qs) k) _ w1 := fun w1 M' a b d => mid_got hW h1 h2 h4 h5 a b d
  cases hl : glook qs k with
  | none =>
    have hv : GetV (gmap Ent.rv qs) k = .tuple #[.agg #[.slice none 0 0, .string ⟨#[]⟩, .bool false, .slice none 0 0, .slice none 0 0, .int .u64 0], .bool false] := by unfold GetV; rw [look_is, glook_map, hl]; rfl
    rw [hv] at hg
    have H := Lib.hid (And.intro hg (And.intro hl hmid))
    clear hmid hW h hv hg h1 h2 h4 h5 hl hk
    go_enter Try.func11, Try.ntmps11
    go_wp2_with fail
    rw [HW.out.1, HW.out.2.1]
    refine H.out.1.mono ?_
    rintro e w1 ⟨rfl, hC, M', hL, hM⟩
    have hQ := H.out.2.2 _ _ hC hL hM
    have HB := Lib.hid hQ.2.2.1
    have HQ := Lib.hid hQ
    clear hC hL hM hQ
    go_wp2_with (refine wpList_store_row rfl 38 (.tmp 4) (.tmp 22) rfl kb #[.slice none 0 0, .string ⟨#[]⟩, .bool false, .slice none 0 0, .slice none 0 0, .int .u64 0] rfl rfl 38 #[.slice none 0 0, .string ⟨#[]⟩, .bool false, .slice none 0 0, .slice none 0 0, .int .u64 0] ?x5 ?x6 rfl ?x8 ?_)
    case x5 => exact HB.out.alloc _
    case x6 => kernel_rfl
    case x8 => exact six_one (none, 0, 0) (none, 0, 0) (none, 0, 0) _ _ _
    (try simp only [Exit.inBlock, Exit.then])
    refine bodyPost_ret (v := .tuple #[.agg #[.slice none 0 0, .string ⟨#[]⟩, .bool false, .slice none 0 0, .slice none 0 0, .int .u64 0], .bool false]) ?_ rfl ?_
    · rw [results_cell_tmp rfl]
      have hl := run_loadVar_row (P := Try.prog) _ kb 38 38 _ _ _ ((HB.out.alloc (.cells #[.slice none 0 0, .string ⟨#[]⟩, .bool false, .slice none 0 0, .slice none 0 0, .int .u64 0] 38)).row #[.slice none 0 0, .string ⟨#[]⟩, .bool false, .slice none 0 0, .slice none 0 0, .int .u64 0]) Try.underlying38 rfl (by kernel_rfl)
      simp [asAddr, Result.andThen, hl]
    · exact HQ.out.none_ ((((Chg.refl w1 (fun b => b = kb)).alloc _).row (g := kb) (.inl rfl) _)) (by rw [glook_map, H.out.2.1]; rfl)
  | some ent =>
    have hv : GetV (gmap Ent.rv qs) k = .tuple #[.agg #[.slice ent.rv.d.1 ent.rv.d.2.1 ent.rv.d.2.2, .string ent.rv.p, .bool ent.rv.b, .slice ent.rv.vs.1 ent.rv.vs.2.1 ent.rv.vs.2.2, .slice ent.rv.ts.1 ent.rv.ts.2.1 ent.rv.ts.2.2, .int .u64 ent.rv.c], .bool true] := by unfold GetV; rw [look_is, glook_map, hl]; rfl
    rw [hv] at hg
    have hent := h4 _ (glook_mem hl)
    have hchg : ∀ (w1 : World), Chg wb w1 M → Val w1 ent.rv ent.n ent.G := fun w1 hc => hent.chg hc (hent.apartL h2) (hent.apartT h2)
    have H := Lib.hid (And.intro hg (And.intro hl (And.intro hchg hmid)))
    clear hmid hW h hv hg h1 h2 h4 h5 hl hk hent hchg
    go_enter Try.func11, Try.ntmps11
    go_wp2_with fail
    rw [HW.out.1, HW.out.2.1]
    refine H.out.1.mono ?_
    rintro e w1 ⟨rfl, hC, M', hL, hM⟩
    have hQ := H.out.2.2.2 _ _ hC hL hM
    have HV := Lib.hid (H.out.2.2.1 _ hC)
    have HB := Lib.hid hQ.2.2.1
    have HQ := Lib.hid hQ
    clear hC hL hM hQ
    go_wp2_with fail
    refine (apart_any _ ent.rv ent.n ent.G (HV.out.grown (by_alloc (by_refl _ _) _))).mono ?_
    rintro e w3 ⟨rv, G3, rfl, hv3, y3, _, _, hL3⟩
    have HB3 := Lib.hid ((HB.out.alloc (.cells #[.slice ent.rv.d.1 ent.rv.d.2.1 ent.rv.d.2.2, .string ent.rv.p, .bool ent.rv.b, .slice ent.rv.vs.1 ent.rv.vs.2.1 ent.rv.vs.2.2, .slice ent.rv.ts.1 ent.rv.ts.2.1 ent.rv.ts.2.2, .int .u64 ent.rv.c] 38)).grown y3 (by simp))
    have hfin := HQ.out.some_ (by_alloc (by_refl _ _) _) (by rw [glook_map, H.out.2.1]; rfl) hv3 y3 hL3 ((Chg.refl w3 (fun b => b = kb)).row (g := kb) (.inl rfl) #[.slice rv.d.1 rv.d.2.1 rv.d.2.2, .string rv.p, .bool rv.b, .slice rv.vs.1 rv.vs.2.1 rv.vs.2.2, .slice rv.ts.1 rv.ts.2.1 rv.ts.2.2, .int .u64 rv.c])
    have HF := Lib.hid hfin
    clear hfin hv3 y3 hL3
    go_wp2_with (refine wpList_store_row rfl 38 (.tmp 4) (.tmp 24) rfl kb #[.slice rv.d.1 rv.d.2.1 rv.d.2.2, .string rv.p, .bool rv.b, .slice rv.vs.1 rv.vs.2.1 rv.vs.2.2, .slice rv.ts.1 rv.ts.2.1 rv.ts.2.2, .int .u64 rv.c] rfl rfl 38 #[.slice none 0 0, .string ⟨#[]⟩, .bool false, .slice none 0 0, .slice none 0 0, .int .u64 0] HB3.out ?x6 rfl (six_one _ _ _ _ _ _) ?_)
    case x6 => kernel_rfl
    (try simp only [Exit.inBlock, Exit.then])
    refine bodyPost_ret (v := .tuple #[.agg #[.slice rv.d.1 rv.d.2.1 rv.d.2.2, .string rv.p, .bool rv.b, .slice rv.vs.1 rv.vs.2.1 rv.vs.2.2, .slice rv.ts.1 rv.ts.2.1 rv.ts.2.2, .int .u64 rv.c], .bool true]) ?_ rfl HF.out
    rw [results_cell_tmp rfl]
    have hl := run_loadVar_row (P := Try.prog) _ kb 38 38 _ _ _ (HB3.out.row #[.slice rv.d.1 rv.d.2.1 rv.d.2.2, .string rv.p, .bool rv.b, .slice rv.vs.1 rv.vs.2.1 rv.vs.2.2, .slice rv.ts.1 rv.ts.2.1 rv.ts.2.2, .int .u64 rv.c]) Try.underlying38 rfl (by kernel_rfl)
    simp [asAddr, Result.andThen, hl]
set_option maxHeartbeats 400000 in
theorem cget_nil (w : World) (k : ByteArray) : Calls Try.prog 11 #[.pointer none, .string k] w fun e w' => e = .returned (.tuple #[.agg #[.slice none 0 0, .string ⟨#[]⟩, .bool false, .slice none 0 0, .slice none 0 0, .int .u64 0], .bool false]) ∧ w.grownBy w' none := by
  go_enter Try.func11, Try.ntmps11
  go_wp2
  (try simp only [Exit.inBlock, Exit.then])
  refine bodyPost_ret (v := .tuple #[.agg #[.slice none 0 0, .string ⟨#[]⟩, .bool false, .slice none 0 0, .slice none 0 0, .int .u64 0], .bool false]) ?_ rfl ⟨rfl, ?_⟩
  · rw [results_cell_tmp rfl]
    have hl := run_loadVar_row (P := Try.prog) _ w.heap.size 38 38 _ _ _ (Blk.new w 38 #[.slice none 0 0, .string ⟨#[]⟩, .bool false, .slice none 0 0, .slice none 0 0, .int .u64 0]) Try.underlying38 rfl (by kernel_rfl)
    simp [asAddr, Result.andThen, hl]
  · exact by_alloc (by_refl _ _) _
end Go.Proofs.Ytndmnnapjhjkmaa
