/-
  CachePlays: a cache and the document's, side by side in memory.
-/
import Derived.Test.YtndmnnapjhjkmaaRefGP
import Derived.Test.YtndmnnapjhjkmaaSame2
import Derived.Test.YtndmnnapjhjkmaaActs
namespace Go.Proofs.Ytndmnnapjhjkmaa
open Go.RowKit iStrRes

def refTy (t : TypeId) : Prop := t = 28 ∨ t = 66 ∨ t = 38
theorem Val.notTy {W : World} {n b : Nat} {rv : RV} {G : VG} {t : TypeId} {cs : Array Value} (h : Val W rv n G) (hb : Blk W b t cs) (ht : refTy t) : ¬ G.inL n b ∧ ¬ G.inT n b := by
  have n1 : ∀ {b'}, b = b' → ∀ {cs'}, Blk W b' 50 cs' → False := fun e _ h' => hb.ne_ h' (by rintro rfl; rcases ht with ht | ht | ht <;> revert ht <;> decide) e
  have n2 : ∀ {b'}, b = b' → ∀ {cs'}, Blk W b' 53 cs' → False := fun e _ h' => hb.ne_ h' (by rintro rfl; rcases ht with ht | ht | ht <;> revert ht <;> decide) e
  have n3 : ∀ {b'}, b = b' → ∀ {cs'}, Blk W b' 64 cs' → False := fun e _ h' => hb.ne_ h' (by rintro rfl; rcases ht with ht | ht | ht <;> revert ht <;> decide) e
  constructor
  · rintro ⟨hn, hx⟩
    obtain ⟨_, _, bd, _⟩ := h.d.at_ hn
    obtain ⟨_, _, bv, _⟩ := h.v.at_ hn
    obtain ⟨_, _, bt, _⟩ := h.t.at_ hn
    rcases hx with hx | hx | hx
    · exact n1 hx bd
    · exact n2 hx bv
    · exact n2 hx bt
  · rintro ⟨i, hi, hx | hx⟩
    · exact n3 hx (h.tp i hi)
    · exact n3 hx (h.tq i hi)
theorem CacheAt.notTy {w : World} {c b : Nat} {M K : Nat → Prop} {cap : Int} {ps : List (ByteArray × Nat)} {t : TypeId} {cs : Array Value} (h : CacheAt w c M K cap ps) (hb : Blk w b t cs) (ht : refTy t) : ¬ M b ∧ ¬ K b := by
  obtain ⟨l, qs, h1, h2, h3, h4, h5⟩ := h
  refine ⟨h2.apart hb (by rintro rfl; rcases ht with ht | ht | ht <;> revert ht <;> decide) (by rintro rfl; rcases ht with ht | ht | ht <;> revert ht <;> decide), fun hk => ?_⟩
  rcases (h5 b).1 hk with e | ⟨q, hq, h | h⟩
  · exact hb.ne_ h1 (by rintro rfl; rcases ht with ht | ht | ht <;> revert ht <;> decide) e
  · exact ((h4 q hq).notTy hb ht).1 h
  · exact ((h4 q hq).notTy hb ht).2 h
theorem gput_len {α : Type} {C : Nat} {ps : List (ByteArray × α)} {k : ByteArray} {v : α} (h : ps.length ≤ C) : (gput (C : Int) ps k v).length ≤ C := by
  rw [← rput_list h, List.length_take]
  omega

structure SP (w W : World) (c r C : Nat) (cap : Int) (qs : List (ByteArray × Ent)) : Prop where
  ex : ∃ M K, CacheAt W c M K (C : Int) (gmap Ent.n qs) ∧ (∀ b, M b → w.heap.size ≤ b)
  ref : RefAt W r cap (gmap Ent.rv qs)
  val : ∀ q ∈ qs, Val W q.2.rv q.2.n q.2.G
  chg : Chg w W (fun b => w.heap.size ≤ b)
  base : w.heap.size ≤ r
  len : qs.length ≤ C
section
variable {w W W' : World} {c r C : Nat} {cap : Int} {qs : List (ByteArray × Ent)} {k : ByteArray}
theorem SP.keys (h : SP w W c r C cap qs) : (qs.map (·.1)).Nodup := by
  obtain ⟨M, K, h1, _⟩ := h.ex
  have := h1.keys.1
  simpa [gmap, Function.comp_def] using this
theorem SP.keysR {β : Type} (f : Ent → β) (h : SP w W c r C cap qs) : ((gmap f qs).map (·.1)).Nodup := by
  have := h.keys
  simpa [gmap, Function.comp_def] using this
theorem SP.grown (h : SP w W c r C cap qs) (y : W.grownBy W' none) : SP w W' c r C cap qs where
  ex := by obtain ⟨M, K, h1, h2⟩ := h.ex; exact ⟨M, K, h1.grown y, h2⟩
  ref := h.ref.grown y
  val := fun q hq => (h.val q hq).grown y
  chg := h.chg.trans (Chg.of_none (S := fun _ => False) y) (fun _ h => h.elim)
  base := h.base
  len := h.len
theorem SP.by_ (h : SP w W c r C cap qs) : w.grownBy W none := h.chg.none_ fun _ h => h
/-- one half of a put, or of a get: the cache's own -/
structure SH (w W : World) (c r C : Nat) (cap : Int) (qs : List (ByteArray × Ent)) (ps : List (ByteArray × Nat)) : Prop where
  ex : ∃ M K, CacheAt W c M K (C : Int) ps ∧ (∀ b, M b → w.heap.size ≤ b)
  ref : RefAt W r cap (gmap Ent.rv qs)
  val : ∀ q ∈ qs, Val W q.2.rv q.2.n q.2.G
  chg : Chg w W (fun b => w.heap.size ≤ b)
  base : w.heap.size ≤ r
theorem SH.grown {ps : List (ByteArray × Nat)} (h : SH w W c r C cap qs ps) (y : W.grownBy W' none) : SH w W' c r C cap qs ps where
  ex := by obtain ⟨M, K, h1, h2⟩ := h.ex; exact ⟨M, K, h1.grown y, h2⟩
  ref := h.ref.grown y
  val := fun q hq => (h.val q hq).grown y
  chg := h.chg.trans (Chg.of_none (S := fun _ => False) y) (fun _ h => h.elim)
  base := h.base
theorem SP.half {M K M' K' : Nat → Prop} {ps' : List (ByteArray × Nat)} (h : SP w W c r C cap qs) (h1 : CacheAt W c M K (C : Int) (gmap Ent.n qs)) (h2 : ∀ b, M b → w.heap.size ≤ b) (hC : Chg W W' M) (h3 : CacheAt W' c M' K' (C : Int) ps') (h4 : ∀ b, M' b → M b ∨ W.heap.size ≤ b) : SH w W' c r C cap qs ps' where
  ex := ⟨M', K', h3, fun b hb => (h4 b hb).elim (h2 b) (fun h' => Nat.le_trans h.chg.size h')⟩
  ref := h.ref.chg hC fun g t cs hg ht => (h1.notTy hg (ht.imp id .inl)).1
  val := fun q hq => (h.val q hq).over h1 hC
  chg := h.chg.trans hC fun b hb => .inl (h2 b hb)
  base := h.base
theorem SP.cput (h : SP w W c r C cap qs) (hk : WfI k) (hn : qs.length < 1000000) {rv : RV} {n : Nat} {G : VG} (hv : Val W rv n G) :
    Calls Try.prog 8 #[.pointer (some ⟨c, 0, none⟩), .string k, .agg #[.slice rv.d.1 rv.d.2.1 rv.d.2.2, .string rv.p, .bool rv.b, .slice rv.vs.1 rv.vs.2.1 rv.vs.2.2, .slice rv.ts.1 rv.ts.2.1 rv.ts.2.2, .int .u64 rv.c]] W fun e W' => e = .returned (.tuple #[]) ∧ SH w W' c r C cap qs (gput (C : Int) (gmap Ent.n qs) k n) := by
  obtain ⟨M, K, h1, h2⟩ := h.ex
  refine (cput_any W c M K (C : Int) (gmap Ent.n qs) k rv n G h1 hk (by rw [gmap_len]; exact hn) hv).mono ?_
  rintro e W' ⟨rfl, hC, M', K', g4, g5, _⟩
  exact ⟨rfl, h.half h1 h2 hC g4 g5⟩
theorem SP.cget (h : SP w W c r C cap qs) (hk : WfI k) :
    Calls Try.prog 11 #[.pointer (some ⟨c, 0, none⟩), .string k] W fun e W' => SH w W' c r C cap qs (gmap Ent.n (ggot qs k)) ∧
      ((∃ ent rv G, glook qs k = some ent ∧ e = .returned (.tuple #[.agg #[.slice rv.d.1 rv.d.2.1 rv.d.2.2, .string rv.p, .bool rv.b, .slice rv.vs.1 rv.vs.2.1 rv.vs.2.2, .slice rv.ts.1 rv.ts.2.1 rv.ts.2.2, .int .u64 rv.c], .bool true]) ∧ Val W' rv ent.n G) ∨
       (glook qs k = none ∧ e = .returned (.tuple #[.agg #[.slice none 0 0, .string ⟨#[]⟩, .bool false, .slice none 0 0, .slice none 0 0, .int .u64 0], .bool false]))) := by
  obtain ⟨M, K, h1, h2⟩ := h.ex
  refine (cget_any W c M K (C : Int) (gmap Ent.n qs) k h1 hk).mono ?_
  rintro e W' ⟨hC, M', K', g4, g5, _, g7⟩
  rw [ggot_map] at g4
  refine ⟨h.half h1 h2 hC g4 g5, ?_⟩
  rcases g7 with ⟨n, rv, G, a, b, d, _⟩ | ⟨a, b⟩
  · rw [glook_map] at a
    cases e1 : glook qs k with
    | none => rw [e1] at a; cases a
    | some ent =>
      rw [e1] at a
      cases a
      exact .inl ⟨ent, rv, G, rfl, b, d⟩
  · rw [glook_map] at a
    cases e1 : glook qs k with
    | none => exact .inr ⟨rfl, b⟩
    | some ent => rw [e1] at a; cases a
/-- the document's half -/
theorem SH.whole {qs' : List (ByteArray × Ent)} {W' : World} (h : SH w W c r C cap qs (gmap Ent.n qs')) (hR : RefAt W' r cap (gmap Ent.rv qs')) (y : W.grownBy W' (some r)) (hv : ∀ q ∈ qs', Val W q.2.rv q.2.n q.2.G) (hl : qs'.length ≤ C) : SP w W' c r C cap qs' := by
  obtain ⟨M, K, h1, h2⟩ := h.ex
  obtain ⟨v, hb, _⟩ := h.ref
  have hC : Chg W W' (fun b => b = r) := Chg.of_by y fun g e => by cases e; rfl
  have hno := h1.notTy hb (.inl rfl)
  refine ⟨⟨M, K, h1.chg hC (fun b h e => hno.1 (e ▸ h)) (fun b h e => hno.2 (e ▸ h)), h2⟩, hR, fun q hq => ?_, h.chg.trans hC (fun b hb => .inl (by rw [hb]; exact h.base)), h.base, hl⟩
  have hq2 := hv q hq
  exact hq2.chg hC (fun b h e => (hq2.notTy hb (.inl rfl)).1 (e ▸ h)) (fun b h e => (hq2.notTy hb (.inl rfl)).2 (e ▸ h))
theorem SH.rput {n : Nat} (h : SH w W c r C cap qs (gput (C : Int) (gmap Ent.n qs) k n)) (hcap : max cap 0 = (C : Int)) (hn : qs.length < 1000000) (hl : qs.length ≤ C) (hd : (qs.map (·.1)).Nodup) {rv : RV} {G : VG} (hv : Val W rv n G) :
    Calls Try.prog 10 #[.pointer (some ⟨r, 0, none⟩), .string k, .agg #[.slice rv.d.1 rv.d.2.1 rv.d.2.2, .string rv.p, .bool rv.b, .slice rv.vs.1 rv.vs.2.1 rv.vs.2.2, .slice rv.ts.1 rv.ts.2.1 rv.ts.2.2, .int .u64 rv.c]] W fun e W' => e = .returned (.tuple #[]) ∧ SP w W' c r C cap (gput (C : Int) qs k ⟨rv, n, G⟩) := by
  refine (rput_any W r C cap hcap k rv (gmap Ent.rv qs) h.ref (by rw [gmap_len]; exact hn) (by rw [gmap_len]; exact hl) (by simpa [gmap, Function.comp_def] using hd)).mono ?_
  rintro e W' ⟨rfl, hR, y⟩
  rw [show gput (C : Int) (gmap Ent.rv qs) k rv = gmap Ent.rv (gput (C : Int) qs k ⟨rv, n, G⟩) from gput_map Ent.rv _ qs k ⟨rv, n, G⟩] at hR
  rw [show gput (C : Int) (gmap Ent.n qs) k n = gmap Ent.n (gput (C : Int) qs k ⟨rv, n, G⟩) from gput_map Ent.n _ qs k ⟨rv, n, G⟩] at h
  refine ⟨rfl, h.whole hR y (fun q hq => ?_) (gput_len hl)⟩
  rcases mem_gput hq with rfl | hq
  · exact hv
  · exact h.val q hq
theorem SH.rget (h : SH w W c r C cap qs (gmap Ent.n (ggot qs k))) (hcap : max cap 0 = (C : Int)) (hn : qs.length < 1000000) (hl : qs.length ≤ C) (hd : (qs.map (·.1)).Nodup) :
    Calls Try.prog 12 #[.pointer (some ⟨r, 0, none⟩), .string k] W fun e W' => W.grownBy W' (some r) ∧ SP w W' c r C cap (ggot qs k) ∧
      ((∃ ent, glook qs k = some ent ∧ Val W' ent.rv ent.n ent.G ∧ e = .returned (.tuple #[.agg #[.slice ent.rv.d.1 ent.rv.d.2.1 ent.rv.d.2.2, .string ent.rv.p, .bool ent.rv.b, .slice ent.rv.vs.1 ent.rv.vs.2.1 ent.rv.vs.2.2, .slice ent.rv.ts.1 ent.rv.ts.2.1 ent.rv.ts.2.2, .int .u64 ent.rv.c], .bool true])) ∨
       (glook qs k = none ∧ e = .returned (.tuple #[.agg #[.slice none 0 0, .string ⟨#[]⟩, .bool false, .slice none 0 0, .slice none 0 0, .int .u64 0], .bool false]))) := by
  refine (rget_any W r C cap hcap k (gmap Ent.rv qs) h.ref (by rw [gmap_len]; exact hn) (by rw [gmap_len]; exact hl) (by simpa [gmap, Function.comp_def] using hd)).mono ?_
  rintro e W' ⟨hR, y, hg⟩
  rw [ggot_map] at hR
  have hS := h.whole hR y (fun q hq => h.val q (mem_ggot hq)) (Nat.le_trans (ggot_len qs k) hl)
  refine ⟨y, hS, ?_⟩
  rcases hg with ⟨rv, a, b⟩ | ⟨a, b⟩
  · rw [glook_map] at a
    cases e1 : glook qs k with
    | none => rw [e1] at a; cases a
    | some ent =>
      rw [e1] at a
      cases a
      refine .inl ⟨ent, rfl, ?_, b⟩
      have hm : (k, ent) ∈ ggot qs k := by unfold ggot; rw [e1]; simp
      exact hS.val _ hm
  · rw [glook_map] at a
    cases e1 : glook qs k with
    | none => exact .inr ⟨rfl, b⟩
    | some ent => rw [e1] at a; cases a
theorem SP.clen (h : SP w W c r C cap qs) : Calls Try.prog 14 #[.pointer (some ⟨c, 0, none⟩)] W fun e W' => e = .returned (.int .i64 (qs.length : Nat)) ∧ W = W' := by
  obtain ⟨M, K, h1, _⟩ := h.ex
  have := cclen_any W c M K (C : Int) _ h1
  rw [gmap_len] at this
  exact this
theorem SP.rlen (h : SP w W c r C cap qs) : ∃ A cp, W.cell? ⟨r, 1, none⟩ = some (.slice A qs.length cp) := by
  obtain ⟨v, hb, ho⟩ := h.ref
  obtain ⟨A, cp, rfl, _⟩ := own_at ho
  rw [gmap_len] at hb
  exact ⟨A, cp, hb.cell 1⟩
theorem SP.start {w W : World} {c : Nat} {M K : Nat → Prop} {C : Nat} {cap : Int} (h : CacheAt W c M K (C : Int) []) (y : w.grownBy W none) (hM : ∀ b, M b → w.heap.size ≤ b) : SP w (W.alloc (.cells #[.int .i64 cap, .slice none 0 0] 28)) c W.heap.size C cap [] := by
  have ya : W.grownBy (W.alloc (.cells #[.int .i64 cap, .slice none 0 0] 28)) none := by_alloc (by_refl _ _) _
  exact ⟨⟨M, K, h.grown ya, hM⟩, ⟨.slice none 0 0, Blk.new _ _ _, World.ownsRow_nil _ _ _ _⟩, fun q hq => (by cases hq), Chg.of_none (by_trans y ya (by simp)), y.size, Nat.zero_le _⟩
end
end Go.Proofs.Ytndmnnapjhjkmaa
