/-
  CacheLast: a cache and a map of what was put last, side by side in memory.
-/
import Derived.Test.YtndmnnapjhjkmaaLastP
import Derived.Test.YtndmnnapjhjkmaaActs
namespace Go.Proofs.Ytndmnnapjhjkmaa
open Go.RowKit iStrRes

structure St (w W : World) (c mb C : Nat) (ps mp : List (ByteArray × Nat)) : Prop where
  ex : ∃ M K, CacheAt W c M K (C : Int) ps ∧ (∃ D, LastAt W mb mp D) ∧ (∀ b, M b → w.heap.size ≤ b) ∧ ¬ M mb
  chg : Chg w W (fun b => w.heap.size ≤ b)
  base : w.heap.size ≤ mb

theorem CacheAt.notMap {w : World} {c mb n : Nat} {M K : Nat → Prop} {cap : Int} {ps : List (ByteArray × Nat)} {D : DataW Unit} (h : CacheAt w c M K cap ps) (hb : w.ownsMap Try.prog 9 (plainElem Try.prog 5) mb n D) : ¬ K mb := by
  obtain ⟨l, qs, h1, h2, h3, h4, h5⟩ := h
  have ne : ∀ {t : TypeId} {cs : Array Value} {g : Nat}, Blk w g t cs → mb ≠ g := by
    intro t cs g hg
    obtain ⟨es, clock, hm, _⟩ := hb
    rintro rfl
    unfold Blk at hg
    rw [hm] at hg
    simp at hg
  intro hk
  rcases (h5 mb).1 hk with h | ⟨q, hq, ⟨hn, h⟩ | ⟨i, hi, h⟩⟩
  · exact ne h1 h
  · have hv := h4 q hq
    rcases h with h | h | h
    · obtain ⟨_, _, h6, _⟩ := hv.d.at_ hn; exact ne h6 h
    · obtain ⟨_, _, h6, _⟩ := hv.v.at_ hn; exact ne h6 h
    · obtain ⟨_, _, h6, _⟩ := hv.t.at_ hn; exact ne h6 h
  · have hv := h4 q hq
    rcases h with h | h
    · exact ne (hv.tp i hi) h
    · exact ne (hv.tq i hi) h

section
variable {w W W' : World} {c mb C : Nat} {ps mp : List (ByteArray × Nat)} {k : ByteArray}
theorem St.grown (h : St w W c mb C ps mp) (y : W.grownBy W' none) : St w W' c mb C ps mp := by
  obtain ⟨⟨M, K, h1, ⟨D, h2⟩, h3, h4⟩, h5, h6⟩ := h
  exact ⟨⟨M, K, h1.grown y, ⟨D, h2.chg (Chg.of_none (S := fun _ => False) y) id⟩, h3, h4⟩, h5.trans (Chg.of_none (S := fun _ => False) y) (fun _ h => h.elim), h6⟩
theorem St.keys (h : St w W c mb C ps mp) : (ps.map (·.1)).Nodup := by
  obtain ⟨⟨M, K, h1, _⟩, _⟩ := h
  exact h1.keys.1
theorem St.put (h : St w W c mb C ps mp) (hk : WfI k) (hn : ps.length < 1000000) {rv : RV} {n : Nat} {G : VG} (hv : Val W rv n G) :
    Calls Try.prog 8 #[.pointer (some ⟨c, 0, none⟩), .string k, .agg #[.slice rv.d.1 rv.d.2.1 rv.d.2.2, .string rv.p, .bool rv.b, .slice rv.vs.1 rv.vs.2.1 rv.vs.2.2, .slice rv.ts.1 rv.ts.2.1 rv.ts.2.2, .int .u64 rv.c]] W fun e W' => e = .returned (.tuple #[]) ∧ St w W' c mb C (gput (C : Int) ps k n) mp := by
  obtain ⟨⟨M, K, h1, ⟨D, h2⟩, h3, h4⟩, h5, h6⟩ := h
  refine (cput_any W c M K (C : Int) ps k rv n G h1 hk hn hv).mono ?_
  rintro e W' ⟨rfl, hC, M', K', g4, g5, _⟩
  refine ⟨rfl, ⟨⟨M', K', g4, ⟨D, h2.chg hC h4⟩, fun b hb => ?_, fun hb => ?_⟩, h5.trans hC (fun b hb => .inl (h3 b hb)), h6⟩⟩
  · rcases g5 b hb with h | h
    · exact h3 b h
    · exact Nat.le_trans h5.size h
  · rcases g5 mb hb with h | h
    · exact h4 h
    · have := h2.lt; omega
theorem St.mapPut (h : St w W c mb C ps mp) (hk : WfI k) {n : Nat} (hn : n < 256) (hl : mp.length < 1000000) (hmk : (mp.map (·.1)).Nodup) :
    ∃ W', (Instr.mapUpdate 46 (.map (some mb)) (.string k) (.int .u8 (n : Int))).run Try.prog W = .ok () W' ∧ St w W' c mb C ps (mput mp k n) := by
  obtain ⟨⟨M, K, h1, ⟨D, h2⟩, h3, h4⟩, h5, h6⟩ := h
  obtain ⟨W', hrun, h7, y⟩ := h2.put hk hn hl hmk
  have hC : Chg W W' (fun b => b = mb) := Chg.of_by y fun g e => by cases e; rfl
  exact ⟨W', hrun, ⟨M, K, h1.chg hC (fun b hb e => h4 (e ▸ hb)) (fun b hb e => h1.notMap h2.own (e ▸ hb)), h7, h3, h4⟩, h5.trans hC (fun b hb => .inl (by rw [hb]; exact h6)), h6⟩
theorem St.get (h : St w W c mb C ps mp) (hk : WfI k) :
    Calls Try.prog 11 #[.pointer (some ⟨c, 0, none⟩), .string k] W fun e W' => St w W' c mb C (ggot ps k) mp ∧
      ((∃ n rv G, glook ps k = some n ∧ e = .returned (.tuple #[.agg #[.slice rv.d.1 rv.d.2.1 rv.d.2.2, .string rv.p, .bool rv.b, .slice rv.vs.1 rv.vs.2.1 rv.vs.2.2, .slice rv.ts.1 rv.ts.2.1 rv.ts.2.2, .int .u64 rv.c], .bool true]) ∧ Val W' rv n G) ∨
       (glook ps k = none ∧ e = .returned (.tuple #[.agg #[.slice none 0 0, .string ⟨#[]⟩, .bool false, .slice none 0 0, .slice none 0 0, .int .u64 0], .bool false]))) := by
  obtain ⟨⟨M, K, h1, ⟨D, h2⟩, h3, h4⟩, h5, h6⟩ := h
  refine (cget_any W c M K (C : Int) ps k h1 hk).mono ?_
  rintro e W' ⟨hC, M', K', g4, g5, _, g7⟩
  refine ⟨⟨⟨M', K', g4, ⟨D, h2.chg hC h4⟩, fun b hb => ?_, fun hb => ?_⟩, h5.trans hC (fun b hb => .inl (h3 b hb)), h6⟩, ?_⟩
  · rcases g5 b hb with h | h
    · exact h3 b h
    · exact Nat.le_trans h5.size h
  · rcases g5 mb hb with h | h
    · exact h4 h
    · have := h2.lt; omega
  · rcases g7 with ⟨n, rv, G, a, b, d, _⟩ | ⟨a, b⟩
    · exact .inl ⟨n, rv, G, a, b, d⟩
    · exact .inr ⟨a, b⟩
theorem St.len (h : St w W c mb C ps mp) : Calls Try.prog 14 #[.pointer (some ⟨c, 0, none⟩)] W fun e W' => e = .returned (.int .i64 (ps.length : Nat)) ∧ W = W' := by
  obtain ⟨⟨M, K, h1, _⟩, _⟩ := h
  exact cclen_any W c M K (C : Int) ps h1
theorem St.look (h : St w W c mb C ps mp) (hk : WfI k) :
    (Instr.lookup 46 (.map (some mb)) (.string k) true).run Try.prog W = .ok (match glook mp k with | some n => .tuple #[.int .u8 (n : Int), .bool true] | none => .tuple #[.int .u8 0, .bool false]) W := by
  obtain ⟨⟨M, K, h1, ⟨D, h2⟩, h3, h4⟩, h5, h6⟩ := h
  exact h2.look hk
theorem St.mlen (h : St w W c mb C ps mp) (ty : TypeId) : (Builtin.len_ #[46] ty #[.map (some mb)]).run Try.prog W = .ok (.int .i64 (mp.length : Nat)) W := by
  obtain ⟨⟨M, K, h1, ⟨D, h2⟩, h3, h4⟩, h5, h6⟩ := h
  exact h2.len ty
theorem St.by_ (h : St w W c mb C ps mp) : w.grownBy W none := h.chg.none_ fun _ h => h
theorem St.start {w w0 W : World} {c : Nat} {M K : Nat → Prop} {C : Nat} (h : CacheAt W c M K (C : Int) []) (y : w.grownBy w0 none) (y2 : w0.grownBy W none) (hM : ∀ b, M b → w0.heap.size ≤ b) : St w (W.alloc (.map #[] 0)) c W.heap.size C [] [] := by
  obtain ⟨D, hD⟩ := LastAt.made W
  have ya : W.grownBy (W.alloc (.map #[] 0)) none := by_alloc (by_refl _ _) _
  have h0 := y.size
  refine ⟨⟨M, K, h.grown ya, ⟨D, hD⟩, fun b hb => Nat.le_trans h0 (hM b hb), fun hb => by have := h.ltM _ hb; omega⟩, Chg.of_none (by_trans (by_trans y y2 (by simp)) ya (by simp)), ?_⟩
  have := y2.size
  omega
end
end Go.Proofs.Ytndmnnapjhjkmaa
