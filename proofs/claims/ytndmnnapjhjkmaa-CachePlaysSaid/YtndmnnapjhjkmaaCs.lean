/-
  Caches as the laws use them: what a put, a get, a length does, and that what lies beside stands.
-/
import Derived.Test.YtndmnnapjhjkmaaIs
namespace Go.Proofs.Ytndmnnapjhjkmaa
open Go.RowKit iStrRes

/-- A cache whose blocks all lie from B on; and from the world w on only such have turned. -/
def CS (B : Nat) (w W : World) (c : Nat) (cap : Int) (ps : List (ByteArray × Nat)) : Prop :=
  ∃ M K, CacheAt W c M K cap ps ∧ Chg w W (fun b => B ≤ b) ∧ ∀ b, M b → B ≤ b
/-- what lies beside stands -/
structure Tr (W W' : World) : Prop where
  val : ∀ rv n G, Val W rv n G → Val W' rv n G
  res : ∀ b cs, Blk W b 38 cs → Blk W' b 38 cs
  size : W.heap.size ≤ W'.heap.size
theorem Tr.grown {W W' : World} (y : W.grownBy W' none) : Tr W W' := ⟨fun _ _ _ h => h.grown y, fun _ _ h => h.grown y (by simp), y.size⟩
theorem Tr.trans {W W' W'' : World} (h : Tr W W') (h2 : Tr W' W'') : Tr W W'' := ⟨fun _ _ _ x => h2.val _ _ _ (h.val _ _ _ x), fun _ _ x => h2.res _ _ (h.res _ _ x), Nat.le_trans h.size h2.size⟩
theorem Tr.cache {W W' : World} {c : Nat} {M K : Nat → Prop} {cap : Int} {ps : List (ByteArray × Nat)} (h : CacheAt W c M K cap ps) (hc : Chg W W' M) : Tr W W' :=
  ⟨fun _ _ _ x => x.over h hc, fun b cs hb => hb.chg hc (h.notRes hb).1, hc.size⟩
theorem CS.grown {B : Nat} {w W W' : World} {c : Nat} {cap : Int} {ps : List (ByteArray × Nat)} (h : CS B w W c cap ps) (y : W.grownBy W' none) : CS B w W' c cap ps := by
  obtain ⟨M, K, h1, h2, h3⟩ := h
  exact ⟨M, K, h1.grown y, h2.trans (Chg.of_none (S := fun _ => False) y) (fun _ h => h.elim), h3⟩
theorem CS.by_ {w W : World} {c : Nat} {cap : Int} {ps : List (ByteArray × Nat)} (h : CS w.heap.size w W c cap ps) : w.grownBy W none := by
  obtain ⟨M, K, h1, h2, h3⟩ := h
  exact h2.none_ fun _ h => h
theorem res_at (w : World) (n : Nat) (z : Int) (hz : z = (n : Int)) (hn : n < 256) : Calls Try.prog 9 #[.int .u8 z] w (ResQ w n) := by
  subst hz; exact result_any w n hn
theorem is_at (w : World) (rv : RV) (n : Nat) (G : VG) (z : Int) (hz : z = (n : Int)) (hn : n < 256) (h : Val w rv n G) :
    Calls Try.prog 16 #[.agg #[.slice rv.d.1 rv.d.2.1 rv.d.2.2, .string rv.p, .bool rv.b, .slice rv.vs.1 rv.vs.2.1 rv.vs.2.2, .slice rv.ts.1 rv.ts.2.1 rv.ts.2.2, .int .u64 rv.c], .bool true, .int .u8 z] w
      fun e w' => e = .returned (.bool true) ∧ w.grownBy w' none := by subst hz; exact is_any w rv n G hn h

theorem sz6 (rv : RV) : (Try.prog.info? 38).map (·.size) = some (#[.slice rv.d.1 rv.d.2.1 rv.d.2.2, .string rv.p, .bool rv.b, .slice rv.vs.1 rv.vs.2.1 rv.vs.2.2, .slice rv.ts.1 rv.ts.2.1 rv.ts.2.2, .int .u64 rv.c] : Array Value).size := by
  show _ = some 6
  kernel_rfl
/-- a whole struct read by a guarded operation that is wanted -/
theorem wpList_load_row_g {P : Program} {ops : Array Oper} {rest : List Oper} {o : Oper} {a : Act} {w : World} {Q : Exit → Act → World → Prop} (hw : Region.wanted o (yielded ops a.tmps) = true) (ty : TypeId) (x : Operand) (ho : o.op = .load ty x)
    (g : Nat) (hx : a.eval x = .pointer (some ⟨g, 0, none⟩)) (t : TypeId) (cs : Array Value) (fr : Nat × Nat) (d : TypeDesc) (hg : w.heap[g]? = some (.cells cs t fr))
    (hu : P.underlying ty = some d) (hd : (match d with | .struct _ | .array _ _ => true | _ => false) = true) (hi : (P.info? ty).map (·.size) = some cs.size)
    (h : wpList P ops Q rest (a.put o.dst (.agg cs)) w) : wpList P ops Q (o :: rest) a w := by
  unfold wpList
  rw [if_pos hw]
  exact .inl (wp_load_row ty x ho g hx t cs fr d hg hu hd hi h)
section
variable {B : Nat} {w W : World} {c : Nat} {cap : Int} {ps ps' : List (ByteArray × Nat)} {k : ByteArray}
theorem CS.put (h : CS B w W c cap ps) (hB : B ≤ W.heap.size) (hk : WfI k) (hn : ps.length < 1000000) {rv : RV} {n : Nat} {G : VG} (hv : Val W rv n G) (hp : gput cap ps k n = ps') :
    Calls Try.prog 8 #[.pointer (some ⟨c, 0, none⟩), .string k, .agg #[.slice rv.d.1 rv.d.2.1 rv.d.2.2, .string rv.p, .bool rv.b, .slice rv.vs.1 rv.vs.2.1 rv.vs.2.2, .slice rv.ts.1 rv.ts.2.1 rv.ts.2.2, .int .u64 rv.c]] W fun e W' => e = .returned (.tuple #[]) ∧ CS B w W' c cap ps' ∧ Tr W W' := by
  obtain ⟨M, K, h1, h2, h3⟩ := h
  refine (cput_any W c M K cap ps k rv n G h1 hk hn hv).mono ?_
  rintro e W' ⟨rfl, hC, M', K', h4, h5, h6⟩
  refine ⟨rfl, ⟨M', K', by rw [← hp]; exact h4, h2.trans hC (fun b hb => .inl (h3 b hb)), fun b hb => ?_⟩, Tr.cache h1 hC⟩
  rcases h5 b hb with h | h
  · exact h3 b h
  · exact Nat.le_trans hB h
theorem CS.hit (h : CS B w W c cap ps) (hB : B ≤ W.heap.size) (hk : WfI k) {n : Nat} (hl : glook ps k = some n) (hp : ggot ps k = ps') :
    Calls Try.prog 11 #[.pointer (some ⟨c, 0, none⟩), .string k] W fun e W' => ∃ (rv : RV) (G : VG), e = .returned (.tuple #[.agg #[.slice rv.d.1 rv.d.2.1 rv.d.2.2, .string rv.p, .bool rv.b, .slice rv.vs.1 rv.vs.2.1 rv.vs.2.2, .slice rv.ts.1 rv.ts.2.1 rv.ts.2.2, .int .u64 rv.c], .bool true]) ∧ Val W' rv n G ∧ CS B w W' c cap ps' ∧ Tr W W' := by
  obtain ⟨M, K, h1, h2, h3⟩ := h
  refine (cget_any W c M K cap ps k h1 hk).mono ?_
  rintro e W' ⟨hC, M', K', h4, h5, h6, h7⟩
  rcases h7 with ⟨n', rv, G, h8, rfl, h9, _⟩ | ⟨h8, _⟩
  · rw [hl] at h8
    cases h8
    refine ⟨rv, G, rfl, h9, ⟨M', K', by rw [← hp]; exact h4, h2.trans hC (fun b hb => .inl (h3 b hb)), fun b hb => ?_⟩, Tr.cache h1 hC⟩
    rcases h5 b hb with h | h
    · exact h3 b h
    · exact Nat.le_trans hB h
  · rw [hl] at h8; cases h8
theorem CS.miss (h : CS B w W c cap ps) (hB : B ≤ W.heap.size) (hk : WfI k) (hl : glook ps k = none) :
    Calls Try.prog 11 #[.pointer (some ⟨c, 0, none⟩), .string k] W fun e W' => e = .returned (.tuple #[.agg #[.slice none 0 0, .string ⟨#[]⟩, .bool false, .slice none 0 0, .slice none 0 0, .int .u64 0], .bool false]) ∧ CS B w W' c cap ps ∧ Tr W W' := by
  obtain ⟨M, K, h1, h2, h3⟩ := h
  refine (cget_any W c M K cap ps k h1 hk).mono ?_
  rintro e W' ⟨hC, M', K', h4, h5, h6, h7⟩
  rcases h7 with ⟨n', rv, G, h8, rfl, h9, _⟩ | ⟨h8, rfl⟩
  · rw [hl] at h8; cases h8
  · have e1 : ggot ps k = ps := by unfold ggot; rw [hl]
    rw [e1] at h4
    refine ⟨rfl, ⟨M', K', h4, h2.trans hC (fun b hb => .inl (h3 b hb)), fun b hb => ?_⟩, Tr.cache h1 hC⟩
    rcases h5 b hb with h | h
    · exact h3 b h
    · exact Nat.le_trans hB h
theorem CS.len (h : CS B w W c cap ps) (m : Int) (hm : ((ps.length : Nat) : Int) = m) : Calls Try.prog 14 #[.pointer (some ⟨c, 0, none⟩)] W fun e W' => e = .returned (.int .i64 m) ∧ W = W' := by
  obtain ⟨M, K, h1, h2, h3⟩ := h
  subst hm
  exact cclen_any W c M K cap ps h1
theorem cs_new (W : World) (z : Int) (hz : max z 0 = cap) : Calls Try.prog 7 #[.int .i64 z] W fun e W' => ∃ c, e = .returned (.pointer (some ⟨c, 0, none⟩)) ∧ CS W.heap.size W W' c cap [] ∧ W.grownBy W' none := by
  subst hz
  refine (ccnew_any W z).mono ?_
  rintro e W' ⟨c, M, K, rfl, h1, h2, h3, h4⟩
  exact ⟨c, rfl, ⟨M, K, h1, Chg.of_none h2, h3⟩, h2⟩
/-- a cache stands while another one, that was made later, turns -/
theorem CS.beside {B' : Nat} {w' W' : World} {c' : Nat} {cap' : Int} {ps2 : List (ByteArray × Nat)} (h : CS B w w' c cap ps) (h' : CS B' w' W' c' cap' ps2) (hB : w'.heap.size ≤ B') (hBB : B ≤ B') : CS B w W' c cap ps := by
  obtain ⟨M, K, h1, h2, h3⟩ := h
  obtain ⟨_, _, _, h5, _⟩ := h'
  exact ⟨M, K, h1.chg h5 (fun b hb => by have := h1.ltM b hb; omega) (fun b hb => by have := h1.ltK b hb; omega), h2.trans h5 (fun b hb => .inl (by omega)), h3⟩
theorem CS.size (h : CS B w W c cap ps) : w.heap.size ≤ W.heap.size := by
  obtain ⟨M, K, h1, h2, h3⟩ := h
  exact h2.size
end
end Go.Proofs.Ytndmnnapjhjkmaa
