/-
  The walks of New, Keys and of the law's ints.
-/
import Derived.Test.YtgjklppmimhgnaaPut
import Derived.Test.YtgjklppmimhgnaaAppend
import Derived.Deep.LoopGhost
import Derived.BigQuiet
import Derived.LaidEqlPtr
import Derived.Deep.QuietTactic
namespace Go.Proofs.Ytgjklppmimhgnaa
open Go.RowKit

def NewQ (w : World) (cap : Int) (e : Ending) (w2 : World) : Prop :=
  ∃ l own, e = .returned (.pointer (some ⟨l, 0, none⟩)) ∧ Lru w2 l own cap [] ∧ w.grownBy w2 none ∧ ∀ b, own b → w.heap.size ≤ b

theorem new_facts (w : World) (cap : Int) : ∃ w1, (((w.alloc (.map #[] 0)).alloc (.cells #[.pointer none, .pointer none, .int .i64 0, .int .i64 0] 73)).alloc (.cells #[.int .i64 cap, .map (some w.heap.size), .pointer (some ⟨w.heap.size + 1, 0, none⟩)] 75)) = w1 ∧
    Blk w1 (w.heap.size + 2) 75 #[.int .i64 cap, .map (some w.heap.size), .pointer (some ⟨w.heap.size + 1, 0, none⟩)] ∧ Blk w1 (w.heap.size + 1) 73 #[.pointer none, .pointer none, .int .i64 0, .int .i64 0] ∧
    NewQ w cap (.returned (.pointer (some ⟨w.heap.size + 2, 0, none⟩))) (((w1.setCell ⟨w.heap.size + 1, 0, none⟩ (.pointer (some ⟨w.heap.size + 1, 0, none⟩))).setCell ⟨w.heap.size + 1, 1, none⟩ (.pointer (some ⟨w.heap.size + 1, 0, none⟩))).drew) := by
  obtain ⟨wa, hwa⟩ : ∃ wa, wa = w.alloc (.map #[] 0) := ⟨_, rfl⟩
  have sa : wa.heap.size = w.heap.size + 1 := by rw [hwa]; simp
  have ma : wa.ownsMap (H := Unit) Try.prog 3 ptrElem w.heap.size 0 (.map []) := by rw [hwa]; exact World.ownsMap_made _ _ _ _
  have ga : w.grownBy wa none := by rw [hwa]; exact by_alloc (by_refl _ _) _
  obtain ⟨wb, hwb⟩ : ∃ wb, wb = wa.alloc (.cells #[.pointer none, .pointer none, .int .i64 0, .int .i64 0] 73) := ⟨_, rfl⟩
  have sb : wb.heap.size = w.heap.size + 2 := by rw [hwb]; simp [sa]
  have bb : Blk wb (w.heap.size + 1) 73 #[.pointer none, .pointer none, .int .i64 0, .int .i64 0] := by rw [hwb, ← sa]; exact Blk.new _ _ _
  have mb := ma.alloc (.cells #[.pointer none, .pointer none, .int .i64 0, .int .i64 0] 73)
  rw [← hwb] at mb
  have gb : w.grownBy wb none := by rw [hwb]; exact by_alloc ga _
  obtain ⟨wc, hwc⟩ : ∃ wc, wc = wb.alloc (.cells #[.int .i64 cap, .map (some w.heap.size), .pointer (some ⟨w.heap.size + 1, 0, none⟩)] 75) := ⟨_, rfl⟩
  have bc : Blk wc (w.heap.size + 2) 75 #[.int .i64 cap, .map (some w.heap.size), .pointer (some ⟨w.heap.size + 1, 0, none⟩)] := by rw [hwc, ← sb]; exact Blk.new _ _ _
  have bc1 : Blk wc (w.heap.size + 1) 73 #[.pointer none, .pointer none, .int .i64 0, .int .i64 0] := by rw [hwc]; exact bb.alloc _
  have mc := mb.alloc (.cells #[.int .i64 cap, .map (some w.heap.size), .pointer (some ⟨w.heap.size + 1, 0, none⟩)] 75)
  rw [← hwc] at mc
  have gc : w.grownBy wc none := by rw [hwc]; exact by_alloc gb _
  rw [← hwa, ← hwb, ← hwc]
  refine ⟨wc, rfl, bc, bc1, w.heap.size + 2, fun b => b = w.heap.size + 2 ∨ b = w.heap.size ∨ b ∈ [w.heap.size + 1], rfl, ?_, ?_, ?_⟩
  · have hC : Chg wc ((wc.setCell ⟨w.heap.size + 1, 0, none⟩ (.pointer (some ⟨w.heap.size + 1, 0, none⟩))).setCell ⟨w.heap.size + 1, 1, none⟩ (.pointer (some ⟨w.heap.size + 1, 0, none⟩))).drew (fun b => b = w.heap.size + 1) :=
      (((Chg.refl wc (fun b => b = w.heap.size + 1)).set_ (p := ⟨w.heap.size + 1, 0, none⟩) (.inl rfl) _).set_ (p := ⟨w.heap.size + 1, 1, none⟩) (.inl rfl) _).drew
    refine ⟨w.heap.size, w.heap.size + 1, [], ⟨fun _ => w.heap.size + 1, fun _ => w.heap.size + 1, fun _ => 0, fun _ => 0⟩, ⟨bc.chg hC (by simp), ?_, by simp, ?_, by simp, by simp, .map [], ⟨own_map_chg mc hC (by simp), ?_, by simp, by simp, rfl⟩⟩, rfl, fun b => by simp⟩
    · intro b hb
      obtain rfl : b = w.heap.size + 1 := by simpa using hb
      have := ((bc1.set_ 0 (.pointer (some ⟨w.heap.size + 1, 0, none⟩))).set_ 1 (.pointer (some ⟨w.heap.size + 1, 0, none⟩))).drew
      simpa using this
    · exact ⟨rfl, rfl, trivial⟩
    · intro k _ hk
      simp [Maps.has] at hk
  · exact by_drew (by_set (by_set gc (.inr (by simp)) _) (.inr (by simp)) _)
  · intro b hb
    simp at hb
    omega

set_option maxHeartbeats 1000000 in
theorem new_any (w : World) (cap : Int) :
    Calls Try.prog 8 #[.int .i64 cap] w (NewQ w (max cap 0)) := by
  obtain ⟨w1, hw1, bl, br, hQ⟩ := new_facts w (max cap 0)
  have l2 : w1.cell? ⟨w.heap.size + 2, 2, none⟩ = some (.pointer (some ⟨w.heap.size + 1, 0, none⟩)) := bl.cell 2
  have r0 : w1.cell? ⟨w.heap.size + 1, 0, none⟩ = some (.pointer none) := br.cell 0
  have r1 : w1.cell? ⟨w.heap.size + 1, 1, none⟩ = some (.pointer none) := br.cell 1
  have f0 : w1.frozen? ⟨w.heap.size + 1, 0, none⟩ = false := br.frozen 0
  have f1 : w1.frozen? ⟨w.heap.size + 1, 1, none⟩ = false := br.frozen 1
  have hmk : (Instr.makeMap 68 none).run Try.prog w = .ok (.map (some w.heap.size)) (w.alloc (.map #[] 0)) := run_makeMap _ w
  have Hfin := Lib.hid hQ
  clear hQ bl br
  go_enter Try.func8, Try.ntmps8
  go_wp2_with fail
  clear hw1 hmk
  go_region
  go_wp2
  go_ret
  exact Hfin.out

/-! ### Keys -/
theorem run_neq_ptr_same {P : Program} (w : World) {tp te : TypeId} {j : TypeInfo} (a : Addr) (hp : P.underlying tp = some (.pointer te)) (hte : P.info? te = some j) :
    (binOp .neq tp (.pointer (some a)) (.pointer (some a))).run P w = .ok (.bool false) w := by
  have h : ∀ d : Nat, (Op.equalIn (d + 1) tp (.pointer (some a)) (.pointer (some a))).run P w = .ok true w := fun d => by
    simp [Op.equalIn, run_underlying hp, sizeOf, typeInfo, hte, run_sameAddr_same]
  simp only [binOp]
  simp [Op.equal, Op.maxDepth, h 9999]
theorem run_neq_ptr_other {P : Program} (w : World) {tp te : TypeId} {j : TypeInfo} {a b : Addr} {ca cb : Array Value} {ta tb : TypeId} (hp : P.underlying tp = some (.pointer te)) (hte : P.info? te = some j) (hsz : j.size ≠ 0)
    (hne : a ≠ b) (ha : w.heap[a.block]? = some (.cells ca ta (0, 0))) (hb : w.heap[b.block]? = some (.cells cb tb (0, 0))) :
    (binOp .neq tp (.pointer (some a)) (.pointer (some b))).run P w = .ok (.bool true) w := by
  have h : ∀ d : Nat, (Op.equalIn (d + 1) tp (.pointer (some a)) (.pointer (some b))).run P w = .ok false w := fun d => by
    simp [Op.equalIn, run_underlying hp, sizeOf, typeInfo, hte, hsz, run_sameAddr_other w hne ha hb]
  simp only [binOp]
  simp [Op.equal, Op.maxDepth, h 9999]
theorem infoN : (Try.prog.info? 73).map (·.size) = some 4 := by kernel_rfl
theorem neq_same (w : World) (a : Nat) : (binOp .neq 69 (.pointer (some ⟨a, 0, none⟩)) (.pointer (some ⟨a, 0, none⟩))).run Try.prog w = .ok (.bool false) w := by
  cases hi : Try.prog.info? 73 with
  | none => have := infoN; rw [hi] at this; cases this
  | some j => exact run_neq_ptr_same w _ Try.underlying69 hi
theorem neq_other (w : World) {a b : Nat} {ca cb : Array Value} {ta tb : TypeId} (hne : a ≠ b) (ha : Blk w a ta ca) (hb : Blk w b tb cb) :
    (binOp .neq 69 (.pointer (some ⟨a, 0, none⟩)) (.pointer (some ⟨b, 0, none⟩))).run Try.prog w = .ok (.bool true) w := by
  cases hi : Try.prog.info? 73 with
  | none => have := infoN; rw [hi] at this; cases this
  | some j =>
    refine run_neq_ptr_other w Try.underlying69 hi ?_ (fun e => hne (congrArg Addr.block e)) ha hb
    have := infoN
    rw [hi] at this
    simp at this
    omega
def headOf (r : Nat) : List Nat → Nat
  | [] => r
  | b :: _ => b
theorem ring_next {nx pv : Nat → Nat} {r b : Nat} {done rest : List Nat} (h : Linked nx pv (r :: (done ++ b :: rest) ++ [r])) : nx b = headOf r rest := by
  have e : r :: (done ++ b :: rest) ++ [r] = (r :: done) ++ b :: (rest ++ [r]) := by simp
  rw [e, linked_split] at h
  cases rest with
  | nil => exact h.2.1
  | cons c l => exact h.2.1
theorem ring_begin {nx pv : Nat → Nat} {r : Nat} {ns : List Nat} (h : Linked nx pv (r :: ns ++ [r])) : nx r = headOf r ns := by
  cases ns with
  | nil => exact h.1
  | cons c l => exact h.1

theorem infoI : (Try.prog.info? 3).map (fun i => (i.zero, i.size, i.bytes)) = some (some (.int .i64 0), 1, 8) := by kernel_rfl
theorem info_parts {P : Program} {t : TypeId} {z : Option Value} {n b : Nat} (h : (P.info? t).map (fun i => (i.zero, i.size, i.bytes)) = some (z, n, b)) : ∃ i, P.info? t = some i ∧ i.zero = z ∧ i.size = n ∧ i.bytes = b := by
  cases hi : P.info? t with
  | none => rw [hi] at h; cases h
  | some i => rw [hi] at h; simp at h; exact ⟨i, rfl, h.1, h.2.1, h.2.2⟩

structure KeysRel (w0 : World) (G : Gh) (r : Nat) (ns : List Nat) (k : Nat) (v p : Value) (wr : World) (done rest : List Nat) : Prop where
  eq : ns = done ++ rest
  at_ : p = .pointer (some ⟨headOf r rest, 0, none⟩)
  k_ : k = rest.length
  own : wr.ownsRow w0.heap.size 3 1 v done.length (done.map fun b => .int .i64 (G.kf b))
  by_ : w0.grownBy wr none

def KeysQ (w : World) (ps : List (Int × Int)) (e : Ending) (w2 : World) : Prop :=
  ∃ v, e = .returned v ∧ w2.ownsRow w.heap.size 3 1 v ps.length (ps.map fun q => .int .i64 q.1) ∧ w.grownBy w2 none

set_option maxHeartbeats 1000000 in
set_option maxRecDepth 20000 in
theorem keys_walk (w : World) (l m r : Nat) (ns : List Nat) (G : Gh) (cap : Int) (h : LruAt w l m r ns G cap) (hn : ns.length < 1000000) :
    Calls Try.prog 14 #[.pointer (some ⟨l, 0, none⟩)] w (KeysQ w (ns.map fun b => (G.kf b, G.vf b))) := by
  have l2 : w.cell? ⟨l, 2, none⟩ = some (.pointer (some ⟨r, 0, none⟩)) := h.head.cell 2
  have r1 : w.cell? ⟨r, 1, none⟩ = some (.pointer (some ⟨headOf r ns, 0, none⟩)) := by
    have := (h.nodes r (by simp)).cell 1
    rw [ring_begin h.ring] at this
    exact this
  have H := Lib.hid (And.intro h hn)
  clear h hn
  go_enter Try.func14, Try.ntmps14
  go_wp2
  go_loopg [3, 4] ns.length (fun k v p wr => ∃ done rest, KeysRel w G r ns k v p wr done rest)
  case atStart => exact ⟨[], ns, ⟨rfl, rfl, rfl, World.ownsRow_nil _ _ _ _, by_refl _ _⟩⟩
  case round =>
    obtain ⟨done, rest, hr⟩ := hrel
    have hp := hr.at_
    have c2 : wr.cell? ⟨l, 2, none⟩ = some (.pointer (some ⟨r, 0, none⟩)) := (H.out.1.head.grown hr.by_ (by simp)).cell 2
    have Hr := Lib.hid hr
    clear hr l2 r1
    cases rest with
    | nil =>
      have hfin : KeysQ w (ns.map fun b => (G.kf b, G.vf b)) (.returned u3) wr := by
        have hr := Hr.out
        have he := hr.eq
        rw [List.append_nil] at he
        refine ⟨u3, rfl, ?_, hr.by_⟩
        rw [he]
        simpa [Function.comp_def] using hr.own
      have Hfin := Lib.hid hfin
      clear hfin
      simp only [headOf] at hp
      subst hp
      have hcmp := neq_same wr r
      go_wp2
      go_ret
      exact Hfin.out
    | cons b rest =>
      simp only [headOf] at hp
      subst hp
      have hb : b ∈ r :: ns := by rw [Hr.out.eq]; simp
      have hbr : b ≠ r := by
        have := H.out.1.nodup
        rw [Hr.out.eq] at this
        rintro rfl
        simp at this
      have c1 : wr.cell? ⟨b, 1, none⟩ = some (.pointer (some ⟨headOf r rest, 0, none⟩)) := by
        have := ((H.out.1.nodes b hb).grown Hr.out.by_ (by simp)).cell 1
        have hx := H.out.1.ring
        rw [Hr.out.eq] at hx
        rw [ring_next hx] at this
        exact this
      have cb2 : wr.cell? ⟨b, 2, none⟩ = some (.int .i64 (G.kf b)) := ((H.out.1.nodes b hb).grown Hr.out.by_ (by simp)).cell 2
      have bb := (H.out.1.nodes b hb).grown Hr.out.by_ (by simp)
      have hown2 := Hr.out.own
      have hsm : done.length + 1 ≤ 1000000 := by have h1 := Hr.out.eq; have h2 := H.out.2; rw [h1] at h2; simp at h2; omega
      obtain ⟨i0, hi, hz0, hz1, hz2⟩ := info_parts infoI
      have Hall := Lib.hid (And.intro hsm bb)
      have hcmp := neq_other wr hbr bb ((H.out.1.nodes r (by simp)).grown Hr.out.by_ (by simp))
      clear hsm bb hb hbr
      go_wp2_with (at_builtin; refine wpList_append_own _ rfl _ _ 32 rfl (w.heap.size) 3 i0 (.int .i64 0) 1 8 Try.underlying32 hi hz0 hz1 hz2 rfl (by decide) _ _ _ rfl (hown2.alloc _) ⟨wr.heap.size, 0, none⟩ 1 1 [.int .i64 (G.kf b)] rfl rfl ?c1 ?c2 ?c3 ?c4 ?c5 ?_)
      case c1 => exact cell_one_new _ _ _
      case c2 => simp [Value.oneCell']
      case c3 => have := Hall.out.1; unfold maxLen; omega
      case c4 => have := Hall.out.1; omega
      case c5 => have h1 := Hr.out.by_.size; simp; omega
      intro v' w3 hown3 hby3 _
      have d1 : w3.cell? ⟨b, 1, none⟩ = some (.pointer (some ⟨headOf r rest, 0, none⟩)) := by
        have hbb := (Hall.out.2.alloc (.cells #[.int .i64 (G.kf b)] 3)).grown hby3 (own_blk_ne hown2 Hall.out.2 (by decide)).symm
        have h1 := (Hall.out.2.cell 1).symm.trans c1
        exact (hbb.cell 1).trans h1
      have H3 := Lib.hid (And.intro hown3 hby3)
      clear hown3 hby3 c1
      go_wp2
      go_roundg (rest.length)
      case measure => have := Hr.out.k_; simp at this; omega
      case rel =>
        obtain ⟨hown3, hby3⟩ := H3.out
        have h5 := World.ownsRow.lt hown2
        refine ⟨done ++ [b], rest, ⟨by rw [Hr.out.eq]; simp, rfl, rfl, by simpa using hown3, ?_⟩⟩
        exact by_trans (by_alloc Hr.out.by_ _) hby3 (fun x hx => .inr (h5 x hx).1)

theorem keys_any (w : World) (l : Nat) (own : Nat → Prop) (cap : Int) (ps : List (Int × Int)) (h : Lru w l own cap ps) (hn : ps.length < 1000000) :
    Calls Try.prog 14 #[.pointer (some ⟨l, 0, none⟩)] w (KeysQ w ps) := by
  obtain ⟨m, r, ns, G, h, rfl, ho⟩ := h
  exact keys_walk w l m r ns G cap h (by simpa using hn)

end Go.Proofs.Ytgjklppmimhgnaa
