/-
  slices.Delete of one session, slices.Clone.
-/
import Derived.Test.YtdloapfifhelbaaDelF
import Derived.StillTailTactics
import Derived.Maps.AppendAt
namespace Go.Proofs.Ytdloapfifhelbaa
open Go.RowKit

/-- 'clear' behind the first k elements of a row -/
theorem clear_tail (w : World) (g k c m cp : Nat) (l : List (ByteArray × Nat)) (h : Lst w (.slice (some ⟨g, 0, none⟩) k c) l) (hm : k + (m + 1) ≤ c) :
    ∃ w', (∀ ty, (Builtin.clear_ #[50] ty #[.slice (some ⟨g, k * 2, none⟩) (m + 1) cp]).run Try.prog w = .ok (.tuple #[]) w') ∧ Lst w' (.slice (some ⟨g, 0, none⟩) k c) l ∧ w.grownBy w' (some g) := by
  obtain ⟨cur, hb, hs, ht, hn, hc, hmx⟩ := h.blk
  obtain ⟨vs, hvs⟩ : ∃ vs, vs = (Builtin.zeroCells (Value.agg #[.string ⟨#[]⟩, .int .u64 0]).cells (m + 1)).toList := ⟨_, rfl⟩
  have hlen : vs.length = (m + 1) * 2 := by rw [hvs]; simp [Builtin.zeroCells, Value.cells]
  have h1 : ∀ v ∈ vs, v.oneCell' = true := by
    intro v hv
    rw [hvs] at hv
    simp only [Builtin.zeroCells, Array.toList_map, List.mem_map, Value.cells] at hv
    obtain ⟨j, _, rfl⟩ := hv
    have : j % 2 = 0 ∨ j % 2 = 1 := by omega
    rcases this with h | h
    · simp [h, Value.oneCell']
    · simp [h, Value.oneCell']
  have hst := run_storeCells_at Try.prog g (k * 2) 56 vs 0 cur w hb (by rw [hlen, hs]; omega) h1
  refine ⟨w.setRow g (cur.toList.take (k * 2 + 0) ++ vs ++ cur.toList.drop (k * 2 + 0 + vs.length)).toArray, fun ty => ?_, ?_, ⟨rfl, rfl, rfl, by simp, fun q hk hne => setRow_other w g q _ (fun e => hne (by rw [e]))⟩⟩
  · simp [Builtin.clear_, run_underlying Try.underlying50, zeroSess, ← hvs, hst]
  · have hb2 := setRow_heap w g cur (cur.toList.take (k * 2 + 0) ++ vs ++ cur.toList.drop (k * 2 + 0 + vs.length)).toArray 56 _ hb
    refine Lst.of_blk hb2 ?_ ?_ hn hc hmx
    · simp [hlen, hs]; omega
    · rw [← ht]
      simp only [Nat.add_zero]
      rw [List.append_assoc, List.take_append_of_le_length (by simp [hs]; omega), List.take_take, Nat.min_self]
theorem infoSess : (Try.prog.info? 56).map (fun i => (i.zero, i.size, i.bytes)) = some (some (.agg #[.string ⟨#[]⟩, .int .u64 0]), 2, 24) := by kernel_rfl
theorem info_some {P : Program} {t : TypeId} {z : Value} {a b : Nat} (h : (P.info? t).map (fun i => (i.zero, i.size, i.bytes)) = some (some z, a, b)) : ∃ i, P.info? t = some i ∧ i.zero = some z ∧ i.size = a ∧ i.bytes = b := by
  cases hq : P.info? t with
  | none => simp [hq] at h
  | some i => simp [hq] at h; exact ⟨i, rfl, h.1, h.2.1, h.2.2⟩
theorem elemS : Try.prog.underlying 50 = some (.slice (Try.prog.elem 50)) := by kernel_rfl
theorem sizeS (W : World) : (Go.sizeOf (Try.prog.elem 50)).run Try.prog W = .ok 2 W := by kernel_rfl

theorem wpList_append_run {P : Program} {w : World} {ops : Array Oper} {rest : List Oper} {o : Oper} {a : Act} {Q : Exit → Act → World → Prop} (hgd : o.guard = none) (s x : Operand) (t : TypeId)
    (ho : o.op = .call { callee := .builtin .append, args := #[s, x], argTypes := #[t, t] }) (vs vx v' : Value) (w' : World) (hs : a.eval s = vs) (hx : a.eval x = vx)
    (hrun : ∀ ty, (Builtin.append_ #[t, t] ty #[vs, vx]).run P w = .ok v' w') (h : wpList P ops Q rest (a.put o.dst v') w') : wpList P ops Q (o :: rest) a w := by
  refine wpList_plain hgd fun K hK => ?_
  unfold Oper.wp execOp
  simp only [ho, resolve, invoke, builtin, Sem.run_bind, Sem.run_pure, Result.andThen_ok, List.map_toArray, List.map_cons, List.map_nil, hs, hx, hrun]
  exact hK _ _ h
set_option maxRecDepth 100000 in
set_option maxHeartbeats 1000000 in
theorem delete_any (w : World) (v : Value) (l : List (ByteArray × Nat)) (i : Nat) (hi : i < l.length) (hl : l.length < 1000000) (hv : Lst w v l) :
    Calls Try.prog 31 #[v, .int .i64 (i : Int), .int .i64 ((i : Int) + 1)] w fun e w' => ∃ v', e = .returned v' ∧ Lst w' v' (l.take i ++ l.drop (i + 1)) ∧ w.grownBy w' v.ownBlock ∧ v'.ownBlock = v.ownBlock := by
  obtain ⟨A, c, rfl, hc1, hc2, _, _, hA2, _⟩ := hv.at_
  obtain ⟨g, rfl⟩ := hA2 (by omega)
  obtain ⟨n, hnn⟩ : ∃ n, n = l.length := ⟨_, rfl⟩
  rw [← hnn] at hv hl hc1 hi ⊢
  have hcb : c ≤ 9223372036854775807 := by unfold maxLen at hc2; omega
  obtain ⟨i0, hi0, _, hz1, _⟩ := info_some infoSess
  obtain ⟨m, hm⟩ : ∃ m, m = n - (i + 1) := ⟨_, rfl⟩
  have hmn : i + m + 1 = n := by omega
  have hcutI : Lst w.drew (.slice (some ⟨g, 0, none⟩) i c) (l.take i) := (hv.cut (by omega)).drew
  -- the two slices
  obtain ⟨A0, c0, hs0⟩ : ∃ A0 c0, ∀ W, (Instr.slice 50 (.slice (some ⟨g, 0, none⟩) n c) (some (.int .i64 (i : Int))) (some (.int .i64 ((i : Int) + 1))) (some (.int .i64 (n : Int)))).run Try.prog W = .ok (.slice A0 1 c0) W := by
    refine ⟨if n = i then some ⟨g, 0, none⟩ else (some (⟨g, 0, none⟩ : Addr)).map (·.add (i * 2)), n - i, fun W => ?_⟩
    rw [run_slice_lhm W 50 (some ⟨g, 0, none⟩) n c elemS .i64 .i64 .i64 (i : Int) ((i : Int) + 1) (n : Int) (by omega) (by omega) (by omega) (by omega), sizeS]
    simp only [Result.andThen, sliced, Int.toNat_natCast]
    rw [show ((i : Int) + 1).toNat - i = 1 by omega]
  have hs1 : ∀ W, (Instr.slice 50 (.slice (some ⟨g, 0, none⟩) n c) none (some (.int .i64 (i : Int))) none).run Try.prog W = .ok (.slice (some ⟨g, 0, none⟩) i c) W := fun W => by
    rw [run_slice_h W 50 (some ⟨g, 0, none⟩) n c elemS .i64 (i : Int) (by omega) (by omega), sizeS]
    simp [Result.andThen, sliced, Addr.add]
  obtain ⟨a2, hs2, hr2⟩ : ∃ a2 : Addr, (∀ W, (Instr.slice 50 (.slice (some ⟨g, 0, none⟩) n c) (some (.int .i64 ((i : Int) + 1))) none none).run Try.prog W = .ok (.slice (some a2) m (c - (i + 1))) W) ∧ ∀ j u, (scells (l.drop (i + 1)))[j]? = some u → w.drew.cell? (a2.add j) = some u := by
    refine ⟨if c = i + 1 then ⟨g, 0, none⟩ else ⟨g, (i + 1) * 2, none⟩, fun W => ?_, fun j u hu => ?_⟩
    · rw [run_slice_l W 50 (some ⟨g, 0, none⟩) n c elemS .i64 ((i : Int) + 1) (by omega) (by omega), sizeS]
      simp only [Result.andThen, sliced]
      rw [show ((i : Int) + 1).toNat = i + 1 by omega, ← hm]
      by_cases h : c = i + 1
      · rw [if_pos h, if_pos h]
      · rw [if_neg h, if_neg h]
        simp [Addr.add]
    · have hj := (List.getElem?_eq_some_iff.1 hu).1
      rw [scells_len, List.length_drop] at hj
      rw [if_neg (by omega), addr_add]
      have h2 : (scells l)[(i + 1) * 2 + j]? = some u := by rw [← scells_drop l (i + 1) (by omega), List.getElem?_drop] at hu; exact hu
      have h3 := hv.cells (g := g) rfl _ _ h2
      rw [addr_add, Nat.zero_add] at h3
      exact h3
  obtain ⟨w2, happ, hown2, y2⟩ := run_append_fits (P := Try.prog) w.drew 0 50 0 56 i0 2 Try.underlying50 hi0 hz1 g i c (scells (l.take i)) (by
    have := hcutI
    unfold Lst at this
    rw [List.length_take, Nat.min_eq_left (by omega)] at this
    exact this) a2 m (c - (i + 1)) (scells (l.drop (i + 1))) (by rw [scells_len, List.length_drop]; omega) hr2 (scells_one _) (by omega)
  have happ2 : ∀ ty, (Builtin.append_ #[50, 50] ty #[.slice (some ⟨g, 0, none⟩) i c, .slice (some a2) m (c - (i + 1))]).run Try.prog w.drew = .ok (.slice (some ⟨g, 0, none⟩) (i + m) c) w2 := fun ty => by rw [← happ]; rfl
  have hL2 : Lst w2 (.slice (some ⟨g, 0, none⟩) (i + m) c) (l.take i ++ l.drop (i + 1)) := by
    unfold Lst
    rw [scells_app, List.length_append, List.length_take, List.length_drop, Nat.min_eq_left (by omega), show l.length - (i + 1) = m by omega]
    exact hown2
  obtain ⟨w3, hclr, hL3, y3⟩ := clear_tail w2 g (i + m) c 0 (c - (i + m)) _ hL2 (by omega)
  have hs3 : ∀ W, (Instr.slice 50 (.slice (some ⟨g, 0, none⟩) (i + m) c) (some (.int .i64 ((i + m : Nat) : Int))) (some (.int .i64 (n : Int))) none).run Try.prog W = .ok (.slice (some ⟨g, (i + m) * 2, none⟩) (0 + 1) (c - (i + m))) W := fun W => by
    rw [run_slice_lh W 50 (some ⟨g, 0, none⟩) (i + m) c elemS .i64 .i64 ((i + m : Nat) : Int) (n : Int) (by omega) (by omega) (by omega), sizeS]
    simp only [Result.andThen, sliced, Int.toNat_natCast]
    rw [if_neg (by omega), show n - (i + m) = 0 + 1 by omega]
    simp [Addr.add]
    omega
  have hfin : ∃ v', (Ending.returned (.slice (some ⟨g, 0, none⟩) (i + m) c)) = .returned v' ∧ Lst w3 v' (l.take i ++ l.drop (i + 1)) ∧ w.grownBy w3 (Value.slice (some ⟨g, 0, none⟩) n c).ownBlock ∧ v'.ownBlock = (Value.slice (some ⟨g, 0, none⟩) n c).ownBlock :=
    ⟨_, rfl, hL3, by_trans (by_trans (by_drew (by_refl w _)) y2 (fun _ h => .inl h.symm)) y3 (fun _ h => .inl h.symm), rfl⟩
  have HF := Lib.hid hfin
  have hne : decide ((i : Int) = (i : Int) + 1) = false := by simp; omega
  have hne2 : ((i : Int) == (i : Int) + 1) = false := by simp; omega
  obtain ⟨k, hk⟩ : ∃ k, k = i + m := ⟨_, rfl⟩
  rw [← hk] at happ2 hclr hs3 HF
  have hkn : (k : Int) ≤ (n : Int) := by omega
  have hI0 : (0 : Int) ≤ (i : Int) := by omega
  have hI1 : (i : Int) < (n : Int) := by omega
  have hI2 : (n : Int) ≤ 1000000 := by omega
  have Happ := Lib.hid happ2
  clear hv hnn hi0 hz1 hm hmn hcutI hr2 happ hown2 y2 hL2 hL3 y3 hfin hc2 hk happ2
  go_enter Try.func31, Try.ntmps31
  go_wp2_with fail
  go_still_tail 6, (by kernel_rfl)
  change wpList _ _ _ _ _ w.drew
  go_wp2_with (at_builtin; refine wpList_append_run rfl (.tmp 22) (.tmp 25) 50 rfl _ _ _ w2 rfl rfl Happ.out ?_)
  go_ret
  exact HF.out

set_option maxHeartbeats 1000000 in
theorem clone_any (w : World) (v : Value) (l : List (ByteArray × Nat)) (hl : l.length < 1000000) (hv : Lst w v l) :
    Calls Try.prog 32 #[v] w fun e w' => ∃ v', e = .returned v' ∧ Lst w' v' l ∧ w.grownBy w' none ∧ (∀ g, v'.ownBlock = some g → w.heap.size ≤ g) := by
  obtain ⟨A, c, rfl, hc1, hc2, hA, _, hA2, hA3⟩ := hv.at_
  cases A with
  | none =>
    obtain ⟨rfl, rfl⟩ := hA rfl
    have Hv := Lib.hid hv
    clear hv hA hA2 hA3
    go_enter Try.func32, Try.ntmps32
    have e2 := fun w => Lib.run_eql_slice_nil (P := Try.prog) w 50 56 none 0 0 0 0 Try.underlying50
    go_wp2
    go_ret
    exact ⟨_, rfl, Lst.nil_ _, by_refl _ _, fun g h => (by cases h)⟩
  | some a =>
    obtain ⟨g, rfl⟩ := hA3 a rfl
    have hr : ∀ (W : World), w.grownBy W none → ∀ j u, (scells l)[j]? = some u → W.cell? ((⟨g, 0, none⟩ : Addr).add j) = some u := fun W y j u hu => by
      have h3 := hv.cells (g := g) rfl j u hu
      rw [addr_add, Nat.zero_add] at h3 ⊢
      exact y.cell h3 (by simp)
    obtain ⟨i0, hi0, hz0, hz1, hz2⟩ := info_some infoSess
    have Hr := Lib.hid (And.intro hr (And.intro hi0 (And.intro hz0 (And.intro hz1 hz2))))
    have hO : (w.alloc (.cells #[] 56)).ownsRow 0 56 2 (.slice (some ⟨w.heap.size, 0, none⟩) 0 0) 0 [] := World.ownsRow_made w #[] 0 (Nat.zero_le _) (by unfold maxLen; omega) rfl
    have HO := Lib.hid hO
    have e2 := fun w => Lib.run_eql_slice_nil (P := Try.prog) w 50 56 (some ⟨g, 0, none⟩) l.length c 0 0 Try.underlying50
    clear hv hA hA2 hA3 hr hi0 hz0 hz1 hz2 hO
    go_enter Try.func32, Try.ntmps32
    go_wp2_with (at_builtin; refine wpList_append_own_at _ rfl (.tmp 5) (.tmp 6) 50 rfl 0 56 i0 _ 2 24 Try.underlying50 Hr.out.2.1 Hr.out.2.2.1 Hr.out.2.2.2.1 Hr.out.2.2.2.2 rfl (by decide) (.slice (some ⟨w.heap.size, 0, none⟩) 0 0) 0 [] rfl HO.out ⟨g, 0, none⟩ l.length c (scells l) rfl ?k1 ?k2 ?k3 ?k4 ?k5 (Nat.zero_le _) ?_)
    case k1 => exact scells_len l
    case k2 => exact Hr.out.1 _ (by_alloc (by_refl _ _) _)
    case k3 => exact scells_one l
    case k4 => unfold maxLen; omega
    case k5 => omega
    intro v' w2 ho2 y2 _ hv2
    have hfin : ∃ v2, (Ending.returned v') = .returned v2 ∧ Lst w2 v2 l ∧ w.grownBy w2 none ∧ (∀ g, v2.ownBlock = some g → w.heap.size ≤ g) := by
      try simp only [Nat.zero_add, List.nil_append] at ho2
      refine ⟨v', rfl, ho2, ?_, fun g' hg' => ?_⟩
      · exact ((Chg.of_none (S := fun b => w.heap.size ≤ b) (by_alloc (by_refl w none) _)).trans (Chg.of_by (S := fun b => b = w.heap.size) y2 fun g h => by cases h; rfl) (fun b hb => .inr (Nat.le_of_eq hb.symm))).none_ fun _ h => h
      · rcases hv2 with h | h
        · rw [h] at hg'; cases hg'; exact Nat.le_refl _
        · rw [h] at hg'; cases hg'; simp
    have HF := Lib.hid hfin
    clear hfin ho2 y2 hv2
    go_wp2
    go_ret
    exact HF.out
end Go.Proofs.Ytdloapfifhelbaa
