/-
  slices.DeleteFunc at sessions, with the function value that tells what is over; the maker of that value.
-/
import Derived.Test.YtdloapfifhelbaaIndex
import Derived.Laws.CopyRow
namespace Go.Proofs.Ytdloapfifhelbaa
open Go.RowKit

set_option maxHeartbeats 400000 in
theorem over_any (w : World) (b now ttl : Nat) (h : ∃ s sl lg v, Blk w b 52 #[.string s, .int .u64 (ttl : Int), sl, lg, v]) :
    Calls Try.prog 22 #[.pointer (some ⟨b, 0, none⟩), .int .u64 (now : Int)] w fun e w' => ∃ p1 p2, e = .returned (.func (.func 36) #[] #[.pointer (some ⟨p1, 0, none⟩), .pointer (some ⟨p2, 0, none⟩)]) ∧ w.grownBy w' none ∧ Ov p1 p2 b now ttl w' := by
  have hf : ∃ p1 p2, (Ending.returned (.func (.func 36) #[] #[.pointer (some ⟨w.heap.size + 1, 0, none⟩), .pointer (some ⟨w.heap.size, 0, none⟩)])) = .returned (.func (.func 36) #[] #[.pointer (some ⟨p1, 0, none⟩), .pointer (some ⟨p2, 0, none⟩)]) ∧
      w.grownBy ((w.alloc (.cells #[.pointer (some ⟨b, 0, none⟩)] 25)).alloc (.cells #[.int .u64 (now : Int)] 23)) none ∧ Ov p1 p2 b now ttl ((w.alloc (.cells #[.pointer (some ⟨b, 0, none⟩)] 25)).alloc (.cells #[.int .u64 (now : Int)] 23)) := by
    have y : w.grownBy ((w.alloc (.cells #[.pointer (some ⟨b, 0, none⟩)] 25)).alloc (.cells #[.int .u64 (now : Int)] 23)) none := by_alloc (by_alloc (by_refl _ _) _) _
    refine ⟨_, _, rfl, y, ?_, (Blk.new _ _ _).alloc _, ?_⟩
    · have := Blk.new (w.alloc (.cells #[.pointer (some ⟨b, 0, none⟩)] 25)) 23 #[.int .u64 (now : Int)]
      simpa using this
    · obtain ⟨s, sl, lg, v, hb⟩ := h
      exact ⟨s, sl, lg, v, hb.grown y (by simp)⟩
  have HF := Lib.hid hf
  clear hf h
  go_enter Try.func22, Try.ntmps22
  go_wp2
  go_ret
  exact HF.out

theorem over_eg : ∀ args w, (callFunc 36 args).run Try.prog w = .ok (.enter 36 args) w := enters_of Try.func36 (by kernel_rfl) rfl
theorem find_eg : ∀ args w, (callFunc 40 args).run Try.prog w = .ok (.enter 40 args) w := enters_of Try.func40 (by kernel_rfl) rfl

theorem zeroSess (w : World) : (zeroValue 56).run Try.prog w = .ok (.agg #[.string ⟨#[]⟩, .int .u64 0]) w := by kernel_rfl
/-- 'clear(s[i:])' of a row of its own: the first i stay -/
theorem clear_run (w : World) (g n c i : Nat) (l : List (ByteArray × Nat)) (h : Lst w (.slice (some ⟨g, 0, none⟩) n c) l) (hi : i ≤ n) :
    ∃ w', (∀ ty, (Builtin.clear_ #[50] ty #[.slice (if c = i then some ⟨g, 0, none⟩ else some ⟨g, i * 2, none⟩) (n - i) (c - i)]).run Try.prog w = .ok (.tuple #[]) w') ∧ Lst w' (.slice (some ⟨g, 0, none⟩) i c) (l.take i) ∧ w.grownBy w' (some g) := by
  obtain ⟨cur, hb, hs, ht, hn, hc, hm⟩ := h.blk
  rcases Nat.eq_or_lt_of_le hi with he | hlt
  · subst he
    refine ⟨w, fun ty => ?_, h.cut (by omega), by_refl _ _⟩
    rw [Nat.sub_self]
    by_cases hci : c = i
    · rw [if_pos hci]; simp [Builtin.clear_, run_underlying Try.underlying50]
    · rw [if_neg hci]; simp [Builtin.clear_, run_underlying Try.underlying50]
  · have hci : c ≠ i := by omega
    obtain ⟨vs, hvs⟩ : ∃ vs, vs = (Builtin.zeroCells (Value.agg #[.string ⟨#[]⟩, .int .u64 0]).cells (n - i)).toList := ⟨_, rfl⟩
    have hlen : vs.length = (n - i) * 2 := by rw [hvs]; simp [Builtin.zeroCells, Value.cells]
    have h1 : ∀ v ∈ vs, v.oneCell' = true := by
      intro v hv
      rw [hvs] at hv
      simp only [Builtin.zeroCells, Array.toList_map, List.mem_map, Value.cells] at hv
      obtain ⟨j, _, rfl⟩ := hv
      have : j % 2 = 0 ∨ j % 2 = 1 := by omega
      rcases this with h | h
      · simp [h, Value.oneCell']
      · simp [h, Value.oneCell']
    have hst := run_storeCells_at Try.prog g (i * 2) 56 vs 0 cur w hb (by rw [hlen, hs]; omega) h1
    refine ⟨w.setRow g (cur.toList.take (i * 2 + 0) ++ vs ++ cur.toList.drop (i * 2 + 0 + vs.length)).toArray, fun ty => ?_, ?_, ⟨rfl, rfl, rfl, by simp, fun k hk hne => setRow_other w g k _ (fun e => hne (by rw [e]))⟩⟩
    · rw [if_neg hci]
      obtain ⟨m, hm⟩ : ∃ m, n - i = m + 1 := ⟨n - i - 1, by omega⟩
      rw [hm] at hvs ⊢
      simp [Builtin.clear_, run_underlying Try.underlying50, zeroSess, ← hvs, hst]
    · have hb2 := setRow_heap w g cur (cur.toList.take (i * 2 + 0) ++ vs ++ cur.toList.drop (i * 2 + 0 + vs.length)).toArray 56 _ hb
      refine Lst.of_blk hb2 ?_ ?_ (by simp; omega) (by omega) hm
      · simp [hlen, hs]; omega
      · rw [← scells_take l i (by omega), ← ht, List.take_take, Nat.min_eq_left (by omega)]
        simp only [Nat.add_zero]
        rw [List.append_assoc, List.take_append_of_le_length (by simp [hs]; omega), List.take_take, Nat.min_self]
structure DIn (w wr : World) (g n c : Nat) (l : List (ByteArray × Nat)) (p : ByteArray × Nat → Bool) (i j : Nat) (xs : List (ByteArray × Nat)) : Prop where
  ij : i < j
  jn : j ≤ n
  len : xs.length = n
  lst : Lst wr (.slice (some ⟨g, 0, none⟩) n c) xs
  pre : xs.take i = (l.take j).filter (fun x => !p x)
  post : xs.drop j = l.drop j
  by_ : w.grownBy wr (some g)
theorem filter_keep {l : List (ByteArray × Nat)} {p : ByteArray × Nat → Bool} {j : Nat} (hj : j < l.length) (hp : p l[j] = false) : (l.take (j + 1)).filter (fun x => !p x) = (l.take j).filter (fun x => !p x) ++ [l[j]] := by
  rw [List.take_succ_eq_append_getElem hj, List.filter_append, List.filter_cons, if_pos (by simp [hp]), List.filter_nil]
theorem filter_drop {l : List (ByteArray × Nat)} {p : ByteArray × Nat → Bool} {j : Nat} (hj : j < l.length) (hp : p l[j] = true) : (l.take (j + 1)).filter (fun x => !p x) = (l.take j).filter (fun x => !p x) := by
  rw [List.take_succ_eq_append_getElem hj, List.filter_append, List.filter_cons, if_neg (by simp [hp]), List.filter_nil, List.append_nil]
theorem DIn.skip {w wr w2 : World} {g n c i j : Nat} {l xs : List (ByteArray × Nat)} {p : ByteArray × Nat → Bool} (h : DIn w wr g n c l p i j xs) (hl : l.length = n) (hj : j < n) (hp : p (l[j]'(by omega)) = true) (y : wr.grownBy w2 none) : DIn w w2 g n c l p i (j + 1) xs where
  ij := by have := h.ij; omega
  jn := hj
  len := h.len
  lst := h.lst.grown y
  pre := by rw [h.pre, filter_drop (by omega) hp]
  post := by rw [← List.drop_drop, h.post, List.drop_drop]
  by_ := by_trans h.by_ y (by simp)
theorem DIn.keep {w wr w2 : World} {g n c i j : Nat} {l xs : List (ByteArray × Nat)} {p : ByteArray × Nat → Bool} (h : DIn w wr g n c l p i j xs) (hl : l.length = n) (hj : j < n) (hp : p (l[j]'(by omega)) = false) (y : wr.grownBy w2 none) :
    DIn w ((w2.setCell ⟨g, i * 2, none⟩ (.string (l[j]'(by omega)).1)).setCell ⟨g, i * 2 + 1, none⟩ (.int .u64 ((l[j]'(by omega)).2 : Int))) g n c l p (i + 1) (j + 1) (xs.set i (l[j]'(by omega))) where
  ij := by have := h.ij; omega
  jn := hj
  len := by simp [h.len]
  lst := (h.lst.grown y).stored i (by have := h.ij; have := h.len; omega) _
  pre := by
    have h1 := h.ij
    have h2 := h.len
    rw [List.take_succ_eq_append_getElem (by simp; omega), List.take_set_of_le (Nat.le_refl _), h.pre, filter_keep (by omega) hp]
    simp
  post := by
    have h1 := h.ij
    rw [List.drop_set_of_lt (by omega), ← List.drop_drop, h.post, List.drop_drop]
  by_ := by_set (by_set (by_trans h.by_ y (by simp)) (.inl rfl) _) (.inl rfl) _
theorem DIn.elem {w wr : World} {g n c i j : Nat} {l xs : List (ByteArray × Nat)} {p : ByteArray × Nat → Bool} (h : DIn w wr g n c l p i j xs) (hl : l.length = n) (hj : j < n) : wr.cell? ⟨g, j * 2, none⟩ = some (.string (l[j]'(by omega)).1) ∧ wr.cell? ⟨g, j * 2 + 1, none⟩ = some (.int .u64 ((l[j]'(by omega)).2 : Int)) := by
  have h2 := h.len
  have e : xs[j]'(by omega) = l[j]'(by omega) := by
    have h3 : (xs.drop j)[0]? = (l.drop j)[0]? := by rw [h.post]
    simp only [List.getElem?_drop, Nat.add_zero] at h3
    rw [List.getElem?_eq_getElem (by omega), List.getElem?_eq_getElem (by omega)] at h3
    exact Option.some.inj h3
  rw [← e]
  exact h.lst.cellAt j (by omega)

def DelQ (w : World) (v : Value) (l : List (ByteArray × Nat)) (p : ByteArray × Nat → Bool) (e : Ending) (w' : World) : Prop :=
  ∃ v', e = .returned v' ∧ Lst w' v' (l.filter (fun x => !p x)) ∧ w.grownBy w' v.ownBlock ∧ v'.ownBlock = v.ownBlock

set_option maxRecDepth 100000 in
set_option maxHeartbeats 2000000 in
theorem delf_any (p1 p2 b now ttl : Nat) (hn64 : now < 18446744073709551616) (v : Value) (l : List (ByteArray × Nat)) (w : World) (ho : Ov p1 p2 b now ttl w) (hv : Lst w v l) (hl : l.length < 1000000) :
    Calls Try.prog 21 #[v, .func (.func 36) #[] #[.pointer (some ⟨p1, 0, none⟩), .pointer (some ⟨p2, 0, none⟩)]] w (DelQ w v l (fun x => overB now ttl x.2)) := by
  obtain ⟨p, hp⟩ : ∃ p : ByteArray × Nat → Bool, p = fun x => overB now ttl x.2 := ⟨_, rfl⟩
  rw [← hp]
  have hpred : ∀ (W : World) (x : ByteArray × Nat), Ov p1 p2 b now ttl W → Calls Try.prog 36 #[.agg #[.string x.1, .int .u64 (x.2 : Int)], .pointer (some ⟨p1, 0, none⟩), .pointer (some ⟨p2, 0, none⟩)] W fun e w' => e = .returned (.bool (p x)) ∧ W.grownBy w' none := fun W x h => by
    rw [hp]
    exact over1_any p1 p2 b now ttl hn64 x.1 x.2 W h
  have hidx := index_any 36 #[.pointer (some ⟨p1, 0, none⟩), .pointer (some ⟨p2, 0, none⟩)] over_eg p v l w (fun W x _ y => hpred W x (ho.grown y)) hv hl
  obtain ⟨A, c, rfl, hc1, hc2, hA, _, hA2, _⟩ := hv.at_
  obtain ⟨n, hnn⟩ : ∃ n, n = l.length := ⟨_, rfl⟩
  rw [← hnn] at hv hl hc1 hidx hA2 ⊢
  have hcb : c ≤ 9223372036854775807 := by unfold maxLen at hc2; omega
  cases hf : l.findIdx? p with
  | none =>
    have e1 : idx p l = -1 := by unfold idx; rw [hf]
    have e2 : l.filter (fun x => !p x) = l := List.filter_eq_self.2 fun x hx => by
      rw [List.findIdx?_eq_none_iff] at hf
      simp [hf x hx]
    rw [e1] at hidx
    have H := Lib.hid (And.intro hidx (And.intro hv e2))
    clear hp hpred hidx ho hv hnn hA hA2 hf e1 e2 hc2
    go_enter Try.func21, Try.ntmps21
    go_wp2_with fail
    refine H.out.1.mono ?_
    rintro e w2 ⟨rfl, y2⟩
    have hfin : DelQ w (.slice A n c) l p (.returned (.slice A n c)) w2 := ⟨_, rfl, by rw [H.out.2.2]; exact H.out.2.1.grown y2, by_of_none y2 _, rfl⟩
    have HF := Lib.hid hfin
    clear hfin y2
    go_wp2
    go_ret
    exact HF.out
  | some i0 =>
    have hfi := List.findIdx?_eq_some_iff_getElem.1 hf
    obtain ⟨hi0, hpi, hnot⟩ := hfi
    have e1 : idx p l = (i0 : Int) := by unfold idx; rw [hf]
    rw [e1] at hidx
    have hi0n : i0 < n := by omega
    obtain ⟨g, rfl⟩ := hA2 (by omega)
    have hstart : ∀ w2, w.grownBy w2 none → DIn w w2 g n c l p i0 (i0 + 1) l := fun w2 y => by
      refine ⟨by omega, by omega, hnn.symm, hv.grown y, ?_, rfl, by_of_none y _⟩
      rw [filter_drop hi0 hpi]
      refine (List.filter_eq_self.2 fun x hx => ?_).symm
      obtain ⟨q, hq, rfl⟩ := List.getElem_of_mem hx
      rw [List.length_take] at hq
      rw [List.getElem_take]
      have := hnot q (by omega)
      simpa using this
    have hov : ∀ (wr : World) (i j : Nat) (xs : List (ByteArray × Nat)), DIn w wr g n c l p i j xs → Ov p1 p2 b now ttl wr := fun wr i j xs h => by
      obtain ⟨cur, hb, _⟩ := hv.blk
      exact ho.chg (Chg.of_by (S := fun b => b = g) h.by_ fun g e => by cases e; rfl) fun g' e => ⟨cur, by rw [e]; exact hb⟩
    have H := Lib.hid (And.intro hidx (And.intro hpred (And.intro hstart (And.intro hov (And.intro hnn hv)))))
    clear hp hpred hidx ho hv hnn hA hA2 hf e1 hi0 hpi hnot hstart hov hc2
    go_enter Try.func21, Try.ntmps21
    have hI0 : (0 : Int) ≤ (i0 : Int) := by omega
    have hI1 : (i0 : Int) < (n : Int) := by omega
    have hI2 : (n : Int) ≤ 1000000 := by omega
    go_wp2_with fail
    refine H.out.1.mono ?_
    rintro e w2 ⟨rfl, y2⟩
    have H2 := Lib.hid (H.out.2.2.1 w2 y2)
    clear y2
    go_wp2_with fail
    go_loopg [5, 6, 7] (n - (i0 + 1)) (fun m s5 s6 _ wr => ∃ (i j : Nat) (xs : List (ByteArray × Nat)), m = n - j ∧ s5 = .int .i64 (i : Nat) ∧ s6 = .int .i64 (j : Nat) ∧ DIn w wr g n c l p i j xs)
    case atStart => exact ⟨i0, i0 + 1, l, rfl, rfl, by go_num, H2.out⟩
    case round =>
      clear H2
      obtain ⟨i, j, xs, hm, rfl, rfl, hd⟩ := hrel
      have hij := hd.ij
      have hjn := hd.jn
      have hJ0 : (0 : Int) ≤ (j : Int) := by omega
      have hJ3 : (0 : Int) ≤ (i : Int) := by omega
      rcases Nat.lt_or_ge j n with hlt | hge
      · have hJ1 : (j : Int) < (n : Int) := by omega
        have hJ2 : (i : Int) < (n : Int) := by omega
        have hjl : j < l.length := by rw [← H.out.2.2.2.2.1]; exact hlt
        obtain ⟨x0, x1⟩ := hd.elem H.out.2.2.2.2.1.symm hlt
        have ya : ∀ o, wr.grownBy (wr.alloc o) none := fun o => by_alloc (by_refl _ _) o
        have hcall := H.out.2.1 (wr.alloc (.cells #[.string l[j].1, .int .u64 (l[j].2 : Int)] 56)) l[j] ((H.out.2.2.2.1 wr i j xs hd).grown (ya _))
        obtain ⟨x, hx⟩ : ∃ x, x = l[j] := ⟨_, rfl⟩
        have hkeep := fun hp : p l[j] = false => fun w2 (y : wr.grownBy w2 none) => hd.keep H.out.2.2.2.2.1.symm hlt hp y
        have hskip := fun hp : p l[j] = true => fun w2 (y : wr.grownBy w2 none) => hd.skip H.out.2.2.2.2.1.symm hlt hp y
        rw [← hx] at x0 x1 hcall hkeep hskip
        obtain ⟨tok, t⟩ := x
        dsimp only at x0 x1 hcall hkeep hskip
        have Hd := Lib.hid (And.intro hd (And.intro hm (And.intro hlt (And.intro hkeep hskip))))
        have Hcall := Lib.hid hcall
        clear hd hm hlt hjl hx hkeep hskip hcall hjn ya hij
        cases hq : p (tok, t) with
        | true =>
          have Hq := Lib.hid hq
          rw [hq] at Hcall
          clear hq
          go_wp2_with fail
          refine Hcall.out.mono ?_
          rintro e w3 ⟨rfl, y3⟩
          have H3 := Lib.hid (Hd.out.2.2.2.2 Hq.out w3 (by_trans (by_alloc (by_refl _ _) _) y3 (by simp)))
          clear y3
          go_wp2
          go_roundg (n - (j + 1))
          case measure => have h1 := Hd.out.2.1; have h2 := Hd.out.2.2.1; omega
          case rel => exact ⟨i, j + 1, xs, rfl, rfl, by go_num, H3.out⟩
        | false =>
          have Hq := Lib.hid hq
          rw [hq] at Hcall
          clear hq
          obtain ⟨a7, ha7⟩ : ∃ a, a = wr.heap.size := ⟨_, rfl⟩
          go_wp2_with fail
          refine Hcall.out.mono ?_
          rintro e w3 ⟨rfl, y3⟩
          rw [← ha7]
          have hb7 : Blk w3 a7 56 #[.string tok, .int .u64 (t : Int)] := by rw [ha7]; exact (Blk.new wr _ _).grown y3 (by simp)
          have z0 : w3.cell? ⟨a7, 0, none⟩ = some (.string tok) := hb7.cell 0
          have z1 : w3.cell? ⟨a7, 1, none⟩ = some (.int .u64 (t : Int)) := hb7.cell 1
          have y3' := by_trans (by_alloc (by_refl wr none) _) y3 (by simp)
          have hold := Hd.out.1.lst.grown y3'
          obtain ⟨cur, hcb, hcs, hct, hcn, hcc, hcm⟩ := hold.blk
          have hsz : i * 2 + 1 < cur.size := by have := Hd.out.1.ij; have := Hd.out.1.jn; omega
          obtain ⟨u0, hu0⟩ : ∃ u, w3.cell? ⟨g, i * 2, none⟩ = some u := ⟨cur[i * 2], by rw [hcb.cell]; exact Array.getElem?_eq_getElem (by omega)⟩
          have f0 : w3.frozen? ⟨g, i * 2, none⟩ = false := hcb.frozen _
          have hcb2 := hcb.set_ (i * 2) (.string tok)
          obtain ⟨u1, hu1⟩ : ∃ u, (w3.setCell ⟨g, i * 2, none⟩ (.string tok)).cell? ⟨g, i * 2 + 1, none⟩ = some u := ⟨_, by rw [hcb2.cell]; exact Array.getElem?_eq_getElem (by simp; omega)⟩
          have f1 : (w3.setCell ⟨g, i * 2, none⟩ (.string tok)).frozen? ⟨g, i * 2 + 1, none⟩ = false := hcb2.frozen _
          have H3 := Lib.hid (Hd.out.2.2.2.1 Hq.out w3 y3')
          clear y3 y3' hold hcb hcs hct hcn hcc hcm hsz hcb2 hb7 ha7
          go_wp2
          go_roundg (n - (j + 1))
          case measure => have h1 := Hd.out.2.1; have h2 := Hd.out.2.2.1; omega
          case rel => exact ⟨i + 1, j + 1, _, rfl, by go_num, by go_num, H3.out⟩
      · obtain rfl : j = n := by omega
        have hJ1 : ¬ ((j : Int) < (j : Int)) := by omega
        have hJ2 : (i : Int) ≤ (j : Int) := by omega
        have hic : i ≤ j := by omega
        obtain ⟨w4, hclr, hL4, y4⟩ := clear_run wr g j c i xs hd.lst hic
        have hsl : ∀ W, (Instr.slice 50 (.slice (some ⟨g, 0, none⟩) j c) (some (.int .i64 (i : Int))) none none).run Try.prog W = .ok (.slice (if c = i then some ⟨g, 0, none⟩ else some ⟨g, i * 2, none⟩) (j - i) (c - i)) W := fun W => by
          have hu : Try.prog.underlying 50 = some (.slice (Try.prog.elem 50)) := by kernel_rfl
          have hz : (Go.sizeOf (Try.prog.elem 50)).run Try.prog W = .ok 2 W := by kernel_rfl
          rw [run_slice_l W 50 (some ⟨g, 0, none⟩) j c hu .i64 (i : Int) (by omega) (by omega), hz]
          simp only [Result.andThen, sliced, Int.toNat_natCast]
          congr 2
          by_cases h : c = i
          · rw [if_pos h, if_pos h]
          · rw [if_neg h, if_neg h]
            simp [Addr.add]
            omega
        have hpre : xs.take i = l.filter (fun x => !p x) := by rw [hd.pre, List.take_of_length_le (by rw [H.out.2.2.2.2.1]; exact Nat.le_refl _)]
        rw [hpre] at hL4
        have hfin : DelQ w (.slice (some ⟨g, 0, none⟩) j c) l p (.returned (.slice (some ⟨g, 0, none⟩) i c)) w4 := by
          refine ⟨_, rfl, hL4, by_trans hd.by_ y4 (fun _ h => .inl h.symm), rfl⟩
        have HF := Lib.hid hfin
        have hicI : (i : Int) ≤ (c : Int) := by omega
        obtain ⟨A5, hA5⟩ : ∃ A5, A5 = (if c = i then some ⟨g, 0, none⟩ else some ⟨g, i * 2, none⟩ : Option Addr) := ⟨_, rfl⟩
        rw [← hA5] at hsl hclr
        clear hL4 y4 hfin hpre hd hA5 hij hge hm hic
        go_wp2
        go_ret
        exact HF.out
end Go.Proofs.Ytdloapfifhelbaa
