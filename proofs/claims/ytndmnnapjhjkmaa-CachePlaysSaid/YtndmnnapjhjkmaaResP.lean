/-
  While the result of a number is being made: what lies where; plain laws (resp.py).
-/
import Derived.Test.YtndmnnapjhjkmaaCPut
import Derived.Deep.AppendLies
namespace Go.Proofs.Ytndmnnapjhjkmaa
open Go.RowKit iStrRes

abbrev slv (d : Option Addr × Nat × Nat) : Value := .slice d.1 d.2.1 d.2.2
def rA (n : Nat) (d v t : Option Addr × Nat × Nat) : Array Value := #[slv d, .string ⟨#[109]⟩, .bool (decide (n % 5 = 0)), slv v, slv t, .int .u64 (n : Int)]

structure RR (w wr : World) (n kd kv kt : Nat) (d v t : Option Addr × Nat × Nat) (P Q : Nat → Nat) : Prop where
  by_ : w.grownBy wr none
  b2 : Blk wr w.heap.size 38 #[.slice none 0 0, .string ⟨#[]⟩, .bool false, .slice none 0 0, .slice none 0 0, .int .u64 0]
  b3 : Blk wr (w.heap.size + 1) 38 (rA n d v t)
  oD : wr.ownsRow (w.heap.size + 2) 50 3 (slv d) kd (rows (dcell n) kd)
  oV : wr.ownsRow (w.heap.size + 2) 53 2 (slv v) kv (rows (vcell P) kv)
  oT : wr.ownsRow (w.heap.size + 2) 53 2 (slv t) kt (rows (tcell Q) kt)
  ne : ∀ g, (slv v).ownBlock = some g → (slv t).ownBlock ≠ some g
  tp : ∀ i, i < kv → Blk wr (P i) 64 (tyCells (1 + n % 5)) ∧ w.heap.size ≤ P i
  tq : ∀ i, i < kt → Blk wr (Q i) 64 (tyCells 2) ∧ w.heap.size ≤ Q i

theorem own_ne {w : World} {b1 b2 k1 k2 n1 n2 : Nat} {e1 e2 : TypeId} {x y : Value} {xs ys : List Value} (h1 : w.ownsRow b1 e1 k1 x n1 xs) (h2 : w.ownsRow b2 e2 k2 y n2 ys) (hne : e1 ≠ e2) : ∀ g, x.ownBlock = some g → y.ownBlock ≠ some g := by
  intro g hx hy
  rcases h1.2 with ⟨h1, _⟩ | ⟨g1, _, _, h1, _, hh1, _⟩
  · rw [h1] at hx; cases hx
  · rw [h1] at hx
    rcases h2.2 with ⟨h2, _⟩ | ⟨g2, _, _, h2, _, hh2, _⟩
    · rw [h2] at hy; cases hy
    · rw [h2] at hy
      simp [Value.ownBlock] at hx hy
      subst hx hy
      rw [hh1] at hh2
      simp at hh2
      exact hne hh2.2
theorem own_far {w w' : World} {base n k : Nat} {e : TypeId} {xs : List Value} {x : Value} (h : w.ownsRow base e k x n xs) {S : Nat → Prop} (hc : Chg w w' S) (hS : ∀ b, base ≤ b → b < w.heap.size → x.ownBlock = some b → ¬ S b) : w'.ownsRow base e k x n xs :=
  own_chg h hc fun b hb => hS b (World.ownsRow.lt h b hb).1 (World.ownsRow.lt h b hb).2 hb
theorem or_not {A B : Prop} (h1 : A → False) (h2 : B → False) : ¬ (A ∨ B) := fun h => h.elim h1 h2

section
variable {w wr w0 w1 : World} {n kd kv kt g cap : Nat} {d v t : Option Addr × Nat × Nat} {P Q : Nat → Nat}
theorem RR.grown (h : RR w wr n kd kv kt d v t P Q) (y : wr.grownBy w0 none) : RR w w0 n kd kv kt d v t P Q where
  by_ := by_trans h.by_ y (by simp)
  b2 := h.b2.grown y (by simp)
  b3 := h.b3.grown y (by simp)
  oD := own_chg h.oD (Chg.of_none (S := fun _ => False) y) fun _ _ h => h
  oV := own_chg h.oV (Chg.of_none (S := fun _ => False) y) fun _ _ h => h
  oT := own_chg h.oT (Chg.of_none (S := fun _ => False) y) fun _ _ h => h
  ne := h.ne
  tp := fun i hi => ⟨(h.tp i hi).1.grown y (by simp), (h.tp i hi).2⟩
  tq := fun i hi => ⟨(h.tq i hi).1.grown y (by simp), (h.tq i hi).2⟩
theorem RR.typeP (h : RR w wr n kd kv kt d v t P Q) (p : Nat) : RR w wr n kd kv kt d v t (upd P kv p) Q where
  by_ := h.by_
  b2 := h.b2
  b3 := h.b3
  oD := h.oD
  oV := by
    have : rows (vcell (upd P kv p)) kv = rows (vcell P) kv := rows_congr fun i hi => by unfold vcell; rw [upd_ne _ _ (by omega)]
    rw [this]; exact h.oV
  oT := h.oT
  ne := h.ne
  tp := fun i hi => by rw [upd_ne _ _ (by omega)]; exact h.tp i hi
  tq := h.tq
theorem RR.typeQ (h : RR w wr n kd kv kt d v t P Q) (p : Nat) : RR w wr n kd kv kt d v t P (upd Q kt p) where
  by_ := h.by_
  b2 := h.b2
  b3 := h.b3
  oD := h.oD
  oV := h.oV
  oT := by
    have : rows (tcell (upd Q kt p)) kt = rows (tcell Q) kt := rows_congr fun i hi => by unfold tcell; rw [upd_ne _ _ (by omega)]
    rw [this]; exact h.oT
  ne := h.ne
  tp := h.tp
  tq := fun i hi => by rw [upd_ne _ _ (by omega)]; exact h.tq i hi
theorem RR.stepD (h : RR w w0 n kd kv kt d v t P Q) (ho : w1.ownsRow (w.heap.size + 2) 50 3 (.slice (some ⟨g, 0, none⟩) (kd + 1) cap) (kd + 1) (rows (dcell n) kd ++ dcell n kd)) (hg : w0.grownBy w1 (slv d).ownBlock) :
    RR w (w1.setCell ⟨w.heap.size + 1, 0, none⟩ (.slice (some ⟨g, 0, none⟩) (kd + 1) cap)) n (kd + 1) kv kt (some ⟨g, 0, none⟩, kd + 1, cap) v t P Q := by
  have hC1 : Chg w0 w1 (fun b => (slv d).ownBlock = some b) := Chg.of_by hg fun g h => h
  have hC : Chg w0 (w1.setCell ⟨w.heap.size + 1, 0, none⟩ (.slice (some ⟨g, 0, none⟩) (kd + 1) cap)) (fun b => (slv d).ownBlock = some b ∨ b = w.heap.size + 1) :=
    (hC1.mono (T := fun b => (slv d).ownBlock = some b ∨ b = w.heap.size + 1) fun _ _ h => .inl h).set_ (p := ⟨w.heap.size + 1, 0, none⟩) (.inl (.inr rfl)) _
  have key : ∀ b, (slv d).ownBlock = some b → w.heap.size + 2 ≤ b := fun b hb => (World.ownsRow.lt h.oD b hb).1
  have hT : ∀ b cs, Blk w0 b 64 cs → ¬ ((slv d).ownBlock = some b ∨ b = w.heap.size + 1) := fun b cs hb => or_not (fun e => own_blk_ne h.oD hb (by decide) e) (fun e => h.b3.ne_ hb (by decide) e.symm)
  refine ⟨?_, ?_, ?_, ?_, ?_, ?_, ?_, ?_, ?_⟩
  · exact ((Chg.of_none (S := fun b => w.heap.size ≤ b) h.by_).trans hC (fun b hb => .inl (by rcases hb with hb | hb; (have := key b hb; omega); omega))).none_ fun b hb => hb
  · exact h.b2.chg hC (or_not (fun hb => by have := key _ hb; omega) (fun hb => by omega))
  · exact (h.b3.chg hC1 (fun hb => by have := key _ hb; omega)).set_ 0 _
  · rw [rows_succ]
    exact own_far ho ((Chg.refl w1 (fun b => b = w.heap.size + 1)).set_ (p := ⟨w.heap.size + 1, 0, none⟩) (.inl rfl) _) fun b hb _ _ e => by omega
  · exact own_far h.oV hC fun b hb _ hx => or_not (fun e => own_ne h.oV h.oD (by decide) b hx e) (fun e => by omega)
  · exact own_far h.oT hC fun b hb _ hx => or_not (fun e => own_ne h.oT h.oD (by decide) b hx e) (fun e => by omega)
  · exact h.ne
  · exact fun i hi => ⟨(h.tp i hi).1.chg hC (hT _ _ (h.tp i hi).1), (h.tp i hi).2⟩
  · exact fun i hi => ⟨(h.tq i hi).1.chg hC (hT _ _ (h.tq i hi).1), (h.tq i hi).2⟩
theorem RR.stepV (h : RR w w0 n kd kv kt d v t P Q) (ho : w1.ownsRow (w.heap.size + 2) 53 2 (.slice (some ⟨g, 0, none⟩) (kv + 1) cap) (kv + 1) (rows (vcell P) kv ++ vcell P kv)) (hg : w0.grownBy w1 (slv v).ownBlock) (hp : Blk w0 (P kv) 64 (tyCells (1 + n % 5)) ∧ w.heap.size ≤ P kv) (hat : (slv v).ownBlock = some g ∨ g = w0.heap.size) :
    RR w (w1.setCell ⟨w.heap.size + 1, 3, none⟩ (.slice (some ⟨g, 0, none⟩) (kv + 1) cap)) n kd (kv + 1) kt d (some ⟨g, 0, none⟩, kv + 1, cap) t P Q := by
  have hC1 : Chg w0 w1 (fun b => (slv v).ownBlock = some b) := Chg.of_by hg fun g h => h
  have hC : Chg w0 (w1.setCell ⟨w.heap.size + 1, 3, none⟩ (.slice (some ⟨g, 0, none⟩) (kv + 1) cap)) (fun b => (slv v).ownBlock = some b ∨ b = w.heap.size + 1) :=
    (hC1.mono (T := fun b => (slv v).ownBlock = some b ∨ b = w.heap.size + 1) fun _ _ h => .inl h).set_ (p := ⟨w.heap.size + 1, 3, none⟩) (.inl (.inr rfl)) _
  have key : ∀ b, (slv v).ownBlock = some b → w.heap.size + 2 ≤ b := fun b hb => (World.ownsRow.lt h.oV b hb).1
  have hT : ∀ b cs, Blk w0 b 64 cs → ¬ ((slv v).ownBlock = some b ∨ b = w.heap.size + 1) := fun b cs hb => or_not (fun e => own_blk_ne h.oV hb (by decide) e) (fun e => h.b3.ne_ hb (by decide) e.symm)
  refine ⟨?_, ?_, ?_, ?_, ?_, ?_, ?_, ?_, ?_⟩
  · exact ((Chg.of_none (S := fun b => w.heap.size ≤ b) h.by_).trans hC (fun b hb => .inl (by rcases hb with hb | hb; (have := key b hb; omega); omega))).none_ fun b hb => hb
  · exact h.b2.chg hC (or_not (fun hb => by have := key _ hb; omega) (fun hb => by omega))
  · exact (h.b3.chg hC1 (fun hb => by have := key _ hb; omega)).set_ 3 _
  · exact own_far h.oD hC fun b hb _ hx => or_not (fun e => own_ne h.oD h.oV (by decide) b hx e) (fun e => by omega)
  · rw [rows_succ]
    exact own_far ho ((Chg.refl w1 (fun b => b = w.heap.size + 1)).set_ (p := ⟨w.heap.size + 1, 3, none⟩) (.inl rfl) _) fun b hb _ _ e => by omega
  · exact own_far h.oT hC fun b hb _ hx => or_not (fun e => h.ne b e hx) (fun e => by omega)
  · intro b hb ht
    have e : g = b := by simpa [Value.ownBlock] using hb
    subst e
    rcases hat with e | e
    · exact h.ne _ e ht
    · have := (World.ownsRow.lt h.oT _ ht).2; omega
  · intro i hi
    rcases Nat.lt_or_ge i kv with h1 | h1
    · exact ⟨(h.tp i h1).1.chg hC (hT _ _ (h.tp i h1).1), (h.tp i h1).2⟩
    · obtain rfl : i = kv := by omega
      exact ⟨hp.1.chg hC (hT _ _ hp.1), hp.2⟩
  · exact fun i hi => ⟨(h.tq i hi).1.chg hC (hT _ _ (h.tq i hi).1), (h.tq i hi).2⟩
theorem RR.stepT (h : RR w w0 n kd kv kt d v t P Q) (ho : w1.ownsRow (w.heap.size + 2) 53 2 (.slice (some ⟨g, 0, none⟩) (kt + 1) cap) (kt + 1) (rows (tcell Q) kt ++ tcell Q kt)) (hg : w0.grownBy w1 (slv t).ownBlock) (hp : Blk w0 (Q kt) 64 (tyCells 2) ∧ w.heap.size ≤ Q kt) (hat : (slv t).ownBlock = some g ∨ g = w0.heap.size) :
    RR w (w1.setCell ⟨w.heap.size + 1, 4, none⟩ (.slice (some ⟨g, 0, none⟩) (kt + 1) cap)) n kd kv (kt + 1) d v (some ⟨g, 0, none⟩, kt + 1, cap) P Q := by
  have hC1 : Chg w0 w1 (fun b => (slv t).ownBlock = some b) := Chg.of_by hg fun g h => h
  have hC : Chg w0 (w1.setCell ⟨w.heap.size + 1, 4, none⟩ (.slice (some ⟨g, 0, none⟩) (kt + 1) cap)) (fun b => (slv t).ownBlock = some b ∨ b = w.heap.size + 1) :=
    (hC1.mono (T := fun b => (slv t).ownBlock = some b ∨ b = w.heap.size + 1) fun _ _ h => .inl h).set_ (p := ⟨w.heap.size + 1, 4, none⟩) (.inl (.inr rfl)) _
  have key : ∀ b, (slv t).ownBlock = some b → w.heap.size + 2 ≤ b := fun b hb => (World.ownsRow.lt h.oT b hb).1
  have hT : ∀ b cs, Blk w0 b 64 cs → ¬ ((slv t).ownBlock = some b ∨ b = w.heap.size + 1) := fun b cs hb => or_not (fun e => own_blk_ne h.oT hb (by decide) e) (fun e => h.b3.ne_ hb (by decide) e.symm)
  refine ⟨?_, ?_, ?_, ?_, ?_, ?_, ?_, ?_, ?_⟩
  · exact ((Chg.of_none (S := fun b => w.heap.size ≤ b) h.by_).trans hC (fun b hb => .inl (by rcases hb with hb | hb; (have := key b hb; omega); omega))).none_ fun b hb => hb
  · exact h.b2.chg hC (or_not (fun hb => by have := key _ hb; omega) (fun hb => by omega))
  · exact (h.b3.chg hC1 (fun hb => by have := key _ hb; omega)).set_ 4 _
  · exact own_far h.oD hC fun b hb _ hx => or_not (fun e => own_ne h.oD h.oT (by decide) b hx e) (fun e => by omega)
  · exact own_far h.oV hC fun b hb _ hx => or_not (fun e => h.ne b hx e) (fun e => by omega)
  · rw [rows_succ]
    exact own_far ho ((Chg.refl w1 (fun b => b = w.heap.size + 1)).set_ (p := ⟨w.heap.size + 1, 4, none⟩) (.inl rfl) _) fun b hb _ _ e => by omega
  · intro b hb ht
    have e : g = b := by simpa [Value.ownBlock] using ht
    subst e
    rcases hat with e | e
    · exact h.ne _ hb e
    · have := (World.ownsRow.lt h.oV _ hb).2; omega
  · exact fun i hi => ⟨(h.tp i hi).1.chg hC (hT _ _ (h.tp i hi).1), (h.tp i hi).2⟩
  · intro i hi
    rcases Nat.lt_or_ge i kt with h1 | h1
    · exact ⟨(h.tq i h1).1.chg hC (hT _ _ (h.tq i h1).1), (h.tq i h1).2⟩
    · obtain rfl : i = kt := by omega
      exact ⟨hp.1.chg hC (hT _ _ hp.1), hp.2⟩

theorem Sl.of_own {base k : Nat} {e : TypeId} {x : Option Addr × Nat × Nat} {xs : List Value} (h : wr.ownsRow base e k (slv x) n xs) : ∃ g, Sl wr e x n xs g ∧ (0 < n → base ≤ g ∧ (slv x).ownBlock = some g) := by
  obtain ⟨x1, x2, x3⟩ := x
  rcases h.2 with ⟨h1, h2⟩ | ⟨g, cap, cur, h1, h2, h3, h4, h5, h6, h7⟩
  · injection h1 with a b c
    simp only at a b c
    subst a b c h2
    exact ⟨0, ⟨rfl, Nat.le_refl _, fun _ => ⟨rfl, rfl⟩, fun h => absurd h (by omega)⟩, fun h => absurd h (by omega)⟩
  · injection h1 with a b c
    simp only at a b c
    subst a b c
    refine ⟨g, ⟨rfl, h4, (fun e => nomatch e), fun _ => ⟨cur, rfl, h3, fun j u hj => ?_⟩⟩, fun _ => ⟨h2, rfl⟩⟩
    rw [← h7, List.getElem?_take] at hj
    split at hj
    · simpa using hj
    · cases hj
def ResQ (w : World) (n : Nat) (e : Ending) (w' : World) : Prop :=
  ∃ (rv : RV) (G : VG), e = .returned (.agg #[.slice rv.d.1 rv.d.2.1 rv.d.2.2, .string rv.p, .bool rv.b, .slice rv.vs.1 rv.vs.2.1 rv.vs.2.2, .slice rv.ts.1 rv.ts.2.1 rv.ts.2.2, .int .u64 rv.c]) ∧ Val w' rv n G ∧ w.grownBy w' none ∧ (∀ b, G.inL n b → w.heap.size ≤ b) ∧ (∀ b, G.inT n b → w.heap.size ≤ b)
theorem RR.done (h : RR w wr n (n % 4) (n % 4) (n % 4) d v t P Q) {w' : World} (hC : Chg wr w' (fun b => b = w.heap.size)) :
    ResQ w n (.returned (.agg (rA n d v t))) w' := by
  obtain ⟨gd, sd, hd⟩ := Sl.of_own h.oD
  obtain ⟨gv, sv, hv⟩ := Sl.of_own h.oV
  obtain ⟨gt, st, ht⟩ := Sl.of_own h.oT
  have y : w.grownBy w' none := ((Chg.of_none (S := fun b => b = w.heap.size) h.by_).trans hC (fun _ h => .inl h)).none_ (fun k hk => by rw [hk]; exact Nat.le_refl _)
  refine ⟨⟨d, ⟨#[109]⟩, decide (n % 5 = 0), v, t, (n : Int)⟩, ⟨gd, gv, gt, P, Q⟩, rfl, ⟨?_, ?_, ?_, ?_, ?_, ?_, rfl, rfl, rfl⟩, y, ?_, ?_⟩
  · exact sd.chg hC fun hn e => by have := (hd hn).1; omega
  · exact sv.chg hC fun hn e => by have := (hv hn).1; omega
  · exact st.chg hC fun hn e => by have := (ht hn).1; omega
  · exact fun i hi => (h.tp i hi).1.chg hC fun e => h.b2.ne_ (h.tp i hi).1 (by decide) e.symm
  · exact fun i hi => (h.tq i hi).1.chg hC fun e => h.b2.ne_ (h.tq i hi).1 (by decide) e.symm
  · intro hn
    refine ⟨fun e => own_ne h.oD h.oV (by decide) gd (hd hn).2 ?_, fun e => own_ne h.oD h.oT (by decide) gd (hd hn).2 ?_, fun e => h.ne gv (hv hn).2 ?_⟩
    · rw [(hv hn).2]; exact congrArg some e.symm
    · rw [(ht hn).2]; exact congrArg some e.symm
    · rw [(ht hn).2]; exact congrArg some e.symm
  · rintro b ⟨hn, rfl | rfl | rfl⟩
    · have := (hd hn).1; omega
    · have := (hv hn).1; omega
    · have := (ht hn).1; omega
  · rintro b ⟨i, hi, rfl | rfl⟩
    · exact (h.tp i hi).2
    · exact (h.tq i hi).2
end
end Go.Proofs.Ytndmnnapjhjkmaa
