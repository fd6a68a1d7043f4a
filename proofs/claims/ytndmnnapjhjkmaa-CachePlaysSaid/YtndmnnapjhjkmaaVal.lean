/-
  A result that was made of a number, in memory: where its lists lie, what they hold; and that it stands while other blocks turn.
-/
import Derived.Test.YtndmnnapjhjkmaaCache
import Derived.Test.YtndmnnapjhjkmaaOwn
namespace Go.Proofs.Ytndmnnapjhjkmaa
open Go.RowKit iStrRes

/-- the cells of the lists of number n's result -/
def dcell (n i : Nat) : List Value := [.string ⟨#[109]⟩, .int .i64 (n : Int), .int .i64 ((1 + i : Nat) : Int)]
def vcell (P : Nat → Nat) (i : Nat) : List Value := [.string ⟨#[97 + UInt8.ofNat i]⟩, .pointer (some ⟨P i, 0, none⟩)]
def tcell (P : Nat → Nat) (i : Nat) : List Value := [.string ⟨#[84]⟩, .pointer (some ⟨P i, 0, none⟩)]
def rows (f : Nat → List Value) (n : Nat) : List Value := (List.range n).flatMap f
def tyCells (k : Nat) : Array Value := #[.int .i64 (k : Int), .string ⟨#[]⟩, .slice none 0 0, .slice none 0 0, .pointer none]

theorem rows_succ (f : Nat → List Value) (n : Nat) : rows f (n + 1) = rows f n ++ f n := by simp [rows, List.range_succ]
theorem rows_len {f : Nat → List Value} {k : Nat} (hf : ∀ i, (f i).length = k) : ∀ n, (rows f n).length = n * k
  | 0 => by simp [rows]
  | n + 1 => by rw [rows_succ, List.length_append, rows_len hf n, hf n, Nat.succ_mul]
theorem rows_at {f : Nat → List Value} {k : Nat} (hf : ∀ i, (f i).length = k) : ∀ (n i j : Nat), i < n → j < k → (rows f n)[i * k + j]? = (f i)[j]?
  | n + 1, i, j, hi, hj => by
    rw [rows_succ]
    have hl := rows_len hf n
    rcases Nat.lt_or_ge i n with h | h
    · rw [List.getElem?_append_left, rows_at hf n i j h hj]
      have : (i + 1) * k ≤ n * k := Nat.mul_le_mul_right k h
      rw [Nat.succ_mul] at this
      omega
    · obtain rfl : i = n := by omega
      rw [List.getElem?_append_right (by omega)]
      congr 1
      omega
theorem rows_one {f : Nat → List Value} (hf : ∀ i, ∀ u ∈ f i, u.oneCell' = true) (n : Nat) : ∀ u ∈ rows f n, u.oneCell' = true := by
  intro u hu
  simp only [rows, List.mem_flatMap] at hu
  obtain ⟨i, _, h⟩ := hu
  exact hf i u h
theorem rows_congr {f g : Nat → List Value} {n : Nat} (h : ∀ i, i < n → f i = g i) : rows f n = rows g n := by
  induction n with
  | zero => rfl
  | succ n ih => rw [rows_succ, rows_succ, ih (fun i hi => h i (by omega)), h n (by omega)]
theorem dcell_one (n i : Nat) : ∀ u ∈ dcell n i, u.oneCell' = true := by intro u hu; simp [dcell] at hu; rcases hu with rfl | rfl | rfl <;> rfl
theorem vcell_one (P : Nat → Nat) (i : Nat) : ∀ u ∈ vcell P i, u.oneCell' = true := by intro u hu; simp [vcell] at hu; rcases hu with rfl | rfl <;> rfl
theorem tcell_one (P : Nat → Nat) (i : Nat) : ∀ u ∈ tcell P i, u.oneCell' = true := by intro u hu; simp [tcell] at hu; rcases hu with rfl | rfl <;> rfl

/-- a slice of n elements of k cells each, at the head of block g, reads as cs -/
structure Sl (w : World) (t : TypeId) (v : Option Addr × Nat × Nat) (n : Nat) (cs : List Value) (g : Nat) : Prop where
  n_ : v.2.1 = n
  cap : n ≤ v.2.2
  nil : v.1 = none → n = 0 ∧ v.2.2 = 0
  at_ : 0 < n → ∃ cur : Array Value, v.1 = some ⟨g, 0, none⟩ ∧ Blk w g t cur ∧ ∀ (j : Nat) (u : Value), cs[j]? = some u → cur[j]? = some u
section
variable {w w' : World} {t : TypeId} {v : Option Addr × Nat × Nat} {n : Nat} {cs : List Value} {g : Nat}
theorem Sl.chg {S : Nat → Prop} (h : Sl w t v n cs g) (hc : Chg w w' S) (hg : 0 < n → ¬ S g) : Sl w' t v n cs g :=
  ⟨h.n_, h.cap, h.nil, fun hn => by
    obtain ⟨cur, e, hb, hx⟩ := h.at_ hn
    exact ⟨cur, e, hb.chg hc (hg hn), hx⟩⟩
theorem Sl.src {k : Nat} (h : Sl w t v n cs g) (hl : cs.length = n * k) (h1 : ∀ u ∈ cs, u.oneCell' = true) (hn : n ≤ 1000) : Src w v.1 v.2.1 k cs :=
  ⟨by rw [h.n_]; exact hl, fun hp => by
    rw [h.n_] at hp
    obtain ⟨cur, e, hb, hx⟩ := h.at_ hp
    refine ⟨g, 0, e, fun j u hj => ?_⟩
    rw [Nat.zero_add, hb.cell j]
    exact hx j u hj, h1, by rw [h.n_]; exact hn⟩
theorem Sl.of_blk (hb : Blk w g t cs.toArray) : Sl w t (some ⟨g, 0, none⟩, n, n) n cs g :=
  ⟨rfl, Nat.le_refl _, fun h => by simp at h, fun _ => ⟨_, rfl, hb, fun j u hj => by simpa using hj⟩⟩
theorem Sl.lt (h : Sl w t v n cs g) (hn : 0 < n) : g < w.heap.size := by
  obtain ⟨_, _, hb, _⟩ := h.at_ hn
  exact hb.lt
end

/-- where a result lies: its lists' blocks, and those of the types that its values and types bear -/
structure VG where
  d : Nat
  v : Nat
  t : Nat
  P : Nat → Nat
  Q : Nat → Nat
def VG.inL (G : VG) (n b : Nat) : Prop := 0 < n % 4 ∧ (b = G.d ∨ b = G.v ∨ b = G.t)
def VG.inT (G : VG) (n b : Nat) : Prop := ∃ i, i < n % 4 ∧ (b = G.P i ∨ b = G.Q i)

structure Val (w : World) (rv : RV) (n : Nat) (G : VG) : Prop where
  d : Sl w 50 rv.d (n % 4) (rows (dcell n) (n % 4)) G.d
  v : Sl w 53 rv.vs (n % 4) (rows (vcell G.P) (n % 4)) G.v
  t : Sl w 53 rv.ts (n % 4) (rows (tcell G.Q) (n % 4)) G.t
  tp : ∀ i, i < n % 4 → Blk w (G.P i) 64 (tyCells (1 + n % 5))
  tq : ∀ i, i < n % 4 → Blk w (G.Q i) 64 (tyCells 2)
  ne : 0 < n % 4 → G.d ≠ G.v ∧ G.d ≠ G.t ∧ G.v ≠ G.t
  p : rv.p = ⟨#[109]⟩
  b : rv.b = decide (n % 5 = 0)
  c : rv.c = (n : Int)
section
variable {w w' : World} {rv : RV} {n : Nat} {G : VG}
theorem Val.chg {S : Nat → Prop} (h : Val w rv n G) (hc : Chg w w' S) (hL : ∀ b, G.inL n b → ¬ S b) (hT : ∀ b, G.inT n b → ¬ S b) : Val w' rv n G where
  d := h.d.chg hc fun hn => hL _ ⟨hn, .inl rfl⟩
  v := h.v.chg hc fun hn => hL _ ⟨hn, .inr (.inl rfl)⟩
  t := h.t.chg hc fun hn => hL _ ⟨hn, .inr (.inr rfl)⟩
  tp := fun i hi => (h.tp i hi).chg hc (hT _ ⟨i, hi, .inl rfl⟩)
  tq := fun i hi => (h.tq i hi).chg hc (hT _ ⟨i, hi, .inr rfl⟩)
  ne := h.ne
  p := h.p
  b := h.b
  c := h.c
theorem Val.grown (h : Val w rv n G) (y : w.grownBy w' none) : Val w' rv n G := h.chg (Chg.of_none (S := fun _ => False) y) (fun _ _ h => h) (fun _ _ h => h)
theorem Val.ltL (h : Val w rv n G) (b : Nat) (hb : G.inL n b) : b < w.heap.size := by
  obtain ⟨hn, rfl | rfl | rfl⟩ := hb
  · exact h.d.lt hn
  · exact h.v.lt hn
  · exact h.t.lt hn
theorem Val.ltT (h : Val w rv n G) (b : Nat) (hb : G.inT n b) : b < w.heap.size := by
  obtain ⟨i, hi, rfl | rfl⟩ := hb
  · exact (h.tp i hi).lt
  · exact (h.tq i hi).lt
/-- it lies in no block of the Lru's -/
theorem Val.apartL {l : Nat} {own : Nat → Prop} {cap : Int} {ps : List (ByteArray × RV)} (h : Val w rv n G) (hl : Lru w l own cap ps) (b : Nat) (hb : G.inL n b) : ¬ own b := by
  obtain ⟨hn, rfl | rfl | rfl⟩ := hb
  · obtain ⟨_, _, hb, _⟩ := h.d.at_ hn; exact hl.apart hb (by decide) (by decide)
  · obtain ⟨_, _, hb, _⟩ := h.v.at_ hn; exact hl.apart hb (by decide) (by decide)
  · obtain ⟨_, _, hb, _⟩ := h.t.at_ hn; exact hl.apart hb (by decide) (by decide)
theorem Val.apartT {l : Nat} {own : Nat → Prop} {cap : Int} {ps : List (ByteArray × RV)} (h : Val w rv n G) (hl : Lru w l own cap ps) (b : Nat) (hb : G.inT n b) : ¬ own b := by
  obtain ⟨i, hi, rfl | rfl⟩ := hb
  · exact hl.apart (h.tp i hi) (by decide) (by decide)
  · exact hl.apart (h.tq i hi) (by decide) (by decide)
end

def rvA (rv : RV) : Array Value := #[.slice rv.d.1 rv.d.2.1 rv.d.2.2, .string rv.p, .bool rv.b, .slice rv.vs.1 rv.vs.2.1 rv.vs.2.2, .slice rv.ts.1 rv.ts.2.1 rv.ts.2.2, .int .u64 rv.c]
end Go.Proofs.Ytndmnnapjhjkmaa
