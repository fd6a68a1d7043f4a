/-
  SessSlots: the plain law of slots.
-/
import Derived.Test.YtdloapfifhelbaaKeep
import Derived.Test.YtdloapfifhelbaaArr
namespace Go.Proofs.Ytdloapfifhelbaa
open Go.RowKit

def liveT (ttl n : Nat) (times : List Nat) : Nat := (times.filter fun t => !overB n ttl t).length
structure Inv (most ttl now i : Nat) (times : List Nat) (lg : Nat) (l : List (ByteArray × Nat)) : Prop where
  le : ∀ t ∈ times, t ≤ now
  same : ∀ n, now ≤ n → (l.map (·.2)).filter (fun t => !overB n ttl t) = times.filter (fun t => !overB n ttl t)
  most : l.length ≤ most
  lg : lg ≤ i
  len : times.length ≤ i
  nw : now ≤ 15 * i
theorem over_mono {n n' ttl t : Nat} (hn : n ≤ n') (h : overB n ttl t = true) : overB n' ttl t = true := by
  unfold overB at *
  simp only [Bool.and_eq_true, decide_eq_true_eq] at *
  omega
theorem filter_over {n n' ttl : Nat} (hn : n ≤ n') (l : List Nat) : (l.filter fun t => !overB n ttl t).filter (fun t => !overB n' ttl t) = l.filter fun t => !overB n' ttl t := by
  rw [List.filter_filter]
  congr 1
  funext t
  cases h : overB n ttl t with
  | false => simp
  | true => rw [over_mono hn h]; rfl
theorem livL_map (st : Ses) (n : Nat) : (livL st n).map (·.2) = (st.l.map (·.2)).filter fun t => !overB n st.ttl t := by
  unfold livL
  rw [List.filter_map]
  rfl
section
variable {most ttl now i n : Nat} {times : List Nat} {lg : Nat} {l : List (ByteArray × Nat)} {K tok : ByteArray}
theorem Inv.to (h : Inv most ttl now i times lg l) (hn : now ≤ n) (hb : n ≤ 15 * (i + 1)) : Inv most ttl n (i + 1) times lg l :=
  ⟨fun t ht => Nat.le_trans (h.le t ht) hn, fun m hm => h.same m (Nat.le_trans hn hm), h.most, Nat.le_succ_of_le h.lg, Nat.le_succ_of_le h.len, hb⟩
theorem Inv.live (h : Inv most ttl now i times lg l) (hn : now ≤ n) : (livL ⟨K, ttl, most, lg, l⟩ n).length = liveT ttl n times := by
  rw [← List.length_map (f := fun x : ByteArray × Nat => x.2), livL_map]
  show ((l.map (·.2)).filter _).length = _
  rw [h.same n hn]
  rfl
theorem Inv.full (h : Inv most ttl now i times lg l) : Inv most ttl now i times lg (livL ⟨K, ttl, most, lg, l⟩ now) where
  le := h.le
  same := fun m hm => by
    rw [livL_map]
    show (((l.map (·.2)).filter _).filter _) = _
    rw [h.same now (Nat.le_refl _), filter_over hm]
  most := Nat.le_trans (List.length_filter_le _ _) h.most
  lg := h.lg
  len := h.len
  nw := h.nw
theorem Inv.ok (h : Inv most ttl now (i + 1) times lg l) (hl : times.length ≤ i) (hg : lg ≤ i) (hm : liveT ttl now times < most) : Inv most ttl now (i + 1) (times ++ [now]) (lg + 1) (livL ⟨K, ttl, most, lg, l⟩ now ++ [(tok, now)]) where
  le := fun t ht => by
    rcases List.mem_append.1 ht with h1 | h1
    · exact h.le t h1
    · rw [List.mem_singleton.1 h1]; exact Nat.le_refl _
  same := fun m hm => by
    rw [List.map_append, livL_map, List.filter_append, List.filter_append]
    show (((l.map (·.2)).filter _).filter _) ++ _ = _
    rw [h.same now (Nat.le_refl _), filter_over hm]
    rfl
  most := by
    rw [List.length_append, h.live (Nat.le_refl _)]
    exact hm
  lg := Nat.succ_le_succ hg
  len := by rw [List.length_append]; exact Nat.succ_le_succ hl
  nw := h.nw
theorem Inv.few (h : Inv most ttl now i times lg l) : (livL ⟨K, ttl, most, lg, l⟩ n).length ≤ most := Nat.le_trans (List.length_filter_le _ _) h.most
end
theorem liveT_take {ttl n j : Nat} {times : List Nat} (hj : j < times.length) : liveT ttl n (times.take (j + 1)) = liveT ttl n (times.take j) + (if overB n ttl times[j] = true then 0 else 1) := by
  unfold liveT
  rw [List.take_succ_eq_append_getElem hj, List.filter_append, List.length_append]
  congr 1
  cases h : overB n ttl times[j] with
  | false => simp [h]
  | true => simp [h]
theorem liveT_le (ttl n : Nat) (times : List Nat) : liveT ttl n times ≤ times.length := List.length_filter_le _ _
end Go.Proofs.Ytdloapfifhelbaa
