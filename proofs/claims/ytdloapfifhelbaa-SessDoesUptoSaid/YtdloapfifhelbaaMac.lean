/-
  The walk of mac.Mac.
-/
import Derived.Test.YtdloapfifhelbaaTurn
import Derived.Test.YtdloapfifhelbaaEq
import Derived.Deep.RegionHeld3
import Derived.Deep.DeepCutAuto
import Derived.Laws.Concat
import Derived.Lib.SlBuf
namespace Go.Proofs.Ytdloapfifhelbaa
open Go.RowKit

def catB (l : List UInt8) (s : ByteArray) : ByteArray := ⟨(l ++ s.data.toList).toArray⟩
def innerB (key s : ByteArray) : List UInt8 := sumB (sumOf (catB (turn (keyB key) 54) s))
/-- the mark -/
def markB (key s : ByteArray) : List UInt8 := sumB (sumOf ⟨(turn (keyB key) 92 ++ innerB key s).toArray⟩)
theorem markB_len (key s : ByteArray) : (markB key s).length = 32 := sumB_len _
theorem cat_run (l : List UInt8) (s : ByteArray) (h : l.length + s.size ≤ 9223372036854775807) (W : World) : (Op.stringOp .add ⟨l.toArray⟩ s).run Try.prog W = .ok (.string (catB l s)) W := by
  rw [run_string_add_sum W _ _ (by show l.toArray.size + _ ≤ _; simpa using h)]
  have e : (⟨l.toArray⟩ : ByteArray) ++ s = catB l s := by
    apply ByteArray.ext
    rw [ByteArray.data_append]
    simp [catB]
  rw [e]
theorem cat_run2 (l m : List UInt8) (h : l.length + m.length ≤ 9223372036854775807) (W : World) : (Op.stringOp .add ⟨l.toArray⟩ ⟨m.toArray⟩).run Try.prog W = .ok (.string ⟨(l ++ m).toArray⟩) W :=
  cat_run l ⟨m.toArray⟩ (by show _ + m.toArray.size ≤ _; simpa using h) W
theorem u8s_zeros (n : Nat) : u8s (zeros n) = List.replicate n (.int .u8 0) := by unfold u8s zeros; rw [List.map_replicate]; rfl
theorem catB_size (l : List UInt8) (s : ByteArray) : (catB l s).size = l.length + s.size := by show (l ++ s.data.toList).toArray.size = _; simp
theorem hs28 : (Try.prog.info? 5).map (·.size) = some 1 := by kernel_rfl
/-- 'copy(b[:], s)', s longer than the block -/
theorem copy_long (w : World) (ty : TypeId) (b : Nat) (t : ByteArray) (hle : 64 ≤ t.size) (cur : Array Value) (T : TypeId) (hb : Blk w b T cur) (hcur : cur.size = 64) :
    ∃ cur', cur'.size = 64 ∧ (Builtin.copy_ #[47, 9] ty #[.slice (some ⟨b, 0, none⟩) 64 64, .string t]).run Try.prog w = .ok (goInt 64) (w.setRow b cur') := by
  have hmin : Nat.min t.size 64 = 64 := Nat.min_eq_right hle
  have hl : ((t.data.toList.map fun x => Value.int .u8 (x.toNat : Int)).take 64).length = 64 := by
    rw [List.length_take, List.length_map]
    have : t.data.toList.length = t.size := by simp
    omega
  have hst := run_storeCells_at Try.prog b 0 T ((t.data.toList.map fun x => Value.int .u8 (x.toNat : Int)).take 64) 0 cur w hb (by rw [hl, hcur]; decide) (by
    intro v hv
    obtain ⟨x, _, rfl⟩ := List.mem_map.1 (List.mem_of_mem_take hv)
    rfl)
  refine ⟨(cur.toList.take (0 + 0) ++ ((t.data.toList.map fun x => Value.int .u8 (x.toNat : Int)).take 64) ++ cur.toList.drop (0 + 0 + ((t.data.toList.map fun x => Value.int .u8 (x.toNat : Int)).take 64).length)).toArray, ?_, ?_⟩
  · rw [List.size_toArray, List.length_append, List.length_append, hl]
    simp [hcur]
  · have hz : ∀ w, (Go.sizeOf 5).run Try.prog w = .ok 1 w := fun _ => by kernel_rfl
    simp [Builtin.copy_, run_underlying Try.underlying47, Builtin.lenOf, Builtin.firstCells, hz, hmin]
    rw [hst]
    simp [Result.andThen]
theorem copy_short (w : World) (ty : TypeId) (b : Nat) (t : ByteArray) (hle : t.size ≤ 64) (T : TypeId) (hb : Blk w b T (u8s (zeros 64)).toArray) :
    (Builtin.copy_ #[47, 9] ty #[.slice (some ⟨b, 0, none⟩) 64 64, .string t]).run Try.prog w = .ok (goInt t.size) (w.setRow b (u8s (t.data.toList ++ zeros (64 - t.size))).toArray) := by
  rw [Lib.run_copy_row_string w 47 9 ty 5 b 0 64 64 t _ T Try.underlying47 hs28 hb hle (by rw [u8s_zeros, List.size_toArray, List.length_replicate]; omega)]
  rw [u8s_app, u8s_zeros, u8s_zeros]
  simp only [List.take_zero, List.nil_append, Nat.zero_add, List.drop_replicate]
  rfl
theorem copy_sum (w : World) (ty : TypeId) (b g : Nat) (l : List UInt8) (hl : l.length = 32) (T : TypeId) (hb : Blk w b T (u8s (zeros 64)).toArray) (hg : Blk w g 44 (u8s l).toArray) :
    (Builtin.copy_ #[47, 47] ty #[.slice (some ⟨b, 0, none⟩) 64 64, .slice (some ⟨g, 0, none⟩) 32 32]).run Try.prog w = .ok (goInt 32) (w.setRow b (u8s (l ++ zeros 32)).toArray) := by
  have h := run_copy_row Try.prog w 47 47 ty 5 b 0 64 64 ⟨g, 0, none⟩ 32 32 _ T (u8s l) Try.underlying47 hs28 hb (by rw [u8s_len, hl]; rfl) (fun j x hx => by
    have : (⟨g, 0, none⟩ : Addr).add j = ⟨g, j, none⟩ := by unfold Addr.add; split <;> simp_all
    rw [this, hg.cell]; simpa using hx) (by rw [u8s_zeros, List.size_toArray, List.length_replicate, u8s_len, hl]; decide) (u8s_one l)
  rw [h]
  rw [u8s_len, hl, u8s_app, u8s_zeros, u8s_zeros]
  simp only [List.take_zero, List.nil_append, Nat.zero_add, List.drop_replicate]
  rfl
theorem copy_any (w : World) (ty : TypeId) (b : Nat) (t : ByteArray) (hb : Blk w b 67 (u8s (zeros 64)).toArray) :
    ∃ (m : Nat) (cur : Array Value), cur.size = 64 ∧ (Builtin.copy_ #[47, 9] ty #[.slice (some ⟨b, 0, none⟩) 64 64, .string t]).run Try.prog w = .ok (.int .i64 (m : Int)) (w.setRow b cur) ∧
      (t.size ≤ 64 → m = t.size ∧ cur = (u8s (keyB t)).toArray) ∧ (64 < t.size → m = 64) := by
  rcases Nat.lt_or_ge 64 t.size with h | h
  · obtain ⟨cur, hc, hr⟩ := copy_long w ty b t (by omega) _ 67 hb (by rw [u8s_zeros, List.size_toArray, List.length_replicate])
    exact ⟨64, cur, hc, hr, fun h2 => by omega, fun _ => rfl⟩
  · have hk : keyB t = t.data.toList ++ zeros (64 - t.size) := by
      have : short t = t.data.toList := by unfold short; rw [if_pos h]
      unfold keyB
      rw [this]
      rfl
    refine ⟨t.size, _, ?_, copy_short w ty b t h 67 hb, fun _ => ⟨rfl, by rw [hk]⟩, fun h2 => by omega⟩
    rw [← hk, List.size_toArray, u8s_len, keyB_len]

/-- 'var x [32]byte; x = ..' : a new block, filled -/
theorem fresh32 (W : World) (cs : Array Value) (hs : cs.size = 32) :
    (W.alloc (.cells (Array.replicate 32 (.int .u8 0)) 44)).there W.heap.size 0 cs.size ∧
    Blk ((W.alloc (.cells (Array.replicate 32 (.int .u8 0)) 44)).setCells W.heap.size 0 cs.toList) W.heap.size 44 cs ∧
    W.grownBy ((W.alloc (.cells (Array.replicate 32 (.int .u8 0)) 44)).setCells W.heap.size 0 cs.toList) none := by
  have p : Blk (W.alloc (.cells (Array.replicate 32 (.int .u8 0)) 44)) W.heap.size 44 (Array.replicate 32 (.int .u8 0)) := Blk.new _ _ _
  have h := p.setAll cs.toList (by simp [hs])
  rw [Array.toArray_toList] at h
  exact ⟨p.there _ (by simp [hs]), h, by_setAll (.inr (Nat.le_refl _)) _ _ _ (by_alloc (by_refl _ _) _)⟩
theorem short_long (key : ByteArray) (h : 64 < key.size) : keyB key = sumB (sumOf key) ++ zeros 32 := by
  have e : short key = sumB (sumOf key) := by unfold short; rw [if_neg (by omega)]
  unfold keyB
  rw [e, sumB_len]
structure MK (w0 : World) (g4 g5 : Nat) (k : List UInt8) (W : World) : Prop where
  b4 : Blk W g4 44 (Array.replicate 32 (.int .u8 0))
  b5 : Blk W g5 67 (u8s k).toArray
  by_ : w0.grownBy W none
theorem MK.drew {w0 : World} {g4 g5 : Nat} {k : List UInt8} {W : World} (h : MK w0 g4 g5 k W) : MK w0 g4 g5 k W.drew := ⟨h.b4.drew, h.b5.drew, by_drew h.by_⟩
theorem MK.grown {w0 : World} {g4 g5 : Nat} {k : List UInt8} {W W' : World} (h : MK w0 g4 g5 k W) (y : W.grownBy W' none) : MK w0 g4 g5 k W' := ⟨h.b4.grown y (by simp), h.b5.grown y (by simp), by_trans h.by_ y (by simp)⟩
theorem MK.row {w0 : World} {g4 g5 : Nat} {k : List UInt8} {W : World} (h : MK w0 g4 g5 k W) (hne : g4 ≠ g5) (hge : w0.heap.size ≤ g5) (k' : List UInt8) : MK w0 g4 g5 k' (W.setRow g5 (u8s k').toArray) :=
  ⟨h.b4.farRow hne _, h.b5.row _, by_setRow h.by_ hge _⟩

structure M8 (w0 : World) (g4 g5 g8 : Nat) (k li : List UInt8) (W : World) : Prop where
  ck : MK w0 g4 g5 k W
  c : Blk W g8 44 (u8s li).toArray
theorem M8.drew {w0 : World} {g4 g5 g8 : Nat} {k li : List UInt8} {W : World} (h : M8 w0 g4 g5 g8 k li W) : M8 w0 g4 g5 g8 k li W.drew := ⟨h.ck.drew, h.c.drew⟩
theorem M8.grown {w0 : World} {g4 g5 g8 : Nat} {k li : List UInt8} {W W' : World} (h : M8 w0 g4 g5 g8 k li W) (y : W.grownBy W' none) : M8 w0 g4 g5 g8 k li W' := ⟨h.ck.grown y, h.c.grown y (by simp)⟩
structure M7 (w0 : World) (g5 g8 : Nat) (k li : List UInt8) (W : World) : Prop where
  b5 : Blk W g5 67 (u8s k).toArray
  c : Blk W g8 44 (u8s li).toArray
  by_ : w0.grownBy W none
theorem M7.drew {w0 : World} {g5 g8 : Nat} {k li : List UInt8} {W : World} (h : M7 w0 g5 g8 k li W) : M7 w0 g5 g8 k li W.drew := ⟨h.b5.drew, h.c.drew, by_drew h.by_⟩
theorem M7.grown {w0 : World} {g5 g8 : Nat} {k li : List UInt8} {W W' : World} (h : M7 w0 g5 g8 k li W) (y : W.grownBy W' none) : M7 w0 g5 g8 k li W' := ⟨h.b5.grown y (by simp), h.c.grown y (by simp), by_trans h.by_ y (by simp)⟩
theorem M7.store {w0 : World} {g4 g5 g8 : Nat} {k li : List UInt8} {W : World} (h : M7 w0 g5 g8 k li W) (h5 : g5 ≠ g4) (h8 : g8 ≠ g4) (h0 : w0.heap.size ≤ g4) (vs : List Value) : M7 w0 g5 g8 k li (W.setCells g4 0 vs) :=
  ⟨Blk.farAll _ _ _ _ h5 h.b5, Blk.farAll _ _ _ _ h8 h.c, by_setAll (.inr h0) _ _ _ h.by_⟩
set_option maxRecDepth 100000 in
set_option maxHeartbeats 1000000 in
theorem mac_any (key s : ByteArray) (hk : key.size ≤ 268435456) (hs : s.size ≤ 268435456) (w : World) :
    Calls Try.prog 19 #[.string key, .string s] w fun e w' => e = .returned (.agg (u8s (markB key s)).toArray) ∧ w.grownBy w' none := by
  have h4 : Blk ((w.alloc (.cells (Array.replicate 32 (.int .u8 0)) 44)).alloc (.cells (Array.replicate 64 (.int .u8 0)) 67)) w.heap.size 44 (Array.replicate 32 (.int .u8 0)) := (Blk.new w 44 _).alloc _
  have h5 : Blk ((w.alloc (.cells (Array.replicate 32 (.int .u8 0)) 44)).alloc (.cells (Array.replicate 64 (.int .u8 0)) 67)) (w.heap.size + 1) 67 (u8s (zeros 64)).toArray := by
    have h := Blk.new (w.alloc (.cells (Array.replicate 32 (.int .u8 0)) 44)) 67 (Array.replicate 64 (.int .u8 0))
    have e : (w.alloc (.cells (Array.replicate 32 (.int .u8 0)) 44)).heap.size = w.heap.size + 1 := by simp
    rw [e] at h
    rw [u8s_zeros]
    exact h
  have hM : MK w w.heap.size (w.heap.size + 1) (zeros 64) ((w.alloc (.cells (Array.replicate 32 (.int .u8 0)) 44)).alloc (.cells (Array.replicate 64 (.int .u8 0)) 67)) := ⟨h4, h5, by_alloc (by_alloc (by_refl _ _) _) _⟩
  obtain ⟨W, hW⟩ : ∃ W, W = (w.alloc (.cells (Array.replicate 32 (.int .u8 0)) 44)).alloc (.cells (Array.replicate 64 (.int .u8 0)) 67) := ⟨_, rfl⟩
  rw [← hW] at hM
  have HM := Lib.hid hM
  have HW := Lib.hid hW
  have Hs := Lib.hid (And.intro hk hs)
  clear h4 h5 hM hW hk hs
  go_enter Try.func19, Try.ntmps19
  obtain ⟨m, cur, hcur, hcp, hsh, hlo⟩ := copy_any W 3 (w.heap.size + 1) key HM.out.b5
  have HC := Lib.hid (And.intro hcp (And.intro hcur (And.intro hsh hlo)))
  clear hcp hcur hsh hlo
  go_upto_region 2 with fail
  change Code.wp _ _ _ _ ((w.alloc (.cells (Array.replicate 32 (.int .u8 0)) 44)).alloc (.cells (Array.replicate 64 (.int .u8 0)) 67))
  rw [← HW.out]
  go_upto_if 14 with (refine Lib.wpList_copy_run _ rfl (.tmp 9) (.tmp 10) 47 9 rfl _ _ rfl rfl HC.out.1 ?_)
  try dsimp only [Act.put]
  have hb5 := HM.out.b5.row cur
  have hb4 := HM.out.b4.farRow (show w.heap.size ≠ w.heap.size + 1 by omega) cur
  have hby := by_setRow HM.out.by_ (show w.heap.size ≤ w.heap.size + 1 by omega) cur
  have H1 := Lib.hid (And.intro hb4 (And.intro hb5 hby))
  clear hb5 hb4 hby
  generalize W.setRow (w.heap.size + 1) cur = w1 at *
  go_cut [5] (fun s5 wx => s5 = .pointer (some ⟨w.heap.size + 1, 0, none⟩) ∧ MK w w.heap.size (w.heap.size + 1) (keyB key) wx)
  case first =>
    rcases Nat.lt_or_ge 64 key.size with h64 | h64
    · obtain rfl := HC.out.2.2.2 h64
      go_wp2_with fail
      refine (sum_bytes key w1 (by have := Hs.out.1; omega)).mono ?_
      rintro e w2 ⟨rfl, y2⟩
      have hkl := short_long key h64
      obtain ⟨l, hl⟩ : ∃ l, l = sumB (sumOf key) := ⟨_, rfl⟩
      have hll : l.length = 32 := by rw [hl, sumB_len]
      rw [← hl] at hkl ⊢
      have hA1 : (u8s l).toArray.all (·.oneCell') = true := all_oneCell_toArray (u8s_one l)
      have hi22 : (Try.prog.info? 44).map (·.size) = some (u8s l).toArray.size := by rw [info22]; simp [u8s_len, hll]
      have hi47 : (Try.prog.info? 67).map (·.size) = some (u8s (zeros 64)).toArray.size := by rw [info47, u8s_zeros]; simp
      have hz1 : (u8s (zeros 64)).toArray.all (·.oneCell') = true := all_oneCell_toArray (u8s_one _)
      have fA := fresh32 w2 (u8s l).toArray (by simp [u8s_len, hll])
      obtain ⟨V1, hV1⟩ : ∃ W, W = (w2.alloc (.cells (Array.replicate 32 (.int .u8 0)) 44)).setCells w2.heap.size 0 (u8s l).toArray.toList := ⟨_, rfl⟩
      rw [← hV1] at fA
      have h4 := (H1.out.1.grown y2 (by simp)).grown fA.2.2 (by simp)
      have h5 := (H1.out.2.1.grown y2 (by simp)).grown fA.2.2 (by simp)
      have hlt5 := (H1.out.2.1.grown y2 (by simp)).lt
      have hyV := by_trans (by_trans H1.out.2.2 y2 (by simp)) fA.2.2 (by simp)
      have hcs := HC.out.2.1
      have h5t := h5.there 64 (by omega)
      have h5s := h5.setAll (u8s (zeros 64)).toArray.toList (by rw [hcs]; simp [u8s_zeros])
      rw [Array.toArray_toList] at h5s
      have h4s := Blk.farAll (u8s (zeros 64)).toArray.toList 0 _ _ (show w.heap.size ≠ w.heap.size + 1 by omega) h4
      have h6s := Blk.farAll (u8s (zeros 64)).toArray.toList 0 _ _ (show w2.heap.size ≠ w.heap.size + 1 by omega) fA.2.1
      have hys := by_setAll (g := w.heap.size + 1) (.inr (by omega)) (u8s (zeros 64)).toArray.toList 0 _ hyV
      have h5t' : V1.there (w.heap.size + 1) 0 (u8s (zeros 64)).toArray.size := by
        have e : (u8s (zeros 64)).toArray.size = 64 := by rw [u8s_zeros]; simp
        rw [e]; exact h5t
      have HA := Lib.hid (And.intro fA.1 (And.intro hi22 (And.intro hA1 (And.intro h5t' (And.intro hi47 hz1)))))
      have HV := Lib.hid hV1
      have HB := Lib.hid (And.intro h5s.drew (And.intro h4s.drew (And.intro h6s.drew (by_drew hys))))
      have HL := Lib.hid (And.intro hkl hll)
      clear hkl hl hA1 hi22 hi47 hz1 fA hV1 h4 h5 hlt5 hyV hcs h5t h5s h4s h6s hys h5t' y2
      go_wp2_with (first | (refine wpList_store_mid rfl 44 (.tmp 6) (.tmp 16) rfl w2.heap.size 0 (u8s l).toArray rfl rfl HA.out.1 HA.out.2.1 HA.out.2.2.1 ?_; refine wpList_at HV.out ?_) | (refine wpList_store_mid rfl 67 (.tmp 5) (.tmp 17) rfl (w.heap.size + 1) 0 (u8s (zeros 64)).toArray rfl rfl HA.out.2.2.2.1 HA.out.2.2.2.2.1 HA.out.2.2.2.2.2 ?_))
      try dsimp only [Act.put]
      go_still_tail 2, (by kernel_rfl)
      change wpList _ _ _ _ _ (World.drew _)
      generalize (V1.setCells (w.heap.size + 1) 0 (u8s (zeros 64)).toArray.toList).drew = w5 at *
      refine Lib.wpList_copy_run _ rfl (.tmp 18) (.tmp 19) 47 47 rfl _ _ rfl rfl (copy_sum w5 _ _ _ l HL.out.2 67 HB.out.1 HB.out.2.2.1) ?_
      have hF : MK w w.heap.size (w.heap.size + 1) (keyB key) (w5.setRow (w.heap.size + 1) (u8s (l ++ zeros 32)).toArray) := by
        rw [← HL.out.1]
        exact ⟨HB.out.2.1.farRow (by omega) _, HB.out.1.row _, by_setRow HB.out.2.2.2 (by omega) _⟩
      have HF := Lib.hid hF
      clear hF
      go_wp2_with fail
      go_meet
      exact ⟨rfl, HF.out⟩
    · obtain ⟨rfl, rfl⟩ := HC.out.2.2.1 h64
      have hlt : ¬ (key.size : Int) < (key.size : Int) := by omega
      go_wp2_with fail
      go_meet
      exact ⟨rfl, H1.out.1, H1.out.2.1, H1.out.2.2⟩
  case rest =>
    obtain ⟨rfl, hK⟩ := hcut
    have HK := Lib.hid hK
    clear hK H1 HC HM HW
    have ht54 : ∀ W, Blk W (w.heap.size + 1) 67 (u8s (keyB key)).toArray → Calls Try.prog 34 #[.int .u8 54, .pointer (some ⟨w.heap.size + 1, 0, none⟩)] W fun e w' => e = .returned (.string ⟨(turn (keyB key) 54).toArray⟩) ∧ W.grownBy w' none := fun W hb => turn_any (keyB key) (keyB_len key) 54 _ W hb
    have ht92 : ∀ W, Blk W (w.heap.size + 1) 67 (u8s (keyB key)).toArray → Calls Try.prog 34 #[.int .u8 92, .pointer (some ⟨w.heap.size + 1, 0, none⟩)] W fun e w' => e = .returned (.string ⟨(turn (keyB key) 92).toArray⟩) ∧ W.grownBy w' none := fun W hb => turn_any (keyB key) (keyB_len key) 92 _ W hb
    have hl54 : (turn (keyB key) 54).length = 64 := by rw [turn_len, keyB_len]
    have hl92 : (turn (keyB key) 92).length = 64 := by rw [turn_len, keyB_len]
    have hc1 := fun W => cat_run (turn (keyB key) 54) s (by have := Hs.out.2; omega) W
    have hc2 := fun W => cat_run2 (turn (keyB key) 92) (innerB key s) (by rw [hl92]; have := sumB_len (sumOf (catB (turn (keyB key) 54) s)); unfold innerB; omega) W
    have hs1 : ∀ W, Calls Try.prog 33 #[.string (catB (turn (keyB key) 54) s)] W fun e w' => e = .returned (.agg (u8s (innerB key s)).toArray) ∧ W.grownBy w' none := fun W => sum_bytes _ W (by rw [catB_size]; have := Hs.out.2; omega)
    have hs2 : ∀ W, Calls Try.prog 33 #[.string ⟨(turn (keyB key) 92 ++ innerB key s).toArray⟩] W fun e w' => e = .returned (.agg (u8s (markB key s)).toArray) ∧ W.grownBy w' none := fun W => sum_bytes _ W (by show (turn (keyB key) 92 ++ innerB key s).toArray.size ≤ _; have := sumB_len (sumOf (catB (turn (keyB key) 54) s)); simp only [List.size_toArray, List.length_append]; unfold innerB; omega)
    have hli : (innerB key s).length = 32 := sumB_len _
    have hlm : (markB key s).length = 32 := sumB_len _
    generalize (⟨(turn (keyB key) 92 ++ innerB key s).toArray⟩ : ByteArray) = J at *
    generalize catB (turn (keyB key) 54) s = I at *
    generalize (⟨(turn (keyB key) 54).toArray⟩ : ByteArray) = T54 at *
    generalize (⟨(turn (keyB key) 92).toArray⟩ : ByteArray) = T92 at *
    obtain ⟨li, hli2⟩ : ∃ l, l = innerB key s := ⟨_, rfl⟩
    obtain ⟨lm, hlm2⟩ : ∃ l, l = markB key s := ⟨_, rfl⟩
    rw [← hli2] at hc2 hs1 hli
    rw [← hlm2] at hs2 hlm
    have Hlm := Lib.hid hlm2
    have Ht := Lib.hid (And.intro ht54 (And.intro ht92 (And.intro hs1 hs2)))
    clear ht54 ht92 hs1 hs2 hl54 hl92 hli2 hlm2
    go_wp2_with fail
    refine (Ht.out.1 wc HK.out.b5).mono ?_
    rintro e w2 ⟨rfl, y2⟩
    go_wp2_with fail
    refine (Ht.out.2.2.1 w2).mono ?_
    rintro e w3 ⟨rfl, y3⟩
    have hi22 : (Try.prog.info? 44).map (·.size) = some (u8s li).toArray.size := by rw [info22]; simp [u8s_len, hli]
    have hi22m : (Try.prog.info? 44).map (·.size) = some (u8s lm).toArray.size := by rw [info22]; simp [u8s_len, hlm]
    have hA1 : (u8s li).toArray.all (·.oneCell') = true := all_oneCell_toArray (u8s_one li)
    have hM1 : (u8s lm).toArray.all (·.oneCell') = true := all_oneCell_toArray (u8s_one lm)
    have fA := fresh32 w3 (u8s li).toArray (by simp [u8s_len, hli])
    obtain ⟨V3, hV3⟩ : ∃ W, W = (w3.alloc (.cells (Array.replicate 32 (.int .u8 0)) 44)).setCells w3.heap.size 0 (u8s li).toArray.toList := ⟨_, rfl⟩
    rw [← hV3] at fA
    have hK3 := ((HK.out.grown y2).grown y3).grown fA.2.2
    have hM8 : M8 w w.heap.size (w.heap.size + 1) w3.heap.size (keyB key) li V3 := ⟨hK3, fA.2.1⟩
    have HA := Lib.hid (And.intro fA.1 (And.intro hi22 (And.intro hA1 (And.intro hi22m hM1))))
    have HV := Lib.hid hV3
    have H8 := Lib.hid hM8
    have hzl : Array.size (α := Value) (Array.replicate 32 (.int .u8 0)) = (u8s lm).toArray.size := by simp [u8s_len, hlm]
    have hKlt := ((HK.out.grown y2).grown y3).b5.lt
    clear hi22 hi22m hA1 hM1 fA hV3 hK3 hM8 HK y2 y3
    have hg8 : w.heap.size + 1 < w3.heap.size := by have h1 := hKlt; omega
    have Hg8 := Lib.hid hg8
    clear hg8
    generalize hg8e : w3.heap.size = g8 at *
    go_wp2_with (refine wpList_store_mid rfl 44 (.tmp 8) (.tmp 26) rfl g8 0 (u8s li).toArray rfl rfl HA.out.1 HA.out.2.1 HA.out.2.2.1 ?_; refine wpList_at HV.out ?_)
    try dsimp only [Act.put]
    have h7 : M7 w (w.heap.size + 1) g8 (keyB key) li V3.drew := ⟨H8.out.ck.b5.drew, H8.out.c.drew, by_drew H8.out.ck.by_⟩
    have hg8n : g8 ≠ w.heap.size := by have := Hg8.out; omega
    refine wp_region_noPanic ?_
    refine wp_region_held_drew (S := fun W => M7 w (w.heap.size + 1) g8 (keyB key) li W) (by kernel_rfl) (h7) (fun hHeld => ?_)
    refine wpAnyH_take (i := 0) (oi := _) (v := _) rfl (by kernel_rfl) (by kernel_rfl) (by kernel_rfl) (fun _ _ _ h => h) (Or.inl ⟨by rfl, fun _ _ => by go_simp; try rfl⟩) hHeld ?_
    try simp only [Act.put, List.getElem_toArray, List.getElem_cons_zero, List.getElem_cons_succ, List.setIfInBounds_toArray, List.set_cons_zero, List.set_cons_succ]
    refine wpAnyH_take (i := 2) (oi := _) (v := _) rfl (by kernel_rfl) (by kernel_rfl) (by kernel_rfl) (fun _ _ _ h => h) (Or.inl ⟨by rfl, fun _ _ => by go_simp; try rfl⟩) hHeld ?_
    try simp only [Act.put, List.getElem_toArray, List.getElem_cons_zero, List.getElem_cons_succ, List.setIfInBounds_toArray, List.set_cons_zero, List.set_cons_succ]
    refine wpAnyH_take (i := 3) (oi := _) (v := _) rfl (by kernel_rfl) (by kernel_rfl) (by kernel_rfl) (fun _ _ _ h => h) (Or.inl ⟨by rfl, fun _ h => by have hx := conv_blk hli h.c; (try simp only [List.getElem_toArray, List.getElem_cons_zero, List.getElem_cons_succ]); go_simp; try rfl⟩) hHeld ?_
    try simp only [Act.put, List.getElem_toArray, List.getElem_cons_zero, List.getElem_cons_succ, List.setIfInBounds_toArray, List.set_cons_zero, List.set_cons_succ]
    refine wpAnyH_ready (rs := [1]) (by kernel_rfl) (by simp) ?_
    refine AllReadyH.cons (o := _) rfl (fun K hK => ?_) AllReadyH.nil
    go_simp
    refine (Ht.out.2.1 _ hHeld.b5).mono ?_
    rintro e w4 ⟨rfl, y4⟩
    dsimp only
    refine hK.out _ _ (hHeld.grown y4) (fun hHeld => ?_)
    clear hK K
    try simp only [Act.put, List.getElem_toArray, List.getElem_cons_zero, List.getElem_cons_succ, List.setIfInBounds_toArray, List.set_cons_zero, List.set_cons_succ]
    refine wpAnyH_take (i := 4) (oi := _) (v := _) rfl (by kernel_rfl) (by kernel_rfl) (by kernel_rfl) (fun _ _ _ h => h) (Or.inl ⟨by rfl, fun _ _ => by go_simp; try rfl⟩) hHeld ?_
    try simp only [Act.put, List.getElem_toArray, List.getElem_cons_zero, List.getElem_cons_succ, List.setIfInBounds_toArray, List.set_cons_zero, List.set_cons_succ]
    refine wpAnyH_ready (rs := [5]) (by kernel_rfl) (by simp) ?_
    refine AllReadyH.cons (o := _) rfl (fun K hK => ?_) AllReadyH.nil
    go_simp
    refine (Ht.out.2.2.2 _).mono ?_
    rintro e w5 ⟨rfl, y5⟩
    dsimp only
    refine hK.out _ _ (hHeld.grown y5) (fun hHeld => ?_)
    clear hK K
    try simp only [Act.put, List.getElem_toArray, List.getElem_cons_zero, List.getElem_cons_succ, List.setIfInBounds_toArray, List.set_cons_zero, List.set_cons_succ]
    have hz4 := (H8.out.ck.b4.drew.grown y4 (by simp)).grown y5 (by simp)
    have ht4 := hz4.there (u8s lm).toArray.size (by rw [← hzl]; exact Nat.le_refl _)
    have hs4 := hz4.setAll (u8s lm).toArray.toList (by simp [u8s_len, hlm])
    rw [Array.toArray_toList] at hs4
    refine wpAnyH_ready (rs := [6]) (by kernel_rfl) (by simp) ?_
    refine AllReadyH.cons (o := _) rfl (fun K hK => ?_) AllReadyH.nil
    rw [if_pos (by rfl)]
    refine wp_store_mid 44 (.tmp 4) (.tmp 32) rfl w.heap.size 0 (u8s lm).toArray rfl rfl ht4 HA.out.2.2.2.1 HA.out.2.2.2.2 ?_
    try simp only [Act.put, List.getElem_toArray, List.getElem_cons_zero, List.getElem_cons_succ, List.setIfInBounds_toArray, List.set_cons_zero, List.set_cons_succ]
    refine hK.out _ _ (hHeld.store (by omega) hg8n (Nat.le_refl _) _) (fun hHeld => ?_)
    clear hK K
    try simp only [Act.put, List.getElem_toArray, List.getElem_cons_zero, List.getElem_cons_succ, List.setIfInBounds_toArray, List.set_cons_zero, List.set_cons_succ]
    refine wpAnyH_done (by kernel_rfl) (NoPanic.normal ?_) _
    go_wp2
    refine bodyPost_ret (results_cell_row rfl _ _ w.heap.size 44 (u8s lm).toArray (0, 0) _ rfl hs4 Try.underlying44 rfl HA.out.2.2.2.1) rfl ⟨by rw [Hlm.out], hHeld.by_⟩
end Go.Proofs.Ytdloapfifhelbaa
