/-
  The walk of 'Sum'.
-/
import Derived.Test.YtdloapfifhelbaaOut
namespace Go.Proofs.Ytdloapfifhelbaa
open Go.RowKit

def nz (n : Nat) : Nat := (119 - n % 64) % 64
def padded (s : ByteArray) (z : Nat) : List UInt8 := s.data.toList ++ 128 :: List.replicate z 0
/-- the j-th byte of the length -/
def lenByte (n j : Nat) : UInt8 := UInt8.ofNat (n * 8 / 2 ^ (56 - 8 * j))
def lens (n : Nat) : Nat → List UInt8
  | 0 => []
  | j + 1 => lens n j ++ [lenByte n j]
theorem lens_len (n : Nat) : ∀ j, (lens n j).length = j := by
  intro j
  induction j with
  | zero => rfl
  | succ j ih => simp [lens, ih]
def whole (s : ByteArray) : ByteArray := ⟨(padded s (nz s.size) ++ lens s.size 8).toArray⟩
theorem padded_len (s : ByteArray) (z : Nat) : (padded s z).length = s.size + 1 + z := by
  simp [padded]
  show s.size + (z + 1) = _
  omega
theorem u8s_len (l : List UInt8) : (u8s l).length = l.length := by simp [u8s]
theorem u8s_app (l m : List UInt8) : u8s (l ++ m) = u8s l ++ u8s m := by simp [u8s]
theorem padded_succ (s : ByteArray) (z : Nat) : u8s (padded s z) ++ [.int .u8 0] = u8s (padded s (z + 1)) := by
  have : padded s (z + 1) = padded s z ++ [0] := by simp [padded, List.replicate_succ']
  rw [this, u8s_app]; rfl
theorem lens_succ (s : ByteArray) (n j : Nat) : u8s (padded s (nz s.size) ++ lens n j) ++ [.int .u8 ((lenByte n j).toNat : Int)] = u8s (padded s (nz s.size) ++ lens n (j + 1)) := by
  simp [lens, u8s]

theorem start_facts (w : World) (s : ByteArray) (o : Obj) (w1 : World) (g1 : Nat) (hy : ((Lib.bytesWorld (w.alloc (.cells (Array.replicate 32 (.int .u8 0)) 44)) 5 s).alloc o).grownBy w1 (some (w.heap.size + 1)))
    (hor : g1 = w.heap.size + 1 ∨ (Lib.bytesWorld (w.alloc (.cells (Array.replicate 32 (.int .u8 0)) 44)) 5 s).heap.size + 1 ≤ g1) :
    Blk w1 w.heap.size 44 (Array.replicate 32 (.int .u8 0)) ∧ w.grownBy w1 none ∧ w.heap.size ≠ g1 := by
  have e : (w.alloc (.cells (Array.replicate 32 (.int .u8 0)) 44)).heap.size = w.heap.size + 1 := by simp
  have e2 : (Lib.bytesWorld (w.alloc (.cells (Array.replicate 32 (.int .u8 0)) 44)) 5 s).heap.size = w.heap.size + 2 := by simp [Lib.bytesWorld_size]
  have b0 : Blk (w.alloc (.cells (Array.replicate 32 (.int .u8 0)) 44)) w.heap.size 44 (Array.replicate 32 (.int .u8 0)) := Blk.new _ _ _
  have y0 : w.grownBy ((Lib.bytesWorld (w.alloc (.cells (Array.replicate 32 (.int .u8 0)) 44)) 5 s).alloc o) none :=
    by_alloc (by_trans (by_alloc (by_refl w none) _) (bytesWorld_by _ 5 s none) (by simp)) o
  refine ⟨((b0.grown (bytesWorld_by _ 5 s none) (by simp)).alloc o).grown hy (by simp), by_trans y0 hy (fun g hg => .inr (by injection hg with hg; omega)), ?_⟩
  rw [e2] at hor
  omega

structure P1 (w0 : World) (g2 : Nat) (s : ByteArray) (k : Nat) (v : Value) (wr : World) (z g cap : Nat) : Prop where
  buf : Buf wr w0.heap.size g v (u8s (padded s z)) cap
  le : z ≤ nz s.size
  num : k = nz s.size - z
  res : Blk wr g2 44 (Array.replicate 32 (.int .u8 0))
  ne : g2 ≠ g
  by_ : w0.grownBy wr none

structure P2 (w0 : World) (g2 : Nat) (s : ByteArray) (k : Nat) (v c : Value) (wr : World) (j g cap : Nat) : Prop where
  buf : Buf wr w0.heap.size g v (u8s (padded s (nz s.size) ++ lens s.size j)) cap
  slot : c = .int .i64 (56 - 8 * (j : Int))
  le : j ≤ 8
  num : k = 8 - j
  res : Blk wr g2 44 (Array.replicate 32 (.int .u8 0))
  ne : g2 ≠ g
  by_ : w0.grownBy wr none
theorem lenByte_eq (n j : Nat) (d : Int) (hd : d = 2 ^ (56 - 8 * j)) : ((n : Int) * 8 / d) % 256 = ((lenByte n j).toNat : Int) := by
  subst hd
  unfold lenByte
  rw [UInt8.toNat_ofNat']
  simp only [Int.natCast_emod, Int.natCast_ediv, Int.natCast_mul, Int.natCast_pow]
  rfl

def V8.init : V8 := ⟨1779033703, 3144134277, 1013904242, 2773480762, 1359893119, 2600822924, 528734635, 1541459225⟩
theorem init_cells : hCells = V8.init.cells := by kernel_rfl
def V8.blocks (M : ByteArray) : Nat → V8
  | 0 => V8.init
  | i + 1 => (V8.blocks M i).next (M.extract (64 * i) (64 * i + 64))
theorem StrAt.sub {W : World} {A : Option Addr} {M : ByteArray} {a : Nat} (h : StrAt W A (M.size - a) (M.extract a M.size)) (b : Nat) (hb : b ≤ M.size) : StrAt W A (b - a) (M.extract a b) :=
  ⟨ext_size _ _ _ hb, fun hn => by
    obtain ⟨g, off, rfl, hg, hc⟩ := h.2 (by omega)
    refine ⟨g, off, rfl, hg, fun j hj => ?_⟩
    have hj1 : a + j < M.size := by rw [ext_size _ _ _ hb] at hj; omega
    rw [hc j (by rw [ext_size _ _ _ (Nat.le_refl _)]; omega), ext_get _ _ _ _ _ hj1, ext_get _ _ _ _ _ hj1]⟩
theorem StrAt.cutM {W : World} {A : Option Addr} {M : ByteArray} {a : Nat} (h : StrAt W A (M.size - a) (M.extract a M.size)) (k cap : Nat) (hc : M.size - a ≤ cap) :
    StrAt W (if cap = k then A else A.map (·.add k)) (M.size - (a + k)) (M.extract (a + k) M.size) :=
  ⟨ext_size _ _ _ (Nat.le_refl _), fun hn => by
    obtain ⟨g, off, rfl, hg, hcl⟩ := h.2 (by omega)
    refine ⟨g, off + k, ?_, hg, fun j hj => ?_⟩
    · rw [if_neg (by omega)]
      simp only [Option.map_some, Addr.add]
      by_cases h0 : k = 0 <;> simp [h0]
    · have hj1 : a + k + j < M.size := by rw [ext_size _ _ _ (Nat.le_refl _)] at hj; omega
      rw [Nat.add_assoc, hcl (k + j) (by rw [ext_size _ _ _ (Nat.le_refl _)]; omega), ext_get _ _ _ _ _ (by omega), ext_get _ _ _ _ _ hj1]
      simp only [Nat.add_assoc]⟩
theorem cut_block (A : Option Addr) (k cap : Nat) : (if cap = k then A else A.map (·.add k)).map (·.block) = A.map (·.block) := by
  split
  · rfl
  · cases A with
    | none => rfl
    | some a => simp only [Option.map_some]; unfold Addr.add; split <;> rfl
theorem StrAt.setCells_ {W : World} {A : Option Addr} {n : Nat} {t : ByteArray} (h : StrAt W A n t) {g : Nat} (hg : A.map (·.block) ≠ some g) (o : Nat) (vs : List Value) : StrAt (W.setCells g o vs) A n t :=
  h.same (by rw [setCells_size]; exact Nat.le_refl _) fun p hp => World.cell?_setCells_out g vs o W p (fun e => absurd (hp.trans (by rw [e])) hg)
structure P3 (w0 : World) (g2 g5 : Nat) (M : ByteArray) (k : Nat) (c : Value) (wr : World) (i : Nat) (A : Option Addr) (n cap : Nat) : Prop where
  slot : c = .slice A n cap
  len : n = M.size - 64 * i
  cap_ : n ≤ cap
  str : StrAt wr A n (M.extract (64 * i) M.size)
  far : A.map (·.block) ≠ some g5
  le : 64 * i ≤ M.size
  num : k = M.size / 64 - i
  st : Blk wr g5 74 (V8.blocks M i).cells
  res : Blk wr g2 44 (Array.replicate 32 (.int .u8 0))
  by_ : w0.grownBy wr none

structure P4 (w0 : World) (g2 g6 : Nat) (x : V8) (k : Nat) (c : Value) (wr : World) (i : Nat) : Prop where
  slot : c = .int .i64 i
  le : i ≤ 8
  num : k = 8 - i
  out : Blk wr g6 44 (rowOut x (4 * i))
  res : Blk wr g2 44 (Array.replicate 32 (.int .u8 0))
  by_ : w0.grownBy wr none
def sumOf (s : ByteArray) : V8 := V8.blocks (whole s) ((whole s).size / 64)

set_option maxRecDepth 100000 in
set_option maxHeartbeats 2000000 in
theorem sum_any (s : ByteArray) (w : World) (hs : s.size ≤ 536870912) :
    Calls Try.prog 33 #[.string s] w fun e w' => e = .returned (.agg (rowOut (sumOf s) 32)) ∧ w.grownBy w' none := by
  go_enter Try.func33, Try.ntmps33
  have hconv : ∀ W, (convert 9 47 (.string s)).run Try.prog W = .ok (.slice (some ⟨W.heap.size, 0, none⟩) s.size (grownCap W s.size 0 5)) (Lib.bytesWorld W 5 s) := fun W => Lib.run_convert_string_bytes W 9 47 5 s Try.underlying9 Try.underlying47 Try.underlying5
  obtain ⟨i0, hi, hz0, hz1, hz2⟩ : ∃ i, Try.prog.info? 5 = some i ∧ i.zero = some (.int .u8 0) ∧ i.size = 1 ∧ i.bytes = 1 := ⟨_, rfl, rfl, rfl, rfl⟩
  have Hi := Lib.hid (And.intro hi (And.intro hz0 (And.intro hz1 hz2)))
  clear hi hz0 hz1 hz2
  go_wp2_with (at_builtin; refine wpList_append_buf rfl _ _ 47 rfl 5 i0 (.int .u8 0) Try.underlying47 Hi.out.1 Hi.out.2.1 Hi.out.2.2.1 Hi.out.2.2.2 rfl w.heap.size (w.heap.size + 1) _ _ _ rfl (Buf.of_conv (w.alloc _) s w.heap.size (w.heap.size + 1) (by simp) (by omega) _) ?hbase _ _ (.int .u8 128) rfl ?hc rfl ?hlen ?_)
  case hbase => simp [Lib.bytesWorld_size]; omega
  case hc => go_simp
  case hlen => rw [u8s_len]; simp; omega
  rintro g1 cap1 v1 w1 hb1 hy1 hor
  obtain ⟨f1, f2, f3⟩ := start_facts w s _ w1 g1 hy1 hor
  have hp0 : u8s s.data.toList ++ [.int .u8 128] = u8s (padded s 0) := by simp [padded, u8s]
  rw [hp0] at hb1
  have H0 := Lib.hid (And.intro hb1 (And.intro f1 (And.intro f2 f3)))
  clear hb1 hy1 hor f1 f2 f3 hp0 hconv
  go_wp2
  go_loopg [3] (nz s.size) (fun k c wr => ∃ z g cap, P1 w w.heap.size s k c wr z g cap)
  case atStart => exact ⟨0, g1, cap1, H0.out.1, by omega, rfl, H0.out.2.1, H0.out.2.2.2, H0.out.2.2.1⟩
  case round =>
    obtain ⟨z, g, cap, hr⟩ := hrel
    have hv := hr.buf.val
    rw [u8s_len, padded_len] at hv
    subst hv
    have Hr := Lib.hid hr
    have hle := hr.le
    clear hr H0
    by_cases hlt : z < nz s.size
    · have hnz : nz s.size = (119 - s.size % 64) % 64 := rfl
      have c1 : ¬ ((s.size : Int) + 1 + (z : Int)) % 64 = 56 := by omega
      have wl : IntKind.i64.wrap ((s.size : Int) + 1 + (z : Int)) = (s.size : Int) + 1 + (z : Int) := by rw [IntKind.wrap_i64]; omega
      clear hnz
      go_wp2_with (at_builtin; refine wpList_append_buf rfl _ _ 47 rfl 5 i0 (.int .u8 0) Try.underlying47 Hi.out.1 Hi.out.2.1 Hi.out.2.2.1 Hi.out.2.2.2 rfl w.heap.size g cap _ _ rfl (Hr.out.buf.alloc _) ?hbase _ _ (.int .u8 0) rfl ?hc rfl ?hlen ?_)
      case hbase => have := Hr.out.by_.size; simp; omega
      case hc => go_simp
      case hlen => have : nz s.size < 64 := Nat.mod_lt _ (by omega); rw [u8s_len, padded_len]; omega
      rintro g' cap' v' w' hb' hy' hor'
      rw [padded_succ] at hb'
      have hsz := Hr.out.by_.size
      have hlt0 := Hr.out.res.lt
      have H1 : P1 w w.heap.size s (nz s.size - (z + 1)) v' w' (z + 1) g' cap' := ⟨hb', hlt, rfl, (Hr.out.res.alloc _).grown hy' (by have := Hr.out.ne; simp; omega), by have := Hr.out.ne; omega,
        by_trans (by_alloc Hr.out.by_ _) hy' (fun x hx => .inr (by injection hx with hx; have := Hr.out.buf.base_; omega))⟩
      replace H1 := Lib.hid H1
      clear hb' hy' hor' hsz hlt0
      go_wp2
      go_roundg (nz s.size - (z + 1))
      case measure => have := Hr.out.num; omega
      case rel => exact ⟨z + 1, g', cap', H1.out⟩
    · have hz : z = nz s.size := by omega
      subst hz
      have hnz : nz s.size = (119 - s.size % 64) % 64 := rfl
      have c1 : ((s.size : Int) + 1 + (nz s.size : Int)) % 64 = 56 := by omega
      have wl : IntKind.i64.wrap ((s.size : Int) + 1 + (nz s.size : Int)) = (s.size : Int) + 1 + (nz s.size : Int) := by rw [IntKind.wrap_i64]; omega
      clear hnz
      go_wp2
      go_loopg [3, 4] 8 (fun k c d wr => ∃ j g cap, P2 w w.heap.size s k c d wr j g cap)
      case atStart => exact ⟨0, g, cap, by simpa [lens, u8s_len, padded_len] using Hr.out.buf, by simp, by omega, by omega, Hr.out.res, Hr.out.ne, Hr.out.by_⟩
      case round =>
        clear Hr c1 wl
        obtain ⟨j, g, cap, hr⟩ := hrel
        have hv := hr.buf.val
        have hn : (u8s (padded s (nz s.size) ++ lens s.size j)).length = s.size + 1 + nz s.size + j := by rw [u8s_len, List.length_append, padded_len, lens_len]
        rw [hn] at hv
        subst hv
        obtain rfl := hr.slot
        have Hr := Lib.hid hr
        have Hn := Lib.hid hn
        have hle := hr.le
        clear hr hn
        have hnz : nz s.size < 64 := Nat.mod_lt _ (by omega)
        by_cases hlt : j < 8
        · have e1 : (0 : Int) ≤ 56 - 8 * (j : Int) := by omega
          have e2 : IntKind.u64.wrap (s.size : Int) = (s.size : Int) := by rw [IntKind.wrap_u64]; omega
          have e3 : IntKind.u64.wrap ((s.size : Int) * 8) = (s.size : Int) * 8 := by rw [IntKind.wrap_u64]; omega
          have e4 : 8 * (j : Int) ≤ 56 := by omega
          have hlb := lenByte_eq s.size j _ rfl
          have e5 : IntKind.i64.wrap (56 - 8 * (j : Int) - 8) = 56 - 8 * (j : Int) - 8 := by rw [IntKind.wrap_i64]; omega
          go_wp2_with (at_builtin; refine wpList_append_buf rfl _ _ 47 rfl 5 i0 (.int .u8 0) Try.underlying47 Hi.out.1 Hi.out.2.1 Hi.out.2.2.1 Hi.out.2.2.2 rfl w.heap.size g cap _ _ rfl (Hr.out.buf.alloc _) ?hbase _ _ (.int .u8 ((lenByte s.size j).toNat : Int)) rfl ?hc rfl ?hlen ?_)
          case hbase => have := Hr.out.by_.size; simp; omega
          case hc => go_simp
          case hlen => rw [Hn.out]; omega
          rintro g' cap' v' w' hb' hy' hor'
          rw [lens_succ] at hb'
          have hsz := Hr.out.by_.size
          have hlt0 := Hr.out.res.lt
          have H1 : P2 w w.heap.size s (8 - (j + 1)) v' (.int .i64 (56 - 8 * ((j + 1 : Nat) : Int))) w' (j + 1) g' cap' := ⟨hb', rfl, hlt, rfl, (Hr.out.res.alloc _).grown hy' (by have := Hr.out.ne; simp; omega), by have := Hr.out.ne; omega,
            by_trans (by_alloc Hr.out.by_ _) hy' (fun x hx => .inr (by injection hx with hx; have := Hr.out.buf.base_; omega))⟩
          have e6 : 56 - 8 * (j : Int) - 8 = 56 - 8 * ((j + 1 : Nat) : Int) := by omega
          rw [← e6] at H1
          replace H1 := Lib.hid H1
          clear hb' hy' hor' hsz hlt0 e6
          go_wp2
          go_roundg (8 - (j + 1))
          case measure => have := Hr.out.num; omega
          case rel => exact ⟨j + 1, g', cap', H1.out⟩
        · have hj : j = 8 := by omega
          subst hj
          have hlen : s.size + 1 + nz s.size + 8 = (whole s).size := by
            have := Hn.out
            rw [u8s_len] at this
            exact this.symm
          rw [hlen]
          have hM64 : (whole s).size % 64 = 0 := by rw [← hlen]; simp only [nz]; omega
          have hMb : (whole s).size < 1073741824 := by rw [← hlen]; omega
          have hbuf := Hr.out.buf
          have hst : StrAt wr (some ⟨g, 0, none⟩) (whole s).size (whole s) := by
            refine ⟨rfl, fun _ => ⟨g, 0, rfl, hbuf.lt, fun j hj => ?_⟩⟩
            rw [Nat.zero_add]
            refine hbuf.cells j _ ?_
            have : (padded s (nz s.size) ++ lens s.size 8)[j]? = some (whole s)[j] := by
              have h1 : (whole s).data.toList[j]? = some (whole s)[j] := by simp [hj]; rfl
              exact h1
            unfold u8s
            rw [List.getElem?_map, this]; rfl
          have hcap := hbuf.le
          rw [Hn.out, hlen] at hcap
          have HS := Lib.hid (And.intro hst (And.intro hcap (And.intro hbuf.base_ hbuf.lt)))
          have HM := Lib.hid (And.intro hM64 hMb)
          clear hM64 hMb hbuf hst hcap hlen Hn hnz
          obtain ⟨M, hMs⟩ : ∃ M, M = whole s := ⟨_, rfl⟩
          rw [← hMs] at HS HM ⊢
          have HMs := Lib.hid hMs
          clear hMs
          go_wp2_with fail
          refine (first_any wr).mono ?_
          rintro e w3 ⟨rfl, y3⟩
          rw [init_cells]
          have hres := Hr.out.res.grown y3 (by simp)
          have hby := by_trans Hr.out.by_ y3 (by simp)
          have hst3 : StrAt w3 (some ⟨g, 0, none⟩) M.size M := HS.out.1.by_ y3
          have hlt3 := Nat.lt_of_lt_of_le HS.out.2.2.2 y3.size
          have hcap := HS.out.2.1
          have hres_lt := hres.lt
          clear y3
          have p8 : Blk (w3.alloc (.cells (Array.replicate 8 (.int .u32 0)) 74)) w3.heap.size 74 (Array.replicate 8 (.int .u32 0)) := Blk.new _ _ _
          have t8 := p8.there V8.init.cells.size (Nat.le_refl _)
          have l4 : (Try.prog.info? 74).map (·.size) = some V8.init.cells.size := info43
          obtain ⟨W4, hW4⟩ : ∃ W, W = (w3.alloc (.cells (Array.replicate 8 (.int .u32 0)) 74)).setCells w3.heap.size 0 V8.init.cells.toList := ⟨_, rfl⟩
          have j8 : Blk W4 w3.heap.size 74 V8.init.cells := by
            rw [hW4]
            have h := p8.setAll V8.init.cells.toList rfl
            rw [Array.toArray_toList] at h
            exact h
          have jst : StrAt W4 (some ⟨g, 0, none⟩) M.size M := by
            rw [hW4]
            exact (hst3.alloc _).setCells_ (by simp; omega) _ _
          have jres : Blk W4 w.heap.size 44 (Array.replicate 32 (.int .u8 0)) := by
            rw [hW4]
            exact Blk.farAll _ _ _ _ (by omega) (hres.alloc _)
          have jby : w.grownBy W4 none := by
            rw [hW4]
            exact by_setAll (.inr (by have := hby.size; omega)) _ _ _ (by_alloc hby _)
          have H3 : P3 w w.heap.size w3.heap.size M (M.size / 64) (.slice (some ⟨g, 0, none⟩) M.size cap) W4 0 (some ⟨g, 0, none⟩) M.size cap :=
            ⟨rfl, by omega, hcap, by simpa using jst, by simp; omega, by omega, by omega, j8, jres, jby⟩
          replace H3 := Lib.hid H3
          have HV := Lib.hid hW4
          have H8 := Lib.hid (And.intro l4 (And.intro t8 V8.init.one))
          have hbs : w.heap.size ≤ w3.heap.size ∧ w.heap.size ≠ w3.heap.size := by omega
          have HB := Lib.hid hbs
          clear p8 t8 l4 hW4 j8 jst jres jby hst3 hlt3 hcap hres_lt hby hres Hr HS hbs
          generalize V8.init.cells = I8 at *
          go_wp2_with (refine wpList_store_mid rfl 74 _ _ rfl w3.heap.size 0 I8 rfl rfl H8.out.2.1 H8.out.1 H8.out.2.2 ?_; refine wpList_at HV.out ?_)
          dsimp only [Act.put]
          go_loopg [3] (M.size / 64) (fun k c wr => ∃ i A n cap, P3 w w.heap.size w3.heap.size M k c wr i A n cap)
          case atStart => exact ⟨0, _, _, _, H3.out⟩
          case round =>
            clear H3 HV H8
            generalize w3.heap.size = g5 at *
            obtain ⟨i, A, n, cap, hr⟩ := hrel
            obtain rfl := hr.slot
            have Hr := Lib.hid hr
            clear hr
            by_cases hlt : 64 * i < M.size
            · have hn := Hr.out.len
              have hM := HM.out.1
              have hM2 := HM.out.2
              have hcap := Hr.out.cap_
              have hz : ∀ w, (Go.sizeOf 5).run Try.prog w = .ok 1 w := fun _ => by kernel_rfl
              have hel : Try.prog.elem 47 = 5 := by kernel_rfl
              have hsl : ∀ W, (Instr.slice 47 (.slice A n cap) none (some (.int .i64 64)) none).run Try.prog W = .ok (.slice A 64 cap) W := fun W => by
                rw [run_slice_h W 47 _ _ _ rfl .i64 _ (by omega) (by omega), hel, hz]
                cases A <;> simp [Result.andThen, sliced, Addr.add]
              have hs2 : ∀ W, (Instr.slice 47 (.slice A n cap) (some (.int .i64 64)) none none).run Try.prog W = .ok (.slice (if cap = 64 then A else A.map (·.add 64)) (n - 64) (cap - 64)) W := fun W => by
                rw [run_slice_l W 47 _ _ _ rfl .i64 _ (by omega) (by omega), hel, hz]
                simp [Result.andThen, sliced]
              obtain ⟨x, hx⟩ : ∃ x, x = V8.blocks M i := ⟨_, rfl⟩
              have hstr := Hr.out.str
              rw [hn] at hstr
              have hs1 : StrAt wr A 64 (M.extract (64 * i) (64 * i + 64)) := by simpa using hstr.sub (64 * i + 64) (by omega)
              have hs3 := hstr.cutM 64 cap (by omega)
              have hst := Hr.out.st
              rw [← hx] at hst
              have hxn : x.next (M.extract (64 * i) (64 * i + 64)) = V8.blocks M (i + 1) := by rw [hx]; rfl
              have Hx := Lib.hid (And.intro hs1 (And.intro hs3 (And.intro hst (And.intro hxn (And.intro Hr.out.res Hr.out.by_)))))
              have hfar := cut_block A 64 cap
              have c0 : wr.cell? ⟨g5, 0, none⟩ = some (v32 x.a) := by rw [hst.cell]; rfl
              have c1 : wr.cell? ⟨g5, 1, none⟩ = some (v32 x.b) := by rw [hst.cell]; rfl
              have c2 : wr.cell? ⟨g5, 2, none⟩ = some (v32 x.c) := by rw [hst.cell]; rfl
              have c3 : wr.cell? ⟨g5, 3, none⟩ = some (v32 x.d) := by rw [hst.cell]; rfl
              have c4 : wr.cell? ⟨g5, 4, none⟩ = some (v32 x.e) := by rw [hst.cell]; rfl
              have c5 : wr.cell? ⟨g5, 5, none⟩ = some (v32 x.f) := by rw [hst.cell]; rfl
              have c6 : wr.cell? ⟨g5, 6, none⟩ = some (v32 x.g) := by rw [hst.cell]; rfl
              have c7 : wr.cell? ⟨g5, 7, none⟩ = some (v32 x.h) := by rw [hst.cell]; rfl
              have hp : (0 : Int) < (n : Int) := by omega
              generalize (if cap = 64 then A else A.map (·.add 64)) = A' at *
              have Hf := Lib.hid (And.intro hfar (And.intro hn hcap))
              clear hstr hs1 hs3 hst hxn hx hfar hn hcap hM hM2 hz hel
              go_wp2
              go_still_tail 3, (by kernel_rfl)
              change wpList _ _ _ _ _ wr.drew
              replace Hx := Lib.hid (And.intro Hx.out.1.drew (And.intro Hx.out.2.1.drew (And.intro Hx.out.2.2.1.drew (And.intro Hx.out.2.2.2.1 (And.intro Hx.out.2.2.2.2.1.drew (by_drew Hx.out.2.2.2.2.2))))))
              clear c0 c1 c2 c3 c4 c5 c6 c7
              generalize wr.drew = w4 at *
              go_wp2_with fail
              refine (next_any x A cap _ w4 Hx.out.1).mono ?_
              rintro e w5 ⟨rfl, y5⟩
              rw [Hx.out.2.2.2.1]
              obtain ⟨Y, hY⟩ : ∃ Y, Y = V8.blocks M (i + 1) := ⟨_, rfl⟩
              rw [← hY]
              have hst := Hx.out.2.2.1.grown y5 (by simp)
              have t5 := hst.there Y.cells.size (Nat.le_refl _)
              have l5 : (Try.prog.info? 74).map (·.size) = some Y.cells.size := info43
              have h6 := hst.setAll Y.cells.toList rfl
              rw [Array.toArray_toList] at h6
              have h7 := (Hx.out.2.1.by_ y5).setCells_ (g := g5) (by rw [Hf.out.1]; exact Hr.out.far) 0 Y.cells.toList
              have h8 := Blk.farAll Y.cells.toList 0 _ _ HB.out.2 (Hx.out.2.2.2.2.1.grown y5 (by simp))
              have h9 := by_setAll (g := g5) (.inr HB.out.1) Y.cells.toList 0 _ (by_trans Hx.out.2.2.2.2.2 y5 (by simp))
              rw [hY] at h6
              have H5 := Lib.hid (And.intro t5 (And.intro l5 Y.one))
              rw [hY] at h7 h8 h9
              have H6 := Lib.hid (And.intro h6 (And.intro h7 (And.intro h8 h9)))
              rw [← hY] at H6
              have HY := Lib.hid hY
              clear hst t5 l5 h6 h7 h8 h9 y5 hY Hx hsl
              go_wp2_with (refine wpList_store_mid rfl 74 (.tmp 5) (.tmp 43) rfl g5 0 Y.cells rfl rfl ?ht ?hi ?h1 ?_)
              case ht => exact H5.out.1
              case hi => exact H5.out.2.1
              case h1 => exact H5.out.2.2
              go_wp2
              go_roundg (M.size / 64 - (i + 1))
              case measure => have := Hr.out.num; have := HM.out.1; omega
              case rel =>
                have h1 := Hf.out.2.1
                have h2 := Hf.out.2.2
                have h3 := HM.out.1
                exact ⟨i + 1, A', n - 64, cap - 64, rfl, by omega, by omega, by rw [show n - 64 = M.size - (64 * i + 64) by omega]; exact H6.out.2.1, by rw [Hf.out.1]; exact Hr.out.far, by omega, rfl, by rw [← HY.out]; exact H6.out.1, H6.out.2.2.1, H6.out.2.2.2⟩
            · have hn := Hr.out.len
              have hle := Hr.out.le
              have hn0 : n = 0 := by omega
              subst hn0
              obtain ⟨x, hx⟩ : ∃ x, x = V8.blocks M i := ⟨_, rfl⟩
              have hxs : x = sumOf s := by rw [hx, sumOf, ← HMs.out, show M.size / 64 = i by omega]
              have hst := Hr.out.st
              rw [← hx] at hst
              have Hx := Lib.hid hxs
              have hst2 := hst.alloc (.cells (Array.replicate 32 (.int .u8 0)) 44)
              have hlt2 := hst.lt
              have hlt3 := Hr.out.res.lt
              have h6 : Blk (wr.alloc (.cells (Array.replicate 32 (.int .u8 0)) 44)) wr.heap.size 44 (rowOut x (4 * 0)) := Blk.new _ _ _
              have h7 := Hr.out.res.alloc (.cells (Array.replicate 32 (.int .u8 0)) 44)
              have h8 := by_alloc Hr.out.by_ (.cells (Array.replicate 32 (.int .u8 0)) 44)
              have Hl := Lib.hid (And.intro hst2 (And.intro h6 (And.intro h7 h8)))
              have hbs : w.heap.size ≠ wr.heap.size ∧ w.heap.size ≤ wr.heap.size := by have := Hr.out.by_.size; omega
              have HB2 := Lib.hid hbs
              have hidx : ∀ (i : Nat) (h : i < 8) (W : World), (Instr.index 74 (.agg x.cells) (.int .i64 (i : Int))).run Try.prog W = .ok (.int .u32 (N (x.get i))) W := V8.index x
              have Hidx := Lib.hid hidx
              clear hn hle hx hxs hst hst2 hlt2 hlt3 h6 h7 h8 hbs hidx Hr HB HM HMs
              go_wp2_with (refine wpList_load_row rfl 74 (.tmp 5) rfl g5 rfl 74 x.cells (0, 0) _ ?hb Try.underlying74 rfl ?hi ?_)
              case hb => exact Hl.out.1
              case hi => exact info43
              go_wp2
              generalize hg6 : wr.heap.size = g6 at *
              go_loopg [45] 8 (fun k c wr => ∃ i, P4 w w.heap.size g6 x k c wr i)
              case atStart => exact ⟨0, rfl, by omega, by omega, Hl.out.2.1, Hl.out.2.2.1, Hl.out.2.2.2⟩
              case round =>
                clear Hl hg6
                obtain ⟨i, hr⟩ := hrel
                obtain rfl := hr.slot
                have hle := hr.le
                have Hr := Lib.hid hr
                clear hr
                by_cases hlt : i < 8
                · have hidx := Hidx.out i hlt
                  have v0 := outV0 x i
                  have v1' := outV1 x i
                  have v2 := outV2 x i
                  have v3 := outV3 x i
                  have ho := Hr.out.out
                  have hsz : ∀ n, n ≤ 32 → (rowOut x n).size = 32 := rowOut_size x
                  have o1 := ho.set_ (4 * i) (outV x (4 * i))
                  rw [rowOut_set x _ (by omega)] at o1
                  have o2 := o1.set_ (4 * i + 1) (outV x (4 * i + 1))
                  rw [rowOut_set x _ (by omega)] at o2
                  have o3 := o2.set_ (4 * i + 1 + 1) (outV x (4 * i + 1 + 1))
                  rw [rowOut_set x _ (by omega)] at o3
                  have o4 := o3.set_ (4 * i + 1 + 1 + 1) (outV x (4 * i + 1 + 1 + 1))
                  rw [rowOut_set x _ (by omega)] at o4
                  have f0 := ho.frozen (4 * i)
                  have f1 := o1.frozen (4 * i + 1)
                  have f2 := o2.frozen (4 * i + 2)
                  have f3 := o3.frozen (4 * i + 3)
                  have d0 : ∃ u, wr.cell? ⟨g6, 4 * i, none⟩ = some u := ⟨_, by rw [ho.cell]; exact Array.getElem?_eq_getElem (by rw [hsz _ (by omega)]; omega)⟩
                  have d1 : ∃ u, (wr.setCell ⟨g6, 4 * i, none⟩ (outV x (4 * i))).cell? ⟨g6, 4 * i + 1, none⟩ = some u := ⟨_, by rw [o1.cell]; exact Array.getElem?_eq_getElem (by rw [hsz _ (by omega)]; omega)⟩
                  have d2 : ∃ u, ((wr.setCell ⟨g6, 4 * i, none⟩ (outV x (4 * i))).setCell ⟨g6, 4 * i + 1, none⟩ (outV x (4 * i + 1))).cell? ⟨g6, 4 * i + 2, none⟩ = some u := ⟨_, by rw [o2.cell]; exact Array.getElem?_eq_getElem (by rw [hsz _ (by omega)]; omega)⟩
                  have d3 : ∃ u, (((wr.setCell ⟨g6, 4 * i, none⟩ (outV x (4 * i))).setCell ⟨g6, 4 * i + 1, none⟩ (outV x (4 * i + 1))).setCell ⟨g6, 4 * i + 2, none⟩ (outV x (4 * i + 2))).cell? ⟨g6, 4 * i + 3, none⟩ = some u := ⟨_, by rw [o3.cell]; exact Array.getElem?_eq_getElem (by rw [hsz _ (by omega)]; omega)⟩
                  obtain ⟨u0, d0⟩ := d0
                  obtain ⟨u1, d1⟩ := d1
                  obtain ⟨u2, d2⟩ := d2
                  obtain ⟨u3, d3⟩ := d3
                  have hne : w.heap.size ≠ g6 := HB2.out.1
                  have hge : w.heap.size ≤ g6 := HB2.out.2
                  have r4 := (((Hr.out.res.far (p := ⟨g6, 4 * i, none⟩) hne (outV x (4 * i))).far (p := ⟨g6, 4 * i + 1, none⟩) hne (outV x (4 * i + 1))).far (p := ⟨g6, 4 * i + 2, none⟩) hne (outV x (4 * i + 2))).far (p := ⟨g6, 4 * i + 3, none⟩) hne (outV x (4 * i + 3))
                  have y4 := by_set (by_set (by_set (by_set Hr.out.by_ (p := ⟨g6, 4 * i, none⟩) (.inr hge) (outV x (4 * i))) (p := ⟨g6, 4 * i + 1, none⟩) (.inr hge) (outV x (4 * i + 1))) (p := ⟨g6, 4 * i + 2, none⟩) (.inr hge) (outV x (4 * i + 2))) (p := ⟨g6, 4 * i + 3, none⟩) (.inr hge) (outV x (4 * i + 3))
                  have o4' : Blk ((((wr.setCell ⟨g6, 4 * i, none⟩ (outV x (4 * i))).setCell ⟨g6, 4 * i + 1, none⟩ (outV x (4 * i + 1))).setCell ⟨g6, 4 * i + 2, none⟩ (outV x (4 * i + 2))).setCell ⟨g6, 4 * i + 3, none⟩ (outV x (4 * i + 3))) g6 44 (rowOut x (4 * (i + 1))) := o4
                  rw [v0, v1', v2, v3] at o4' r4 y4
                  have f3' : (((wr.setCell ⟨g6, 4 * i, none⟩ (outV x (4 * i))).setCell ⟨g6, 4 * i + 1, none⟩ (outV x (4 * i + 1))).setCell ⟨g6, 4 * i + 2, none⟩ (outV x (4 * i + 2))).frozen? ⟨g6, 4 * i + 3, none⟩ = false := f3
                  rw [v0, v1', v2] at f3' d3
                  rw [v0, v1'] at f2 d2
                  rw [v0] at f1 d1
                  clear f3
                  have Hn := Lib.hid (And.intro o4' (And.intro r4 y4))
                  have hnum := Hr.out.num
                  have Hnum := Lib.hid hnum
                  clear o1 o2 o3 o4 o4' r4 y4 ho hsz hnum hne hge v0 v1' v2 v3 Hr
                  generalize x.get i = y at *
                  have p0 : (0 : Int) ≤ (i : Int) := by omega
                  have p1 : (i : Int) < 8 := by omega
                  have w0 : IntKind.i64.wrap (4 * (i : Int)) = 4 * (i : Int) := by rw [IntKind.wrap_i64]; omega
                  have w1 : IntKind.i64.wrap (4 * (i : Int) + 1) = 4 * (i : Int) + 1 := by rw [IntKind.wrap_i64]; omega
                  have w2 : IntKind.i64.wrap (4 * (i : Int) + 2) = 4 * (i : Int) + 2 := by rw [IntKind.wrap_i64]; omega
                  have w3' : IntKind.i64.wrap (4 * (i : Int) + 3) = 4 * (i : Int) + 3 := by rw [IntKind.wrap_i64]; omega
                  have wx : IntKind.i64.wrap ((i : Int) + 1) = (i : Int) + 1 := by rw [IntKind.wrap_i64]; omega
                  have t0 : (4 * (i : Int)).toNat = 4 * i := by omega
                  have t1 : (4 * (i : Int) + 1).toNat = 4 * i + 1 := by omega
                  have t2 : (4 * (i : Int) + 2).toNat = 4 * i + 2 := by omega
                  have t3 : (4 * (i : Int) + 3).toNat = 4 * i + 3 := by omega
                  have q1 : (0 : Int) ≤ 4 * (i : Int) := by omega
                  have q2 : 4 * (i : Int) < 32 := by omega
                  have q3 : (0 : Int) ≤ 4 * (i : Int) + 1 := by omega
                  have q4 : 4 * (i : Int) + 1 < 32 := by omega
                  have q5 : (0 : Int) ≤ 4 * (i : Int) + 2 := by omega
                  have q6 : 4 * (i : Int) + 2 < 32 := by omega
                  have q7 : (0 : Int) ≤ 4 * (i : Int) + 3 := by omega
                  have q8 : 4 * (i : Int) + 3 < 32 := by omega
                  go_wp2
                  go_roundg (7 - i)
                  case measure => have := Hnum.out; omega
                  case rel => exact ⟨i + 1, rfl, by omega, by omega, Hn.out.1, Hn.out.2.1, Hn.out.2.2⟩
                · have hi : i = 8 := by omega
                  subst hi
                  obtain ⟨Z, hZ⟩ : ∃ Z, Z = rowOut x 32 := ⟨_, rfl⟩
                  have ho : Blk wr g6 44 Z := by rw [hZ]; exact Hr.out.out
                  have hZs : Z.size = 32 := by rw [hZ]; exact rowOut_size x 32 (Nat.le_refl _)
                  have hZ1 : Z.all (·.oneCell') = true := by rw [hZ]; exact rowOut_one x 32
                  have hst := Hr.out.res.setAll Z.toList (by simp [hZs])
                  rw [Array.toArray_toList] at hst
                  have hth := Hr.out.res.there Z.size (by rw [hZs]; exact Nat.le_refl _)
                  have hy2 := by_setAll (g := w.heap.size) (.inr (Nat.le_refl _)) Z.toList 0 _ Hr.out.by_
                  have hi0 : (Try.prog.info? 44).map (·.size) = some Z.size := by rw [hZs]; exact info22
                  have hfin : Z = rowOut (sumOf s) 32 := by rw [hZ, Hx.out]
                  have HH := Lib.hid (And.intro ho (And.intro hst (And.intro hth (And.intro hi0 (And.intro hZ1 (And.intro hy2 hfin))))))
                  clear Hr ho hst hth hy2 hi0 hZ1 hZs hZ hfin Hx
                  go_wp2_with (first | (refine wpList_load_row rfl 44 (.tmp 6) rfl g6 rfl 44 Z (0, 0) _ ?a1 Try.underlying44 rfl ?a2 ?_) | (refine wpList_store_mid rfl 44 (.tmp 2) (.tmp 76) rfl w.heap.size 0 Z rfl rfl ?b1 ?b2 ?b3 ?_))
                  case a1 => exact HH.out.1
                  case a2 => exact HH.out.2.2.2.1
                  case b1 => exact HH.out.2.2.1
                  case b2 => exact HH.out.2.2.2.1
                  case b3 => exact HH.out.2.2.2.2.1
                  refine bodyPost_ret (results_cell_row rfl _ _ w.heap.size 44 Z (0, 0) _ rfl HH.out.2.1 Try.underlying44 rfl HH.out.2.2.2.1) rfl ⟨by rw [HH.out.2.2.2.2.2.2], HH.out.2.2.2.2.2.1⟩
end Go.Proofs.Ytdloapfifhelbaa
