/-
  The walks of mac.Same, of the reference's Same, and of 'works' of layer 4.
-/
import Derived.Test.YtdloapfifhelbaaMac
namespace Go.Proofs.Ytdloapfifhelbaa
open Go.RowKit

theorem u8_or_b (a b : UInt8) : bits BinOp.or IntKind.u8 (a.toNat : Int) (b.toNat : Int) = ((a ||| b).toNat : Int) := by
  rw [u8_or_nat _ _ a.toNat_lt b.toNat_lt, UInt8.toNat_or]
theorem or_zero (x y z : UInt8) : (x ||| (y ^^^ z)) = 0 ↔ x = 0 ∧ y = z := by
  constructor
  · intro h
    have h1 : x.toNat ||| (y.toNat ^^^ z.toNat) = 0 := by
      have := congrArg UInt8.toNat h
      simpa using this
    have h2 := Nat.or_eq_zero_iff.1 h1
    refine ⟨UInt8.toNat_inj.1 (by simpa using h2.1), UInt8.toNat_inj.1 ?_⟩
    have h3 := h2.2
    have h4 := congrArg (· ^^^ z.toNat) h3
    simp only [Nat.xor_assoc, Nat.xor_self, Nat.xor_zero, Nat.zero_xor] at h4
    exact h4
  · rintro ⟨rfl, rfl⟩
    simp
structure SR (w0 : World) (a b : List UInt8) (k : Nat) (c d : Value) (wr : World) (i : Nat) (x : UInt8) : Prop where
  slot5 : c = .int .u8 (x.toNat : Int)
  slot : d = .int .i64 i
  le : i ≤ a.length
  num : k = a.length - i
  eq_ : x = 0 ↔ a.take i = b.take i
  by_ : w0.grownBy wr none
theorem str_at (s : ByteArray) (W : World) (k : Nat) (h : k < s.size) : (Instr.index 9 (.string s) (.int .i64 (k : Int))).run Try.prog W = .ok (.int .u8 ((s.data.toList.getD k 0).toNat : Int)) W := by
  rw [run_index_string W 9 _ .i64 _ Try.underlying9, dif_pos ⟨by omega, by omega⟩]
  have e : (k : Int).toNat = k := by omega
  have h2 : s.data.toList.getD k 0 = s[k] := by
    have : k < s.data.toList.length := by simpa using h
    rw [List.getD, List.getElem?_eq_getElem this]
    rfl
  simp only [e, h2]

set_option maxRecDepth 100000 in
set_option maxHeartbeats 1000000 in
theorem same_any (a b : ByteArray) (ha : a.size ≤ maxLen) (hb : b.size ≤ maxLen) (w : World) :
    Calls Try.prog 20 #[.string a, .string b] w fun e w' => e = .returned (.bool (a.toList == b.toList)) ∧ w.grownBy w' none := by
  have ha2 : a.size ≤ 9223372036854775807 := ha
  have hb2 : b.size ≤ 9223372036854775807 := hb
  clear ha hb
  go_enter Try.func20, Try.ntmps20
  by_cases hne : a.size = b.size
  · have hn : (a.size : Int) = (b.size : Int) := by omega
    have hla : a.data.toList.length = a.size := by simp
    have hlb : b.data.toList.length = b.size := by simp
    have Hl := Lib.hid (And.intro hla (And.intro hlb hne))
    clear hla hlb
    rw [← hne] at hb2
    clear hne
    go_wp2
    go_loopg [5, 14] a.size (fun k c d wr => ∃ i x, SR w a.data.toList b.data.toList k c d wr i x)
    case atStart => exact ⟨0, 0, rfl, rfl, by omega, by have := Hl.out.1; omega, by simp, by_refl _ _⟩
    case round =>
      obtain ⟨i, x, hr⟩ := hrel
      obtain rfl := hr.slot5
      obtain rfl := hr.slot
      have hle := hr.le
      have Hr := Lib.hid hr
      clear hr
      rw [Hl.out.1] at hle
      by_cases hlt : i < a.size
      · have d1 := fun W => str_at a W i hlt
        have d2 := fun W => str_at b W i (by have := Hl.out.2.2; omega)
        obtain ⟨y, hy⟩ : ∃ y, y = a.data.toList.getD i 0 := ⟨_, rfl⟩
        obtain ⟨z, hz⟩ : ∃ y, y = b.data.toList.getD i 0 := ⟨_, rfl⟩
        rw [← hy] at d1
        rw [← hz] at d2
        have h1 := u8_xor_b y z
        have h2 := u8_or_b x (y ^^^ z)
        have hstep : (x ||| (y ^^^ z)) = 0 ↔ a.data.toList.take (i + 1) = b.data.toList.take (i + 1) := by
          have l1 := Hl.out.1
          have l2 := Hl.out.2.1
          have l3 := Hl.out.2.2
          rw [or_zero, Hr.out.eq_, List.take_add_one, List.take_add_one, List.getElem?_eq_getElem (by omega), List.getElem?_eq_getElem (by omega)]
          have e1 : a.data.toList[i]'(by omega) = y := by rw [hy, List.getD, List.getElem?_eq_getElem (by omega)]; rfl
          have e2 : b.data.toList[i]'(by omega) = z := by rw [hz, List.getD, List.getElem?_eq_getElem (by omega)]; rfl
          rw [e1, e2]
          constructor
          · rintro ⟨h1, h2⟩; rw [h1, h2]
          · intro h
            have := List.append_inj h (by rw [List.length_take, List.length_take]; omega)
            exact ⟨this.1, by simpa using this.2⟩
        have hrel : SR w a.data.toList b.data.toList (a.size - (i + 1)) (.int .u8 ((x ||| (y ^^^ z)).toNat : Int)) (.int .i64 ((i : Int) + 1)) wr.drew (i + 1) (x ||| (y ^^^ z)) :=
          ⟨rfl, by simp, by have := Hl.out.1; omega, by have := Hl.out.1; omega, hstep, by_drew Hr.out.by_⟩
        have Hn := Lib.hid (And.intro hrel (show a.size - (i + 1) < gk by have := Hr.out.num; have := Hl.out.1; omega))
        clear hstep hrel Hr hy hz
        generalize hxx : x ||| (y ^^^ z) = xx at *
        have Hxx := Lib.hid hxx
        clear hxx
        generalize y ^^^ z = yz at *
        have p0 : (0 : Int) ≤ (i : Int) := by omega
        have p1 : (i : Int) < (a.size : Int) := by omega
        have wx : IntKind.i64.wrap ((i : Int) + 1) = (i : Int) + 1 := by rw [IntKind.wrap_i64]; omega
        go_wp2
        refine wp_region_still_lit (by kernel_rfl) (by kernel_rfl) ?_
        repeat still_step
        refine wpStill_nil ?_
        change Exit.inBlock _ _ _ _ wr.drew
        go_wp2
        go_roundg (a.size - (i + 1))
        case measure => exact Hn.out.2
        case rel => exact ⟨i + 1, xx, Hn.out.1⟩
      · have hi : i = a.size := by omega
        subst hi
        have hres : ((x.toNat : Int) == 0) = (a.toList == b.toList) := by
          rw [Bool.eq_iff_iff]
          simp only [beq_iff_eq]
          rw [ByteArray.toList_eq, ByteArray.toList_eq]
          have h := Hr.out.eq_
          rw [List.take_of_length_le (by have := Hl.out.1; omega), List.take_of_length_le (by have := Hl.out.2.1; have := Hl.out.2.2; omega)] at h
          rw [← h]
          constructor
          · intro h; exact UInt8.toNat_inj.1 (by simp; omega)
          · rintro rfl; rfl
        have Hy := Lib.hid (And.intro Hr.out.by_ hres)
        clear Hr hres
        go_wp2
        go_ret
        exact ⟨by rw [← Hy.out.2]; rfl, Hy.out.1⟩
  · have hn : ¬ (a.size : Int) = (b.size : Int) := by omega
    have hres : (a.toList == b.toList) = false := by
      rw [Bool.eq_false_iff]
      intro h
      simp only [beq_iff_eq] at h
      rw [ByteArray.toList_eq, ByteArray.toList_eq] at h
      apply hne
      have := congrArg List.length h
      simpa using this
    have Hres := Lib.hid hres
    clear hres hne
    go_wp2
    go_ret
    exact ⟨by rw [Hres.out]; rfl, by_refl _ _⟩
theorem rsame_any (a b : ByteArray) (w : World) :
    Calls Try.prog 24 #[.string a, .string b] w fun e w' => e = .returned (.bool (a.toList == b.toList)) ∧ w' = w := by
  go_enter Try.func24, Try.ntmps24
  go_wp2
  go_ret
  exact ⟨rfl, rfl⟩

def jefe : ByteArray := ⟨#[74, 101, 102, 101]⟩
def wants : ByteArray := ⟨#[119, 104, 97, 116, 32, 100, 111, 32, 121, 97, 32, 119, 97, 110, 116, 32, 102, 111, 114, 32, 110, 111, 116, 104, 105, 110, 103, 63]⟩
def jefeHex : List UInt8 := [53, 98, 100, 99, 99, 49, 52, 54, 98, 102, 54, 48, 55, 53, 52, 101, 54, 97, 48, 52, 50, 52, 50, 54, 48, 56, 57, 53, 55, 53, 99, 55, 53, 97, 48, 48, 51, 102, 48, 56, 57, 100, 50, 55, 51, 57, 56, 51, 57, 100, 101, 99, 53, 56, 98, 57, 54, 52, 101, 99, 51, 56, 52, 51]
theorem jefe_hex : hexL (markB jefe wants) = jefeHex := by kernel_rfl

end Go.Proofs.Ytdloapfifhelbaa
