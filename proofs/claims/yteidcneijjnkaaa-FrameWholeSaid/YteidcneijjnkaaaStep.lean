/-
  'Feed' of a cutter that was fed St before: the frames that come are those that the whole has more.
-/
import Derived.Test.YteidcneijjnkaaaWorks
namespace Go.Proofs.Yteidcneijjnkaaa
open Go.RowKit

/-- the frames that come when s is fed behind St -/
def more (St s : ByteArray) : List ByteArray := (cutAll (St ++ s)).1.drop (cutAll St).1.length

theorem feed_step (g : Nat) (St s : ByteArray) (w : World) (hb : Blk w g 39 #[.string (cutAll St).2.1, .bool (cutAll St).2.2]) (hs : St.size + s.size ≤ 1000000) :
    Calls Try.prog 10 #[.pointer (some ⟨g, 0, none⟩), .string s] w (FedS w g (more St s, (cutAll (St ++ s)).2)) := by
  have hr := cut_rest St.size St
  cases h : (cutAll St).2.2 with
  | true =>
    rw [h] at hb
    have hb0 := cut_broken _ _ h
    have := feed_cb g _ s w hb
    unfold more
    rw [cutAll_stay h]
    unfold cutAll at this ⊢
    rw [hb0] at this
    simpa using this
  | false =>
    rw [h] at hb
    have h1 := feed_c g (cutAll St).2.1 s w _ hb (by unfold cutAll; omega) rfl
    unfold more
    rw [cutAll_go h]
    simpa using h1

theorem more_app (St s : ByteArray) : (cutAll St).1 ++ more St s = (cutAll (St ++ s)).1 := by
  unfold more
  cases h : (cutAll St).2.2 with
  | true => rw [cutAll_stay h]; simp
  | false => rw [cutAll_go h]; simp
theorem cutAll_many (s : ByteArray) : (cutAll s).1.length ≤ s.size := cut_many _ _
theorem more_many (St s : ByteArray) : (more St s).length ≤ St.size + s.size := by
  have := cutAll_many (St ++ s)
  unfold more
  rw [List.length_drop]
  rw [app_size] at this
  omega
theorem ext_step (S : ByteArray) (a b : Nat) (hab : a ≤ b) (hb : b ≤ S.size) : S.extract 0 a ++ S.extract a b = S.extract 0 b := by
  apply ba_ext
  rw [data_app, data_ext, data_ext, data_ext]
  simp only [List.drop_zero, Nat.sub_zero]
  rw [show b = a + (b - a) by omega, List.take_add]
  simp
theorem empty_app (S : ByteArray) : (⟨#[]⟩ : ByteArray) ++ S = S := by
  apply ba_ext
  rw [data_app]
  rfl
theorem ext_all (S : ByteArray) : S.extract 0 S.size = S := by
  apply ba_ext
  rw [data_ext]
  rw [List.drop_zero, List.take_of_length_le (by rw [size_toList]; omega)]
end Go.Proofs.Yteidcneijjnkaaa
