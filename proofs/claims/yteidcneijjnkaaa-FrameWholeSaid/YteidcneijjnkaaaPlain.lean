/-
  The plain law of the cutter: how what is cut of a text hangs together with what is cut of the text and more behind it.
-/
import Derived.Test.YteidcneijjnkaaaModel
namespace Go.Proofs.Yteidcneijjnkaaa

theorem ba_ext {a b : ByteArray} (h : a.data.toList = b.data.toList) : a = b := by
  apply ByteArray.ext
  apply Array.toList_inj.1 h
theorem size_toList (s : ByteArray) : s.data.toList.length = s.size := by simp
theorem data_app (s t : ByteArray) : (s ++ t).data.toList = s.data.toList ++ t.data.toList := by simp [ByteArray.data_append]
theorem data_ext (s : ByteArray) (a b : Nat) : (s.extract a b).data.toList = (s.data.toList.drop a).take (b - a) := by
  simp [ByteArray.data_extract]

theorem hd_app (s t : ByteArray) (i : Nat) (h : i < s.size) : hd (s ++ t) i = hd s i := by
  unfold hd
  rw [data_app]
  simp only [List.getD]
  rw [List.getElem?_append_left (by rw [size_toList]; exact h)]
theorem nOf_app (s t : ByteArray) (h : 2 ≤ s.size) : nOf (s ++ t) = nOf s := by
  unfold nOf
  rw [hd_app _ _ _ (by omega), hd_app _ _ _ (by omega)]
theorem app_size (s t : ByteArray) : (s ++ t).size = s.size + t.size := by simp
theorem ext_app_left (s t : ByteArray) (a b : Nat) (h : b ≤ s.size) : (s ++ t).extract a b = s.extract a b := by
  apply ba_ext
  rw [data_ext, data_ext, data_app, ← List.drop_take, ← List.drop_take, List.take_append_of_le_length (by rw [size_toList]; exact h)]
theorem ext_app_right (s t : ByteArray) (a : Nat) (h : a ≤ s.size) : (s ++ t).extract a (s ++ t).size = s.extract a s.size ++ t := by
  apply ba_ext
  rw [data_ext, data_app, data_app, data_ext]
  rw [List.drop_append_of_le_length (by rw [size_toList]; exact h)]
  rw [List.take_of_length_le (by simp; omega), List.take_of_length_le (by simp)]

theorem cut_fuel : ∀ (k m : Nat) (s : ByteArray), s.size ≤ k → s.size ≤ m → cutB k s = cutB m s := by
  intro k
  induction k with
  | zero =>
    intro m s hk hm
    rw [cut_short (by omega), cut_short (by omega)]
  | succ k ih =>
    intro m s hk hm
    by_cases h1 : s.size < 2
    · rw [cut_short h1, cut_short h1]
    · obtain ⟨m, rfl⟩ : ∃ q, m = q + 1 := ⟨m - 1, by omega⟩
      by_cases h2 : nOf s < 1 ∨ 8192 < nOf s
      · rw [cut_bad h1 h2, cut_bad h1 h2]
      · by_cases h3 : s.size < 2 + nOf s
        · rw [cut_wait h1 h2 h3, cut_wait h1 h2 h3]
        · have hz := ext_size s (2 + nOf s) s.size (Nat.le_refl _)
          rw [cut_one h1 h2 h3, cut_one h1 h2 h3, ih m _ (by omega) (by omega)]

theorem cut_rest : ∀ (k : Nat) (s : ByteArray), (cutB k s).2.1.size ≤ s.size := by
  intro k
  induction k with
  | zero => intro s; simp [cutB]
  | succ k ih =>
    intro s
    by_cases h1 : s.size < 2
    · rw [cut_short h1]; exact Nat.le_refl _
    · by_cases h2 : nOf s < 1 ∨ 8192 < nOf s
      · rw [cut_bad h1 h2]; exact Nat.zero_le _
      · by_cases h3 : s.size < 2 + nOf s
        · rw [cut_wait h1 h2 h3]; exact Nat.le_refl _
        · have hz := ext_size s (2 + nOf s) s.size (Nat.le_refl _)
          rw [cut_one h1 h2 h3]
          have := ih (s.extract (2 + nOf s) s.size)
          simp only
          omega

theorem cut_many : ∀ (k : Nat) (s : ByteArray), (cutB k s).1.length ≤ s.size := by
  intro k
  induction k with
  | zero => intro s; simp [cutB]
  | succ k ih =>
    intro s
    by_cases h1 : s.size < 2
    · rw [cut_short h1]; simp
    · by_cases h2 : nOf s < 1 ∨ 8192 < nOf s
      · rw [cut_bad h1 h2]; simp
      · by_cases h3 : s.size < 2 + nOf s
        · rw [cut_wait h1 h2 h3]; simp
        · have hz := ext_size s (2 + nOf s) s.size (Nat.le_refl _)
          rw [cut_one h1 h2 h3]
          have := ih (s.extract (2 + nOf s) s.size)
          simp only [List.length_cons]
          omega

theorem cut_app : ∀ (k m : Nat) (s t : ByteArray), s.size ≤ k → (s ++ t).size ≤ m →
    cutB m (s ++ t) = if (cutB k s).2.2 then ((cutB k s).1, ⟨#[]⟩, true) else ((cutB k s).1 ++ (cutB m ((cutB k s).2.1 ++ t)).1, (cutB m ((cutB k s).2.1 ++ t)).2) := by
  intro k
  induction k with
  | zero =>
    intro m s t hk hm
    simp [cutB]
  | succ k ih =>
    intro m s t hk hm
    by_cases h1 : s.size < 2
    · rw [cut_short h1]; simp
    · rw [app_size] at hm
      obtain ⟨m, rfl⟩ : ∃ q, m = q + 1 := ⟨m - 1, by omega⟩
      have hn := nOf_app s t (by omega)
      have h1' : ¬ (s ++ t).size < 2 := by rw [app_size]; omega
      by_cases h2 : nOf s < 1 ∨ 8192 < nOf s
      · rw [cut_bad h1 h2, cut_bad h1' (by rw [hn]; exact h2)]; simp
      · by_cases h3 : s.size < 2 + nOf s
        · rw [cut_wait h1 h2 h3]; simp
        · have hz := ext_size s (2 + nOf s) s.size (Nat.le_refl _)
          rw [cut_one h1 h2 h3, cut_one h1' (by rw [hn]; exact h2) (by rw [hn, app_size]; omega), hn]
          rw [ext_app_left s t _ _ (by omega), ext_app_right s t _ (by omega)]
          have := ih m (s.extract (2 + nOf s) s.size) t (by omega) (by rw [app_size]; omega)
          rw [this]
          have hr := cut_rest k (s.extract (2 + nOf s) s.size)
          generalize cutB k (s.extract (2 + nOf s) s.size) = r at *
          rw [cut_fuel (m + 1) m (r.2.1 ++ t) (by rw [app_size]; omega) (by rw [app_size]; omega)]
          cases r.2.2 <;> simp

theorem cut_broken : ∀ (k : Nat) (s : ByteArray), (cutB k s).2.2 = true → (cutB k s).2.1 = ⟨#[]⟩ := by
  intro k
  induction k with
  | zero => intro s h; simp [cutB] at h
  | succ k ih =>
    intro s h
    by_cases h1 : s.size < 2
    · rw [cut_short h1] at h; simp at h
    · by_cases h2 : nOf s < 1 ∨ 8192 < nOf s
      · rw [cut_bad h1 h2]
      · by_cases h3 : s.size < 2 + nOf s
        · rw [cut_wait h1 h2 h3] at h; simp at h
        · rw [cut_one h1 h2 h3] at h ⊢
          exact ih _ h

/-- Of a whole text. -/
def cutAll (s : ByteArray) : List ByteArray × ByteArray × Bool := cutB s.size s
theorem cutAll_of {k : Nat} {s : ByteArray} (h : s.size ≤ k) : cutB k s = cutAll s := cut_fuel _ _ _ h (Nat.le_refl _)
theorem cutAll_go {s t : ByteArray} (h : (cutAll s).2.2 = false) : cutAll (s ++ t) = ((cutAll s).1 ++ (cutAll ((cutAll s).2.1 ++ t)).1, (cutAll ((cutAll s).2.1 ++ t)).2) := by
  have h1 := cut_app s.size (s ++ t).size s t (Nat.le_refl _) (Nat.le_refl _)
  rw [show cutB s.size s = cutAll s from rfl, h] at h1
  rw [cutAll_of (s := (cutAll s).2.1 ++ t) (by rw [app_size, app_size]; have := cut_rest s.size s; unfold cutAll; omega)] at h1
  exact h1
theorem cutAll_stay {s t : ByteArray} (h : (cutAll s).2.2 = true) : cutAll (s ++ t) = ((cutAll s).1, ⟨#[]⟩, true) := by
  have h1 := cut_app s.size (s ++ t).size s t (Nat.le_refl _) (Nat.le_refl _)
  rw [show cutB s.size s = cutAll s from rfl, h] at h1
  exact h1
end Go.Proofs.Yteidcneijjnkaaa
