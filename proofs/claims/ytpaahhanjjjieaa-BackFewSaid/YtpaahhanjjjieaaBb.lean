/- A sorted row, each number once. -/
import Derived.Test.YtpaahhanjjjieaaBa
import Derived.Lib.SlicesCompact
namespace Go.Proofs.Ytpaahhanjjjieaa
theorem get_le {d : Array Int} (hs : d.toList.Pairwise (· ≤ ·)) {i j : Nat} (h : i ≤ j) (hj : j < d.size) : d[i]! ≤ d[j]! := by
  rcases Nat.lt_or_eq_of_le h with h | h
  · have := List.pairwise_iff_getElem.1 hs i j (by simp; omega) (by simpa using hj) h
    rw [getElem!_pos d i (by omega), getElem!_pos d j hj]
    simpa using this
  · subst h; omega
/-- a row that does not fall, each number once -/
theorem compact_ss (xs : List Int) (hs : xs.Pairwise (· ≤ ·)) : SS (Lib.compact xs) ∧ ∀ x, x ∈ Lib.compact xs ↔ x ∈ xs := by
  have hs' : xs.toArray.toList.Pairwise (· ≤ ·) := by simpa using hs
  obtain ⟨d, hd⟩ : ∃ d, d = xs.toArray := ⟨_, rfl⟩
  rw [← hd] at hs'
  have hsz : d.size = xs.length := by rw [hd]; simp
  have hx : xs = d.toList := by rw [hd]
  unfold Lib.compact
  rw [← hd, ← hsz]
  unfold Lib.compactUpTo SS
  constructor
  · rw [List.pairwise_map]
    refine List.Pairwise.imp_of_mem ?_ (List.Pairwise.filter _ List.pairwise_lt_range)
    intro a b ha hb hab
    have hbl : b < d.size := List.mem_range.1 (List.mem_filter.1 hb).1
    have hk : d[b]! ≠ d[b - 1]! := by
      have := (List.mem_filter.1 hb).2
      unfold Lib.keeps at this
      rcases of_decide_eq_true this with h | h
      · omega
      · exact h
    have h1 := get_le hs' (show a ≤ b - 1 by omega) (by omega)
    have h2 := get_le hs' (show b - 1 ≤ b by omega) hbl
    omega
  · intro x
    rw [hx]
    simp only [List.mem_map, List.mem_filter, List.mem_range]
    constructor
    · rintro ⟨j, ⟨hj, _⟩, rfl⟩
      rw [getElem!_pos d j hj]
      simp
    · intro hm
      obtain ⟨j, hj, hjx⟩ := List.getElem_of_mem hm
      have hj' : j < d.size := by simpa using hj
      have hjx' : d[j]! = x := by rw [getElem!_pos d j hj']; simpa using hjx
      clear hjx hj
      induction j using Nat.strongRecOn with
      | ind j ih =>
        by_cases h : Lib.keeps d j = true
        · exact ⟨j, ⟨hj', h⟩, hjx'⟩
        · have hk : ¬ (j = 0 ∨ d[j]! ≠ d[j - 1]!) := fun hh => h (decide_eq_true hh)
          have h0 : j ≠ 0 := fun e => hk (Or.inl e)
          have h1 : d[j]! = d[j - 1]! := Classical.not_not.1 (fun e => hk (Or.inr e))
          exact ih (j - 1) (by omega) (by omega) (by rw [← h1]; exact hjx')
/-- a sort of a list, each number once, is one list -/
theorem sorted_pw (xs : List Int) : (xs.mergeSort fun x y => decide (x ≤ y)).Pairwise (· ≤ ·) := by
  have := List.pairwise_mergeSort (le := fun x y : Int => decide (x ≤ y)) (by intro a b c; simp; omega) (by intro a b; simp; omega) xs
  exact this.imp (by intro a b; simp)
theorem sorted_mem (xs : List Int) (x : Int) : x ∈ (xs.mergeSort fun x y => decide (x ≤ y)) ↔ x ∈ xs := by simp
end Go.Proofs.Ytpaahhanjjjieaa
