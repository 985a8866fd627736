/- Plain words on the first number that meets a test. -/
import Derived.Test.YtekamdcojabgeaaGreatDoorBase
namespace Go.Proofs.YtekamdcojabgeaaGreatDoor
open Go.RowKit
def firstIdx (p : Nat → Bool) (n : Nat) : Int := match (List.range n).find? p with | some i => (i : Int) | none => -1
def anyIdx (p : Nat → Bool) (n : Nat) : Bool := (List.range n).any p
theorem none_snoc {p : Nat → Bool} {k : Nat} (h : Hid (∀ j, j < k → p j = false)) (hk : p k = false) : Hid (∀ j, j < k + 1 → p j = false) := by
  intro j hj
  rcases Nat.lt_or_ge j k with h' | h'
  · exact h j h'
  · obtain rfl : j = k := by omega
    exact hk
theorem find_range {p : Nat → Bool} {k : Nat} (h : ∀ j, j < k → p j = false) : (List.range k).find? p = none := by
  rw [List.find?_eq_none]
  intro x hx
  rw [h x (by simpa using hx)]
  simp
theorem firstIdx_some {p : Nat → Bool} {k n : Nat} (h : Hid (∀ j, j < k → p j = false)) (hk : p k = true) (hn : k < n) : firstIdx p n = k := by
  have e : List.range n = List.range k ++ (List.range (n - k)).map (k + ·) := by rw [← List.range_add]; congr 1; omega
  obtain ⟨m, hm⟩ : ∃ m, n - k = m + 1 := ⟨n - k - 1, by omega⟩
  rw [firstIdx, e, List.find?_append, find_range h, hm, List.range_succ_eq_map]
  simp [hk]
theorem firstIdx_none {p : Nat → Bool} {n : Nat} (h : Hid (∀ j, j < n → p j = false)) : firstIdx p n = -1 := by
  rw [firstIdx, find_range h]
theorem firstIdx_any_false {p : Nat → Bool} {n : Nat} (h : anyIdx p n = false) : firstIdx p n = -1 :=
  firstIdx_none (fun j hj => by
    unfold anyIdx at h
    rw [List.any_eq_false] at h
    simpa using h j (by simpa using hj))
theorem firstIdx_any_true {p : Nat → Bool} {n : Nat} (h : anyIdx p n = true) : ∃ q : Nat, firstIdx p n = q := by
  unfold anyIdx at h
  rw [List.any_eq_true] at h
  unfold firstIdx
  obtain ⟨x, hx, hp⟩ := h
  cases hf : (List.range n).find? p
  · rw [List.find?_eq_none] at hf
    exact absurd hp (by simpa using hf x hx)
  · exact ⟨_, rfl⟩
theorem anyIdx_list {α : Type} (l : List α) (q : α → Bool) (p : Nat → Bool) (h : ∀ i x, l[i]? = some x → p i = q x) : anyIdx p l.length = l.any q := by
  unfold anyIdx
  rw [Bool.eq_iff_iff, List.any_eq_true, List.any_eq_true]
  constructor
  · rintro ⟨i, hi, hp⟩
    have hi' : i < l.length := by simpa using hi
    exact ⟨l[i], List.getElem_mem hi', by rw [← h i l[i] (by simp [hi'])]; exact hp⟩
  · rintro ⟨x, hx, hq⟩
    obtain ⟨i, hi, rfl⟩ := List.getElem_of_mem hx
    exact ⟨i, by simpa using hi, by rw [h i l[i] (by simp [hi])]; exact hq⟩
end Go.Proofs.YtekamdcojabgeaaGreatDoor
