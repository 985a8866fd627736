/- What l1Shape keeps in its three rows: plain words. -/
import Derived.Test.YtcbcndoddikpjaaGreatDoorShape3
import Derived.Test.YtcbcndoddikpjaaGreatDoorLaw4
namespace Go.Proofs.YtcbcndoddikpjaaGreatDoor
open Go.RowKit
def lastM (l : List Nd) (p i : Nat) : Option ByteArray := match l[p]? with
  | some y => if y.kind = 7 then lastN l p i else none
  | none => none
def dArr (l : List Nd) (k : Nat) : List Value := (List.range l.length).map fun i => .int .i64 ((if i < k then dpt l i else 0 : Nat) : Int)
def nArr (l : List Nd) (k : Nat) : List Value := (List.range l.length).map fun p => .string ((lastM l p k).getD emptyB)
def sArr (l : List Nd) (k : Nat) : List Value := (List.range l.length).map fun p => .bool (lastM l p k).isSome
theorem lastM_zero (l : List Nd) (p : Nat) : lastM l p 0 = none := by
  unfold lastM
  split
  · split
    · rfl
    · rfl
  · rfl
theorem lastM_succ (l : List Nd) (q k : Nat) (x : Nd) (hx : l[k]? = some x) : lastM l q (k + 1) = if isKid l q k = true ∧ (∃ y, l[q]? = some y ∧ y.kind = 7) then some x.name else lastM l q k := by
  cases hq : l[q]? with
  | none => simp [lastM, hq]
  | some y =>
    by_cases h7 : y.kind = 7
    · cases hk : isKid l q k
      · simp [lastM, hq, h7, lastN, kidsTo_succ, hk]
      · simp [lastM, hq, h7, lastN, kidsTo_succ, hk, hx]
    · simp [lastM, hq, h7]
theorem map_set {f g : Nat → Value} (n p : Nat) (v : Value) (hp : p < n) (hv : g p = v) (h : ∀ i, i ≠ p → g i = f i) : (List.range n).map g = ((List.range n).map f).set p v := by
  apply List.ext_getElem?
  intro i
  rw [List.getElem?_set]
  by_cases hi : i < n
  · by_cases hip : p = i
    · subst hip
      simp [hi, hv]
    · simp [hi, hip, h i (fun e => hip e.symm)]
  · have : n ≤ i := by omega
    by_cases hip : p = i
    · omega
    · simp [hip, this]
theorem map_same {f g : Nat → Value} (n : Nat) (h : ∀ i, i < n → g i = f i) : (List.range n).map g = (List.range n).map f := by
  apply List.map_congr_left
  intro i hi
  exact h i (by simpa using hi)
theorem dArr_zero (l : List Nd) : dArr l 0 = List.replicate l.length (.int .i64 0) := by
  simp [dArr, List.eq_replicate_iff]
theorem nArr_zero (l : List Nd) : nArr l 0 = List.replicate l.length (.string emptyB) := by
  simp [nArr, List.eq_replicate_iff, lastM_zero]
theorem sArr_zero (l : List Nd) : sArr l 0 = List.replicate l.length (.bool false) := by
  simp [sArr, List.eq_replicate_iff, lastM_zero]
theorem dArr_get (l : List Nd) (k i : Nat) (h : i < l.length) : (dArr l k)[i]? = some (.int .i64 ((if i < k then dpt l i else 0 : Nat) : Int)) := by
  simp [dArr, h]
theorem nArr_get (l : List Nd) (k i : Nat) (h : i < l.length) : (nArr l k)[i]? = some (.string ((lastM l i k).getD emptyB)) := by
  simp [nArr, h]
theorem sArr_get (l : List Nd) (k i : Nat) (h : i < l.length) : (sArr l k)[i]? = some (.bool (lastM l i k).isSome) := by
  simp [sArr, h]
theorem dArr_succ (l : List Nd) (k : Nat) (h : k < l.length) : dArr l (k + 1) = (dArr l k).set k (.int .i64 (dpt l k : Int)) :=
  map_set l.length k _ h (by simp) (fun i hi => by
    have : i < k + 1 ↔ i < k := by omega
    simp [this])
theorem isKid_iff {l : List Nd} {q k p : Nat} {x : Nd} (hx : l[k]? = some x) (hp : x.up = (p : Int)) (hpk : p < k) : isKid l q k = true ↔ q = p := by
  simp [isKid, hx, hp]
  omega
theorem isKid_top {l : List Nd} {q k : Nat} {x : Nd} (hx : l[k]? = some x) (hp : x.up = -1) : isKid l q k = false := by
  simp [isKid, hx, hp]
theorem nArr_map (l : List Nd) (k p : Nat) (x y : Nd) (hx : l[k]? = some x) (hp : x.up = (p : Int)) (hpk : p < k) (hy : l[p]? = some y) (h7 : y.kind = 7) :
    nArr l (k + 1) = (nArr l k).set p (.string x.name) ∧ sArr l (k + 1) = (sArr l k).set p (.bool true) := by
  have hl := (List.getElem?_eq_some_iff.1 hy).1
  have hne : ∀ q, q ≠ p → lastM l q (k + 1) = lastM l q k := fun q hq => by
    rw [lastM_succ l q k x hx, if_neg]
    rw [isKid_iff hx hp hpk]
    exact fun h => hq h.1
  have heq : lastM l p (k + 1) = some x.name := by
    rw [lastM_succ l p k x hx, if_pos]
    exact ⟨(isKid_iff hx hp hpk).2 rfl, y, hy, h7⟩
  exact ⟨map_set _ _ _ hl (by rw [heq]; rfl) (fun i hi => by rw [hne i hi]), map_set _ _ _ hl (by rw [heq]; rfl) (fun i hi => by rw [hne i hi])⟩
theorem nArr_list (l : List Nd) (k p : Nat) (x y : Nd) (hx : l[k]? = some x) (hp : x.up = (p : Int)) (hpk : p < k) (hy : l[p]? = some y) (h7 : y.kind ≠ 7) :
    nArr l (k + 1) = nArr l k ∧ sArr l (k + 1) = sArr l k := by
  have hne : ∀ q, lastM l q (k + 1) = lastM l q k := fun q => by
    rw [lastM_succ l q k x hx, if_neg]
    rw [isKid_iff hx hp hpk]
    rintro ⟨rfl, z, hz, h⟩
    rw [hy] at hz
    injection hz with hz
    subst hz
    exact h7 h
  exact ⟨map_same _ (fun i _ => by rw [hne i]), map_same _ (fun i _ => by rw [hne i])⟩
theorem nArr_top (l : List Nd) (k : Nat) (x : Nd) (hx : l[k]? = some x) (hp : x.up = -1) : nArr l (k + 1) = nArr l k ∧ sArr l (k + 1) = sArr l k := by
  have hne : ∀ q, lastM l q (k + 1) = lastM l q k := fun q => by
    rw [lastM_succ l q k x hx, if_neg]
    simp [isKid_top hx hp]
  exact ⟨map_same _ (fun i _ => by rw [hne i]), map_same _ (fun i _ => by rw [hne i])⟩
theorem made_one (z : Value) (hz : z.cells = #[z]) (n : Nat) : madeCells z.cells (n * 1) = (List.replicate n z).toArray := by
  have := madeCells_rep [z] n
  rw [List.flatten_replicate_singleton] at this
  rw [hz]
  exact this
theorem lastM_map {l : List Nd} {p i : Nat} {y : Nd} (hy : l[p]? = some y) (h7 : y.kind = 7) : lastM l p i = lastN l p i := by
  simp [lastM, hy, h7]
/-- One node ahead of the first has no one ahead of it. -/
theorem Anc.zero {l : List Nd} {a p : Nat} {x : Nd} (hx : l[a]? = some x) (hup : x.up = -1) (hp : a ≠ p) : ¬ Anc l a p := by
  intro h
  cases h with
  | refl => exact hp rfl
  | step h1 h2 _ =>
    rw [hx] at h1
    injection h1 with h1
    subst h1
    omega
theorem Anc.up_iff {l : List Nd} {a p q : Nat} {x : Nd} (hx : l[a]? = some x) (hup : x.up = (q : Int)) (hp : a ≠ p) : Anc l a p ↔ Anc l q p := by
  constructor
  · intro h
    cases h with
    | refl => exact absurd rfl hp
    | step h1 h2 h3 =>
      rw [hx] at h1
      injection h1 with h1
      subst h1
      rw [hup] at h2
      have := Int.ofNat_inj.1 h2
      subst this
      exact h3
  · exact fun h => .step hx hup h
end Go.Proofs.YtcbcndoddikpjaaGreatDoor
