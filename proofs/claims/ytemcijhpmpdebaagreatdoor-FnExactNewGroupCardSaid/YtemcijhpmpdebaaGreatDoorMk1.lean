/- Rows that the laws write into, told exactly: plain words. -/
import Derived.Test.YtemcijhpmpdebaaGreatDoorMark4
import Derived.Test.YtemcijhpmpdebaaGreatDoorOps
namespace Go.Proofs.YtemcijhpmpdebaaGreatDoor
open Go.RowKit
/-- What the laws write into a bool. -/
def third (k : Int) : Bool := Int.tmod k 3 == 0
def mkRows (mk : Nat → List Value) (st k n : Nat) : List Value := (List.range n).flatMap fun i => mk (k + st * i)
theorem mkRows_succ (mk : Nat → List Value) (st k n : Nat) : mkRows mk st k (n + 1) = mkRows mk st k n ++ mk (k + st * n) := by
  unfold mkRows
  rw [List.range_succ, List.flatMap_append]
  simp
theorem mkRows_length {mk : Nat → List Value} {s : Nat} (h : ∀ k, (mk k).length = s) (st k n : Nat) : (mkRows mk st k n).length = n * s := by
  induction n with
  | zero => simp [mkRows]
  | succ n ih => rw [mkRows_succ, List.length_append, ih, h, Nat.succ_mul]
theorem mkRows_get {mk : Nat → List Value} {s : Nat} (h : ∀ k, (mk k).length = s) (st k n i j : Nat) (hi : i < n) (hj : j < s) : (mkRows mk st k n)[i * s + j]? = (mk (k + st * i))[j]? := by
  have := flat_get (fun i => mk (k + st * i)) s (fun _ => h _) (List.range n) i i (by simp [hi]) j hj
  exact this
section
variable {F : Nat → Prop} {w w1 : World} {T : TypeId} {A : Option Addr} {g o : Nat} {L : List Value}
theorem own_ptr (h : Own F w T A L) (hne : L ≠ []) : ∃ g o, A = some ⟨g, o, none⟩ ∧ F g := by
  obtain ⟨b, o, e, hF, _, _⟩ := h.1 hne
  exact ⟨b, o, e, hF⟩
theorem own_get (h : Own F w T (some ⟨g, o, none⟩) L) {p : Nat} {v : Value} (hp : L[p]? = some v) : w.cell? ⟨g, o + p, none⟩ = some v ∧ w.frozen? ⟨g, o + p, none⟩ = false := by
  refine ⟨h.1.at _ _ hp, ?_⟩
  obtain ⟨b, o', cs, e, _, hh, _⟩ := h.2 (by have := (List.getElem?_eq_some_iff.1 hp).1; omega)
  injection e with e
  injection e with e1 e2
  subst e1
  exact free_of_block hh _
theorem rds_get (h : Rds F w (some ⟨g, o, none⟩) L) {p : Nat} {v : Value} (hp : L[p]? = some v) : w.cell? ⟨g, o + p, none⟩ = some v := h.at _ _ hp
theorem own_set (h : Own F w T (some ⟨g, o, none⟩) L) {p : Nat} (hp : p < L.length) (v : Value) :
    Own F (w.setCell ⟨g, o + p, none⟩ v) T (some ⟨g, o, none⟩) (L.set p v) ∧ Wrote (fun t => t = T) F w (w.setCell ⟨g, o + p, none⟩ v) := by
  obtain ⟨b, o', cs, e, hF, hh, hs⟩ := h.2 (by omega)
  injection e with e
  injection e with e1 e2
  subst e1 e2
  refine ⟨⟨fun _ => ⟨g, o, rfl, hF, lt_of_block (block_setCell hh _ _), fun j u hj => ?_⟩, fun _ => ⟨g, o, _, rfl, hF, block_setCell hh _ _, by rw [List.length_set]; simpa using hs⟩⟩, (Wrote.refl (fun t => t = T) F w).set hh rfl hF _ _⟩
  rw [cell_of_block (block_setCell hh _ _)]
  rw [List.getElem?_set] at hj
  split at hj
  · next e =>
    subst e
    injection hj with hj
    subst hj
    rw [Array.getElem?_setIfInBounds, if_pos rfl, if_pos (by omega)]
  · next e =>
    rw [Array.getElem?_setIfInBounds, if_neg (by omega), ← cell_of_block hh]
    exact h.1.at _ _ hj
theorem own_cell {P z R : List Value} {n : Nat} (h : Own F w T (some ⟨g, o, none⟩) (P ++ (z ++ R))) (hP : P.length = n) (j : Nat) (v : Value) (hz : z[j]? = some v) (q : Nat) (hq : q = o + n + j) : w.cell? ⟨g, q, none⟩ = some v ∧ w.frozen? ⟨g, q, none⟩ = false := by
  have h1 := own_get h (p := n + j) (v := v) (by rw [get_off hP (List.getElem?_eq_some_iff.1 hz).1]; exact hz)
  rw [hq, Nat.add_assoc]
  exact h1
theorem own_put {P z R : List Value} {n : Nat} (h : Own F w T (some ⟨g, o, none⟩) (P ++ (z ++ R))) (hP : P.length = n) (j : Nat) (hj : j < z.length) (v : Value) (q : Nat) (hq : q = o + n + j) :
    Own F (w.setCell ⟨g, q, none⟩ v) T (some ⟨g, o, none⟩) (P ++ (z.set j v ++ R)) ∧ Wrote (fun t => t = T) F w (w.setCell ⟨g, q, none⟩ v) := by
  have h1 := own_set h (p := n + j) (by simp; omega) v
  rw [set_off hP hj] at h1
  rw [hq, Nat.add_assoc]
  exact h1
end
/-- What a law leaves that writes into a row. -/
def MkP (F : Nat → Prop) (T : TypeId) (L : List Value) (z : Nat) (A : Option Addr) (w : World) (e : Ending) (w' : World) : Prop :=
  e = .returned (.int .i64 (z : Int)) ∧ Own F w' T A L ∧ Wrote (fun t => t = T) F w w'
end Go.Proofs.YtemcijhpmpdebaaGreatDoor
