/- What a good base is: plain words; the program's GoodBase. -/
import Derived.Test.YtekamdcojabgeaaGreatDoorBs1
import Derived.Test.YtekamdcojabgeaaGreatDoorSpec3
namespace Go.Proofs.YtekamdcojabgeaaGreatDoor
open Go.RowKit
def StOK (ds : List StV) (k : Nat) (d : StV) : Prop := (0 ≤ d.id ∧ d.id ≤ 100) ∧ (∃ t, IsGood d.doc t) ∧ ∀ j p, k = j + 1 → ds[j]? = some p → p.id < d.id
def SsOK (l : List SsV) (k : Nat) (s : SsV) : Prop := (0 ≤ s.id ∧ s.id ≤ 100) ∧ (1 ≤ s.no ∧ s.no ≤ 1000) ∧ ∀ j p, k = j + 1 → l[j]? = some p → p.id < s.id
def BsGood (b : BsV) : Prop := (0 ≤ b.applied ∧ b.applied ≤ 60) ∧ b.docs.length ≤ 20 ∧ b.sess.length ≤ 8 ∧ (∀ k d, b.docs[k]? = some d → StOK b.docs k d) ∧ ∀ k s, b.sess[k]? = some s → SsOK b.sess k s
def BGP (b : BsV) (w : World) (e : Ending) (w' : World) : Prop := Below w.heap.size w w' ∧ ∃ r, e = .returned (.bool r) ∧ (r = true ↔ BsGood b)
theorem bgp_no {b : BsV} {w w' : World} (h : ¬ BsGood b) (hb : Below w.heap.size w w') : BGP b w (.returned (.bool false)) w' :=
  ⟨hb, false, rfl, (fun h => by cases h), fun h' => absurd h' h⟩
theorem bgp_yes {b : BsV} {w w' : World} (h : BsGood b) (hb : Below w.heap.size w w') : BGP b w (.returned (.bool true)) w' :=
  ⟨hb, true, rfl, fun _ => h, fun _ => rfl⟩
/-- The id ahead of k, or -1. -/
def befI (ids : List Int) (k : Nat) : Int := match k with | 0 => -1 | j + 1 => ids.getD j (-1)
theorem st_bef {ds : List StV} {k : Nat} {d : StV} (hd : ds[k]? = some d) (hall : ∀ i x, i < k → ds[i]? = some x → StOK ds i x) :
    StOK ds k d ↔ (befI (ds.map StV.id) k + 1 ≤ d.id ∧ d.id ≤ 100) ∧ ∃ t, IsGood d.doc t := by
  cases k with
  | zero => simp [StOK, befI]
  | succ j =>
    have hj : j < ds.length := by have := (List.getElem?_eq_some_iff.1 hd).1; omega
    have hp : ds[j]? = some ds[j] := by simp [hj]
    generalize ds[j] = p at hp
    have h0 := (hall j p (by omega) hp).1.1
    have hb : befI (ds.map StV.id) (j + 1) = p.id := by simp [befI, hp]
    rw [hb, StOK]
    constructor
    · rintro ⟨h1, h2, h3⟩
      have := h3 j p rfl hp
      exact ⟨⟨by omega, h1.2⟩, h2⟩
    · rintro ⟨h1, h2⟩
      refine ⟨⟨by omega, h1.2⟩, h2, fun i q hi hq => ?_⟩
      obtain rfl : i = j := by omega
      rw [hp] at hq
      injection hq with hq
      subst hq
      omega
theorem ss_bef {l : List SsV} {k : Nat} {s : SsV} (hs : l[k]? = some s) (hall : ∀ i x, i < k → l[i]? = some x → SsOK l i x) :
    SsOK l k s ↔ (befI (l.map SsV.id) k + 1 ≤ s.id ∧ s.id ≤ 100) ∧ 1 ≤ s.no ∧ s.no ≤ 1000 := by
  cases k with
  | zero => simp [SsOK, befI]
  | succ j =>
    have hj : j < l.length := by have := (List.getElem?_eq_some_iff.1 hs).1; omega
    have hp : l[j]? = some l[j] := by simp [hj]
    generalize l[j] = p at hp
    have h0 := (hall j p (by omega) hp).1.1
    have hb : befI (l.map SsV.id) (j + 1) = p.id := by simp [befI, hp]
    rw [hb, SsOK]
    constructor
    · rintro ⟨h1, h2, h3⟩
      have := h3 j p rfl hp
      exact ⟨⟨by omega, h1.2⟩, h2⟩
    · rintro ⟨h1, h2⟩
      refine ⟨⟨by omega, h1.2⟩, h2, fun i q hi hq => ?_⟩
      obtain rfl : i = j := by omega
      rw [hp] at hq
      injection hq with hq
      subst hq
      omega
theorem befI_lo {ids : List Int} (h : ∀ z ∈ ids, 0 ≤ z) (k : Nat) : -1 ≤ befI ids k := by
  cases k with
  | zero => simp [befI]
  | succ j =>
    rw [befI, List.getD_eq_getElem?_getD]
    cases hj : ids[j]? with
    | none => simp
    | some z => have := h z (List.mem_of_getElem? hj); simp; omega
theorem befI_succ {α : Type} (f : α → Int) (l : List α) (k : Nat) (x : α) (h : l[k]? = some x) : befI (l.map f) (k + 1) = f x := by
  simp [befI, h]
end Go.Proofs.YtekamdcojabgeaaGreatDoor
