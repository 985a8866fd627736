/- What valFrom makes of nodes, as a relation: plain words. -/
import Derived.Test.YtekamdcojabgeaaGreatDoorTree
namespace Go.Proofs.YtekamdcojabgeaaGreatDoor
open Go.RowKit
def ltS (a b : ByteArray) : Bool := Op.bytesLess a.toList b.toList
/-- Node e is the next part of node k. -/
def kidB (l : List Nd) (k e : Nat) : Bool := match l[k]?, l[e]? with
  | some x, some y => holdsB x.kind && y.up == (k : Int)
  | _, _ => false
/-- The name stands behind those that are there. -/
def ordB (kind : Int) (ns : List ByteArray) (name : ByteArray) : Bool := !(kind == 7 && match ns.getLast? with | some m => !ltS m name | none => false)
/-- The rest of the walk over the parts of node k, from e on. -/
inductive VL (l : List Nd) : Nat → Nat → List ByteArray → List Tree → Option (Tree × Nat) → Prop
  | stop {k e ns ks x} : l[k]? = some x → kidB l k e = false → VL l k e ns ks (some (.mk x.kind x.num x.text ns ks, e))
  | order {k e ns ks x y} : kidB l k e = true → l[k]? = some x → l[e]? = some y → ordB x.kind ns y.name = false → VL l k e ns ks none
  | bad {k e ns ks x y} : kidB l k e = true → l[k]? = some x → l[e]? = some y → ordB x.kind ns y.name = true → nodeOKB y x.kind = false → VL l k e ns ks none
  | none {k e ns ks x y} : kidB l k e = true → l[k]? = some x → l[e]? = some y → ordB x.kind ns y.name = true → nodeOKB y x.kind = true → VL l e (e + 1) [] [] none → VL l k e ns ks none
  | kid {k e ns ks x y t e' r} : kidB l k e = true → l[k]? = some x → l[e]? = some y → ordB x.kind ns y.name = true → nodeOKB y x.kind = true → VL l e (e + 1) [] [] (some (t, e')) →
      VL l k e' (if x.kind = 7 then ns ++ [y.name] else ns) (ks ++ [t]) r → VL l k e ns ks r
/-- valFrom's answer. -/
def VF (l : List Nd) (k : Nat) (up : Int) (r : Option (Tree × Nat)) : Prop := ∃ x, l[k]? = some x ∧ ((nodeOKB x up = false ∧ r = none) ∨ (nodeOKB x up = true ∧ VL l k (k + 1) [] [] r))
theorem VL.bound {l : List Nd} {k e : Nat} {ns : List ByteArray} {ks : List Tree} {r : Option (Tree × Nat)} (h : VL l k e ns ks r) : ∀ t e', r = some (t, e') → e ≤ l.length → e ≤ e' ∧ e' ≤ l.length := by
  induction h with
  | stop h1 h2 =>
    intro t e' hr he
    injection hr with hr
    injection hr with _ hr
    subst hr
    exact ⟨Nat.le_refl _, he⟩
  | order => intro t e' hr; cases hr
  | bad => intro t e' hr; cases hr
  | none => intro t e' hr; cases hr
  | kid h1 h2 h3 h4 h5 h6 h7 ih1 ih2 =>
    intro t e' hr he
    have hy := (List.getElem?_eq_some_iff.1 h3).1
    obtain ⟨b1, b2⟩ := ih1 _ _ rfl (by omega)
    obtain ⟨b3, b4⟩ := ih2 _ _ hr b2
    exact ⟨by omega, b4⟩
theorem VF.bound {l : List Nd} {k : Nat} {up : Int} {t : Tree} {e : Nat} (h : VF l k up (some (t, e))) : k < e ∧ e ≤ l.length := by
  obtain ⟨x, hx, h⟩ := h
  have hk := (List.getElem?_eq_some_iff.1 hx).1
  rcases h with ⟨_, h⟩ | ⟨_, h⟩
  · cases h
  · obtain ⟨h1, h2⟩ := h.bound _ _ rfl (by omega)
    exact ⟨by omega, h2⟩
end Go.Proofs.YtekamdcojabgeaaGreatDoor
