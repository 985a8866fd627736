/- The walk of eqValue. -/
import Derived.Test.YtekamdcojabgeaaGreatDoorLaw3
namespace Go.Proofs.YtekamdcojabgeaaGreatDoor
open Go.RowKit
set_option maxRecDepth 100000 in
set_option maxHeartbeats 800000 in
theorem eqValue_any (l l2 : List Nd) (hl : l.length ≤ 1000000000) (h2 : l = l2) (F F2 : Nat → Prop) (A A2 : Option Addr) (c c2 : Nat) (w : World) (hr : Rds F w A (ndCells l)) (hr2 : Rds F2 w A2 (ndCells l2)) :
    Calls Tryz.prog 23 #[.agg #[.slice A l.length c], .agg #[.slice A2 l2.length c2]] w fun e w' => e = .returned (.bool true) ∧ Below w.heap.size w w' := by
  subst h2
  have HC := fun w1 (hb : Below w.heap.size w w1) => eqNodeS_any l l hl rfl F F2 A A2 c c2 w1 (hr.below hb) (hr2.below hb)
  have H := Lib.hid HC
  clear HC hr hr2
  have hb0 : ∀ o o', Below w.heap.size w ((w.alloc o).alloc o') := fun o o' => ((Below.refl _ _).alloc (Nat.le_refl _) _).alloc (by simp) _
  go_enter Tryz.func23, Tryz.ntmps23
  go_wp2_with fail
  have hb1 := hb0 (.cells #[.slice A l.length c] 31) (.cells #[.slice A2 l.length c2] 31)


  generalize (w.alloc (.cells #[.slice A l.length c] 31)).alloc (.cells #[.slice A2 l.length c2] 31) = w1 at hb1 ⊢
  refine (H.out w1 hb1).mono ?_
  rintro e w3 ⟨rfl, hb3⟩
  have HB3 := Lib.hid (below_then hb1 hb1.size hb3)
  clear hb3 hb1 hb0
  go_wp2
  go_ret
  exact ⟨rfl, HB3.out⟩

end Go.Proofs.YtekamdcojabgeaaGreatDoor
