/- The walks of toNode, toNodeS, eqNode, eqNodeS; of szValue, toValue, eqValue. -/
import Derived.Test.YtekamdcojabgeaaGreatDoorLaw1
namespace Go.Proofs.YtekamdcojabgeaaGreatDoor
open Go.RowKit
theorem infoNode : (Tryz.prog.info? 111).map (fun i => (i.zero, i.size, i.bytes)) = some (some (.agg #[.int .i64 0, .int .i64 0, .string ⟨#[]⟩, .string ⟨#[]⟩, .int .i64 0]), 5, 56) := by kernel_rfl
set_option maxHeartbeats 1600000 in
theorem toNode_any (x : Nd) (w : World) :
    Calls Tryz.prog 100 #[x.val] w fun e w' => e = .returned x.val ∧ Below w.heap.size w w' := by
  unfold Nd.val
  go_enter Tryz.func100, Tryz.ntmps100
  go_wp2
  refine bodyPost_ret (results_cell_row rfl _ _ (w.heap.size + 1) _ _ _ _ rfl (by (repeat (first | with_reducible assumption | (with_reducible refine blk_new _ ?_; (first | rfl | (simp; done) | (simp; omega))) | with_reducible apply block_setCell | (with_reducible refine blk_skip _ _ ?_ ?_; rotate_left; (first | (simp; done) | (simp; omega))) | with_reducible refine blk_old ?_))) Tryz.underlying111 rfl ((info_size infoNode).trans (by simp))) rfl ?_
  refine ⟨rfl, ?_⟩
  repeat (first | exact Below.refl _ _ | refine Below.alloc ?_ (by simp <;> omega) _ | refine Below.setCell ?_ _ _ (by simp))
set_option maxHeartbeats 1600000 in
theorem eqNode_any (x y : Nd) (w : World) :
    Calls Tryz.prog 88 #[x.val, y.val] w fun e w' => (∃ r, e = .returned (.bool r) ∧ (x = y → r = true)) ∧ Below w.heap.size w w' := by
  unfold Nd.val
  go_enter Tryz.func88, Tryz.ntmps88
  go_wp2
  all_goals
    go_ret
    refine ⟨⟨_, rfl, fun h => ?_⟩, ((Below.refl _ _).alloc (Nat.le_refl _) _).alloc (by simp) _⟩
    subst h
    simp_all
end Go.Proofs.YtekamdcojabgeaaGreatDoor
