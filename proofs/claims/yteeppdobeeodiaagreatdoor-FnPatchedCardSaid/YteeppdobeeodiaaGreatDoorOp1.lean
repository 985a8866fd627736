/- The walks of the laws' own functions on operations: szOp, toOp, eqOp. -/
import Derived.Test.YteeppdobeeodiaaGreatDoorLaw4
namespace Go.Proofs.YteeppdobeeodiaaGreatDoor
open Go.RowKit
theorem Agree.set {F : Nat → Prop} {w w1 : World} (h : Agree F w w1) {b : Nat} (hb : ∀ c, F c → c ≠ b) (j : Nat) (v : Value) : Agree F w (w1.setCell ⟨b, j, none⟩ v) := h.trans (Agree.of_setCell _ _ _ hb)
structure OpV where
  kind : Int
  id : Int
  session : Int
  no : Int
def OpV.val (o : OpV) (A : Option Addr) (n c : Nat) : Value := .agg #[.int .i64 o.kind, .int .i64 o.id, .slice A n c, .int .i64 o.session, .int .i64 o.no]
def ToOPostW (p : OpV) (l : List Nd) (w : World) (e : Ending) (w' : World) : Prop :=
  Below w.heap.size w w' ∧ ∃ A, e = .returned (p.val A l.length l.length) ∧ Own (fun b => w.heap.size ≤ b) w' 50 A (ndCells l)
def ToOPost (p : OpV) (l : List Nd) (w : World) (e : Ending) (w' : World) : Prop :=
  Below w.heap.size w w' ∧ ∃ A, e = .returned (p.val A l.length l.length) ∧ Rds (fun b => w.heap.size ≤ b) w' A (ndCells l)
end Go.Proofs.YteeppdobeeodiaaGreatDoor
