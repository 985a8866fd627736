/- Arguments of the laws opened: bytes. -/
import Derived.Test.YteeppdobeeodiaaGreatDoorOpen3
import Derived.Test.YteeppdobeeodiaaGreatDoorDr3
namespace Go.Proofs.YteeppdobeeodiaaGreatDoor
open Go.RowKit Go.ChangeShapes Go.WideShapes Go.Deep Go.Joins
section
variable {H : Type} {enc : TypeId × Value → H} {w : World} {base : Nat} {spare : Nat → Bool} {held : Bool}
theorem byte_elem {fuel : Nat} {cs : List Value} {x : DataW H × List MemPlace} (h : DataW.trod enc Tryz.prog w base spare held fuel 5 cs = some x) : ∃ a : Int, cs = [Value.int .u8 a] ∧ (0 ≤ a ∧ a ≤ 255) := by
  obtain ⟨n, h1, _, h2⟩ := DataW.trod_int Tryz.underlying5 h
  simp only [Lit.wf, Bool.and_eq_true, decide_eq_true_eq] at h2
  exact ⟨n, h1, h2⟩
theorem u8s_flat (l : List Int) : l.flatMap (fun a => [Value.int .u8 a]) = u8s l := by
  unfold u8s
  induction l with
  | nil => rfl
  | cons a l ih => rw [List.flatMap_cons, ih]; rfl
set_option maxRecDepth 100000 in
theorem open_bytesArg {r : Reach} {b0 : Nat} {v : Value} {d : DataW H} {p : List MemPlace} (hv : Value.okWide Tryz.prog w r b0 22 v) (h : DataW.Trod enc Tryz.prog w base spare held 22 v d p) :
    ∃ (A : Option Addr) (c : Nat) (l : List Int), v = .slice A l.length c ∧ l.length ≤ c ∧ l.length ≤ 9223372036854775807 ∧ Rds (fun b => b < w.heap.size) w A (u8s l) ∧ ∀ a ∈ l, 0 ≤ a ∧ a ≤ 255 := by
  obtain ⟨a, n, c, rfl⟩ := okWide_slice Tryz.underlying22 hv
  obtain ⟨fuel, hf⟩ := h
  obtain ⟨A, c', l, h1, h2, h3, h4, h5⟩ := open_rows (fun a : Int => [Value.int .u8 a]) (fun a => 0 ≤ a ∧ a ≤ 255) 1 (by omega) (fun _ => rfl) Tryz.underlying22 (by kernel_rfl) (fun _ _ _ h => byte_elem h) hf
  unfold maxLen at h3
  rw [u8s_flat] at h4
  have h1' : [Value.slice a n c] = [Value.slice A l.length c'] := h1
  injection h1' with h1'
  exact ⟨A, c', l, h1', h2, h3, h4, h5⟩
end
end Go.Proofs.YteeppdobeeodiaaGreatDoor
