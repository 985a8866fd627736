/- Arguments of the laws opened: nodes, values, operations. -/
import Derived.Test.YtekamdcojabgeaaGreatDoorOpen
namespace Go.Proofs.YtekamdcojabgeaaGreatDoor
open Go.RowKit Go.ChangeShapes Go.WideShapes Go.Deep Go.Joins
section
variable {H : Type} {enc : TypeId × Value → H} {w : World} {base : Nat} {spare : Nat → Bool} {held : Bool}
theorem one_of {α : Type} {l : List α} {j : Nat} {v a : α} (h : l[j]? = some v) (h' : l[j]? = some a) : v = a := Option.some.inj (h.symm.trans h')
theorem list5 {α : Type} {l : List α} (h : l.length = 5) : ∃ a b c d e, l = [a, b, c, d, e] := by
  match l, h with
  | [a, b, c, d, e], _ => exact ⟨a, b, c, d, e, rfl⟩
theorem node_elem {fuel : Nat} {cs : List Value} {x : DataW H × List MemPlace} (h : DataW.trod enc Tryz.prog w base spare held fuel 137 cs = some x) : ∃ a : Nd, cs = a.cells ∧ a.small 9223372036854775807 := by
  obtain ⟨xs, n, _, _, hlen, _, _⟩ := DataW.trod_struct Tryz.underlying137 h
  have hl : cs.length = 5 := hlen.trans (by kernel_rfl)
  obtain ⟨c0, c1, c2, c3, c4, rfl⟩ := list5 hl
  obtain ⟨v0, n0, y0, e0, t0⟩ := field_one Tryz.underlying137 h 0 _ rfl rfl (by kernel_rfl) (by simp)
  obtain ⟨v1, n1, y1, e1, t1⟩ := field_one Tryz.underlying137 h 1 _ rfl rfl (by kernel_rfl) (by simp)
  obtain ⟨v2, n2, y2, e2, t2⟩ := field_one Tryz.underlying137 h 2 _ rfl rfl (by kernel_rfl) (by simp)
  obtain ⟨v3, n3, y3, e3, t3⟩ := field_one Tryz.underlying137 h 3 _ rfl rfl (by kernel_rfl) (by simp)
  obtain ⟨v4, n4, y4, e4, t4⟩ := field_one Tryz.underlying137 h 4 _ rfl rfl (by kernel_rfl) (by simp)
  obtain rfl := one_of e0 (show [c0, c1, c2, c3, c4][0]? = some c0 from rfl)
  obtain rfl := one_of e1 (show [v0, c1, c2, c3, c4][1]? = some c1 from rfl)
  obtain rfl := one_of e2 (show [v0, v1, c2, c3, c4][2]? = some c2 from rfl)
  obtain rfl := one_of e3 (show [v0, v1, v2, c3, c4][3]? = some c3 from rfl)
  obtain rfl := one_of e4 (show [v0, v1, v2, v3, c4][4]? = some c4 from rfl)
  obtain ⟨z0, h0, _⟩ := DataW.trod_int Tryz.underlying3 t0
  obtain ⟨z1, h1, _⟩ := DataW.trod_int Tryz.underlying3 t1
  obtain ⟨s2, h2, _, m2⟩ := DataW.trod_string Tryz.underlying9 t2
  obtain ⟨s3, h3, _, m3⟩ := DataW.trod_string Tryz.underlying9 t3
  obtain ⟨z4, h4, _⟩ := DataW.trod_int Tryz.underlying3 t4
  injection h0 with h0
  injection h1 with h1
  injection h2 with h2
  injection h3 with h3
  injection h4 with h4
  unfold maxLen at m2 m3
  exact ⟨⟨z0, z1, s2, s3, z4⟩, by rw [h0, h1, h2, h3, h4]; rfl, m2, m3⟩
theorem open_nodes {fuel : Nat} {cs : List Value} {x : DataW H × List MemPlace} (h : DataW.trod enc Tryz.prog w base spare held fuel 22 cs = some x) :
    ∃ (A : Option Addr) (c : Nat) (l : List Nd), cs = [.slice A l.length c] ∧ l.length ≤ c ∧ l.length ≤ 9223372036854775807 ∧ Rds (fun b => b < w.heap.size) w A (ndCells l) ∧ ∀ a ∈ l, a.small 9223372036854775807 := by
  obtain ⟨A, c, l, h1, h2, h3, h4, h5⟩ := open_rows Nd.cells (fun a => a.small 9223372036854775807) 5 (by omega) (fun _ => rfl) Tryz.underlying22 (by kernel_rfl) (fun _ _ _ h => node_elem h) h
  unfold maxLen at h3
  exact ⟨A, c, l, h1, h2, h3, h4, h5⟩
/-- A field that is a value. -/
theorem open_value {fuel : Nat} {v : Value} {x : DataW H × List MemPlace} (h : DataW.trod enc Tryz.prog w base spare held fuel 24 [v] = some x) :
    ∃ (A : Option Addr) (c : Nat) (l : List Nd), v = .slice A l.length c ∧ l.length ≤ c ∧ l.length ≤ 9223372036854775807 ∧ Rds (fun b => b < w.heap.size) w A (ndCells l) ∧ ∀ a ∈ l, a.small 9223372036854775807 := by
  obtain ⟨v0, n0, y0, e0, t0⟩ := field_one Tryz.underlying24 h 0 _ rfl rfl (by kernel_rfl) (by simp)
  obtain rfl := one_of e0 (show [v][0]? = some v from rfl)
  obtain ⟨A, c, l, h0, r⟩ := open_nodes t0
  injection h0 with h0
  exact ⟨A, c, l, h0, r⟩
theorem cells_int : Tryz.prog.cellsOf 3 = 1 := by kernel_rfl
theorem cells_lawsValue : Tryz.prog.cellsOf 24 = 1 := by kernel_rfl
theorem cells_lawsOp : Tryz.prog.cellsOf 26 = 5 := by kernel_rfl
theorem agg5 {P : Program} {r : Reach} {b0 : Nat} {v : Value} {d : DataW H} {p : List MemPlace} {t : TypeId} {fs : Array Field} (hs : P.underlying t = some (.struct fs)) (hC : P.cellsOf t = 5) (hv : Value.okWide P w r b0 t v) (h : DataW.Trod enc P w base spare held t v d p) :
    ∃ c0 c1 c2 c3 c4 fuel, v = .agg #[c0, c1, c2, c3, c4] ∧ DataW.trod enc P w base spare held fuel t [c0, c1, c2, c3, c4] = some (d, p) := by
  obtain ⟨cs, rfl, hsz⟩ := okWide_struct hs hv
  obtain ⟨l⟩ := cs
  obtain ⟨c0, c1, c2, c3, c4, rfl⟩ := list5 (hsz.trans hC)
  obtain ⟨fuel, hf⟩ := h
  exact ⟨c0, c1, c2, c3, c4, fuel, rfl, hf⟩
set_option maxRecDepth 100000 in
theorem open_op {r : Reach} {b0 : Nat} {v : Value} {d : DataW H} {p : List MemPlace} (hv : Value.okWide Tryz.prog w r b0 26 v) (h : DataW.Trod enc Tryz.prog w base spare held 26 v d p) :
    ∃ (o : OpV) (A : Option Addr) (c : Nat) (l : List Nd), v = o.val A l.length c ∧ l.length ≤ c ∧ l.length ≤ 9223372036854775807 ∧ Rds (fun b => b < w.heap.size) w A (ndCells l) ∧ ∀ a ∈ l, a.small 9223372036854775807 := by
  obtain ⟨c0, c1, c2, c3, c4, fuel, rfl, hf⟩ := agg5 Tryz.underlying26 cells_lawsOp hv h
  obtain ⟨v0, n0, y0, e0, t0⟩ := field_one (cs := [c0, c1, c2, c3, c4]) Tryz.underlying26 hf 0 _ rfl rfl cells_int (by simp)
  obtain ⟨v1, n1, y1, e1, t1⟩ := field_one (cs := [c0, c1, c2, c3, c4]) Tryz.underlying26 hf 1 _ rfl rfl cells_int (by simp)
  obtain ⟨v2, n2, y2, e2, t2⟩ := field_one (cs := [c0, c1, c2, c3, c4]) Tryz.underlying26 hf 2 _ rfl rfl cells_lawsValue (by simp)
  obtain ⟨v3, n3, y3, e3, t3⟩ := field_one (cs := [c0, c1, c2, c3, c4]) Tryz.underlying26 hf 3 _ rfl rfl cells_int (by simp)
  obtain ⟨v4, n4, y4, e4, t4⟩ := field_one (cs := [c0, c1, c2, c3, c4]) Tryz.underlying26 hf 4 _ rfl rfl cells_int (by simp)
  obtain rfl := one_of e0 (show [c0, c1, c2, c3, c4][0]? = some c0 from rfl)
  obtain rfl := one_of e1 (show [v0, c1, c2, c3, c4][1]? = some c1 from rfl)
  obtain rfl := one_of e2 (show [v0, v1, c2, c3, c4][2]? = some c2 from rfl)
  obtain rfl := one_of e3 (show [v0, v1, v2, c3, c4][3]? = some c3 from rfl)
  obtain rfl := one_of e4 (show [v0, v1, v2, v3, c4][4]? = some c4 from rfl)
  obtain ⟨z0, h0, _⟩ := DataW.trod_int Tryz.underlying3 t0
  obtain ⟨z1, h1, _⟩ := DataW.trod_int Tryz.underlying3 t1
  obtain ⟨A, c, l, h2, r⟩ := open_value t2
  obtain ⟨z3, h3, _⟩ := DataW.trod_int Tryz.underlying3 t3
  obtain ⟨z4, h4, _⟩ := DataW.trod_int Tryz.underlying3 t4
  injection h0 with h0
  injection h1 with h1
  injection h3 with h3
  injection h4 with h4
  exact ⟨⟨z0, z1, z3, z4⟩, A, c, l, by rw [h0, h1, h2, h3, h4]; rfl, r⟩
end
end Go.Proofs.YtekamdcojabgeaaGreatDoor
