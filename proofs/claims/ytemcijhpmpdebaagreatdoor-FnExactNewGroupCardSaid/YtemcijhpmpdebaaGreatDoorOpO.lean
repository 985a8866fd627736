/- Arguments of the laws opened: rows of operations. -/
import Derived.Test.YtemcijhpmpdebaaGreatDoorOpen3
import Derived.Test.YtemcijhpmpdebaaGreatDoorOps
namespace Go.Proofs.YtemcijhpmpdebaaGreatDoor
open Go.RowKit Go.ChangeShapes Go.WideShapes Go.Deep Go.Joins
section
variable {H : Type} {enc : TypeId × Value → H} {w : World} {base : Nat} {spare : Nat → Bool} {held : Bool}
def OpQ (w : World) (r : OpR) : Prop := r.d.doc.length ≤ r.cap ∧ Rds (fun b => b < w.heap.size) w r.adr (ndCells r.d.doc) ∧ r.d.doc.length ≤ 9223372036854775807 ∧ ∀ a ∈ r.d.doc, a.small 9223372036854775807
set_option maxRecDepth 100000 in
theorem op_elem {fuel : Nat} {cs : List Value} {x : DataW H × List MemPlace} (h : DataW.trod enc Tryz.prog w base spare held fuel 51 cs = some x) : ∃ r : OpR, cs = r.cells ∧ OpQ w r := by
  obtain ⟨xs, n, _, _, hlen, _, _⟩ := DataW.trod_struct Tryz.underlying51 h
  obtain ⟨c0, c1, c2, c3, c4, rfl⟩ := list5 (hlen.trans cells_lawsOp)
  obtain ⟨v0, n0, y0, e0, t0⟩ := field_one Tryz.underlying51 h 0 _ rfl rfl cells_int (by simp)
  obtain ⟨v1, n1, y1, e1, t1⟩ := field_one Tryz.underlying51 h 1 _ rfl rfl cells_int (by simp)
  obtain ⟨v2, n2, y2, e2, t2⟩ := field_one Tryz.underlying51 h 2 _ rfl rfl cells_lawsValue (by simp)
  obtain ⟨v3, n3, y3, e3, t3⟩ := field_one Tryz.underlying51 h 3 _ rfl rfl cells_int (by simp)
  obtain ⟨v4, n4, y4, e4, t4⟩ := field_one Tryz.underlying51 h 4 _ rfl rfl cells_int (by simp)
  obtain rfl := one_of e0 (show [c0, c1, c2, c3, c4][0]? = some c0 from rfl)
  obtain rfl := one_of e1 (show [v0, c1, c2, c3, c4][1]? = some c1 from rfl)
  obtain rfl := one_of e2 (show [v0, v1, c2, c3, c4][2]? = some c2 from rfl)
  obtain rfl := one_of e3 (show [v0, v1, v2, c3, c4][3]? = some c3 from rfl)
  obtain rfl := one_of e4 (show [v0, v1, v2, v3, c4][4]? = some c4 from rfl)
  obtain ⟨z0, h0, _⟩ := DataW.trod_int Tryz.underlying3 t0
  obtain ⟨z1, h1, _⟩ := DataW.trod_int Tryz.underlying3 t1
  obtain ⟨A, c, l, h2, q1, q2, q3, q4⟩ := open_value t2
  obtain ⟨z3, h3, _⟩ := DataW.trod_int Tryz.underlying3 t3
  obtain ⟨z4, h4, _⟩ := DataW.trod_int Tryz.underlying3 t4
  injection h0 with h0
  injection h1 with h1
  injection h3 with h3
  injection h4 with h4
  exact ⟨⟨⟨⟨z0, z1, z3, z4⟩, l⟩, A, c⟩, by rw [h0, h1, h2, h3, h4]; rfl, q1, q3, q2, q4⟩
set_option maxRecDepth 100000 in
theorem open_opsArg {r : Reach} {b0 : Nat} {v : Value} {d : DataW H} {p : List MemPlace} (hv : Value.okWide Tryz.prog w r b0 22 v) (h : DataW.Trod enc Tryz.prog w base spare held 22 v d p) :
    ∃ (A : Option Addr) (c : Nat) (ds : List OpD), v = .slice A ds.length c ∧ ds.length ≤ c ∧ ds.length ≤ 9223372036854775807 ∧ OpAt (fun b => b < w.heap.size) w A ds ∧ ∀ d ∈ ds, d.doc.length ≤ 9223372036854775807 ∧ ∀ x ∈ d.doc, x.small 9223372036854775807 := by
  obtain ⟨a, n, c, rfl⟩ := okWide_slice Tryz.underlying22 hv
  obtain ⟨fuel, hf⟩ := h
  obtain ⟨A, c', rs, h1, h2, h3, h4, h5⟩ := open_rows OpR.cells (OpQ w) 5 (by omega) (fun _ => rfl) Tryz.underlying22 cells_lawsOp (fun _ _ _ h => op_elem h) hf
  unfold maxLen at h3
  have h1' : [Value.slice a n c] = [Value.slice A rs.length c'] := h1
  injection h1' with h1'
  refine ⟨A, c', rs.map OpR.d, by rw [h1', List.length_map], by simpa using h2, by simpa using h3, ⟨rs, rfl, h4, fun r hr => ⟨(h5 r hr).1, (h5 r hr).2.1⟩⟩, fun d hd => ?_⟩
  obtain ⟨r, hr, rfl⟩ := List.mem_map.1 hd
  exact (h5 r hr).2.2
end
end Go.Proofs.YtemcijhpmpdebaaGreatDoor
