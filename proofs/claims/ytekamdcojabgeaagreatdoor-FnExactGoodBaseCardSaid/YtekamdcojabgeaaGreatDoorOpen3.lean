/- Arguments of the laws opened: bases. -/
import Derived.Test.YtekamdcojabgeaaGreatDoorOpen2
import Derived.Test.YtekamdcojabgeaaGreatDoorBs1
namespace Go.Proofs.YtekamdcojabgeaaGreatDoor
open Go.RowKit Go.ChangeShapes Go.WideShapes Go.Deep Go.Joins
section
variable {H : Type} {enc : TypeId × Value → H} {w : World} {base : Nat} {spare : Nat → Bool} {held : Bool}
theorem list2 {α : Type} {l : List α} (h : l.length = 2) : ∃ a b, l = [a, b] := by
  match l, h with
  | [a, b], _ => exact ⟨a, b, rfl⟩
theorem list3 {α : Type} {l : List α} (h : l.length = 3) : ∃ a b c, l = [a, b, c] := by
  match l, h with
  | [a, b, c], _ => exact ⟨a, b, c, rfl⟩
theorem cells_lawsStored : Tryz.prog.cellsOf 122 = 2 := by kernel_rfl
theorem cells_lawsSession : Tryz.prog.cellsOf 125 = 3 := by kernel_rfl
theorem cells_lawsBase : Tryz.prog.cellsOf 42 = 3 := by kernel_rfl
theorem cells_bool : Tryz.prog.cellsOf 4 = 1 := by kernel_rfl
theorem cells_sl1 : Tryz.prog.cellsOf 39 = 1 := by kernel_rfl
theorem cells_sl2 : Tryz.prog.cellsOf 40 = 1 := by kernel_rfl
def StQ (w : World) (r : StR) : Prop := r.d.doc.length ≤ r.cap ∧ Rds (fun b => b < w.heap.size) w r.adr (ndCells r.d.doc) ∧ r.d.doc.length ≤ 9223372036854775807 ∧ ∀ a ∈ r.d.doc, a.small 9223372036854775807
set_option maxRecDepth 100000 in
theorem stored_elem {fuel : Nat} {cs : List Value} {x : DataW H × List MemPlace} (h : DataW.trod enc Tryz.prog w base spare held fuel 122 cs = some x) : ∃ r : StR, cs = r.cells ∧ StQ w r := by
  obtain ⟨xs, n, _, _, hlen, _, _⟩ := DataW.trod_struct Tryz.underlying122 h
  obtain ⟨c0, c1, rfl⟩ := list2 (hlen.trans cells_lawsStored)
  obtain ⟨v0, n0, y0, e0, t0⟩ := field_one Tryz.underlying122 h 0 _ rfl rfl cells_int (by simp)
  obtain ⟨v1, n1, y1, e1, t1⟩ := field_one Tryz.underlying122 h 1 _ rfl rfl cells_lawsValue (by simp)
  obtain rfl := one_of e0 (show [c0, c1][0]? = some c0 from rfl)
  obtain rfl := one_of e1 (show [v0, c1][1]? = some c1 from rfl)
  obtain ⟨z0, h0, _⟩ := DataW.trod_int Tryz.underlying3 t0
  obtain ⟨A, c, l, h1, q1, q2, q3, q4⟩ := open_value t1
  injection h0 with h0
  exact ⟨⟨⟨z0, l⟩, A, c⟩, by rw [h0, h1]; rfl, q1, q3, q2, q4⟩
theorem session_elem {fuel : Nat} {cs : List Value} {x : DataW H × List MemPlace} (h : DataW.trod enc Tryz.prog w base spare held fuel 125 cs = some x) : ∃ s : SsV, cs = s.cells ∧ True := by
  obtain ⟨xs, n, _, _, hlen, _, _⟩ := DataW.trod_struct Tryz.underlying125 h
  obtain ⟨c0, c1, c2, rfl⟩ := list3 (hlen.trans cells_lawsSession)
  obtain ⟨v0, n0, y0, e0, t0⟩ := field_one Tryz.underlying125 h 0 _ rfl rfl cells_int (by simp)
  obtain ⟨v1, n1, y1, e1, t1⟩ := field_one Tryz.underlying125 h 1 _ rfl rfl cells_int (by simp)
  obtain ⟨v2, n2, y2, e2, t2⟩ := field_one Tryz.underlying125 h 2 _ rfl rfl cells_bool (by simp)
  obtain rfl := one_of e0 (show [c0, c1, c2][0]? = some c0 from rfl)
  obtain rfl := one_of e1 (show [v0, c1, c2][1]? = some c1 from rfl)
  obtain rfl := one_of e2 (show [v0, v1, c2][2]? = some c2 from rfl)
  obtain ⟨z0, h0, _⟩ := DataW.trod_int Tryz.underlying3 t0
  obtain ⟨z1, h1, _⟩ := DataW.trod_int Tryz.underlying3 t1
  obtain ⟨z2, h2, _⟩ := DataW.trod_bool Tryz.underlying4 t2
  injection h0 with h0
  injection h1 with h1
  injection h2 with h2
  exact ⟨⟨z0, z1, z2⟩, by rw [h0, h1, h2]; rfl, trivial⟩
theorem agg3 {P : Program} {r : Reach} {b0 : Nat} {v : Value} {d : DataW H} {p : List MemPlace} {t : TypeId} {fs : Array Field} (hs : P.underlying t = some (.struct fs)) (hC : P.cellsOf t = 3) (hv : Value.okWide P w r b0 t v) (h : DataW.Trod enc P w base spare held t v d p) :
    ∃ c0 c1 c2 fuel, v = .agg #[c0, c1, c2] ∧ DataW.trod enc P w base spare held fuel t [c0, c1, c2] = some (d, p) := by
  obtain ⟨cs, rfl, hsz⟩ := okWide_struct hs hv
  obtain ⟨l⟩ := cs
  obtain ⟨c0, c1, c2, rfl⟩ := list3 (hsz.trans hC)
  obtain ⟨fuel, hf⟩ := h
  exact ⟨c0, c1, c2, fuel, rfl, hf⟩
set_option maxRecDepth 100000 in
theorem open_base {r : Reach} {b0 : Nat} {v : Value} {d : DataW H} {p : List MemPlace} (hv : Value.okWide Tryz.prog w r b0 42 v) (h : DataW.Trod enc Tryz.prog w base spare held 42 v d p) :
    ∃ (b : BsV) (A1 : Option Addr) (c1 : Nat) (A2 : Option Addr) (c2 : Nat), v = b.val A1 c1 A2 c2 ∧ b.fits 9223372036854775807 ∧ (StAt (fun b => b < w.heap.size) w A1 b.docs ∧ Rds (fun b => b < w.heap.size) w A2 (ssCells b.sess)) := by
  obtain ⟨c0, c1, c2, fuel, rfl, hf⟩ := agg3 Tryz.underlying42 cells_lawsBase hv h
  obtain ⟨v0, n0, y0, e0, t0⟩ := field_one (cs := [c0, c1, c2]) Tryz.underlying42 hf 0 _ rfl rfl cells_int (by simp)
  obtain ⟨v1, n1, y1, e1, t1⟩ := field_one (cs := [c0, c1, c2]) Tryz.underlying42 hf 1 _ rfl rfl cells_sl1 (by simp)
  obtain ⟨v2, n2, y2, e2, t2⟩ := field_one (cs := [c0, c1, c2]) Tryz.underlying42 hf 2 _ rfl rfl cells_sl2 (by simp)
  obtain rfl := one_of e0 (show [c0, c1, c2][0]? = some c0 from rfl)
  obtain rfl := one_of e1 (show [v0, c1, c2][1]? = some c1 from rfl)
  obtain rfl := one_of e2 (show [v0, v1, c2][2]? = some c2 from rfl)
  obtain ⟨z0, h0, _⟩ := DataW.trod_int Tryz.underlying3 t0
  obtain ⟨A1, k1, rs, h1, _, m1, s1, u1⟩ := open_rows StR.cells (StQ w) 2 (by omega) (fun _ => rfl) Tryz.underlying39 cells_lawsStored (fun _ _ _ h => stored_elem h) t1
  obtain ⟨A2, k2, ss, h2, _, m2, s2, _⟩ := open_rows SsV.cells (fun _ => True) 3 (by omega) (fun _ => rfl) Tryz.underlying40 cells_lawsSession (fun _ _ _ h => session_elem h) t2
  injection h0 with h0
  injection h1 with h1
  injection h2 with h2
  unfold maxLen at m1 m2
  refine ⟨⟨z0, rs.map StR.d, ss⟩, A1, k1, A2, k2, by rw [h0, h1, h2]; simp [BsV.val], ⟨by simpa using m1, m2, fun d hd => ?_⟩, ⟨rs, rfl, s1, fun r hr => ⟨(u1 r hr).1, (u1 r hr).2.1⟩⟩, s2⟩
  obtain ⟨r, hr, rfl⟩ := List.mem_map.1 hd
  exact (u1 r hr).2.2
end
end Go.Proofs.YtekamdcojabgeaaGreatDoor
