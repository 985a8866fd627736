/- The walks of the laws' own functions on values: szNode.., toNode.., eqNode... The walks of toNode, toNodeS, eqNode, eqNodeS; of szValue, toValue, eqValue. The walks of toNodeS, eqNodeS; of szValue, toValue, eqValue. The walk of eqValue. -/
import Derived.Test.YteeppdobeeodiaaGreatDoorBase
import Derived.Laws.MakeOwn
import Derived.Laws.Entries
import Derived.StillTailTactics
namespace Go.Proofs.YteeppdobeeodiaaGreatDoor
open Go.RowKit
theorem make_rowN {P : Program} (t e : TypeId) (z : Value) (size bytes : Nat) (ht : P.underlying t = some (.slice e)) (hi : (P.info? e).map (fun i => (i.zero, i.size, i.bytes)) = some (some z, size, bytes))
    (c : Nat) (hbytes : bytes * c ≤ 281474976710656) (h63 : c ≤ 9223372036854775807) (w : World) :
    (Instr.makeSlice t (.int .i64 (c : Int)) (.int .i64 (c : Int))).run P w = .ok (.slice (some ⟨w.heap.size, 0, none⟩) c c) (w.alloc (.cells (madeCells z.cells (c * size)) e)) := by
  obtain ⟨i, hi, hzz⟩ := Option.map_eq_some_iff.1 hi
  simp only [Prod.mk.injEq] at hzz
  obtain ⟨hz0, hz1, hz2⟩ := hzz
  have hb : (i.bytes : Int) * (c : Int) ≤ 281474976710656 := by
    have h : ((i.bytes * c : Nat) : Int) ≤ 281474976710656 := by rw [hz2]; omega
    rwa [Int.natCast_mul] at h
  have hr := run_make (P := P) w t e i z ht hi hz0 .i64 .i64 c c (by omega) (by omega) hb (by omega)
  simp only [Int.toNat_natCast] at hr
  rw [hr, hz1]
theorem info_size {P : Program} {t : TypeId} {z : Option Value} {s b : Nat} (h : (P.info? t).map (fun i => (i.zero, i.size, i.bytes)) = some (z, s, b)) : (P.info? t).map (·.size) = some s := by
  obtain ⟨i, hi, e⟩ := Option.map_eq_some_iff.1 h
  simp only [Prod.mk.injEq] at e
  rw [hi, Option.map_some, e.2.1]
theorem blk_skip {w : World} {b : Nat} {o : Obj} (a : Addr) (v : Value) (h : w.heap[b]? = some o) (ha : b ≠ a.block) : (w.setCell a v).heap[b]? = some o := (Below.heap_setCell w a v b ha).trans h
theorem blk_old {w : World} {b : Nat} {o o' : Obj} (h : w.heap[b]? = some o) : (w.alloc o').heap[b]? = some o := (heap_alloc_old w o' (lt_of_block h)).trans h
theorem blk_new {w : World} {b : Nat} (o : Obj) (h : b = w.heap.size) : (w.alloc o).heap[b]? = some o := by subst h; exact heap_alloc_new w o
/-- What lies in a block behind the steps of a walk. -/

theorem cells5 {w : World} {b : Nat} {v0 v1 v2 v3 v4 : Value} {T : TypeId} (h : w.heap[b]? = some (.cells #[v0, v1, v2, v3, v4] T (0, 0))) :
    w.cell? ⟨b, 0, none⟩ = some v0 ∧ w.cell? ⟨b, 1, none⟩ = some v1 ∧ w.cell? ⟨b, 2, none⟩ = some v2 ∧ w.cell? ⟨b, 3, none⟩ = some v3 ∧ w.cell? ⟨b, 4, none⟩ = some v4 := by
  simp [cell_of_block h]
theorem free5 {w : World} {b : Nat} {cs : Array Value} {T : TypeId} (h : w.heap[b]? = some (.cells cs T (0, 0))) :
    w.frozen? ⟨b, 0, none⟩ = false ∧ w.frozen? ⟨b, 1, none⟩ = false ∧ w.frozen? ⟨b, 2, none⟩ = false ∧ w.frozen? ⟨b, 3, none⟩ = false ∧ w.frozen? ⟨b, 4, none⟩ = false := by
  simp [free_of_block h]
/-! ### sizes -/
/-- All its texts are at most m long. -/
def Nd.small (m : Nat) (x : Nd) : Prop := x.text.size ≤ m ∧ x.name.size ≤ m
def SzPost (l : List Nd) (n : Nat) (w : World) (e : Ending) (w' : World) : Prop :=
  Below w.heap.size w w' ∧ ∃ r : Int, e = .returned (.int .i64 r) ∧ (r = -1 ∨ ∃ m : Nat, r = m ∧ m ≤ n ∧ l.length ≤ n ∧ ∀ x ∈ l, x.small 1048576)
end Go.Proofs.YteeppdobeeodiaaGreatDoor
namespace Go.Proofs.YteeppdobeeodiaaGreatDoor
open Go.RowKit
theorem infoNode : (Tryz.prog.info? 50).map (fun i => (i.zero, i.size, i.bytes)) = some (some (.agg #[.int .i64 0, .int .i64 0, .string ⟨#[]⟩, .string ⟨#[]⟩, .int .i64 0]), 5, 56) := by kernel_rfl
end Go.Proofs.YteeppdobeeodiaaGreatDoor
namespace Go.Proofs.YteeppdobeeodiaaGreatDoor
open Go.RowKit
def zeroNd : Nd := ⟨0, 0, ⟨#[]⟩, ⟨#[]⟩, 0⟩
/-- A row of nodes, of which the first k are filled. -/
def halfRow (l : List Nd) (k : Nat) : List Nd := l.take k ++ List.replicate (l.length - k) zeroNd
theorem madeCells_rep (cs : List Value) (n : Nat) : madeCells cs.toArray (n * cs.length) = ((List.replicate n cs).flatten).toArray := by
  apply Array.ext'
  apply List.ext_getElem?
  intro i
  rcases Nat.eq_zero_or_pos cs.length with h0 | h0
  · have : cs = [] := List.length_eq_zero_iff.1 h0
    subst this
    simp [madeCells]
  · by_cases hi : i < n * cs.length
    · have hd : i / cs.length < n := Nat.div_lt_of_lt_mul (by rw [Nat.mul_comm]; exact hi)
      have hm : i % cs.length < cs.length := Nat.mod_lt _ h0
      have e : i = (i / cs.length) * cs.length + i % cs.length := by rw [Nat.mul_comm]; exact (Nat.div_add_mod i cs.length).symm
      have : (List.replicate n cs).flatten[i]? = cs[i % cs.length]? := by
        have key : ∀ (n i : Nat), i < n * cs.length → (List.replicate n cs).flatten[i]? = cs[i % cs.length]? := by
          intro n
          induction n with
          | zero => intro i h; simp at h
          | succ n ih =>
            intro i h
            rw [List.replicate_succ, List.flatten_cons]
            by_cases hc : i < cs.length
            · rw [List.getElem?_append_left hc, Nat.mod_eq_of_lt hc]
            · rw [List.getElem?_append_right (by omega), ih _ (by rw [Nat.succ_mul] at h; omega), ← Nat.mod_eq_sub_mod (by omega)]
        exact key n i hi
      rw [this]
      simp [madeCells, hi, hm]
    · have : (List.replicate n cs).flatten[i]? = none := by rw [List.getElem?_eq_none_iff]; simp; omega
      rw [this]
      simp [madeCells, hi]
theorem half_zero (l : List Nd) : ndCells (halfRow l 0) = (List.replicate l.length zeroNd.cells).flatten := by
  simp [ndCells, halfRow, List.flatMap, List.map_replicate]
theorem half_all (l : List Nd) (k : Nat) (h : l.length ≤ k) : halfRow l k = l := by
  rw [halfRow, List.take_of_length_le h, Nat.sub_eq_zero_of_le h]; simp
theorem half_length (l : List Nd) (k : Nat) (h : k ≤ l.length) : (halfRow l k).length = l.length := by simp [halfRow]; omega
theorem half_succ (l : List Nd) (k : Nat) (x : Nd) (h : l[k]? = some x) : halfRow l (k+1) = (halfRow l k).set k x := by
  have hk : k < l.length := (List.getElem?_eq_some_iff.1 h).1
  have hx : l[k] = x := (List.getElem?_eq_some_iff.1 h).2
  unfold halfRow
  rw [List.take_succ_eq_append_getElem hk, hx]
  obtain ⟨m, hm⟩ : ∃ m, l.length - k = m + 1 := ⟨l.length - k - 1, by omega⟩
  rw [hm, show l.length - (k+1) = m by omega, List.replicate_succ]
  rw [List.set_append_right _ _ (by simp; omega)]
  simp [List.length_take, Nat.min_eq_left (Nat.le_of_lt hk)]
theorem nd_set (l : List Nd) (k : Nat) (x : Nd) (hk : k < l.length) :
    (((((ndCells l).toArray.setIfInBounds (k*5) (.int .i64 x.kind)).setIfInBounds (k*5+1) (.int .i64 x.num)).setIfInBounds (k*5+2) (.string x.text)).setIfInBounds (k*5+3) (.string x.name)).setIfInBounds (k*5+4) (.int .i64 x.up) = (ndCells (l.set k x)).toArray := by
  induction l generalizing k with
  | nil => simp at hk
  | cons y l ih =>
    cases k with
    | zero => simp [ndCells, Nd.cells]
    | succ k =>
      have := congrArg Array.toList (ih k (by simpa using hk))
      simp at this
      apply Array.ext'
      simp only [ndCells, List.flatMap_cons, Nd.cells, List.set_cons_succ, List.setIfInBounds_toArray, List.cons_append, List.nil_append] at this ⊢
      rw [← this]
      simp only [show (k+1)*5 = k*5+5 by omega, show k*5+5+1 = (k*5+1)+5 by omega, show k*5+5+2 = (k*5+2)+5 by omega, show k*5+5+3 = (k*5+3)+5 by omega, show k*5+5+4 = (k*5+4)+5 by omega, List.set_cons_succ]
theorem five_sets {w : World} {g k : Nat} {cs : Array Value} {T : TypeId} {fr : Nat × Nat} (h : w.heap[g]? = some (.cells cs T fr)) (v0 v1 v2 v3 v4 : Value) :
    (((((w.setCell ⟨g, k, none⟩ v0).setCell ⟨g, k+1, none⟩ v1).setCell ⟨g, k+2, none⟩ v2).setCell ⟨g, k+3, none⟩ v3).setCell ⟨g, k+4, none⟩ v4).heap[g]? = some (.cells (((((cs.setIfInBounds k v0).setIfInBounds (k+1) v1).setIfInBounds (k+2) v2).setIfInBounds (k+3) v3).setIfInBounds (k+4) v4) T fr) :=
  block_setCell (block_setCell (block_setCell (block_setCell (block_setCell h _ _) _ _) _ _) _ _) _ _
theorem five_below {w w0 : World} {g k B : Nat} (h : Below B w0 w) (hg : B ≤ g) (v0 v1 v2 v3 v4 : Value) :
    Below B w0 (((((w.setCell ⟨g, k, none⟩ v0).setCell ⟨g, k+1, none⟩ v1).setCell ⟨g, k+2, none⟩ v2).setCell ⟨g, k+3, none⟩ v3).setCell ⟨g, k+4, none⟩ v4) :=
  ((((h.setCell hg _).setCell hg _).setCell hg _).setCell hg _).setCell hg _
theorem nd_cells_of {w : World} {g : Nat} {l : List Nd} {T : TypeId} (h : w.heap[g]? = some (.cells (ndCells l).toArray T (0, 0))) : Rds (fun b => b = g) w (some ⟨g, 0, none⟩) (ndCells l) := fun _ =>
  ⟨g, 0, rfl, rfl, lt_of_block h, fun j v hj => by rw [cell_of_block h, Nat.zero_add]; simpa using hj⟩
def ToPostW (l : List Nd) (w : World) (e : Ending) (w' : World) : Prop :=
  Below w.heap.size w w' ∧ ∃ A, e = .returned (.slice A l.length l.length) ∧ Own (fun b => w.heap.size ≤ b) w' 50 A (ndCells l)
def ToPost (l : List Nd) (w : World) (e : Ending) (w' : World) : Prop :=
  Below w.heap.size w w' ∧ ∃ A, e = .returned (.slice A l.length l.length) ∧ Rds (fun b => w.heap.size ≤ b) w' A (ndCells l)
/-! ### a value -/
def VSz (l : List Nd) (n : Nat) (w : World) (e : Ending) (w' : World) : Prop := SzPost l n w e w'
theorem infoValue : (Tryz.prog.info? 25).map (fun i => (i.zero, i.size, i.bytes)) = some (some (.agg #[.slice none 0 0]), 1, 24) := by kernel_rfl
def ToVPostW (l : List Nd) (w : World) (e : Ending) (w' : World) : Prop :=
  Below w.heap.size w w' ∧ ∃ A, e = .returned (.agg #[.slice A l.length l.length]) ∧ Own (fun b => w.heap.size ≤ b) w' 50 A (ndCells l)
def ToVPost (l : List Nd) (w : World) (e : Ending) (w' : World) : Prop :=
  Below w.heap.size w w' ∧ ∃ A, e = .returned (.agg #[.slice A l.length l.length]) ∧ Rds (fun b => w.heap.size ≤ b) w' A (ndCells l)
end Go.Proofs.YteeppdobeeodiaaGreatDoor
namespace Go.Proofs.YteeppdobeeodiaaGreatDoor
open Go.RowKit
end Go.Proofs.YteeppdobeeodiaaGreatDoor
