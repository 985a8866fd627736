/- Bases as the laws handle them: stored documents, sessions; what is read, what stays; sizes. Bases as the laws handle them: copies. -/
import Derived.Test.YtemcijhpmpdebaaGreatDoorOp1
namespace Go.Proofs.YtemcijhpmpdebaaGreatDoor
open Go.RowKit
structure StV where
  id : Int
  doc : List Nd
structure StR where
  d : StV
  adr : Option Addr
  cap : Nat
def StR.cells (r : StR) : List Value := [.int .i64 r.d.id, .slice r.adr r.d.doc.length r.cap]
structure SsV where
  id : Int
  no : Int
  fine : Bool
def SsV.cells (s : SsV) : List Value := [.int .i64 s.id, .int .i64 s.no, .bool s.fine]
structure BsV where
  applied : Int
  docs : List StV
  sess : List SsV
def ssCells (l : List SsV) : List Value := l.flatMap SsV.cells
def stCells (l : List StR) : List Value := l.flatMap StR.cells
/-- A row of stored documents, each with its nodes. -/
def StAt (F : Nat → Prop) (w : World) (A : Option Addr) (ds : List StV) : Prop :=
  ∃ rs : List StR, rs.map StR.d = ds ∧ Rds F w A (stCells rs) ∧ ∀ r ∈ rs, r.d.doc.length ≤ r.cap ∧ Rds F w r.adr (ndCells r.d.doc)
theorem StAt.frame {F : Nat → Prop} {w w1 : World} {A : Option Addr} {ds : List StV} (h : StAt F w A ds) (hb : Agree F w w1) : StAt F w1 A ds := by
  obtain ⟨rs, h1, h2, h3⟩ := h
  exact ⟨rs, h1, h2.frame hb, fun r hr => ⟨(h3 r hr).1, (h3 r hr).2.frame hb⟩⟩
theorem StAt.mono {F G : Nat → Prop} {w : World} {A : Option Addr} {ds : List StV} (h : StAt F w A ds) (hG : ∀ b, F b → b < w.heap.size → G b) : StAt G w A ds := by
  obtain ⟨rs, h1, h2, h3⟩ := h
  exact ⟨rs, h1, h2.mono hG, fun r hr => ⟨(h3 r hr).1, (h3 r hr).2.mono hG⟩⟩
/-- A row of stored documents of memory of its own. -/
def StW (F : Nat → Prop) (w : World) (A : Option Addr) (ds : List StV) : Prop :=
  ∃ rs : List StR, rs.map StR.d = ds ∧ Own F w 94 A (stCells rs) ∧ ∀ r ∈ rs, r.d.doc.length ≤ r.cap ∧ Own F w 100 r.adr (ndCells r.d.doc)
theorem StW.frame {F : Nat → Prop} {w w1 : World} {A : Option Addr} {ds : List StV} (h : StW F w A ds) (hb : Agree F w w1) : StW F w1 A ds := by
  obtain ⟨rs, h1, h2, h3⟩ := h
  exact ⟨rs, h1, h2.frame hb, fun r hr => ⟨(h3 r hr).1, (h3 r hr).2.frame hb⟩⟩
theorem StW.mono {F G : Nat → Prop} {w : World} {A : Option Addr} {ds : List StV} (h : StW F w A ds) (hG : ∀ b, F b → b < w.heap.size → G b) : StW G w A ds := by
  obtain ⟨rs, h1, h2, h3⟩ := h
  exact ⟨rs, h1, h2.mono hG, fun r hr => ⟨(h3 r hr).1, (h3 r hr).2.mono hG⟩⟩
theorem StW.at {F : Nat → Prop} {w : World} {A : Option Addr} {ds : List StV} (h : StW F w A ds) : StAt F w A ds := by
  obtain ⟨rs, h1, h2, h3⟩ := h
  exact ⟨rs, h1, h2.1, fun r hr => ⟨(h3 r hr).1, (h3 r hr).2.1⟩⟩
theorem row_at {α : Type} {cells : α → List Value} {sz : Nat} (hsz : ∀ x, (cells x).length = sz) (h0 : 0 < sz) {F : Nat → Prop} {w : World} {A : Option Addr} {l : List α} (hr : Rds F w A (l.flatMap cells)) (k : Nat) (hk : k < l.length) :
    ∃ b o x, A = some ⟨b, o, none⟩ ∧ F b ∧ b < w.heap.size ∧ l[k]? = some x ∧ ∀ j v, (cells x)[j]? = some v → w.cell? ⟨b, o + k * sz + j, none⟩ = some v := by
  have hx : l[k]? = some l[k] := by simp [hk]
  have hlen := flat_len cells sz hsz l
  have hpos : 0 < l.length * sz := Nat.mul_pos (by omega) h0
  obtain ⟨b, o, e, hF, hl, hc⟩ := hr (by intro h; rw [h] at hlen; simp at hlen; omega)
  refine ⟨b, o, l[k], e, hF, hl, hx, fun j v hv => ?_⟩
  have hj : j < sz := by rw [← hsz l[k]]; exact (List.getElem?_eq_some_iff.1 hv).1
  have := hc (k * sz + j) v (by rw [flat_get cells sz hsz l k _ hx j hj]; exact hv)
  rwa [← Nat.add_assoc] at this
theorem st_at {F : Nat → Prop} {w : World} {A : Option Addr} {ds : List StV} (h : StAt F w A ds) (k : Nat) (hk : k < ds.length) :
    ∃ (b o : Nat) (r : StR), A = some ⟨b, o, none⟩ ∧ F b ∧ b < w.heap.size ∧ ds[k]? = some r.d ∧ w.cell? ⟨b, o + k * 2, none⟩ = some (.int .i64 r.d.id) ∧ w.cell? ⟨b, o + k * 2 + 1, none⟩ = some (.slice r.adr r.d.doc.length r.cap) ∧ r.d.doc.length ≤ r.cap ∧ Rds F w r.adr (ndCells r.d.doc) := by
  obtain ⟨rs, rfl, h2, h3⟩ := h
  obtain ⟨b, o, r, e, hF, hl, hx, hc⟩ := row_at (cells := StR.cells) (sz := 2) (fun _ => rfl) (by omega) h2 k (by simpa using hk)
  obtain ⟨h4, h5⟩ := h3 r (List.mem_of_getElem? hx)
  exact ⟨b, o, r, e, hF, hl, by rw [List.getElem?_map, hx]; rfl, hc 0 _ rfl, hc 1 _ rfl, h4, h5⟩
theorem ss_at {F : Nat → Prop} {w : World} {A : Option Addr} {l : List SsV} (h : Rds F w A (ssCells l)) (k : Nat) (hk : k < l.length) :
    ∃ (b o : Nat) (s : SsV), A = some ⟨b, o, none⟩ ∧ F b ∧ b < w.heap.size ∧ l[k]? = some s ∧ w.cell? ⟨b, o + k * 3, none⟩ = some (.int .i64 s.id) ∧ w.cell? ⟨b, o + k * 3 + 1, none⟩ = some (.int .i64 s.no) ∧ w.cell? ⟨b, o + k * 3 + 2, none⟩ = some (.bool s.fine) := by
  obtain ⟨b, o, r, e, hF, hl, hx, hc⟩ := row_at (cells := SsV.cells) (sz := 3) (fun _ => rfl) (by omega) h k hk
  exact ⟨b, o, r, e, hF, hl, hx, hc 0 _ rfl, hc 1 _ rfl, hc 2 _ rfl⟩
def BsV.val (b : BsV) (A1 : Option Addr) (c1 : Nat) (A2 : Option Addr) (c2 : Nat) : Value := .agg #[.int .i64 b.applied, .slice A1 b.docs.length c1, .slice A2 b.sess.length c2]
/-- All that a base holds is of a size that can be read. -/
def BsV.fits (m : Nat) (b : BsV) : Prop := b.docs.length ≤ m ∧ b.sess.length ≤ m ∧ ∀ d ∈ b.docs, d.doc.length ≤ m ∧ ∀ x ∈ d.doc, x.small m
def StSz (ds : List StV) (n : Nat) (w : World) (e : Ending) (w' : World) : Prop :=
  Below w.heap.size w w' ∧ ∃ r : Int, e = .returned (.int .i64 r) ∧ (r = -1 ∨ ∃ m : Nat, r = m ∧ m ≤ n ∧ ds.length ≤ n ∧ ∀ d ∈ ds, d.doc.length ≤ n ∧ ∀ x ∈ d.doc, x.small 1048576)
def BsSz (b : BsV) (w : World) (e : Ending) (w' : World) : Prop :=
  Below w.heap.size w w' ∧ ∃ r : Int, e = .returned (.int .i64 r) ∧ (r = -1 ∨ ∃ m : Nat, r = m ∧ b.fits 1048576)
end Go.Proofs.YtemcijhpmpdebaaGreatDoor
namespace Go.Proofs.YtemcijhpmpdebaaGreatDoor
open Go.RowKit
theorem set_mid (a b : List Value) (x v : Value) (n : Nat) (h : a.length = n) : (a ++ x :: b).set n v = a ++ v :: b := by
  subst h
  simp
theorem blk_row {w : World} {b : Nat} {L : List Value} {T : TypeId} (h : w.heap[b]? = some (.cells L.toArray T (0, 0))) (j : Nat) (v : Value) : (w.setCell ⟨b, j, none⟩ v).heap[b]? = some (.cells (L.set j v).toArray T (0, 0)) := by
  rw [block_setCell h]; simp
theorem row_cell {w : World} {b : Nat} {L : List Value} {T : TypeId} (h : w.heap[b]? = some (.cells L.toArray T (0, 0))) (j : Nat) (v : Value) (hj : L[j]? = some v) : w.cell? ⟨b, j, none⟩ = some v := by
  rw [cell_of_block h]; simpa using hj
theorem get_mid (a b : List Value) (x : Value) (n : Nat) (h : a.length = n) : (a ++ x :: b)[n]? = some x := by
  subst h
  simp
/-- A row of m zeros behind what is filled. -/
def zeros (z : List Value) (m : Nat) : List Value := (List.replicate m z).flatten
theorem zeros_succ (z : List Value) (m : Nat) : zeros z (m + 1) = z ++ zeros z m := by simp [zeros, List.replicate_succ]
theorem made_zeros (cs : List Value) (n : Nat) : madeCells cs.toArray (n * cs.length) = (zeros cs n).toArray := madeCells_rep cs n
theorem rds_blk {w : World} {g : Nat} {L : List Value} {T : TypeId} (h : w.heap[g]? = some (.cells L.toArray T (0, 0))) : Rds (fun b => b = g) w (some ⟨g, 0, none⟩) L := fun _ =>
  ⟨g, 0, rfl, rfl, lt_of_block h, fun j v hj => by rw [Nat.zero_add]; exact row_cell h j v hj⟩
theorem infoStored : (Tryz.prog.info? 94).map (fun i => (i.zero, i.size, i.bytes)) = some (some (.agg #[.int .i64 0, .slice none 0 0]), 2, 32) := by kernel_rfl
theorem infoSession : (Tryz.prog.info? 97).map (fun i => (i.zero, i.size, i.bytes)) = some (some (.agg #[.int .i64 0, .int .i64 0, .bool false]), 3, 24) := by kernel_rfl
theorem infoBase : (Tryz.prog.info? 27).map (fun i => (i.zero, i.size, i.bytes)) = some (some (.agg #[.int .i64 0, .slice none 0 0, .slice none 0 0]), 3, 56) := by kernel_rfl
theorem cells2 {w : World} {b : Nat} {v0 v1 : Value} {T : TypeId} (h : w.heap[b]? = some (.cells #[v0, v1] T (0, 0))) : w.cell? ⟨b, 0, none⟩ = some v0 ∧ w.cell? ⟨b, 1, none⟩ = some v1 := by
  simp [cell_of_block h]
theorem cells3 {w : World} {b : Nat} {v0 v1 v2 : Value} {T : TypeId} (h : w.heap[b]? = some (.cells #[v0, v1, v2] T (0, 0))) : w.cell? ⟨b, 0, none⟩ = some v0 ∧ w.cell? ⟨b, 1, none⟩ = some v1 ∧ w.cell? ⟨b, 2, none⟩ = some v2 := by
  simp [cell_of_block h]
def ToStPostW (id : Int) (l : List Nd) (w : World) (e : Ending) (w' : World) : Prop :=
  Below w.heap.size w w' ∧ ∃ A, e = .returned (.agg #[.int .i64 id, .slice A l.length l.length]) ∧ Own (fun b => w.heap.size ≤ b) w' 100 A (ndCells l)
def ToStPost (id : Int) (l : List Nd) (w : World) (e : Ending) (w' : World) : Prop :=
  Below w.heap.size w w' ∧ ∃ A, e = .returned (.agg #[.int .i64 id, .slice A l.length l.length]) ∧ Rds (fun b => w.heap.size ≤ b) w' A (ndCells l)
def StFreshW (ds : List StV) (w : World) (e : Ending) (w' : World) : Prop :=
  Below w.heap.size w w' ∧ ∃ A, e = .returned (.slice A ds.length ds.length) ∧ StW (fun b => w.heap.size ≤ b) w' A ds
def StFresh (ds : List StV) (w : World) (e : Ending) (w' : World) : Prop :=
  Below w.heap.size w w' ∧ ∃ A, e = .returned (.slice A ds.length ds.length) ∧ StAt (fun b => w.heap.size ≤ b) w' A ds
theorem stCells_length (l : List StR) : (stCells l).length = l.length * 2 := flat_len StR.cells 2 (fun _ => rfl) l
theorem ssCells_length (l : List SsV) : (ssCells l).length = l.length * 3 := flat_len SsV.cells 3 (fun _ => rfl) l
end Go.Proofs.YtemcijhpmpdebaaGreatDoor
