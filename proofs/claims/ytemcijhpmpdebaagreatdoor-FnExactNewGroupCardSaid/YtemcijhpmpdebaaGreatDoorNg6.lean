/- The reference's NewGroup. -/
import Derived.Test.YtemcijhpmpdebaaGreatDoorNg5
namespace Go.Proofs.YtemcijhpmpdebaaGreatDoor
open Go.RowKit
/-- append of a row that is read, as one step of a region that draws its order. -/
theorem step_rows2 {P : Program} {ops : Array Oper} {o : Oper} {a : Act} {W : World} {K : Act → World → Prop} {Q : Exit → Act → World → Prop} {E : Prop} (base : Nat) (hgd : o.guard = none) (s x : Operand) (t e : TypeId) (z : Value) (size bytes : Nat)
    (ho : o.op = .call { callee := .builtin .append, args := #[s, x], argTypes := #[t, t] }) (ht : P.underlying t = some (.slice e)) (hinfo : (P.info? e).map (fun i => (i.zero, i.size, i.bytes)) = some (some z, size, bytes)) (hz : z.cells.size = size) (hs0 : 0 < size)
    (v : Value) (n : Nat) (xs : List Value) (hs : a.eval s = v) (HO : W.ownsRow base e size v n xs) {F : Nat → Prop} (A : Option Addr) (m c : Nat) (news : List Value) (hx : a.eval x = .slice A m c) (hl : news.length = m * size) (hr : Rds F W A news) (h1 : ∀ u ∈ news, u.oneCell' = true)
    (hm : n + m ≤ maxLen) (hb : (n + m) * bytes ≤ 140737488355328) (hbase : base ≤ W.heap.size)
    (h : ∀ A1 c1 w1, n + m ≤ c1 → w1.ownsRow base e size (.slice A1 (n + m) c1) (n + m) (xs ++ news) → W.grownBy w1 v.ownBlock → K (a.put o.dst (.slice A1 (n + m) c1)) w1) :
    if Region.wanted o (yielded ops a.tmps) = true then Oper.wp P o a W K Q else E := by
  have hw : Region.wanted o (yielded ops a.tmps) = true := by simp [Region.wanted, hgd]
  rw [if_pos hw]
  obtain ⟨v', w', hrun, h2, h3, _⟩ := append_run (P := P) base t o.type e z size bytes ht hinfo hz hs0 v n xs HO A m c news hl hr h1 hm hb hbase
  unfold Oper.wp execOp
  simp only [ho, resolve, invoke, builtin, Sem.run_bind, Sem.run_pure, Result.andThen_ok, List.map_toArray, List.map_cons, List.map_nil, hs, hx, hrun]
  obtain ⟨A1, c1, rfl, hc1⟩ := own_slice h2
  exact h A1 c1 w' hc1 h2 h3
/-- A row that is appended to in a group's field. -/
structure RowI {α : Type} (T : TypeId) (s : Nat) (cells : α → List Value) (subs : α → List (TypeId × Option Addr × List Value)) (L B g f : Nat) (cs : Array Value) (i : Nat) (l : List α) (A1 : Option Addr) (c1 : Nat) (w0 w : World) : Prop where
  len : l.length = i
  grp : w.heap[g]? = some (.cells (cs.setIfInBounds f (.slice A1 i c1)) 40 (0, 0))
  row : w.ownsRow B T s (.slice A1 i c1) i (l.flatMap cells)
  sub : ∀ a ∈ l, ∀ t ∈ subs a, t.1 ≠ T ∧ Own (fun b => B ≤ b) w t.1 t.2.1 t.2.2
  agr : Agree (fun b => b < B ∧ b ≠ g) w0 w
  bel : Below L w0 w
  lt : g < B
  sz : B ≤ w.heap.size
  lo : L ≤ g
theorem RowI.below {α : Type} {T : TypeId} {s : Nat} {cells : α → List Value} {subs : α → List (TypeId × Option Addr × List Value)} {L B g f : Nat} {cs : Array Value} {i : Nat} {l : List α} {A1 : Option Addr} {c1 : Nat} {w0 w w1 : World} (h : RowI T s cells subs L B g f cs i l A1 c1 w0 w) (hb : Below w.heap.size w w1) : RowI T s cells subs L B g f cs i l A1 c1 w0 w1 :=
  ⟨h.len, block_below h.grp hb, own_below h.row hb, fun a ha t ht => ⟨(h.sub a ha t ht).1, (h.sub a ha t ht).2.frame (Agree.of_below hb)⟩, h.agr.trans (Agree.of_below hb), h.bel.trans (hb.mono (by have := h.lo; have := h.lt; have := h.sz; omega)), h.lt, by have := h.sz; have := hb.size; omega, h.lo⟩
theorem RowI.step {α : Type} {T : TypeId} {s : Nat} {cells : α → List Value} {subs : α → List (TypeId × Option Addr × List Value)} {L B g f : Nat} {cs : Array Value} {i : Nat} {l : List α} {A1 A7 : Option Addr} {c1 c7 : Nat} {w0 w w6 w7 : World} {a : α} (h : RowI T s cells subs L B g f cs i l A1 c1 w0 w) (hb : Below w.heap.size w w6) (hnew : ∀ t ∈ subs a, t.1 ≠ T ∧ Own (fun b => B ≤ b) w6 t.1 t.2.1 t.2.2) (hg : w6.grownBy w7 (Value.slice A1 i c1).ownBlock) (ho : w7.ownsRow B T s (.slice A7 (i + 1) c7) (i + 1) (l.flatMap cells ++ cells a)) :
    RowI T s cells subs L B g f cs (i + 1) (l ++ [a]) A7 c7 w0 (w7.setCell ⟨g, f, none⟩ (.slice A7 (i + 1) c7)) := by
  have h6 := h.below hb
  have hgl := h.lt
  have hlo := h.lo
  have hown : ∀ k, (Value.slice A1 i c1).ownBlock = some k → B ≤ k := fun k hk => (own_base h.row k hk).1
  have hs7 := hg.size
  have hs6 := hb.size
  have hsz := h.sz
  have hgrp := (hg.block g (by omega) (fun e => by have := hown g e.symm; omega)).trans h6.grp
  have hset : Agree (fun b => B ≤ b) w7 (w7.setCell ⟨g, f, none⟩ (.slice A7 (i + 1) c7)) := Agree.of_setCell w7 ⟨g, f, none⟩ _ (fun b hb e => by have h1 : B ≤ b := hb; have h2 : b = g := e; omega)
  refine ⟨by simp [h.len], ?_, ?_, ?_, ?_, ?_, hgl, by simp; omega, hlo⟩
  · have := block_setCell hgrp f (.slice A7 (i + 1) c7)
    rwa [Array.setIfInBounds_setIfInBounds] at this
  · rw [List.flatMap_append]
    simp only [List.flatMap_cons, List.flatMap_nil, List.append_nil]
    exact own_agree ho hset (fun k hk => (own_base ho k hk).1)
  · intro b hb' t ht
    rcases List.mem_append.1 hb' with hb' | hb'
    · exact ⟨(h6.sub b hb' t ht).1, (own_grown (h6.sub b hb' t ht).2 h6.row (h6.sub b hb' t ht).1.symm hg).frame hset⟩
    · simp at hb'
      subst hb'
      exact ⟨(hnew t ht).1, (own_grown (hnew t ht).2 h6.row (hnew t ht).1.symm hg).frame hset⟩
  · exact (h6.agr.trans (Agree.of_grown hg (fun b hb e => by have := hown b e; omega))).trans (Agree.of_setCell w7 ⟨g, f, none⟩ _ (fun b hb => hb.2))
  · exact (h6.bel.grown hg (by omega) (fun k hk => by have := hown k hk; omega)).setCell (p := ⟨g, f, none⟩) hlo _
def subP (n : Nat) (p : PlR) : List (TypeId × Option Addr × List Value) := [(128, p.av, zeros zVo n), (131, p.ak, zeros zAs 3)]
def subR (r : RpR) : List (TypeId × Option Addr × List Value) := [(9, r.adr, zeros zTx 12)]
/-- What the reference's NewGroup leaves. -/
def SNgP (ds : List OpD) (z : Int) (w : World) (e : Ending) (w' : World) : Prop :=
  Below w.heap.size w w' ∧ ((¬ OkG ds z ∧ e = .returned (.tuple #[.agg #[.slice none 0 0, .slice none 0 0, .slice none 0 0], .bool false])) ∨
    (OkG ds z ∧ ∃ (ps : List PlR) (rs : List RpR) (A1 A2 A3 : Option Addr) (c1 c2 c3 : Nat), ps.length = 12 ∧ rs.length = z.toNat ∧
      e = .returned (.tuple #[.agg #[.slice A1 ds.length c1, .slice A2 ps.length c2, .slice A3 rs.length c3], .bool true]) ∧ GrAt (fun b => w.heap.size ≤ b) w' A1 A2 A3 ds z.toNat ps rs))
end Go.Proofs.YtemcijhpmpdebaaGreatDoor
