/- NewGroup: a group while it is built. -/
import Derived.Test.YtemcijhpmpdebaaGreatDoorNg3
namespace Go.Proofs.YtemcijhpmpdebaaGreatDoor
open Go.RowKit
section
variable {F : Nat → Prop} {w w1 : World} {T e : TypeId} {A : Option Addr} {vs xs : List Value} {B s n : Nat} {v : Value}
theorem row_block (h : w.ownsRow B e s v n xs) {k : Nat} (hk : v.ownBlock = some k) : ∃ cs, w.heap[k]? = some (.cells cs e (0, 0)) := by
  rcases h.2 with ⟨rfl, _⟩ | ⟨g, cap, cur, rfl, _, hh, _⟩
  · simp [Value.ownBlock] at hk
  · have e1 : g = k := by simpa [Value.ownBlock] using hk
    subst e1
    exact ⟨_, hh⟩
theorem own_grown (h : Own F w T A vs) (ho : w.ownsRow B e s v n xs) (hne : e ≠ T) (hg : w.grownBy w1 v.ownBlock) : Own F w1 T A vs := by
  have hb : ∀ (g : Nat) (cs : Array Value), w.heap[g]? = some (.cells cs T (0, 0)) → w1.heap[g]? = some (.cells cs T (0, 0)) := fun g cs hh => by
    refine (hg.block g (lt_of_block hh) (fun e2 => ?_)).trans hh
    obtain ⟨cs2, h2⟩ := row_block ho e2.symm
    rw [hh] at h2
    injection h2 with h2
    injection h2 with _ h3
    exact hne h3.symm
  refine ⟨fun hv => ?_, fun hm => ?_⟩
  · obtain ⟨b, o, e1, hF, hl, hc⟩ := h.1 hv
    obtain ⟨g, o2, cs, e2, _, hh, _⟩ := h.2 (List.length_pos_iff.2 hv)
    rw [e1] at e2
    injection e2 with e2
    injection e2 with e3 e4
    subst e3 e4
    have hh1 := hb _ _ hh
    exact ⟨b, o, e1, hF, lt_of_block hh1, fun j u hj => by rw [cell_of_block hh1, ← cell_of_block hh]; exact hc j u hj⟩
  · obtain ⟨g, o, cs, e1, hF, hh, hs⟩ := h.2 hm
    exact ⟨g, o, cs, e1, hF, hb _ _ hh, hs⟩
theorem Fam.grown {l : List (Option Addr × List Value)} (h : Fam F w T l) (ho : w.ownsRow B e s v n xs) (hne : e ≠ T) (hg : w.grownBy w1 v.ownBlock) : Fam F w1 T l := ⟨fun r hr => own_grown (h.own r hr) ho hne hg, h.apart⟩
end
theorem alloc3_0 (w : World) (a b c : Obj) : (((w.alloc a).alloc b).alloc c).heap[w.heap.size]? = some a := by (repeat (first | with_reducible assumption | (with_reducible refine blk_new _ ?_; (first | rfl | (simp; done) | (simp; omega))) | with_reducible apply block_setCell | (with_reducible refine blk_skip _ _ ?_ ?_; rotate_left; (first | (simp; done) | (simp; omega))) | with_reducible refine blk_old ?_))
theorem alloc3_1 (w : World) (a b c : Obj) : (((w.alloc a).alloc b).alloc c).heap[w.heap.size + 1]? = some b := by (repeat (first | with_reducible assumption | (with_reducible refine blk_new _ ?_; (first | rfl | (simp; done) | (simp; omega))) | with_reducible apply block_setCell | (with_reducible refine blk_skip _ _ ?_ ?_; rotate_left; (first | (simp; done) | (simp; omega))) | with_reducible refine blk_old ?_))
theorem alloc3_2 (w : World) (a b c : Obj) : (((w.alloc a).alloc b).alloc c).heap[w.heap.size + 1 + 1]? = some c := by (repeat (first | with_reducible assumption | (with_reducible refine blk_new _ ?_; (first | rfl | (simp; done) | (simp; omega))) | with_reducible apply block_setCell | (with_reducible refine blk_skip _ _ ?_ ?_; rotate_left; (first | (simp; done) | (simp; omega))) | with_reducible refine blk_old ?_))
/-- A group's operations while they are taken over. -/
structure OpI (L B g : Nat) (x y : Value) (ds : List OpD) (i : Nat) (os : List OpR) (A1 : Option Addr) (c1 : Nat) (w0 w : World) : Prop where
  map : os.map OpR.d = ds.take i
  cap : ∀ r ∈ os, r.d.doc.length ≤ r.cap
  grp : w.heap[g]? = some (.cells #[.slice A1 i c1, x, y] 40 (0, 0))
  row : w.ownsRow B 57 5 (.slice A1 i c1) i (opCells os)
  docs : Fam (fun b => B ≤ b) w 100 (os.map fun r => (r.adr, ndCells r.d.doc))
  agr : Agree (fun b => b < B ∧ b ≠ g) w0 w
  bel : Below L w0 w
  lt : g < B
  sz : B ≤ w.heap.size
  lo : L ≤ g
theorem OpI.below {L B g : Nat} {x y : Value} {ds : List OpD} {i : Nat} {os : List OpR} {A1 : Option Addr} {c1 : Nat} {w0 w w1 : World} (h : OpI L B g x y ds i os A1 c1 w0 w) (hb : Below w.heap.size w w1) : OpI L B g x y ds i os A1 c1 w0 w1 :=
  ⟨h.map, h.cap, block_below h.grp hb, own_below h.row hb, h.docs.below hb, h.agr.trans (Agree.of_below hb), h.bel.trans (hb.mono (by have := h.lo; have := h.lt; have := h.sz; omega)), h.lt, by have := h.sz; have := hb.size; omega, h.lo⟩
theorem OpI.step {L B g : Nat} {x y : Value} {ds : List OpD} {i : Nat} {os : List OpR} {A1 A5 A7 : Option Addr} {c1 c5 c7 : Nat} {w0 w w6 w7 : World} {r : OpR} (h : OpI L B g x y ds i os A1 c1 w0 w) (hb : Below w.heap.size w w6) (hnew : Own (fun b => w.heap.size ≤ b) w6 100 A5 (ndCells r.d.doc)) (hx : ds[i]? = some r.d) (hc : r.d.doc.length ≤ c5) (hg : w6.grownBy w7 (Value.slice A1 i c1).ownBlock)
    (ho : w7.ownsRow B 57 5 (.slice A7 (i + 1) c7) (i + 1) (opCells os ++ [.int .i64 r.d.o.kind, .int .i64 r.d.o.id, .slice A5 r.d.doc.length c5, .int .i64 r.d.o.session, .int .i64 r.d.o.no])) :
    OpI L B g x y ds (i + 1) (os ++ [⟨r.d, A5, c5⟩]) A7 c7 w0 (w7.setCell ⟨g, 0, none⟩ (.slice A7 (i + 1) c7)) := by
  have h6 := h.below hb
  have hgl := h.lt
  have hlo := h.lo
  have hown : ∀ k, (Value.slice A1 i c1).ownBlock = some k → B ≤ k := fun k hk => (own_base h.row k hk).1
  have hs7 := hg.size
  have hs6 := hb.size
  have hsz := h.sz
  have hgrp : w7.heap[g]? = some (.cells #[.slice A1 i c1, x, y] 40 (0, 0)) := (hg.block g (by omega) (fun e => by have := hown g e.symm; omega)).trans h6.grp
  have hfam : Fam (fun b => B ≤ b) w6 100 ((os ++ [(⟨r.d, A5, c5⟩ : OpR)]).map fun r => (r.adr, ndCells r.d.doc)) := by
    rw [List.map_append]
    exact ((h.docs.mono (fun b hb hl => ⟨hb, hl⟩)).below hb).snoc (B := w.heap.size) (hnew.mono (fun b hb' _ => by have h' : w.heap.size ≤ b := hb'; exact ⟨by omega, h'⟩))
  refine ⟨?_, ?_, block_setCell hgrp 0 _, ?_, ?_, ?_, ?_, hgl, by simp; omega, hlo⟩
  · rw [List.map_append, h.map, List.take_add_one, hx]
    rfl
  · intro s hs
    rcases List.mem_append.1 hs with hs | hs
    · exact h.cap s hs
    · simp at hs
      subst hs
      exact hc
  · have e : opCells (os ++ [⟨r.d, A5, c5⟩]) = opCells os ++ [.int .i64 r.d.o.kind, .int .i64 r.d.o.id, .slice A5 r.d.doc.length c5, .int .i64 r.d.o.session, .int .i64 r.d.o.no] := by unfold opCells; rw [List.flatMap_append]; rfl
    rw [e]
    exact own_agree ho (Agree.of_setCell (F := fun b => B ≤ b) w7 ⟨g, 0, none⟩ _ (fun b hb e => by have h1 : B ≤ b := hb; have h2 : b = g := e; omega)) (fun k hk => (own_base ho k hk).1)
  · exact (hfam.grown h6.row (by decide) hg).frame (Agree.of_setCell (F := fun b => B ≤ b) w7 ⟨g, 0, none⟩ _ (fun b hb e => by have h1 : B ≤ b := hb; have h2 : b = g := e; omega))
  · exact (h6.agr.trans (Agree.of_grown hg (fun b hb e => by have := hown b e; omega))).trans (Agree.of_setCell w7 ⟨g, 0, none⟩ _ (fun b hb => hb.2))
  · exact (h6.bel.grown hg (by omega) (fun k hk => by have := hown k hk; omega)).setCell (p := ⟨g, 0, none⟩) hlo _
/-- Both guards of NewGroup. -/
def OkG (ds : List OpD) (z : Int) : Prop := (1 ≤ ds.length ∧ ds.length ≤ 9) ∧ (1 ≤ z ∧ z ≤ 5) ∧ ∀ d ∈ ds, fineD d
/-- What the program's NewGroup leaves. -/
def NgP (ds : List OpD) (z : Int) (w : World) (e : Ending) (w' : World) : Prop :=
  Below w.heap.size w w' ∧ ((¬ OkG ds z ∧ e = .returned (.tuple #[.agg #[.slice none 0 0, .slice none 0 0, .slice none 0 0], .bool false])) ∨
    (OkG ds z ∧ ∃ (os : List OpR) (ps : List PlR) (rs : List RpR) (A1 A2 A3 : Option Addr) (c1 c2 c3 : Nat), os.map OpR.d = ds ∧ (∀ r ∈ os, r.d.doc.length ≤ r.cap) ∧ ps.length = 12 ∧ rs.length = z.toNat ∧
      e = .returned (.tuple #[.agg #[.slice A1 os.length c1, .slice A2 ps.length c2, .slice A3 rs.length c3], .bool true]) ∧ GrF (fun b => w.heap.size ≤ b) w' A1 A2 A3 os z.toNat ps rs))
/-- A new group's block and rows. -/
structure NgR (L g n : Nat) (AP AR : Option Addr) (w : World) : Prop where
  grp : w.heap[g]? = some (.cells #[.slice none 0 0, .slice AP 12 12, .slice AR n n] 40 (0, 0))
  pls : Own (fun b => L ≤ b ∧ b ≠ g) w 77 AP (zeros zPl 12)
  rps : Own (fun b => L ≤ b ∧ b ≠ g) w 80 AR (zeros zRp n)
  lo : L ≤ g
/-- A group's places while they are laid. -/
structure PlI (L B n : Nat) (A2 : Option Addr) (i : Nat) (ps : List PlR) (w1 w : World) : Prop where
  len : ps.length = i
  top : Own (fun b => L ≤ b) w 77 A2 (ps.flatMap (plCells n) ++ zeros zPl (12 - i))
  vs : Fam (fun b => B ≤ b) w 128 (ps.map fun p => (p.av, zeros zVo n))
  ks : Fam (fun b => B ≤ b) w 131 (ps.map fun p => (p.ak, zeros zAs 3))
  wr : Wrote (fun t => t = 77) (fun b => L ≤ b) w1 w
  sz : B ≤ w.heap.size
theorem PlI.below {L B n : Nat} {A2 : Option Addr} {i : Nat} {ps : List PlR} {w1 w w2 : World} (h : PlI L B n A2 i ps w1 w) (hb : Below w.heap.size w w2) : PlI L B n A2 i ps w1 w2 :=
  ⟨h.len, h.top.frame (Agree.of_below hb), h.vs.below hb, h.ks.below hb, h.wr.then hb, by have := h.sz; have := hb.size; omega⟩
/-- A group's replicas while they are laid. -/
structure RpI (L B n : Nat) (A3 : Option Addr) (i : Nat) (rs : List RpR) (w1 w : World) : Prop where
  len : rs.length = i
  top : Own (fun b => L ≤ b) w 80 A3 (rs.flatMap rpCells ++ zeros zRp (n - i))
  ks : Fam (fun b => B ≤ b) w 9 (rs.map fun r => (r.adr, zeros zTx 12))
  wr : Wrote (fun t => t = 80) (fun b => L ≤ b) w1 w
  sz : B ≤ w.heap.size
theorem PlI.step {L B n gp op : Nat} {i : Nat} {ps : List PlR} {w1 w w6 : World} {p : PlR} (h : PlI L B n (some ⟨gp, op, none⟩) i ps w1 w) (hi : i < 12) (_hLB : L ≤ B) (hb : Below w.heap.size w w6) (hv : Own (fun b => w.heap.size ≤ b) w6 128 p.av (zeros zVo n)) (ha : Own (fun b => w.heap.size ≤ b) w6 131 p.ak (zeros zAs 3)) :
    PlI L B n (some ⟨gp, op, none⟩) (i + 1) (ps ++ [p]) w1 ((((w6.setCell ⟨gp, op + i * 4, none⟩ (.slice p.av n p.cv)).setCell ⟨gp, op + i * 4 + 1, none⟩ (.slice p.ak 3 p.ck)).setCell ⟨gp, op + i * 4 + 2, none⟩ (.slice none 0 0)).setCell ⟨gp, op + i * 4 + 3, none⟩ (.slice none 0 0)) := by
  have hsz := h.sz
  have hP : (ps.flatMap (plCells n)).length = i * 4 := by rw [plCells_length, h.len]
  have ho := h.top.frame (Agree.of_below hb)
  rw [show 12 - i = (12 - i - 1) + 1 by omega, zeros_succ] at ho
  have p0 := own_put ho hP 0 (by simp [zPl]) (.slice p.av n p.cv) (op + i * 4) (by omega)
  have p1 := own_put p0.1 hP 1 (by simp [zPl]) (.slice p.ak 3 p.ck) (op + i * 4 + 1) (by omega)
  have p2 := own_put p1.1 hP 2 (by simp [zPl]) (.slice none 0 0) (op + i * 4 + 2) (by omega)
  have p3 := own_put p2.1 hP 3 (by simp [zPl]) (.slice none 0 0) (op + i * 4 + 3) (by omega)
  have hw := ((p0.2.trans p1.2).trans p2.2).trans p3.2
  have hvs : Fam (fun b => B ≤ b) w6 128 ((ps ++ [p]).map fun p => (p.av, zeros zVo n)) := by
    rw [List.map_append]
    exact ((h.vs.mono (fun b hb hl => ⟨hb, hl⟩)).below hb).snoc (B := w.heap.size) (hv.mono (fun b hb' _ => by have h' : w.heap.size ≤ b := hb'; exact ⟨by omega, h'⟩))
  have hks : Fam (fun b => B ≤ b) w6 131 ((ps ++ [p]).map fun p => (p.ak, zeros zAs 3)) := by
    rw [List.map_append]
    exact ((h.ks.mono (fun b hb hl => ⟨hb, hl⟩)).below hb).snoc (B := w.heap.size) (ha.mono (fun b hb' _ => by have h' : w.heap.size ≤ b := hb'; exact ⟨by omega, h'⟩))
  refine ⟨by simp [h.len], ?_, hvs.other hw (by decide), hks.other hw (by decide), (h.wr.then hb).trans hw, by have := hb.size; have := hw.size; omega⟩
  have e : (ps ++ [p]).flatMap (plCells n) ++ zeros zPl (12 - (i + 1)) = ps.flatMap (plCells n) ++ ([.slice p.av n p.cv, .slice p.ak 3 p.ck, .slice none 0 0, .slice none 0 0] ++ zeros zPl (12 - i - 1)) := by
    rw [List.flatMap_append, List.append_assoc, show 12 - (i + 1) = 12 - i - 1 by omega]
    simp [plCells]
  rw [e]
  exact p3.1
theorem RpI.step {L B n gr oo : Nat} {i : Nat} {rs : List RpR} {w1 w W : World} {r : RpR} (h : RpI L B n (some ⟨gr, oo, none⟩) i rs w1 w) (hi : i < n) (hb : Below w.heap.size (w.setCell ⟨gr, oo + i * 7, none⟩ (.slice r.adr 12 r.cap)) W) (hv : Own (fun b => w.heap.size ≤ b) W 9 r.adr (zeros zTx 12)) :
    RpI L B n (some ⟨gr, oo, none⟩) (i + 1) (rs ++ [r]) w1 W := by
  have hsz := h.sz
  have hP : (rs.flatMap rpCells).length = i * 7 := by rw [rpCells_length, h.len]
  have ho := h.top
  rw [show n - i = (n - i - 1) + 1 by omega, zeros_succ] at ho
  have p0 := own_put ho hP 0 (by simp [zRp]) (.slice r.adr 12 r.cap) (oo + i * 7) (by omega)
  have hs0 : (w.setCell ⟨gr, oo + i * 7, none⟩ (.slice r.adr 12 r.cap)).heap.size = w.heap.size := by simp
  have hb' : Below (w.setCell ⟨gr, oo + i * 7, none⟩ (.slice r.adr 12 r.cap)).heap.size (w.setCell ⟨gr, oo + i * 7, none⟩ (.slice r.adr 12 r.cap)) W := by rw [hs0]; exact hb
  have hks : Fam (fun b => B ≤ b) W 9 ((rs ++ [r]).map fun r => (r.adr, zeros zTx 12)) := by
    rw [List.map_append]
    exact (((h.ks.mono (fun b hb hl => ⟨hb, hl⟩)).other p0.2 (by decide)).below hb').snoc (B := w.heap.size) (hv.mono (fun b hb' _ => by have h' : w.heap.size ≤ b := hb'; exact ⟨by omega, h'⟩))
  refine ⟨by simp [h.len], ?_, hks, (h.wr.trans p0.2).then hb', by have := hb'.size; have := p0.2.size; omega⟩
  have e : (rs ++ [r]).flatMap rpCells ++ zeros zRp (n - (i + 1)) = rs.flatMap rpCells ++ ([.slice r.adr 12 r.cap, .int .i64 0, .slice none 0 0, .slice none 0 0, .int .i64 0, .slice none 0 0, .slice none 0 0] ++ zeros zRp (n - i - 1)) := by
    rw [List.flatMap_append, List.append_assoc, show n - (i + 1) = n - i - 1 by omega]
    simp [rpCells]
  rw [e]
  exact p0.1.frame (Agree.of_below hb')
end Go.Proofs.YtemcijhpmpdebaaGreatDoor
