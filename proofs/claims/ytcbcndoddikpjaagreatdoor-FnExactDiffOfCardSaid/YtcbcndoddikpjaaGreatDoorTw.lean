/- The laws of functions of two values: what is known of the memory. -/
import Derived.Test.YtcbcndoddikpjaaGreatDoorJn10
import Derived.Test.YtcbcndoddikpjaaGreatDoorMark2
namespace Go.Proofs.YtcbcndoddikpjaaGreatDoor
open Go.RowKit
theorem tw_drew {w w1 : World} (h : Below w.drew.heap.size w.drew w1) : Below w.heap.size w w1 := below_then (Below.refl _ _).drew (Nat.le_refl _) h
theorem Rds.any {w : World} {A : Option Addr} {vs : List Value} (h : ∃ F, Rds F w A vs) : Rds (fun _ => True) w A vs := by
  obtain ⟨F, h⟩ := h
  exact h.mono (fun _ _ _ => trivial)
/-- The memory behind 'a, b := f(toValue(aP), toValue(aQ))'. -/
def TCut (op : Tree → Tree → Option Tree) (lp lq : List Nd) (w3 : World) (v6 v7 : Value) (wx : World) : Prop :=
  ∃ iw Aw cw l f, v6 = .pointer (some ⟨iw, 0, none⟩) ∧ v7 = .bool f ∧ TwoRes op lp lq l f ∧ w3.heap.size ≤ iw ∧ wx.heap[iw]? = some (.cells #[.slice Aw l.length cw] 28 (0, 0)) ∧ Rds (fun _ => True) wx Aw (ndCells l) ∧ Below w3.heap.size w3 wx
section
variable {op : Tree → Tree → Option Tree} {lp lq l : List Nd} {f : Bool} {w3 w6 : World} {Aw : Option Addr} {cw g N : Nat}
theorem tw_late (hb : Below w3.heap.size w3 w6) (hres : TwoRes op lp lq l f) (hr : Rds (fun b => N ≤ b) w6 Aw (ndCells l)) :
    TCut op lp lq w3 (.pointer (some ⟨w6.heap.size, 0, none⟩)) (.bool f) (w6.alloc (.cells #[.slice Aw l.length cw] 28 (0, 0))) :=
  ⟨w6.heap.size, Aw, cw, l, f, rfl, rfl, hres, hb.size, heap_alloc_new _ _, (hr.mono (fun _ _ _ => trivial)).frame (Agree.of_below ((Below.refl _ _).alloc (Nat.le_refl _) _)), hb.alloc hb.size _⟩
theorem tw_early (hz : w6.heap[g]? = some (.cells #[.slice none 0 0] 28 (0, 0))) (hb : Below w3.heap.size w3 w6) (hg : w3.heap.size ≤ g) (hres : TwoRes op lp lq l f) (hr : Rds (fun b => N ≤ b) w6 Aw (ndCells l)) (hN : g < N) :
    TCut op lp lq w3 (.pointer (some ⟨g, 0, none⟩)) (.bool f) (w6.setCell ⟨g, 0, none⟩ (.slice Aw l.length cw)) :=
  ⟨g, Aw, cw, l, f, rfl, rfl, hres, hg, block_setCell hz 0 _, (hr.frame (Agree.of_setCell _ _ _ (fun b h e => by have h' : N ≤ b := h; have e' : b = g := e; omega))).mono (fun _ _ _ => trivial), hb.setCell hg _⟩
theorem TwoRes.len (h : TwoRes op lp lq l f) : l.length ≤ 80 := by
  rcases h with ⟨_, tp, tq, t, _, _, _, hg, rfl⟩ | ⟨_, rfl, _⟩
  · rw [Tree.flat_length]
    unfold Tree.good at hg
    simp only [Bool.and_eq_true, decide_eq_true_eq] at hg
    exact hg.1.1.2
  · simp
end
/-- What the law's walk knows of its memory: the arguments, what the reference told, the program's arguments, what the program told. -/
structure TwM (l lx ly lg : List Nd) (s b0 b1 b2 iw ix iy ig : Nat) (Aw Ax Ay Ag : Option Addr) (cw cx cy cg : Nat) (P Q : Value) (w W : World) : Prop where
  ka : W.heap[s]? = some (.cells #[P] 24 (0, 0))
  kb : W.heap[s + 1]? = some (.cells #[Q] 24 (0, 0))
  kw : W.heap[iw]? = some (.cells #[.slice Aw l.length cw] 28 (0, 0))
  kx : W.heap[ix]? = some (.cells #[.slice Ax lx.length cx] 28 (0, 0))
  ky : W.heap[iy]? = some (.cells #[.slice Ay ly.length cy] 28 (0, 0))
  kg : W.heap[ig]? = some (.cells #[.slice Ag lg.length cg] 28 (0, 0))
  rw : Rds (fun b => b < b0) W Aw (ndCells l)
  rx : Own (fun b => b0 ≤ b ∧ b < b1) W 63 Ax (ndCells lx)
  ry : Own (fun b => b1 ≤ b ∧ b < b2) W 63 Ay (ndCells ly)
  rg : Own (fun b => b2 ≤ b) W 63 Ag (ndCells lg)
  bel : Below w.heap.size w W
section
variable {l lx ly lg lx' : List Nd} {s b0 b1 b2 iw ix iy ig : Nat} {Aw Ax Ay Ag : Option Addr} {cw cx cy cg : Nat} {P Q : Value} {w W W' : World}
theorem TwM.below (h : TwM l lx ly lg s b0 b1 b2 iw ix iy ig Aw Ax Ay Ag cw cx cy cg P Q w W) (hb : Below W.heap.size W W') : TwM l lx ly lg s b0 b1 b2 iw ix iy ig Aw Ax Ay Ag cw cx cy cg P Q w W' :=
  ⟨block_below h.ka hb, block_below h.kb hb, block_below h.kw hb, block_below h.kx hb, block_below h.ky hb, block_below h.kg hb, h.rw.frame (Agree.of_below hb), h.rx.frame (Agree.of_below hb), h.ry.frame (Agree.of_below hb), h.rg.frame (Agree.of_below hb), below_then h.bel h.bel.size hb⟩
theorem TwM.mx (h : TwM l lx ly lg s b0 b1 b2 iw ix iy ig Aw Ax Ay Ag cw cx cy cg P Q w W) (hw : Wrote (fun T => T = 63) (fun b => b0 ≤ b ∧ b < b1) W W') (hl : lx'.length = lx.length) (ho : Own (fun b => b0 ≤ b ∧ b < b1) W' 63 Ax (ndCells lx')) (h0 : w.heap.size ≤ b0) (_h1 : b0 ≤ b1) (h2 : b1 ≤ b2) :
    TwM l lx' ly lg s b0 b1 b2 iw ix iy ig Aw Ax Ay Ag cw cx cy cg P Q w W' :=
  ⟨hw.other h.ka (by decide), hw.other h.kb (by decide), hw.other h.kw (by decide), by rw [hl]; exact hw.other h.kx (by decide), hw.other h.ky (by decide), hw.other h.kg (by decide), h.rw.frame (hw.agree fun b h3 h4 => by omega), ho, h.ry.frame (hw.agree fun b h3 h4 => by omega), h.rg.frame (hw.agree fun b h3 h4 => by omega), h.bel.trans (hw.bel _ h.bel.size fun b hb => by omega)⟩
theorem TwM.my (h : TwM l lx ly lg s b0 b1 b2 iw ix iy ig Aw Ax Ay Ag cw cx cy cg P Q w W) (hw : Wrote (fun T => T = 63) (fun b => b1 ≤ b ∧ b < b2) W W') (hl : lx'.length = ly.length) (ho : Own (fun b => b1 ≤ b ∧ b < b2) W' 63 Ay (ndCells lx')) (h0 : w.heap.size ≤ b0) (h1 : b0 ≤ b1) (_h2 : b1 ≤ b2) :
    TwM l lx lx' lg s b0 b1 b2 iw ix iy ig Aw Ax Ay Ag cw cx cy cg P Q w W' :=
  ⟨hw.other h.ka (by decide), hw.other h.kb (by decide), hw.other h.kw (by decide), hw.other h.kx (by decide), by rw [hl]; exact hw.other h.ky (by decide), hw.other h.kg (by decide), h.rw.frame (hw.agree fun b h3 h4 => by omega), h.rx.frame (hw.agree fun b h3 h4 => by omega), ho, h.rg.frame (hw.agree fun b h3 h4 => by omega), h.bel.trans (hw.bel _ h.bel.size fun b hb => by omega)⟩
theorem TwM.mg (h : TwM l lx ly lg s b0 b1 b2 iw ix iy ig Aw Ax Ay Ag cw cx cy cg P Q w W) (hw : Wrote (fun T => T = 63) (fun b => b2 ≤ b) W W') (hl : lx'.length = lg.length) (ho : Own (fun b => b2 ≤ b) W' 63 Ag (ndCells lx')) (h0 : w.heap.size ≤ b0) (h1 : b0 ≤ b1) (h2 : b1 ≤ b2) :
    TwM l lx ly lx' s b0 b1 b2 iw ix iy ig Aw Ax Ay Ag cw cx cy cg P Q w W' :=
  ⟨hw.other h.ka (by decide), hw.other h.kb (by decide), hw.other h.kw (by decide), hw.other h.kx (by decide), hw.other h.ky (by decide), by rw [hl]; exact hw.other h.kg (by decide), h.rw.frame (hw.agree fun b h3 h4 => by omega), h.rx.frame (hw.agree fun b h3 h4 => by omega), h.ry.frame (hw.agree fun b h3 h4 => by omega), ho, h.bel.trans (hw.bel _ h.bel.size fun b hb => by omega)⟩
end
end Go.Proofs.YtcbcndoddikpjaaGreatDoor
