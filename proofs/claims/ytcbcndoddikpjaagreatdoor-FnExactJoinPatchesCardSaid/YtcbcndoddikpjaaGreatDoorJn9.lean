/- (*val).value, (*val).told. -/
import Derived.Test.YtcbcndoddikpjaaGreatDoorJn8
import Derived.Test.YtcbcndoddikpjaaGreatDoorValOf
namespace Go.Proofs.YtcbcndoddikpjaaGreatDoor
open Go.RowKit
theorem results_row_one {P : Program} {fn : Func} {p u : Tmp} {ty : TypeId} (h : fn.results = #[.cell p ty, .tmp u]) (tmps : Array Value) (w : World) (g : Nat) (t : TypeId) (cs : Array Value) (fr : Nat × Nat) (d : TypeDesc)
    (hp : tmps.getD p undef = .pointer (some ⟨g, 0, none⟩)) (hg : w.heap[g]? = some (.cells cs t fr))
    (hu : P.underlying ty = some d) (hd : (match d with | .struct _ | .array _ _ => true | _ => false) = true) (hi : (P.info? ty).map (·.size) = some cs.size) :
    (results fn tmps).run P w = .ok (.tuple #[.agg cs, tmps.getD u undef]) w := by
  have hp' : tmps[p]?.getD undef = .pointer (some ⟨g, 0, none⟩) := by simpa using hp
  simp [results, h, hp', asAddr, run_loadVar_row w g t ty cs fr d hg hu hd hi]
theorem NdOwn.shape {l : List Nd} {w w' : World} {v : Value} (h : NdOwn l w v w') : ∃ A c, v = .slice A l.length c := by
  obtain ⟨_, A, c, e, _⟩ := h
  exact ⟨A, c, e⟩
/-- A row of nodes of the call's own, behind a cell that is set too. -/
theorem NdOwn.cell {l : List Nd} {w w1 w4 : World} {v : Value} (hb : Below w.heap.size w w1) (h : NdOwn l w1 v w4) {g : Nat} (hg1 : w.heap.size ≤ g) (hg2 : g < w1.heap.size) (u : Value) : NdOwn l w v (w4.setCell ⟨g, 0, none⟩ u) := by
  obtain ⟨h1, A, c, rfl, hc, h2, h3⟩ := h
  have ha : Agree (fun b => w1.heap.size ≤ b) w4 (w4.setCell ⟨g, 0, none⟩ u) := Agree.of_setCell _ _ _ (fun b hb e => by have hb' : w1.heap.size ≤ b := hb; have e' : b = g := e; omega)
  have hs := hb.size
  exact ⟨(below_then hb hs h1).setCell hg1 _, A, c, rfl, hc, (h2.frame ha).mono (fun b hb' _ => Nat.le_trans hs hb'), own_weaken (own_agree h3 ha (fun k hk => (own_base h3 k hk).1)) hs⟩
theorem NdOwn.nil {w w' : World} (hb : Below w.heap.size w w') : NdOwn [] w (.slice none 0 0) w' := ⟨hb, none, 0, rfl, Nat.le_refl _, Rds.nil _ _ _, World.ownsRow_nil _ _ _ _⟩
def ValuePost (t : Tree) (w : World) (e : Ending) (w' : World) : Prop := ∃ v, e = .returned (.agg #[v]) ∧ NdOwn (t.flat emptyB (-1) 0) w v w'
set_option maxRecDepth 100000 in
set_option maxHeartbeats 1600000 in
theorem value_any (t : Tree) (hsh : t.shaped) (hc : t.count ≤ 1000000000) (F : Nat → Prop) (v : Value) (w : World) (ht : TreeAt F w v t) :
    Calls Tryz.prog 51 #[v] w (ValuePost t w) := by
  have hb1 : Below w.heap.size w (w.alloc (.cells #[.slice none 0 0] 28 (0, 0))) := (Below.refl _ _).alloc (Nat.le_refl _) _
  have k1 := heap_alloc_new w (.cells #[.slice none 0 0] 28 (0, 0))
  have hs1 : (w.alloc (.cells #[.slice none 0 0] 28 (0, 0))).heap.size = w.heap.size + 1 := by simp
  have HN := Lib.hid (show Calls Tryz.prog 83 #[v, .slice none 0 0, .string ⟨#[]⟩, .int .i64 (-1)] (w.alloc (.cells #[.slice none 0 0] 28 (0, 0))) (NodesPost (w.heap.size + 1) (t.flat emptyB (-1) 0) (w.alloc (.cells #[.slice none 0 0] 28 (0, 0)))) from nodes_any t hsh (w.heap.size + 1) [] none 0 ⟨#[]⟩ (-1) (fun b => F b ∧ b < w.heap.size) v (w.alloc (.cells #[.slice none 0 0] 28 (0, 0))) (ht.frame (Agree.of_below hb1) (fun b h h' => ⟨h, h'⟩)) (fun b h => by have := h.2; omega) (by omega) (by simpa using hc) (World.ownsRow_nil _ _ _ _))
  obtain ⟨bx, _, _, _, _, _, rfl, _⟩ := ht.open
  have HB1 := Lib.hid hb1
  have HK1 := Lib.hid k1
  clear ht hb1 k1
  go_enter Tryz.func51, Tryz.ntmps51
  go_wp2_with fail
  generalize w.alloc (.cells #[.slice none 0 0] 28 (0, 0)) = w1 at HN HB1 HK1 hs1 ⊢
  refine HN.out.mono ?_
  rintro e w2 ⟨A, c, rfl, ho, hb2⟩
  have hb2' : Below w1.heap.size w1 w2 := by rw [hs1]; exact hb2
  have K1 := block_below HK1.out hb2'
  have x1 := cell_of_block K1 0
  have f1 := free_of_block K1 0
  simp at x1
  have HK2 := Lib.hid K1
  have HO := Lib.hid (show NdOwn (t.flat emptyB (-1) 0) w1 (.slice A (t.flat emptyB (-1) 0).length c) w2 from by
    have ho' := ho
    rw [← hs1] at ho'
    obtain ⟨A', c', e, hc'⟩ := own_slice ho'
    injection e with _ _ e3
    exact ⟨hb2', A, c, rfl, by omega, Rds.of_own ho', ho'⟩)
  clear ho hb2 hb2' K1 HN
  go_wp2
  refine bodyPost_ret (results_cell_row rfl _ _ w.heap.size _ _ _ _ rfl (block_setCell HK2.out _ _) Tryz.underlying28 rfl ((info_size infoValue).trans (by simp))) rfl ?_
  exact ⟨_, rfl, NdOwn.cell HB1.out HO.out (Nat.le_refl _) (by omega) _⟩
/-- What a tree is told as. -/
def Told (o : Option Tree) (l : List Nd) (f : Bool) : Prop := (f = true ∧ ∃ t, o = some t ∧ t.good = true ∧ l = t.flat emptyB (-1) 0) ∨ (f = false ∧ l = [] ∧ goodO o = false)
def ToldPost (o : Option Tree) (w : World) (e : Ending) (w' : World) : Prop := ∃ l v f, e = .returned (.tuple #[.agg #[v], .bool f]) ∧ Told o l f ∧ NdOwn l w v w'
set_option maxRecDepth 100000 in
set_option maxHeartbeats 1600000 in
theorem told_any (o : Option Tree) (ho : ∀ t, o = some t → t.shaped ∧ t.sized ∧ t.count ≤ 1000000000) (F : Nat → Prop) (v : Value) (w : World) (ht : OptAt F w v o) (htab : Tabs w.heap.size w) :
    Calls Tryz.prog 25 #[v] w (ToldPost o w) := by
  have hb1 : Below w.heap.size w (w.alloc (.cells #[.slice none 0 0] 28 (0, 0))) := (Below.refl _ _).alloc (Nat.le_refl _) _
  have k1 := heap_alloc_new w (.cells #[.slice none 0 0] 28 (0, 0))
  have hs1 : (w.alloc (.cells #[.slice none 0 0] 28 (0, 0))).heap.size = w.heap.size + 1 := by simp
  have hot : OptAt F (w.alloc (.cells #[.slice none 0 0] 28 (0, 0))) v o := by
    cases o with
    | none => exact ht
    | some t => exact TreeAt.below ht hb1
  have HG := Lib.hid (good_any o F v _ ho hot ((htab.below hb1).mono hb1.size))
  have HOT := Lib.hid hot
  have HS := Lib.hid ho
  have hv : ∃ a, v = .pointer a := by
    cases o with
    | none => exact ⟨none, ht⟩
    | some t => obtain ⟨bx, _, _, _, _, _, e, _⟩ := TreeAt.open (show TreeAt F w v t from ht); exact ⟨_, e⟩
  obtain ⟨va, rfl⟩ := hv
  have HB1 := Lib.hid hb1
  have HK1 := Lib.hid k1
  clear ht hb1 k1 hot ho htab
  go_enter Tryz.func25, Tryz.ntmps25
  go_wp2_with fail
  generalize w.alloc (.cells #[.slice none 0 0] 28 (0, 0)) = w1 at HG HB1 HK1 HOT hs1 ⊢
  refine HG.out.mono ?_
  rintro e w2 ⟨rfl, hb2⟩
  have HB2 := Lib.hid (below_then HB1.out HB1.out.size hb2)
  have hs2 := hb2.size
  have K1 := block_below HK1.out hb2
  have x1 := cell_of_block K1 0
  have f1 := free_of_block K1 0
  simp at x1
  have HK2 := Lib.hid K1
  have HBB := Lib.hid hb2
  clear hb2 K1 HG
  cases hg : goodO o
  · have HGF := Lib.hid hg
    clear hg
    go_wp2
    refine bodyPost_ret (results_row_one rfl _ _ w.heap.size _ _ _ _ rfl (block_setCell HK2.out _ _) Tryz.underlying28 rfl ((info_size infoValue).trans (by simp))) rfl ?_
    exact ⟨[], _, false, rfl, .inr ⟨rfl, rfl, HGF.out⟩, NdOwn.nil (HB2.out.setCell (p := ⟨w.heap.size, 0, none⟩) (Nat.le_refl _) _)⟩
  · obtain ⟨t, rfl⟩ : ∃ t, o = some t := by
      cases o with
      | none => cases hg
      | some t => exact ⟨t, rfl⟩
    have HGT := Lib.hid (show t.good = true from hg)
    obtain ⟨h1, h2, h3⟩ := HS.out t rfl
    have HV := Lib.hid (value_any t h1 h3 F (.pointer va) w2 (TreeAt.below (show TreeAt F w1 (.pointer va) t from HOT.out) HBB.out))
    clear hg h1 h2
    go_wp2_with fail
    refine HV.out.mono ?_
    rintro e w3 ⟨u, rfl, hown⟩
    obtain ⟨A4, c4, rfl⟩ := hown.shape
    have K3 := block_below HK2.out hown.1
    have x3 := cell_of_block K3 0
    have f3 := free_of_block K3 0
    simp at x3
    have HK3 := Lib.hid K3
    have HO := Lib.hid hown
    clear hown K3 x1 f1
    go_wp2
    refine bodyPost_ret (results_row_one rfl _ _ w.heap.size _ _ _ _ rfl (block_setCell HK3.out _ _) Tryz.underlying28 rfl ((info_size infoValue).trans (by simp))) rfl ?_
    exact ⟨_, _, true, rfl, .inl ⟨rfl, t, rfl, HGT.out, rfl⟩, NdOwn.cell HB2.out HO.out (Nat.le_refl _) (by omega) _⟩
end Go.Proofs.YtcbcndoddikpjaaGreatDoor
