/- A tree behind a patch: plain words. -/
import Derived.Test.YtcbcndoddikpjaaGreatDoorJn1
import Derived.Test.YtcbcndoddikpjaaGreatDoorVal2
namespace Go.Proofs.YtcbcndoddikpjaaGreatDoor
def nullT : Tree := .mk 1 0 emptyB [] []
/-- A row without what stands at a place. -/
def del {α : Type} (i : Nat) (l : List α) : List α := l.take i ++ l.drop (i + 1)
theorem del_length {α : Type} (i : Nat) (l : List α) (h : i < l.length) : (del i l).length + 1 = l.length := by
  simp [del]; omega
theorem del_sorted : ∀ (i : Nat) (ns : List ByteArray), sortedB ns = true → sortedB (del i ns) = true
  | 0, [], _ => rfl
  | 0, a :: r, h => by simpa [del] using sortedB_tail h
  | i + 1, [], _ => rfl
  | i + 1, a :: r, h => by
    have ih := del_sorted i r (sortedB_tail h)
    have e : del (i + 1) (a :: r) = a :: del i r := by simp [del]
    rw [e]
    refine sortedB_cons ih fun x hx => sortedB_head h x ?_
    rw [del] at hx
    rcases List.mem_append.1 hx with hx | hx
    · exact List.mem_of_mem_take hx
    · exact List.mem_of_mem_drop hx
theorem MapOK.del {ns : List ByteArray} {ks : List Tree} (h : MapOK ns ks) (i : Nat) (hi : i < ks.length) : MapOK (del i ns) (del i ks) := by
  have h1 := del_length i ns (by rw [h.len]; exact hi)
  have h2 := del_length i ks hi
  refine ⟨by have := h.len; omega, ?_, del_sorted i ns h.sorted, ?_⟩
  · have := h.str
    rw [List.all_eq_true] at this ⊢
    intro y hy
    rcases List.mem_append.1 hy with hy | hy
    · exact this y (List.mem_of_mem_take hy)
    · exact this y (List.mem_of_mem_drop hy)
  · have := (okL_iff ks).1 h.ok
    refine (okL_iff _).2 fun y hy => ?_
    rcases List.mem_append.1 hy with hy | hy
    · exact this y (List.mem_of_mem_take hy)
    · exact this y (List.mem_of_mem_drop hy)
theorem countL_del (i : Nat) (l : List Tree) : Tree.countL (del i l) ≤ Tree.countL l := by
  rw [del, Tree.countL_append, countL_take_drop l i]
  have : Tree.countL (l.drop (i + 1)) ≤ Tree.countL (l.drop i) := by
    rw [countL_take_drop (l.drop i) 1, List.drop_drop]
    omega
  omega
mutual
/-- A tree behind a patch. -/
def Tree.patch : Tree → Tree → Tree
  | v, .mk k n t ns ks => if k = 7 then (if v.kind = 7 then Tree.patchL v.names v.kids ns ks else Tree.patchL [] [] ns ks) else .mk k n t ns ks
def Tree.patchL : List ByteArray → List Tree → List ByteArray → List Tree → Tree
  | pn, pk, nm :: ns, x :: ks =>
    if pn[insPos pn nm]? = some nm then
      if x.kind = 1 then Tree.patchL (del (insPos pn nm) pn) (del (insPos pn nm) pk) ns ks
      else match pk[insPos pn nm]? with
        | some y => Tree.patchL pn (pk.set (insPos pn nm) (Tree.patch y x)) ns ks
        | none => .mk 7 0 emptyB pn pk
    else if x.kind = 1 then Tree.patchL pn pk ns ks
    else Tree.patchL (ins (insPos pn nm) nm pn) (ins (insPos pn nm) (Tree.patch nullT x) pk) ns ks
  | pn, pk, _, _ => .mk 7 0 emptyB pn pk
end
theorem patch_eq (v p : Tree) : Tree.patch v p = if p.kind = 7 then (if v.kind = 7 then Tree.patchL v.names v.kids p.names p.kids else Tree.patchL [] [] p.names p.kids) else p := by
  cases p
  rw [Tree.patch]
  rfl
theorem patch_step {pn : List ByteArray} {pk : List Tree} {ns : List ByteArray} {ks : List Tree} {i : Nat} {nm : ByteArray} {x : Tree} (hn : ns[i]? = some nm) (hk : ks[i]? = some x) :
    Tree.patchL pn pk (ns.drop i) (ks.drop i) = if pn[insPos pn nm]? = some nm then
      if x.kind = 1 then Tree.patchL (del (insPos pn nm) pn) (del (insPos pn nm) pk) (ns.drop (i + 1)) (ks.drop (i + 1))
      else match pk[insPos pn nm]? with
        | some y => Tree.patchL pn (pk.set (insPos pn nm) (Tree.patch y x)) (ns.drop (i + 1)) (ks.drop (i + 1))
        | none => .mk 7 0 emptyB pn pk
    else if x.kind = 1 then Tree.patchL pn pk (ns.drop (i + 1)) (ks.drop (i + 1))
    else Tree.patchL (ins (insPos pn nm) nm pn) (ins (insPos pn nm) (Tree.patch nullT x) pk) (ns.drop (i + 1)) (ks.drop (i + 1)) := by
  obtain ⟨h1, e1⟩ := List.getElem?_eq_some_iff.1 hn
  obtain ⟨h2, e2⟩ := List.getElem?_eq_some_iff.1 hk
  rw [List.drop_eq_getElem_cons h1, List.drop_eq_getElem_cons h2, e1, e2, Tree.patchL]
theorem patch_end {pn : List ByteArray} {pk : List Tree} {ns : List ByteArray} {ks : List Tree} {i : Nat} (h : ns.length ≤ i) : Tree.patchL pn pk (ns.drop i) (ks.drop i) = .mk 7 0 emptyB pn pk := by
  rw [List.drop_eq_nil_of_le h]
  cases ks.drop i <;> rw [Tree.patchL] <;> simp
theorem MapOK.nil : MapOK [] [] := ⟨rfl, rfl, rfl, rfl⟩
theorem null_ok : nullT.ok = true := by
  have h1 : strOK emptyB = true := by decide
  have h2 : emptyB.toList.isEmpty = true := by rw [ByteArray.toList_eq]; rfl
  have h3 : numOK 0 = true := by decide
  simp [nullT, Tree.ok, Tree.okL, h1, h2, h3]
theorem null_count : nullT.count = 1 := rfl
def PatchOK (p : Tree) : Prop := ∀ v, v.ok = true → p.ok = true → (Tree.patch v p).ok = true ∧ (Tree.patch v p).count + 1 ≤ v.count + 2 * p.count
theorem patchL_ok (ks : List Tree) (ih : ∀ x ∈ ks, PatchOK x) : ∀ (ns pn : List ByteArray) (pk : List Tree), MapOK pn pk → (∀ s ∈ ns, strOK s = true) → Tree.okL ks = true → (Tree.patchL pn pk ns ks).ok = true ∧ (Tree.patchL pn pk ns ks).count ≤ 1 + Tree.countL pk + 2 * Tree.countL ks := by
  induction ks with
  | nil =>
    intro ns pn pk hm hs hk
    cases ns <;> (simp [Tree.patchL, hm.tree, Tree.count])
  | cons x ks ihk =>
    intro ns pn pk hm hs hk
    cases ns with
    | nil => simp [Tree.patchL, hm.tree, Tree.count]
    | cons nm ns =>
      simp [Tree.okL] at hk
      have hrec := ihk (fun y hy => ih y (List.mem_cons_of_mem _ hy)) ns
      have hs' : ∀ s ∈ ns, strOK s = true := fun s h => hs s (List.mem_cons_of_mem _ h)
      rw [Tree.patchL]
      simp only [Tree.countL]
      split
      · next hf =>
        have hlt : insPos pn nm < pk.length := by
          have := (List.getElem?_eq_some_iff.1 hf).1
          have := hm.len
          omega
        split
        · obtain ⟨h1, h2⟩ := hrec _ _ (hm.del _ hlt) hs' hk.2
          have := countL_del (insPos pn nm) pk
          exact ⟨h1, by omega⟩
        · have hy : pk[insPos pn nm]? = some (pk[insPos pn nm]'hlt) := by simp [hlt]
          generalize pk[insPos pn nm]'hlt = y at hy
          rw [hy]
          simp only
          have hyo : y.ok = true := (okL_iff pk).1 hm.ok y (List.mem_of_getElem? hy)
          obtain ⟨hzo, hzc⟩ := ih x (by simp) y hyo hk.1
          obtain ⟨h1, h2⟩ := hrec pn _ (hm.set _ hzo) hs' hk.2
          have := countL_set pk _ (Tree.patch y x) y hy
          exact ⟨h1, by omega⟩
      · next hf =>
        split
        · obtain ⟨h1, h2⟩ := hrec _ _ hm hs' hk.2
          exact ⟨h1, by omega⟩
        · obtain ⟨hzo, hzc⟩ := ih x (by simp) nullT null_ok hk.1
          obtain ⟨h1, h2⟩ := hrec _ _ (hm.ins hf (hs nm (by simp)) hzo) hs' hk.2
          rw [countL_ins] at h2
          have := null_count
          exact ⟨h1, by omega⟩
theorem patch_ok : ∀ p, PatchOK p := Tree.ind fun p ih v hv hp => by
  rw [patch_eq]
  have hvc := v.count_eq
  have hpc := p.count_eq
  split
  · next hk =>
    have hm := Tree.ok_map hp hk
    have hs : ∀ s ∈ p.names, strOK s = true := by simpa using hm.str
    split
    · next hvk =>
      obtain ⟨h1, h2⟩ := patchL_ok p.kids ih p.names v.names v.kids (Tree.ok_map hv hvk) hs hm.ok
      exact ⟨h1, by omega⟩
    · obtain ⟨h1, h2⟩ := patchL_ok p.kids ih p.names [] [] MapOK.nil hs hm.ok
      simp only [Tree.countL] at h2
      exact ⟨h1, by omega⟩
  · exact ⟨hp, by omega⟩
open Go.RowKit
def NullPost (w : World) (e : Ending) (w' : World) : Prop := ∃ rv, e = .returned rv ∧ Below w.heap.size w w' ∧ TreeAt (fun b => w.heap.size ≤ b) w' rv nullT
set_option maxRecDepth 100000 in
theorem null_any (w : World) : Calls Tryz.prog 57 #[] w (NullPost w) := by
  have k1 := heap_alloc_new w (.cells #[.int .i64 1, .int .i64 0, .string ⟨#[]⟩, .slice none 0 0, .slice none 0 0] 74 (0, 0))
  have hb1 : Below w.heap.size w (w.alloc (.cells #[.int .i64 1, .int .i64 0, .string ⟨#[]⟩, .slice none 0 0, .slice none 0 0] 74 (0, 0))) := (Below.refl _ _).alloc (Nat.le_refl _) _
  have HK := Lib.hid k1
  have HB := Lib.hid hb1
  clear k1 hb1
  go_enter Tryz.func57, Tryz.ntmps57
  go_wp2
  go_ret
  refine ⟨_, rfl, HB.out, ?_⟩
  unfold nullT
  simp only [TreeAt]
  have hc : ∀ j, _ = _ := cell_of_block HK.out
  exact ⟨w.heap.size, none, 0, none, 0, [], rfl, Nat.le_refl _, lt_of_block HK.out, by rw [hc]; rfl, by rw [hc]; rfl, by rw [hc]; rfl, by rw [hc]; rfl, Nat.le_refl _, Rds.nil _ _ _, by rw [hc]; rfl, Nat.le_refl _, Rds.nil _ _ _, by simp [TreesAt]⟩
end Go.Proofs.YtcbcndoddikpjaaGreatDoor
