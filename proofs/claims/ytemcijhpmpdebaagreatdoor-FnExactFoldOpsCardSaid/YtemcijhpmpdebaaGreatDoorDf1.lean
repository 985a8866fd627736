/- A tree behind a patch: plain words. Finding a name among sorted names: cmp.Less, slices.BinarySearch at strings, (*val).at, (*val).place of a map. Trees compared, cleaned, and what differs as a patch: plain words. -/
import Derived.Test.YtemcijhpmpdebaaGreatDoorJn1
import Derived.Test.YtemcijhpmpdebaaGreatDoorVal2
import Derived.Test.YtemcijhpmpdebaaGreatDoorJn3
namespace Go.Proofs.YtemcijhpmpdebaaGreatDoor
def nullT : Tree := .mk 1 0 emptyB [] []
/-- A row without what stands at a place. -/
def del {α : Type} (i : Nat) (l : List α) : List α := l.take i ++ l.drop (i + 1)
theorem del_length {α : Type} (i : Nat) (l : List α) (h : i < l.length) : (del i l).length + 1 = l.length := by
  simp [del]; omega
theorem del_sorted : ∀ (i : Nat) (ns : List ByteArray), sortedB ns = true → sortedB (del i ns) = true
  | 0, [], _ => rfl
  | 0, a :: r, h => by simpa [del] using sortedB_tail h
  | i + 1, [], _ => rfl
  | i + 1, a :: r, h => by
    have ih := del_sorted i r (sortedB_tail h)
    have e : del (i + 1) (a :: r) = a :: del i r := by simp [del]
    rw [e]
    refine sortedB_cons ih fun x hx => sortedB_head h x ?_
    rw [del] at hx
    rcases List.mem_append.1 hx with hx | hx
    · exact List.mem_of_mem_take hx
    · exact List.mem_of_mem_drop hx
theorem MapOK.del {ns : List ByteArray} {ks : List Tree} (h : MapOK ns ks) (i : Nat) (hi : i < ks.length) : MapOK (del i ns) (del i ks) := by
  have h1 := del_length i ns (by rw [h.len]; exact hi)
  have h2 := del_length i ks hi
  refine ⟨by have := h.len; omega, ?_, del_sorted i ns h.sorted, ?_⟩
  · have := h.str
    rw [List.all_eq_true] at this ⊢
    intro y hy
    rcases List.mem_append.1 hy with hy | hy
    · exact this y (List.mem_of_mem_take hy)
    · exact this y (List.mem_of_mem_drop hy)
  · have := (okL_iff ks).1 h.ok
    refine (okL_iff _).2 fun y hy => ?_
    rcases List.mem_append.1 hy with hy | hy
    · exact this y (List.mem_of_mem_take hy)
    · exact this y (List.mem_of_mem_drop hy)
theorem countL_del (i : Nat) (l : List Tree) : Tree.countL (del i l) ≤ Tree.countL l := by
  rw [del, Tree.countL_append, countL_take_drop l i]
  have : Tree.countL (l.drop (i + 1)) ≤ Tree.countL (l.drop i) := by
    rw [countL_take_drop (l.drop i) 1, List.drop_drop]
    omega
  omega
mutual
/-- A tree behind a patch. -/
def Tree.patch : Tree → Tree → Tree
  | v, .mk k n t ns ks => if k = 7 then (if v.kind = 7 then Tree.patchL v.names v.kids ns ks else Tree.patchL [] [] ns ks) else .mk k n t ns ks
def Tree.patchL : List ByteArray → List Tree → List ByteArray → List Tree → Tree
  | pn, pk, nm :: ns, x :: ks =>
    if pn[insPos pn nm]? = some nm then
      if x.kind = 1 then Tree.patchL (del (insPos pn nm) pn) (del (insPos pn nm) pk) ns ks
      else match pk[insPos pn nm]? with
        | some y => Tree.patchL pn (pk.set (insPos pn nm) (Tree.patch y x)) ns ks
        | none => .mk 7 0 emptyB pn pk
    else if x.kind = 1 then Tree.patchL pn pk ns ks
    else Tree.patchL (ins (insPos pn nm) nm pn) (ins (insPos pn nm) (Tree.patch nullT x) pk) ns ks
  | pn, pk, _, _ => .mk 7 0 emptyB pn pk
end
theorem patch_eq (v p : Tree) : Tree.patch v p = if p.kind = 7 then (if v.kind = 7 then Tree.patchL v.names v.kids p.names p.kids else Tree.patchL [] [] p.names p.kids) else p := by
  cases p
  rw [Tree.patch]
  rfl
theorem patch_step {pn : List ByteArray} {pk : List Tree} {ns : List ByteArray} {ks : List Tree} {i : Nat} {nm : ByteArray} {x : Tree} (hn : ns[i]? = some nm) (hk : ks[i]? = some x) :
    Tree.patchL pn pk (ns.drop i) (ks.drop i) = if pn[insPos pn nm]? = some nm then
      if x.kind = 1 then Tree.patchL (del (insPos pn nm) pn) (del (insPos pn nm) pk) (ns.drop (i + 1)) (ks.drop (i + 1))
      else match pk[insPos pn nm]? with
        | some y => Tree.patchL pn (pk.set (insPos pn nm) (Tree.patch y x)) (ns.drop (i + 1)) (ks.drop (i + 1))
        | none => .mk 7 0 emptyB pn pk
    else if x.kind = 1 then Tree.patchL pn pk (ns.drop (i + 1)) (ks.drop (i + 1))
    else Tree.patchL (ins (insPos pn nm) nm pn) (ins (insPos pn nm) (Tree.patch nullT x) pk) (ns.drop (i + 1)) (ks.drop (i + 1)) := by
  obtain ⟨h1, e1⟩ := List.getElem?_eq_some_iff.1 hn
  obtain ⟨h2, e2⟩ := List.getElem?_eq_some_iff.1 hk
  rw [List.drop_eq_getElem_cons h1, List.drop_eq_getElem_cons h2, e1, e2, Tree.patchL]
theorem patch_end {pn : List ByteArray} {pk : List Tree} {ns : List ByteArray} {ks : List Tree} {i : Nat} (h : ns.length ≤ i) : Tree.patchL pn pk (ns.drop i) (ks.drop i) = .mk 7 0 emptyB pn pk := by
  rw [List.drop_eq_nil_of_le h]
  cases ks.drop i <;> rw [Tree.patchL] <;> simp
theorem MapOK.nil : MapOK [] [] := ⟨rfl, rfl, rfl, rfl⟩
theorem null_ok : nullT.ok = true := by
  have h1 : strOK emptyB = true := by decide
  have h2 : emptyB.toList.isEmpty = true := by rw [ByteArray.toList_eq]; rfl
  have h3 : numOK 0 = true := by decide
  simp [nullT, Tree.ok, Tree.okL, h1, h2, h3]
theorem null_count : nullT.count = 1 := rfl
def PatchOK (p : Tree) : Prop := ∀ v, v.ok = true → p.ok = true → (Tree.patch v p).ok = true ∧ (Tree.patch v p).count + 1 ≤ v.count + 2 * p.count
theorem patchL_ok (ks : List Tree) (ih : ∀ x ∈ ks, PatchOK x) : ∀ (ns pn : List ByteArray) (pk : List Tree), MapOK pn pk → (∀ s ∈ ns, strOK s = true) → Tree.okL ks = true → (Tree.patchL pn pk ns ks).ok = true ∧ (Tree.patchL pn pk ns ks).count ≤ 1 + Tree.countL pk + 2 * Tree.countL ks := by
  induction ks with
  | nil =>
    intro ns pn pk hm hs hk
    cases ns <;> (simp [Tree.patchL, hm.tree, Tree.count])
  | cons x ks ihk =>
    intro ns pn pk hm hs hk
    cases ns with
    | nil => simp [Tree.patchL, hm.tree, Tree.count]
    | cons nm ns =>
      simp [Tree.okL] at hk
      have hrec := ihk (fun y hy => ih y (List.mem_cons_of_mem _ hy)) ns
      have hs' : ∀ s ∈ ns, strOK s = true := fun s h => hs s (List.mem_cons_of_mem _ h)
      rw [Tree.patchL]
      simp only [Tree.countL]
      split
      · next hf =>
        have hlt : insPos pn nm < pk.length := by
          have := (List.getElem?_eq_some_iff.1 hf).1
          have := hm.len
          omega
        split
        · obtain ⟨h1, h2⟩ := hrec _ _ (hm.del _ hlt) hs' hk.2
          have := countL_del (insPos pn nm) pk
          exact ⟨h1, by omega⟩
        · have hy : pk[insPos pn nm]? = some (pk[insPos pn nm]'hlt) := by simp [hlt]
          generalize pk[insPos pn nm]'hlt = y at hy
          rw [hy]
          simp only
          have hyo : y.ok = true := (okL_iff pk).1 hm.ok y (List.mem_of_getElem? hy)
          obtain ⟨hzo, hzc⟩ := ih x (by simp) y hyo hk.1
          obtain ⟨h1, h2⟩ := hrec pn _ (hm.set _ hzo) hs' hk.2
          have := countL_set pk _ (Tree.patch y x) y hy
          exact ⟨h1, by omega⟩
      · next hf =>
        split
        · obtain ⟨h1, h2⟩ := hrec _ _ hm hs' hk.2
          exact ⟨h1, by omega⟩
        · obtain ⟨hzo, hzc⟩ := ih x (by simp) nullT null_ok hk.1
          obtain ⟨h1, h2⟩ := hrec _ _ (hm.ins hf (hs nm (by simp)) hzo) hs' hk.2
          rw [countL_ins] at h2
          have := null_count
          exact ⟨h1, by omega⟩
theorem patch_ok : ∀ p, PatchOK p := Tree.ind fun p ih v hv hp => by
  rw [patch_eq]
  have hvc := v.count_eq
  have hpc := p.count_eq
  split
  · next hk =>
    have hm := Tree.ok_map hp hk
    have hs : ∀ s ∈ p.names, strOK s = true := by simpa using hm.str
    split
    · next hvk =>
      obtain ⟨h1, h2⟩ := patchL_ok p.kids ih p.names v.names v.kids (Tree.ok_map hv hvk) hs hm.ok
      exact ⟨h1, by omega⟩
    · obtain ⟨h1, h2⟩ := patchL_ok p.kids ih p.names [] [] MapOK.nil hs hm.ok
      simp only [Tree.countL] at h2
      exact ⟨h1, by omega⟩
  · exact ⟨hp, by omega⟩
open Go.RowKit
def NullPost (w : World) (e : Ending) (w' : World) : Prop := ∃ rv, e = .returned rv ∧ Below w.heap.size w w' ∧ TreeAt (fun b => w.heap.size ≤ b) w' rv nullT
end Go.Proofs.YtemcijhpmpdebaaGreatDoor
namespace Go.Proofs.YtemcijhpmpdebaaGreatDoor
open Go.RowKit
theorem sortedB_lt : ∀ {ns : List ByteArray}, sortedB ns = true → ∀ (i j : Nat) (x y : ByteArray), i < j → ns[i]? = some x → ns[j]? = some y → ltS x y = true
  | [], _, i, j, x, y, _, h, _ => by simp at h
  | a :: r, h, i, j, x, y, hij, hx, hy => by
    cases j with
    | zero => omega
    | succ j =>
      simp at hy
      cases i with
      | zero =>
        simp at hx
        subst hx
        exact sortedB_head h y (List.mem_of_getElem? hy)
      | succ i =>
        simp at hx
        exact sortedB_lt (sortedB_tail h) i j x y (by omega) hx hy
def Split (ns : List ByteArray) (s : ByteArray) (lo hi : Nat) : Prop := (∀ i x, i < lo → ns[i]? = some x → ltS x s = true) ∧ ∀ i x, hi ≤ i → ns[i]? = some x → ltS x s = false
theorem split_up {ns : List ByteArray} {s : ByteArray} (hs : sortedB ns = true) {lo hi m : Nat} {x : ByteArray} (h : Split ns s lo hi) (hx : ns[m]? = some x) (hc : ltS x s = true) : Split ns s (m + 1) hi := by
  refine ⟨fun i y hi hy => ?_, h.2⟩
  by_cases c : i = m
  · subst c
    rw [hx] at hy
    injection hy with hy
    rw [← hy]
    exact hc
  · exact ltS_trans (sortedB_lt hs i m y x (by omega) hy hx) hc
theorem split_down {ns : List ByteArray} {s : ByteArray} (hs : sortedB ns = true) {lo hi m : Nat} {x : ByteArray} (h : Split ns s lo hi) (hx : ns[m]? = some x) (hc : ltS x s = false) : Split ns s lo m := by
  refine ⟨h.1, fun i y hi hy => ?_⟩
  by_cases c : i = m
  · subst c
    rw [hx] at hy
    injection hy with hy
    rw [← hy]
    exact hc
  · cases d : ltS y s
    · rfl
    · rw [ltS_trans (sortedB_lt hs m i x y (by omega) hx hy) d] at hc
      cases hc
def AtPost (ns : List ByteArray) (s : ByteArray) (w : World) (e : Ending) (w' : World) : Prop :=
  e = .returned (.tuple #[.int .i64 ((insPos ns s : Nat) : Int), .bool (decide (ns[insPos ns s]? = some s))]) ∧ w = w'
def placeI (ns : List ByteArray) (s : ByteArray) : Int := if ns[insPos ns s]? = some s then ((insPos ns s : Nat) : Int) else -1
/-- An operation of a region that draws its order, taken first: it yields its value in whatever world. -/
theorem tkP {P : Program} {ops : Array Oper} {md : Region.Mode} {Q : Exit → Act → World → Prop} {i : Nat} {oi : Oper} {v : Value} {fuel : Nat} {listed : Array Bool} {a : Act} {w : World} (hi : ops[i]? = some oi) (hy : ∀ w, (execOp a.eval oi).run P w = .ok (.value v) w)
    (h : wpAny P md ops Q fuel (listed.setIfInBounds i true) (a.put oi.dst v) w) (hw : Region.wanted oi (yielded ops a.tmps) = true := by rfl) (hs : Region.noSelect ops = true := by kernel_rfl) (hf : Region.free md ops listed i = true := by kernel_rfl)
    (hr : (Region.ready md ops listed).contains i = true := by kernel_rfl) (hQ : ∀ c a w, Q (.panic c) (a.put oi.dst v) w → Q (.panic c) a w := by exact fun _ _ _ h => h) : wpAny P md ops Q (fuel + 1) listed a w :=
  wpAny_take hi hs hf hr hQ (Or.inl ⟨hw, hy⟩) h
theorem TreesAt.split {F : Nat → Prop} {w : World} : ∀ (i : Nat) {ps : List Value} {ks : List Tree}, TreesAt F w ps ks → TreesAt F w (ps.take i) (ks.take i) ∧ TreesAt F w (ps.drop i) (ks.drop i)
  | 0, ps, ks, h => by simpa [TreesAt] using h
  | i + 1, [], [], _ => by simp [TreesAt]
  | i + 1, p :: ps, k :: ks, h => by
    simp only [TreesAt] at h
    have ih := TreesAt.split i h.2
    simp only [List.take_succ_cons, List.drop_succ_cons, TreesAt]
    exact ⟨⟨h.1, ih.1⟩, ih.2⟩
  | i + 1, [], _ :: _, h => by simp [TreesAt] at h
  | i + 1, _ :: _, [], h => by simp [TreesAt] at h
theorem TreesAt.app {F : Nat → Prop} {w : World} : ∀ {ps qs : List Value} {ks ls : List Tree}, TreesAt F w ps ks → TreesAt F w qs ls → TreesAt F w (ps ++ qs) (ks ++ ls)
  | [], _, [], _, _, h => by simpa using h
  | p :: ps, _, k :: ks, _, h, h' => by
    simp only [TreesAt, List.cons_append] at h ⊢
    exact ⟨h.1, TreesAt.app h.2 h'⟩
  | [], _, _ :: _, _, h, _ => by simp [TreesAt] at h
  | _ :: _, _, [], _, h, _ => by simp [TreesAt] at h
theorem TreesAt.ins {F : Nat → Prop} {w : World} {ps : List Value} {ks : List Tree} (h : TreesAt F w ps ks) (i : Nat) {p : Value} {k : Tree} (hk : TreeAt F w p k) : TreesAt F w (ins i p ps) (ins i k ks) := by
  obtain ⟨h1, h2⟩ := h.split i
  refine h1.app ?_
  simp only [TreesAt]
  exact ⟨hk, h2⟩
def PutPost (F : Nat → Prop) (t : Tree) (nm : ByteArray) (tx : Tree) (w : World) (e : Ending) (w' : World) : Prop :=
  ∃ g A2 c2 ps, e = .returned (.pointer (some ⟨g, 0, none⟩)) ∧ Below w.heap.size w w' ∧ Made w.heap.size w' g t.kind t.num t.text (ins (insPos t.names nm) nm t.names) A2 c2 ps ∧ TreesAt (fun b => F b ∧ b < w.heap.size) w' ps (ins (insPos t.names nm) tx t.kids)
theorem blk_drew2 {w : World} {o : Obj} : (w.alloc o).drew.heap[w.heap.size]? = some o := heap_alloc_new w o
theorem blk_drew {w : World} {k : Nat} {o : Option Obj} (h : w.heap[k]? = o) : w.drew.heap[k]? = o := h
theorem strs_ins (p : Nat) (nm : ByteArray) (ns : List ByteArray) : strs (ins p nm ns) = ins p (.string nm) (strs ns) := by simp [strs, ins]
theorem put_fin {t tx : Tree} {nm : ByteArray} {F : Nat → Prop} {w w2 w5 W : World} {g p c3 c5 : Nat} {A3 A5 : Option Addr} {qs : List Value} {xv : Value} {v3 v4 : Value}
    (hp : p = insPos t.names nm) (hgb : w.heap.size ≤ g) (hk5 : w5.heap[g]? = some (.cells #[.int .i64 t.kind, .int .i64 t.num, .string t.text, v3, v4] 168 (0, 0)))
    (hK : W.heap[g]? = some (.cells #[.int .i64 t.kind, .int .i64 t.num, .string t.text, .slice A3 (t.names.length + 1) c3, .slice A5 (qs.length + 1) c5] 168 (0, 0)))
    (hA : ∀ G : Nat → Prop, (∀ c, G c → c ≠ g) → Agree G w5 W) (_hB5 : Below w.heap.size w w5) (hB : Below w.heap.size w W) (hB2 : Below w.heap.size w w2) (hc3 : t.names.length + 1 ≤ c3) (hc5 : qs.length + 1 ≤ c5)
    (ho3 : w5.ownsRow w.heap.size 9 1 (.slice A3 (t.names.length + 1) c3) (t.names.length + 1) (ins p (.string nm) (strs t.names))) (ho5 : w5.ownsRow w.heap.size 123 1 (.slice A5 (qs.length + 1) c5) (qs.length + 1) (ins p xv qs))
    (hpn : p ≤ t.names.length) (hpq : p ≤ qs.length) (hsz : w2.heap.size ≤ W.heap.size) (htr : TreesAt (fun b => F b ∧ b < w.heap.size) w2 qs t.kids) (hx : TreeAt F w xv tx) :
    PutPost F t nm tx w (.returned (.pointer (some ⟨g, 0, none⟩))) W := by
  subst hp
  have n3 := own_not_at ho3 hk5 (by decide)
  have n5 := own_not_at ho5 hk5 (by decide)
  have l3 : (ins (insPos t.names nm) nm t.names).length = t.names.length + 1 := ins_length _ _ _ hpn
  have l5 : (ins (insPos t.names nm) xv qs).length = qs.length + 1 := ins_length _ _ _ hpq
  have h3 := own_agree ho3 (hA (fun c => c ≠ g) (fun _ h => h)) (fun k hk e => n3 k hk e.symm)
  have h5 := own_agree ho5 (hA (fun c => c ≠ g) (fun _ h => h)) (fun k hk e => n5 k hk e.symm)
  refine ⟨g, A5, c5, ins (insPos t.names nm) xv qs, rfl, hB, ⟨A3, c3, hgb, by rw [l3, l5]; exact hK, by rw [l3]; exact hc3, by rw [l5]; exact hc5, by rw [l3, strs_ins]; exact h3, by rw [l5]; exact h5⟩, TreesAt.ins ?_ _ ?_⟩
  · refine htr.frame ⟨hsz, fun b h hb => ?_⟩ (fun b h _ => h)
    rw [hB.block b h.2, hB2.block b h.2]
  · exact hx.frame ⟨hB.size, fun b h hb => hB.block b hb⟩ (fun b h h' => ⟨h, h'⟩)
theorem names_kept {Wc w5 : World} {base base' n m : Nat} {nv kv : Value} {xs ys : List Value} (hg5 : Wc.grownBy w5 kv.ownBlock) (hn : Wc.ownsRow base 9 1 nv n xs) (hk : Wc.ownsRow base' 123 1 kv m ys) : w5.ownsRow base 9 1 nv n xs := hn.kept hg5 (own_apart hk hn (by decide))
theorem put_below {w Wc w5 : World} {row : Option Nat} (hg5 : Wc.grownBy w5 row) (hb : Below w.heap.size w Wc) (hr : ∀ k, row = some k → w.heap.size ≤ k) : Below w.heap.size w w5 := hb.grown hg5 hb.size hr
end Go.Proofs.YtemcijhpmpdebaaGreatDoor
namespace Go.Proofs.YtemcijhpmpdebaaGreatDoor
def cmpI (a b : Int) : Int := if a < b then -1 else if b < a then 1 else 0
def cmpS (a b : ByteArray) : Int := if ltS a b = true then -1 else if ltS b a = true then 1 else 0
theorem cmpI_zero {a b : Int} : cmpI a b = 0 ↔ a = b := by
  unfold cmpI
  split
  · exact ⟨fun h => by omega, fun h => by omega⟩
  · split
    · exact ⟨fun h => by omega, fun h => by omega⟩
    · exact ⟨fun h => by omega, fun h => by omega⟩
theorem cmpS_zero {a b : ByteArray} : cmpS a b = 0 ↔ a = b := by
  unfold cmpS
  split
  · next h => exact ⟨fun h => by omega, fun e => by subst e; rw [ltS_irrefl] at h; cases h⟩
  · next h =>
    split
    · next h' => exact ⟨fun h => by omega, fun e => by subst e; rw [ltS_irrefl] at h'; cases h'⟩
    · next h' =>
      refine ⟨fun _ => ?_, fun _ => rfl⟩
      rcases ltS_total a b with c | c | c
      · exact absurd c h
      · exact c
      · exact absurd c h'
theorem cmpI_range (a b : Int) : -1 ≤ cmpI a b ∧ cmpI a b ≤ 1 := by
  unfold cmpI
  split
  · omega
  · split <;> omega
theorem cmpS_range (a b : ByteArray) : -1 ≤ cmpS a b ∧ cmpS a b ≤ 1 := by
  unfold cmpS
  split
  · omega
  · split <;> omega
mutual
def Tree.cmp : Tree → Tree → Int
  | .mk k n t ns ks, y => if cmpI k y.kind ≠ 0 then cmpI k y.kind else if cmpI n y.num ≠ 0 then cmpI n y.num else if cmpS t y.text ≠ 0 then cmpS t y.text else Tree.cmpL (k == 7) ns ks y.names y.kids
def Tree.cmpL (map : Bool) : List ByteArray → List Tree → List ByteArray → List Tree → Int
  | _, [], _, [] => 0
  | _, [], _, _ :: _ => -1
  | _, _ :: _, _, [] => 1
  | ns, x :: ks, ms, y :: ls => if map = true ∧ cmpS (ns.headD emptyB) (ms.headD emptyB) ≠ 0 then cmpS (ns.headD emptyB) (ms.headD emptyB) else if Tree.cmp x y ≠ 0 then Tree.cmp x y else Tree.cmpL map ns.tail ks ms.tail ls
end
theorem Tree.cmp_eq (x y : Tree) : Tree.cmp x y = if cmpI x.kind y.kind ≠ 0 then cmpI x.kind y.kind else if cmpI x.num y.num ≠ 0 then cmpI x.num y.num else if cmpS x.text y.text ≠ 0 then cmpS x.text y.text else Tree.cmpL (x.kind == 7) x.names x.kids y.names y.kids := by
  cases x
  rw [Tree.cmp]
  rfl
theorem cmpL_range (map : Bool) (ks : List Tree) (ih : ∀ x ∈ ks, ∀ y, -1 ≤ Tree.cmp x y ∧ Tree.cmp x y ≤ 1) : ∀ (ns ms : List ByteArray) (ls : List Tree), -1 ≤ Tree.cmpL map ns ks ms ls ∧ Tree.cmpL map ns ks ms ls ≤ 1 := by
  induction ks with
  | nil => intro ns ms ls; cases ls <;> simp [Tree.cmpL]
  | cons x ks ihk =>
    intro ns ms ls
    cases ls with
    | nil => simp [Tree.cmpL]
    | cons y ls =>
      rw [Tree.cmpL]
      split
      · exact cmpS_range _ _
      · split
        · exact ih x (by simp) y
        · exact ihk (fun z hz => ih z (List.mem_cons_of_mem _ hz)) _ _ _
theorem cmp_range : ∀ x y : Tree, -1 ≤ Tree.cmp x y ∧ Tree.cmp x y ≤ 1 := Tree.ind fun x ih y => by
  rw [Tree.cmp_eq]
  split
  · exact cmpI_range _ _
  · split
    · exact cmpI_range _ _
    · split
      · exact cmpS_range _ _
      · exact cmpL_range _ _ ih _ _ _
theorem ok_nonames {t : Tree} (h : t.ok = true) (hk : t.kind ≠ 7) : t.names = [] := by
  obtain ⟨k, n, x, ns, ks⟩ := t
  simp at hk
  simp [Tree.ok, hk] at h
  simpa using h.1.1.2
theorem cmpL_zero (map : Bool) (ks : List Tree) (ih : ∀ x ∈ ks, ∀ y, x.ok = true → y.ok = true → (Tree.cmp x y = 0 ↔ x = y)) : ∀ (ns ms : List ByteArray) (ls : List Tree), Tree.okL ks = true → Tree.okL ls = true →
    (map = true → ns.length = ks.length ∧ ms.length = ls.length) → (Tree.cmpL map ns ks ms ls = 0 ↔ (map = true → ns = ms) ∧ ks = ls) := by
  induction ks with
  | nil =>
    intro ns ms ls _ _ hl
    cases ls with
    | nil =>
      simp only [Tree.cmpL, and_true, true_iff]
      intro hm
      obtain ⟨h1, h2⟩ := hl hm
      rw [List.length_eq_zero_iff.1 h1, List.length_eq_zero_iff.1 h2]
    | cons y ls => simp [Tree.cmpL]
  | cons x ks ihk =>
    intro ns ms ls hk hl hlen
    cases ls with
    | nil => simp [Tree.cmpL]
    | cons y ls =>
      simp only [Tree.okL, Bool.and_eq_true] at hk hl
      have h0 := ih x (by simp) y hk.1 hl.1
      have hrec := ihk (fun z hz => ih z (List.mem_cons_of_mem _ hz)) ns.tail ms.tail ls hk.2 hl.2 (fun hm => by
        obtain ⟨h1, h2⟩ := hlen hm
        simp only [List.length_tail, h1, h2, List.length_cons]
        omega)
      rw [Tree.cmpL]
      cases map with
      | false =>
        simp only [Bool.false_eq_true, false_and, if_false, List.cons.injEq]
        simp only [Bool.false_eq_true, false_implies, true_and] at hrec ⊢
        split
        · next h => exact ⟨fun e => absurd e h, fun e => absurd (h0.2 e.1) h⟩
        · next h =>
          have h' : Tree.cmp x y = 0 := by omega
          rw [hrec]
          exact ⟨fun e => ⟨h0.1 h', e⟩, fun e => e.2⟩
      | true =>
        obtain ⟨h1, h2⟩ := hlen rfl
        obtain ⟨a, ns, rfl⟩ : ∃ a r, ns = a :: r := by cases ns with
          | nil => simp at h1
          | cons a r => exact ⟨a, r, rfl⟩
        obtain ⟨b, ms, rfl⟩ : ∃ a r, ms = a :: r := by cases ms with
          | nil => simp at h2
          | cons a r => exact ⟨a, r, rfl⟩
        simp only [List.headD_cons, List.tail_cons, true_and, true_implies, List.cons.injEq] at hrec ⊢
        split
        · next h => exact ⟨fun e => absurd e h, fun e => absurd (cmpS_zero.2 e.1.1) h⟩
        · next h =>
          have h' : a = b := cmpS_zero.1 (by omega)
          split
          · next g => exact ⟨fun e => absurd e g, fun e => absurd (h0.2 e.2.1) g⟩
          · next g =>
            have g' : Tree.cmp x y = 0 := by omega
            rw [hrec]
            exact ⟨fun e => ⟨⟨h', e.1⟩, h0.1 g', e.2⟩, fun e => ⟨e.1.2, e.2.2⟩⟩
theorem cmp_zero : ∀ x y : Tree, x.ok = true → y.ok = true → (Tree.cmp x y = 0 ↔ x = y) := Tree.ind fun x ih y hx hy => by
  have hrec := cmpL_zero (x.kind == 7) x.kids ih x.names y.names y.kids
  obtain ⟨k, n, t, ns, ks⟩ := x
  obtain ⟨k', n', t', ns', ks'⟩ := y
  have okx : Tree.okL ks = true := by simp [Tree.ok] at hx; exact hx.2
  have oky : Tree.okL ks' = true := by simp [Tree.ok] at hy; exact hy.2
  simp only [Tree.kind_mk, Tree.names_mk, Tree.kids_mk, Tree.mk.injEq] at hrec ⊢
  rw [Tree.cmp]
  show (if cmpI k k' ≠ 0 then cmpI k k' else if cmpI n n' ≠ 0 then cmpI n n' else if cmpS t t' ≠ 0 then cmpS t t' else Tree.cmpL (k == 7) ns ks ns' ks') = 0 ↔ _
  by_cases h : cmpI k k' = 0
  case neg => rw [if_pos h]; exact ⟨fun e => absurd e h, fun e => absurd (cmpI_zero.2 e.1) h⟩
  rw [if_neg (fun g => g h)]
  have h' : k = k' := cmpI_zero.1 h
  subst h'
  by_cases h1 : cmpI n n' = 0
  case neg => rw [if_pos h1]; exact ⟨fun e => absurd e h1, fun e => absurd (cmpI_zero.2 e.2.1) h1⟩
  rw [if_neg (fun g => g h1)]
  by_cases h2 : cmpS t t' = 0
  case neg => rw [if_pos h2]; exact ⟨fun e => absurd e h2, fun e => absurd (cmpS_zero.2 e.2.2.1) h2⟩
  rw [if_neg (fun g => g h2)]
  rw [hrec okx oky (fun hm => by
    have hk : k = 7 := by simpa using hm
    exact ⟨(Tree.ok_map hx hk).len, (Tree.ok_map hy hk).len⟩)]
  refine ⟨fun e => ⟨rfl, cmpI_zero.1 h1, cmpS_zero.1 h2, ?_, e.2⟩, fun e => ⟨fun _ => e.2.2.2.1, e.2.2.2.2⟩⟩
  by_cases hk : k = 7
  · exact e.1 (by simpa using hk)
  · have e1 := ok_nonames hx (by simpa using hk)
    have e2 := ok_nonames hy (by simpa using hk)
    simp at e1 e2
    rw [e1, e2]
/-! ### Cleaned -/
mutual
def Tree.clean : Tree → Tree
  | .mk k n t ns ks => if k = 7 then .mk 7 0 emptyB (Tree.cleanL ns ks).1 (Tree.cleanL ns ks).2 else .mk k n t ns ks
def Tree.cleanL : List ByteArray → List Tree → List ByteArray × List Tree
  | ns, x :: ks => if x.kind = 1 then Tree.cleanL ns.tail ks else (ns.headD emptyB :: (Tree.cleanL ns.tail ks).1, Tree.clean x :: (Tree.cleanL ns.tail ks).2)
  | _, [] => ([], [])
end
theorem Tree.clean_eq (t : Tree) : t.clean = if t.kind = 7 then .mk 7 0 emptyB (Tree.cleanL t.names t.kids).1 (Tree.cleanL t.names t.kids).2 else t := by
  cases t
  rw [Tree.clean]
  rfl
mutual
def Tree.isClean : Tree → Bool
  | .mk k _ _ _ ks => if k = 7 then Tree.isCleanL ks else true
def Tree.isCleanL : List Tree → Bool
  | x :: ks => !(x.kind == 1) && Tree.isClean x && Tree.isCleanL ks
  | [] => true
end
theorem Tree.isClean_eq (t : Tree) : t.isClean = if t.kind = 7 then Tree.isCleanL t.kids else true := by
  cases t
  rw [Tree.isClean]
  rfl
theorem isCleanL_iff (ks : List Tree) : Tree.isCleanL ks = true ↔ ∀ x ∈ ks, x.kind ≠ 1 ∧ x.isClean = true := by
  induction ks with
  | nil => simp [Tree.isCleanL]
  | cons x ks ih => simp [Tree.isCleanL, ih]
theorem cleanL_len (ks : List Tree) : ∀ ns, (Tree.cleanL ns ks).2.length ≤ ks.length ∧ (Tree.cleanL ns ks).1.length = (Tree.cleanL ns ks).2.length := by
  induction ks with
  | nil => intro ns; simp [Tree.cleanL]
  | cons x ks ih =>
    intro ns
    have := ih ns.tail
    rw [Tree.cleanL]
    split <;> simp <;> omega
theorem cleanL_same (ks : List Tree) (ih : ∀ x ∈ ks, x.ok = true → (x.clean = x ↔ x.isClean = true)) : ∀ ns : List ByteArray, ns.length = ks.length → Tree.okL ks = true → (Tree.cleanL ns ks = (ns, ks) ↔ Tree.isCleanL ks = true) := by
  induction ks with
  | nil => intro ns hn _; simp [Tree.cleanL, Tree.isCleanL, List.length_eq_zero_iff.1 hn]
  | cons x ks ihk =>
    intro ns hn hk
    cases ns with
    | nil => simp at hn
    | cons a ns =>
      simp only [Tree.okL, Bool.and_eq_true] at hk
      have h0 := ih x (by simp) hk.1
      have hrec := ihk (fun z hz => ih z (List.mem_cons_of_mem _ hz)) ns (by simpa using hn) hk.2
      have hl := cleanL_len ks ns
      rw [Tree.cleanL, Tree.isCleanL]
      simp only [List.tail_cons, List.headD_cons]
      split
      · next h =>
        refine ⟨fun e => ?_, fun e => by simp [h] at e⟩
        have e2 := congrArg (fun p => p.2.length) e
        simp only [List.length_cons] at e2
        omega
      · next h =>
        simp only [Prod.mk.injEq, List.cons.injEq, true_and, Bool.and_eq_true, Bool.not_eq_true', beq_eq_false_iff_ne]
        rw [Prod.ext_iff] at hrec
        simp only at hrec
        constructor
        · intro e
          exact ⟨⟨h, h0.1 e.2.1⟩, hrec.1 ⟨e.1, e.2.2⟩⟩
        · intro e
          have := hrec.2 e.2
          exact ⟨this.1, h0.2 e.1.2, this.2⟩
theorem clean_same : ∀ t : Tree, t.ok = true → (t.clean = t ↔ t.isClean = true) := Tree.ind fun t ih h => by
  rw [Tree.clean_eq, Tree.isClean_eq]
  split
  · next hk =>
    have hm := Tree.ok_map h hk
    have hr := cleanL_same t.kids ih t.names hm.len hm.ok
    rw [← hr]
    obtain ⟨k, n, x, ns, ks⟩ := t
    simp at hk
    subst hk
    simp [Tree.ok] at h
    have hz : n = 0 ∧ x = emptyB := ⟨h.1.1.1.1.1.1, empty_eq _ (by simpa using h.1.1.1.1.1.2)⟩
    simp only [Tree.names_mk, Tree.kids_mk, Tree.mk.injEq, true_and, Prod.ext_iff]
    exact ⟨fun e => ⟨e.2.2.1, e.2.2.2⟩, fun e => ⟨hz.1.symm, hz.2.symm, e.1, e.2⟩⟩
  · simp
theorem cleanL_mem (ks : List Tree) : ∀ (ns : List ByteArray), ns.length = ks.length → ∀ s ∈ (Tree.cleanL ns ks).1, s ∈ ns := by
  induction ks with
  | nil => intro ns _ s hs; simp [Tree.cleanL] at hs
  | cons x ks ih =>
    intro ns hn s hs
    cases ns with
    | nil => simp at hn
    | cons a ns =>
      rw [Tree.cleanL] at hs
      simp only [List.tail_cons, List.headD_cons] at hs
      split at hs
      · exact List.mem_cons_of_mem _ (ih ns (by simpa using hn) s hs)
      · rcases List.mem_cons.1 hs with rfl | hs
        · simp
        · exact List.mem_cons_of_mem _ (ih ns (by simpa using hn) s hs)
def CleanOK (t : Tree) : Prop := t.ok = true → t.clean.ok = true ∧ t.clean.count ≤ t.count
theorem cleanL_ok (ks : List Tree) (ih : ∀ x ∈ ks, CleanOK x) : ∀ ns, MapOK ns ks → MapOK (Tree.cleanL ns ks).1 (Tree.cleanL ns ks).2 ∧ Tree.countL (Tree.cleanL ns ks).2 ≤ Tree.countL ks := by
  induction ks with
  | nil => intro ns h; simpa [Tree.cleanL, Tree.countL] using MapOK.nil
  | cons x ks ihk =>
    intro ns h
    cases ns with
    | nil => have := h.len; simp at this
    | cons a ns =>
      have ho := h.ok
      have hs := h.str
      simp only [Tree.okL, Bool.and_eq_true] at ho
      simp only [List.all_cons, Bool.and_eq_true] at hs
      have hm : MapOK ns ks := ⟨by simpa using h.len, hs.2, sortedB_tail h.sorted, ho.2⟩
      obtain ⟨h1, h2⟩ := ihk (fun z hz => ih z (List.mem_cons_of_mem _ hz)) ns hm
      obtain ⟨g1, g2⟩ := ih x (by simp) ho.1
      rw [Tree.cleanL]
      simp only [List.tail_cons, List.headD_cons, Tree.countL]
      split
      · exact ⟨h1, by omega⟩
      · refine ⟨⟨by simp [h1.len], by simp only [List.all_cons, hs.1, h1.str, Bool.and_self], sortedB_cons h1.sorted (fun s hs' => sortedB_head h.sorted s (cleanL_mem ks ns hm.len s hs')), by simp only [Tree.okL, g1, h1.ok, Bool.and_self]⟩, ?_⟩
        simp only [Tree.countL]
        omega
theorem clean_ok : ∀ t, CleanOK t := Tree.ind fun t ih h => by
  have hc := t.count_eq
  rw [Tree.clean_eq]
  split
  · next hk =>
    obtain ⟨h1, h2⟩ := cleanL_ok t.kids ih t.names (Tree.ok_map h hk)
    refine ⟨h1.tree, ?_⟩
    rw [Tree.count]
    omega
  · exact ⟨h, Nat.le_refl _⟩
/-! ### What differs -/
def Tree.addL (an : List ByteArray) : List ByteArray → List Tree → List ByteArray → List Tree → List ByteArray × List Tree
  | nm :: bn, y :: bk, on, ok => if an[insPos an nm]? = some nm then Tree.addL an bn bk on ok else Tree.addL an bn bk (ins (insPos on nm) nm on) (ins (insPos on nm) y ok)
  | _, _, on, ok => (on, ok)
mutual
def Tree.diff : Tree → Tree → Tree
  | .mk k _n _t ns ks, b => if k = 7 ∧ b.kind = 7 then
      .mk 7 0 emptyB (Tree.addL ns b.names b.kids (Tree.diffL b.names b.kids ns ks [] []).1 (Tree.diffL b.names b.kids ns ks [] []).2).1 (Tree.addL ns b.names b.kids (Tree.diffL b.names b.kids ns ks [] []).1 (Tree.diffL b.names b.kids ns ks [] []).2).2 else b
def Tree.diffL (bn : List ByteArray) (bk : List Tree) : List ByteArray → List Tree → List ByteArray → List Tree → List ByteArray × List Tree
  | nm :: ns, x :: ks, on, ok =>
    if bn[insPos bn nm]? = some nm then
      match bk[insPos bn nm]? with
      | some y => if Tree.cmp x y = 0 then Tree.diffL bn bk ns ks on ok else Tree.diffL bn bk ns ks (ins (insPos on nm) nm on) (ins (insPos on nm) (Tree.diff x y) ok)
      | none => (on, ok)
    else Tree.diffL bn bk ns ks (ins (insPos on nm) nm on) (ins (insPos on nm) nullT ok)
  | _, _, on, ok => (on, ok)
end
theorem Tree.diff_eq (a b : Tree) : Tree.diff a b = if a.kind = 7 ∧ b.kind = 7 then
      .mk 7 0 emptyB (Tree.addL a.names b.names b.kids (Tree.diffL b.names b.kids a.names a.kids [] []).1 (Tree.diffL b.names b.kids a.names a.kids [] []).2).1 (Tree.addL a.names b.names b.kids (Tree.diffL b.names b.kids a.names a.kids [] []).1 (Tree.diffL b.names b.kids a.names a.kids [] []).2).2 else b := by
  cases a
  rw [Tree.diff]
  rfl
theorem diff_step {bn : List ByteArray} {bk : List Tree} {ns : List ByteArray} {ks : List Tree} {on : List ByteArray} {ok : List Tree} {i : Nat} {nm : ByteArray} {x : Tree} (hn : ns[i]? = some nm) (hk : ks[i]? = some x) :
    Tree.diffL bn bk (ns.drop i) (ks.drop i) on ok = if bn[insPos bn nm]? = some nm then
      match bk[insPos bn nm]? with
      | some y => if Tree.cmp x y = 0 then Tree.diffL bn bk (ns.drop (i + 1)) (ks.drop (i + 1)) on ok else Tree.diffL bn bk (ns.drop (i + 1)) (ks.drop (i + 1)) (ins (insPos on nm) nm on) (ins (insPos on nm) (Tree.diff x y) ok)
      | none => (on, ok)
    else Tree.diffL bn bk (ns.drop (i + 1)) (ks.drop (i + 1)) (ins (insPos on nm) nm on) (ins (insPos on nm) nullT ok) := by
  obtain ⟨h1, e1⟩ := List.getElem?_eq_some_iff.1 hn
  obtain ⟨h2, e2⟩ := List.getElem?_eq_some_iff.1 hk
  rw [List.drop_eq_getElem_cons h1, List.drop_eq_getElem_cons h2, e1, e2, Tree.diffL]
theorem diff_end {bn : List ByteArray} {bk : List Tree} {ns : List ByteArray} {ks : List Tree} {on : List ByteArray} {ok : List Tree} {i : Nat} (h : ns.length ≤ i) : Tree.diffL bn bk (ns.drop i) (ks.drop i) on ok = (on, ok) := by
  rw [List.drop_eq_nil_of_le h]
  cases ks.drop i <;> rw [Tree.diffL] <;> simp
theorem add_step {an : List ByteArray} {ns : List ByteArray} {ks : List Tree} {on : List ByteArray} {ok : List Tree} {i : Nat} {nm : ByteArray} {x : Tree} (hn : ns[i]? = some nm) (hk : ks[i]? = some x) :
    Tree.addL an (ns.drop i) (ks.drop i) on ok = if an[insPos an nm]? = some nm then Tree.addL an (ns.drop (i + 1)) (ks.drop (i + 1)) on ok else Tree.addL an (ns.drop (i + 1)) (ks.drop (i + 1)) (ins (insPos on nm) nm on) (ins (insPos on nm) x ok) := by
  obtain ⟨h1, e1⟩ := List.getElem?_eq_some_iff.1 hn
  obtain ⟨h2, e2⟩ := List.getElem?_eq_some_iff.1 hk
  rw [List.drop_eq_getElem_cons h1, List.drop_eq_getElem_cons h2, e1, e2, Tree.addL]
theorem add_end {an : List ByteArray} {ns : List ByteArray} {ks : List Tree} {on : List ByteArray} {ok : List Tree} {i : Nat} (h : ns.length ≤ i) : Tree.addL an (ns.drop i) (ks.drop i) on ok = (on, ok) := by
  rw [List.drop_eq_nil_of_le h]
  cases ks.drop i <;> rw [Tree.addL] <;> simp
theorem found_iff {ns : List ByteArray} {nm : ByteArray} (hs : sortedB ns = true) : ns[insPos ns nm]? = some nm ↔ nm ∈ ns := by
  refine ⟨fun h => List.mem_of_getElem? h, fun h => ?_⟩
  obtain ⟨i, hi, e⟩ := List.getElem_of_mem h
  have hx : ns[i]? = some nm := by simp [hi, e]
  obtain ⟨p1, p2⟩ := insPos_parts ns nm hs
  have h1 : insPos ns nm ≤ i := by
    rcases Nat.lt_or_ge i (insPos ns nm) with c | c
    · have := p1 i nm c hx
      rw [ltS_irrefl] at this
      cases this
    · exact c
  rcases Nat.lt_or_ge (insPos ns nm) i with c | c
  · have hy : ns[insPos ns nm]? = some (ns[insPos ns nm]'(by omega)) := by simp
    have h2 := p2 _ _ (Nat.le_refl _) hy
    rw [sortedB_lt hs _ _ _ _ c hy hx] at h2
    cases h2
  · rw [show insPos ns nm = i by omega]
    exact hx
theorem mem_ins {α : Type} {i : Nat} {x y : α} {l : List α} (h : y ∈ ins i x l) : y = x ∨ y ∈ l := by
  rcases List.mem_append.1 h with h | h
  · exact .inr (List.mem_of_mem_take h)
  · rcases List.mem_cons.1 h with h | h
    · exact .inl h
    · exact .inr (List.mem_of_mem_drop h)
def DiffOK (x : Tree) : Prop := ∀ y, x.ok = true → y.ok = true → (Tree.diff x y).ok = true ∧ (Tree.diff x y).count ≤ x.count * (y.count + 1)
theorem diffL_ok (bn : List ByteArray) (bk : List Tree) (hb : MapOK bn bk) (M : Nat) (hM : ∀ y ∈ bk, y.count ≤ M) (ks : List Tree) (ih : ∀ x ∈ ks, DiffOK x) : ∀ (ns on : List ByteArray) (ok : List Tree), MapOK ns ks → MapOK on ok → (∀ s ∈ ns, s ∉ on) →
    MapOK (Tree.diffL bn bk ns ks on ok).1 (Tree.diffL bn bk ns ks on ok).2 ∧ Tree.countL (Tree.diffL bn bk ns ks on ok).2 ≤ Tree.countL ok + Tree.countL ks * (M + 1) ∧ ∀ s ∈ (Tree.diffL bn bk ns ks on ok).1, s ∈ on ∨ s ∈ ns := by
  induction ks with
  | nil =>
    intro ns on ok hm ho _
    have : ns = [] := by have := hm.len; simpa using this
    subst this
    rw [Tree.diffL]
    · exact ⟨ho, by simp, fun s h => .inl h⟩
    · simp
  | cons x ks ihk =>
    intro ns on ok hm ho hd
    cases ns with
    | nil => have := hm.len; simp at this
    | cons nm ns =>
      have h1 := hm.ok
      have h2 := hm.str
      simp only [Tree.okL, Bool.and_eq_true] at h1
      simp only [List.all_cons, Bool.and_eq_true] at h2
      have hm' : MapOK ns ks := ⟨by simpa using hm.len, h2.2, sortedB_tail hm.sorted, h1.2⟩
      have hrec := ihk (fun z hz => ih z (List.mem_cons_of_mem _ hz)) ns
      have hnm : nm ∉ on := hd nm (by simp)
      have hd0 : ∀ s ∈ ns, s ∉ on := fun s hs => hd s (List.mem_cons_of_mem _ hs)
      have hfi : on[insPos on nm]? ≠ some nm := fun e => hnm (List.mem_of_getElem? e)
      have hd1 : ∀ s ∈ ns, s ∉ ins (insPos on nm) nm on := fun s hs hi => by
        rcases mem_ins hi with rfl | hi
        · have := sortedB_head hm.sorted s hs
          rw [ltS_irrefl] at this
          cases this
        · exact hd0 s hs hi
      have fin : ∀ z : Tree, z.ok = true → z.count ≤ x.count * (M + 1) → MapOK (Tree.diffL bn bk ns ks (ins (insPos on nm) nm on) (ins (insPos on nm) z ok)).1 (Tree.diffL bn bk ns ks (ins (insPos on nm) nm on) (ins (insPos on nm) z ok)).2 ∧
          Tree.countL (Tree.diffL bn bk ns ks (ins (insPos on nm) nm on) (ins (insPos on nm) z ok)).2 ≤ Tree.countL ok + (x.count + Tree.countL ks) * (M + 1) ∧ ∀ s ∈ (Tree.diffL bn bk ns ks (ins (insPos on nm) nm on) (ins (insPos on nm) z ok)).1, s ∈ on ∨ s ∈ nm :: ns := fun z hz hc => by
        obtain ⟨g1, g2, g3⟩ := hrec _ _ hm' (ho.ins hfi h2.1 hz) hd1
        rw [countL_ins] at g2
        refine ⟨g1, by rw [Nat.add_mul]; omega, fun s hs => ?_⟩
        rcases g3 s hs with h | h
        · rcases mem_ins h with rfl | h
          · exact .inr (by simp)
          · exact .inl h
        · exact .inr (List.mem_cons_of_mem _ h)
      have hx1 := x.count_eq
      rw [Tree.diffL]
      simp only [Tree.countL]
      split
      · next hf =>
        have hlt : insPos bn nm < bk.length := by
          have := (List.getElem?_eq_some_iff.1 hf).1
          have := hb.len
          omega
        have hy : bk[insPos bn nm]? = some (bk[insPos bn nm]'hlt) := by simp [hlt]
        generalize bk[insPos bn nm]'hlt = y at hy
        rw [hy]
        simp only
        split
        · obtain ⟨g1, g2, g3⟩ := hrec on ok hm' ho hd0
          refine ⟨g1, by rw [Nat.add_mul]; omega, fun s hs => ?_⟩
          rcases g3 s hs with h | h
          · exact .inl h
          · exact .inr (List.mem_cons_of_mem _ h)
        · have hyo : y.ok = true := (okL_iff bk).1 hb.ok y (List.mem_of_getElem? hy)
          obtain ⟨g1, g2⟩ := ih x (by simp) y h1.1 hyo
          have hyM := hM y (List.mem_of_getElem? hy)
          exact fin _ g1 (Nat.le_trans g2 (Nat.mul_le_mul_left _ (by omega)))
      · exact fin _ null_ok (by
          have : 1 * 1 ≤ x.count * (M + 1) := Nat.mul_le_mul (by omega) (by omega)
          have := null_count
          omega)
theorem addL_ok (an : List ByteArray) (has : sortedB an = true) (bk : List Tree) : ∀ (bn on : List ByteArray) (ok : List Tree), MapOK bn bk → MapOK on ok → (∀ s ∈ bn, s ∉ an → s ∉ on) →
    MapOK (Tree.addL an bn bk on ok).1 (Tree.addL an bn bk on ok).2 ∧ Tree.countL (Tree.addL an bn bk on ok).2 ≤ Tree.countL ok + Tree.countL bk := by
  induction bk with
  | nil =>
    intro bn on ok hm ho _
    have : bn = [] := by have := hm.len; simpa using this
    subst this
    rw [Tree.addL]
    · exact ⟨ho, by show Tree.countL ok ≤ _; omega⟩
    · simp
  | cons y bk ihk =>
    intro bn on ok hm ho hd
    cases bn with
    | nil => have := hm.len; simp at this
    | cons nm bn =>
      have h1 := hm.ok
      have h2 := hm.str
      simp only [Tree.okL, Bool.and_eq_true] at h1
      simp only [List.all_cons, Bool.and_eq_true] at h2
      have hm' : MapOK bn bk := ⟨by simpa using hm.len, h2.2, sortedB_tail hm.sorted, h1.2⟩
      rw [Tree.addL]
      simp only [Tree.countL]
      split
      · obtain ⟨g1, g2⟩ := ihk bn on ok hm' ho (fun s hs => hd s (List.mem_cons_of_mem _ hs))
        exact ⟨g1, by omega⟩
      · next hf =>
        have hna : nm ∉ an := fun h => hf ((found_iff has).2 h)
        have hnm := hd nm (by simp) hna
        obtain ⟨g1, g2⟩ := ihk bn _ _ hm' (ho.ins (fun e => hnm (List.mem_of_getElem? e)) h2.1 h1.1) (fun s hs hsa hi => by
          rcases mem_ins hi with rfl | hi
          · have := sortedB_head hm.sorted s hs
            rw [ltS_irrefl] at this
            cases this
          · exact hd s (List.mem_cons_of_mem _ hs) hsa hi)
        rw [countL_ins] at g2
        exact ⟨g1, by omega⟩
theorem diff_ok : ∀ a, DiffOK a := Tree.ind fun a ih b ha hb => by
  have hac := a.count_eq
  have hbc := b.count_eq
  rw [Tree.diff_eq]
  split
  · next hk =>
    have hma := Tree.ok_map ha hk.1
    have hmb := Tree.ok_map hb hk.2
    obtain ⟨h1, h2, h3⟩ := diffL_ok b.names b.kids hmb b.count (fun y hy => by have := Tree.countL_mem b.kids y hy; omega) a.kids ih a.names [] [] hma MapOK.nil (fun s _ h => by cases h)
    obtain ⟨g1, g2⟩ := addL_ok a.names hma.sorted b.kids b.names _ _ hmb h1 (fun s _ hsa h => by
      rcases h3 s h with h | h
      · cases h
      · exact hsa h)
    refine ⟨g1.tree, ?_⟩
    simp only [Tree.count, Tree.countL] at h2 ⊢
    rw [hac, Nat.add_mul]
    omega
  · refine ⟨hb, ?_⟩
    have : 1 * (b.count + 1) ≤ a.count * (b.count + 1) := Nat.mul_le_mul_right _ (by omega)
    omega
end Go.Proofs.YtemcijhpmpdebaaGreatDoor
