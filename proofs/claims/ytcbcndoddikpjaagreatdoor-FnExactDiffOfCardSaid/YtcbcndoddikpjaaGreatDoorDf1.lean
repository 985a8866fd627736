/- Trees compared, cleaned, and what differs as a patch: plain words. -/
import Derived.Test.YtcbcndoddikpjaaGreatDoorAp1
import Derived.Test.YtcbcndoddikpjaaGreatDoorJn4
namespace Go.Proofs.YtcbcndoddikpjaaGreatDoor
def cmpI (a b : Int) : Int := if a < b then -1 else if b < a then 1 else 0
def cmpS (a b : ByteArray) : Int := if ltS a b = true then -1 else if ltS b a = true then 1 else 0
theorem cmpI_zero {a b : Int} : cmpI a b = 0 ↔ a = b := by
  unfold cmpI
  split
  · exact ⟨fun h => by omega, fun h => by omega⟩
  · split
    · exact ⟨fun h => by omega, fun h => by omega⟩
    · exact ⟨fun h => by omega, fun h => by omega⟩
theorem cmpS_zero {a b : ByteArray} : cmpS a b = 0 ↔ a = b := by
  unfold cmpS
  split
  · next h => exact ⟨fun h => by omega, fun e => by subst e; rw [ltS_irrefl] at h; cases h⟩
  · next h =>
    split
    · next h' => exact ⟨fun h => by omega, fun e => by subst e; rw [ltS_irrefl] at h'; cases h'⟩
    · next h' =>
      refine ⟨fun _ => ?_, fun _ => rfl⟩
      rcases ltS_total a b with c | c | c
      · exact absurd c h
      · exact c
      · exact absurd c h'
theorem cmpI_range (a b : Int) : -1 ≤ cmpI a b ∧ cmpI a b ≤ 1 := by
  unfold cmpI
  split
  · omega
  · split <;> omega
theorem cmpS_range (a b : ByteArray) : -1 ≤ cmpS a b ∧ cmpS a b ≤ 1 := by
  unfold cmpS
  split
  · omega
  · split <;> omega
mutual
def Tree.cmp : Tree → Tree → Int
  | .mk k n t ns ks, y => if cmpI k y.kind ≠ 0 then cmpI k y.kind else if cmpI n y.num ≠ 0 then cmpI n y.num else if cmpS t y.text ≠ 0 then cmpS t y.text else Tree.cmpL (k == 7) ns ks y.names y.kids
def Tree.cmpL (map : Bool) : List ByteArray → List Tree → List ByteArray → List Tree → Int
  | _, [], _, [] => 0
  | _, [], _, _ :: _ => -1
  | _, _ :: _, _, [] => 1
  | ns, x :: ks, ms, y :: ls => if map = true ∧ cmpS (ns.headD emptyB) (ms.headD emptyB) ≠ 0 then cmpS (ns.headD emptyB) (ms.headD emptyB) else if Tree.cmp x y ≠ 0 then Tree.cmp x y else Tree.cmpL map ns.tail ks ms.tail ls
end
theorem Tree.cmp_eq (x y : Tree) : Tree.cmp x y = if cmpI x.kind y.kind ≠ 0 then cmpI x.kind y.kind else if cmpI x.num y.num ≠ 0 then cmpI x.num y.num else if cmpS x.text y.text ≠ 0 then cmpS x.text y.text else Tree.cmpL (x.kind == 7) x.names x.kids y.names y.kids := by
  cases x
  rw [Tree.cmp]
  rfl
theorem cmpL_range (map : Bool) (ks : List Tree) (ih : ∀ x ∈ ks, ∀ y, -1 ≤ Tree.cmp x y ∧ Tree.cmp x y ≤ 1) : ∀ (ns ms : List ByteArray) (ls : List Tree), -1 ≤ Tree.cmpL map ns ks ms ls ∧ Tree.cmpL map ns ks ms ls ≤ 1 := by
  induction ks with
  | nil => intro ns ms ls; cases ls <;> simp [Tree.cmpL]
  | cons x ks ihk =>
    intro ns ms ls
    cases ls with
    | nil => simp [Tree.cmpL]
    | cons y ls =>
      rw [Tree.cmpL]
      split
      · exact cmpS_range _ _
      · split
        · exact ih x (by simp) y
        · exact ihk (fun z hz => ih z (List.mem_cons_of_mem _ hz)) _ _ _
theorem cmp_range : ∀ x y : Tree, -1 ≤ Tree.cmp x y ∧ Tree.cmp x y ≤ 1 := Tree.ind fun x ih y => by
  rw [Tree.cmp_eq]
  split
  · exact cmpI_range _ _
  · split
    · exact cmpI_range _ _
    · split
      · exact cmpS_range _ _
      · exact cmpL_range _ _ ih _ _ _
theorem ok_nonames {t : Tree} (h : t.ok = true) (hk : t.kind ≠ 7) : t.names = [] := by
  obtain ⟨k, n, x, ns, ks⟩ := t
  simp at hk
  simp [Tree.ok, hk] at h
  simpa using h.1.1.2
theorem cmpL_zero (map : Bool) (ks : List Tree) (ih : ∀ x ∈ ks, ∀ y, x.ok = true → y.ok = true → (Tree.cmp x y = 0 ↔ x = y)) : ∀ (ns ms : List ByteArray) (ls : List Tree), Tree.okL ks = true → Tree.okL ls = true →
    (map = true → ns.length = ks.length ∧ ms.length = ls.length) → (Tree.cmpL map ns ks ms ls = 0 ↔ (map = true → ns = ms) ∧ ks = ls) := by
  induction ks with
  | nil =>
    intro ns ms ls _ _ hl
    cases ls with
    | nil =>
      simp only [Tree.cmpL, and_true, true_iff]
      intro hm
      obtain ⟨h1, h2⟩ := hl hm
      rw [List.length_eq_zero_iff.1 h1, List.length_eq_zero_iff.1 h2]
    | cons y ls => simp [Tree.cmpL]
  | cons x ks ihk =>
    intro ns ms ls hk hl hlen
    cases ls with
    | nil => simp [Tree.cmpL]
    | cons y ls =>
      simp only [Tree.okL, Bool.and_eq_true] at hk hl
      have h0 := ih x (by simp) y hk.1 hl.1
      have hrec := ihk (fun z hz => ih z (List.mem_cons_of_mem _ hz)) ns.tail ms.tail ls hk.2 hl.2 (fun hm => by
        obtain ⟨h1, h2⟩ := hlen hm
        simp only [List.length_tail, h1, h2, List.length_cons]
        omega)
      rw [Tree.cmpL]
      cases map with
      | false =>
        simp only [Bool.false_eq_true, false_and, if_false, List.cons.injEq]
        simp only [Bool.false_eq_true, false_implies, true_and] at hrec ⊢
        split
        · next h => exact ⟨fun e => absurd e h, fun e => absurd (h0.2 e.1) h⟩
        · next h =>
          have h' : Tree.cmp x y = 0 := by omega
          rw [hrec]
          exact ⟨fun e => ⟨h0.1 h', e⟩, fun e => e.2⟩
      | true =>
        obtain ⟨h1, h2⟩ := hlen rfl
        obtain ⟨a, ns, rfl⟩ : ∃ a r, ns = a :: r := by cases ns with
          | nil => simp at h1
          | cons a r => exact ⟨a, r, rfl⟩
        obtain ⟨b, ms, rfl⟩ : ∃ a r, ms = a :: r := by cases ms with
          | nil => simp at h2
          | cons a r => exact ⟨a, r, rfl⟩
        simp only [List.headD_cons, List.tail_cons, true_and, true_implies, List.cons.injEq] at hrec ⊢
        split
        · next h => exact ⟨fun e => absurd e h, fun e => absurd (cmpS_zero.2 e.1.1) h⟩
        · next h =>
          have h' : a = b := cmpS_zero.1 (by omega)
          split
          · next g => exact ⟨fun e => absurd e g, fun e => absurd (h0.2 e.2.1) g⟩
          · next g =>
            have g' : Tree.cmp x y = 0 := by omega
            rw [hrec]
            exact ⟨fun e => ⟨⟨h', e.1⟩, h0.1 g', e.2⟩, fun e => ⟨e.1.2, e.2.2⟩⟩
theorem cmp_zero : ∀ x y : Tree, x.ok = true → y.ok = true → (Tree.cmp x y = 0 ↔ x = y) := Tree.ind fun x ih y hx hy => by
  have hrec := cmpL_zero (x.kind == 7) x.kids ih x.names y.names y.kids
  obtain ⟨k, n, t, ns, ks⟩ := x
  obtain ⟨k', n', t', ns', ks'⟩ := y
  have okx : Tree.okL ks = true := by simp [Tree.ok] at hx; exact hx.2
  have oky : Tree.okL ks' = true := by simp [Tree.ok] at hy; exact hy.2
  simp only [Tree.kind_mk, Tree.names_mk, Tree.kids_mk, Tree.mk.injEq] at hrec ⊢
  rw [Tree.cmp]
  show (if cmpI k k' ≠ 0 then cmpI k k' else if cmpI n n' ≠ 0 then cmpI n n' else if cmpS t t' ≠ 0 then cmpS t t' else Tree.cmpL (k == 7) ns ks ns' ks') = 0 ↔ _
  by_cases h : cmpI k k' = 0
  case neg => rw [if_pos h]; exact ⟨fun e => absurd e h, fun e => absurd (cmpI_zero.2 e.1) h⟩
  rw [if_neg (fun g => g h)]
  have h' : k = k' := cmpI_zero.1 h
  subst h'
  by_cases h1 : cmpI n n' = 0
  case neg => rw [if_pos h1]; exact ⟨fun e => absurd e h1, fun e => absurd (cmpI_zero.2 e.2.1) h1⟩
  rw [if_neg (fun g => g h1)]
  by_cases h2 : cmpS t t' = 0
  case neg => rw [if_pos h2]; exact ⟨fun e => absurd e h2, fun e => absurd (cmpS_zero.2 e.2.2.1) h2⟩
  rw [if_neg (fun g => g h2)]
  rw [hrec okx oky (fun hm => by
    have hk : k = 7 := by simpa using hm
    exact ⟨(Tree.ok_map hx hk).len, (Tree.ok_map hy hk).len⟩)]
  refine ⟨fun e => ⟨rfl, cmpI_zero.1 h1, cmpS_zero.1 h2, ?_, e.2⟩, fun e => ⟨fun _ => e.2.2.2.1, e.2.2.2.2⟩⟩
  by_cases hk : k = 7
  · exact e.1 (by simpa using hk)
  · have e1 := ok_nonames hx (by simpa using hk)
    have e2 := ok_nonames hy (by simpa using hk)
    simp at e1 e2
    rw [e1, e2]
/-! ### Cleaned -/
mutual
def Tree.clean : Tree → Tree
  | .mk k n t ns ks => if k = 7 then .mk 7 0 emptyB (Tree.cleanL ns ks).1 (Tree.cleanL ns ks).2 else .mk k n t ns ks
def Tree.cleanL : List ByteArray → List Tree → List ByteArray × List Tree
  | ns, x :: ks => if x.kind = 1 then Tree.cleanL ns.tail ks else (ns.headD emptyB :: (Tree.cleanL ns.tail ks).1, Tree.clean x :: (Tree.cleanL ns.tail ks).2)
  | _, [] => ([], [])
end
theorem Tree.clean_eq (t : Tree) : t.clean = if t.kind = 7 then .mk 7 0 emptyB (Tree.cleanL t.names t.kids).1 (Tree.cleanL t.names t.kids).2 else t := by
  cases t
  rw [Tree.clean]
  rfl
mutual
def Tree.isClean : Tree → Bool
  | .mk k _ _ _ ks => if k = 7 then Tree.isCleanL ks else true
def Tree.isCleanL : List Tree → Bool
  | x :: ks => !(x.kind == 1) && Tree.isClean x && Tree.isCleanL ks
  | [] => true
end
theorem Tree.isClean_eq (t : Tree) : t.isClean = if t.kind = 7 then Tree.isCleanL t.kids else true := by
  cases t
  rw [Tree.isClean]
  rfl
theorem isCleanL_iff (ks : List Tree) : Tree.isCleanL ks = true ↔ ∀ x ∈ ks, x.kind ≠ 1 ∧ x.isClean = true := by
  induction ks with
  | nil => simp [Tree.isCleanL]
  | cons x ks ih => simp [Tree.isCleanL, ih]
theorem cleanL_len (ks : List Tree) : ∀ ns, (Tree.cleanL ns ks).2.length ≤ ks.length ∧ (Tree.cleanL ns ks).1.length = (Tree.cleanL ns ks).2.length := by
  induction ks with
  | nil => intro ns; simp [Tree.cleanL]
  | cons x ks ih =>
    intro ns
    have := ih ns.tail
    rw [Tree.cleanL]
    split <;> simp <;> omega
theorem cleanL_same (ks : List Tree) (ih : ∀ x ∈ ks, x.ok = true → (x.clean = x ↔ x.isClean = true)) : ∀ ns : List ByteArray, ns.length = ks.length → Tree.okL ks = true → (Tree.cleanL ns ks = (ns, ks) ↔ Tree.isCleanL ks = true) := by
  induction ks with
  | nil => intro ns hn _; simp [Tree.cleanL, Tree.isCleanL, List.length_eq_zero_iff.1 hn]
  | cons x ks ihk =>
    intro ns hn hk
    cases ns with
    | nil => simp at hn
    | cons a ns =>
      simp only [Tree.okL, Bool.and_eq_true] at hk
      have h0 := ih x (by simp) hk.1
      have hrec := ihk (fun z hz => ih z (List.mem_cons_of_mem _ hz)) ns (by simpa using hn) hk.2
      have hl := cleanL_len ks ns
      rw [Tree.cleanL, Tree.isCleanL]
      simp only [List.tail_cons, List.headD_cons]
      split
      · next h =>
        refine ⟨fun e => ?_, fun e => by simp [h] at e⟩
        have e2 := congrArg (fun p => p.2.length) e
        simp only [List.length_cons] at e2
        omega
      · next h =>
        simp only [Prod.mk.injEq, List.cons.injEq, true_and, Bool.and_eq_true, Bool.not_eq_true', beq_eq_false_iff_ne]
        rw [Prod.ext_iff] at hrec
        simp only at hrec
        constructor
        · intro e
          exact ⟨⟨h, h0.1 e.2.1⟩, hrec.1 ⟨e.1, e.2.2⟩⟩
        · intro e
          have := hrec.2 e.2
          exact ⟨this.1, h0.2 e.1.2, this.2⟩
theorem clean_same : ∀ t : Tree, t.ok = true → (t.clean = t ↔ t.isClean = true) := Tree.ind fun t ih h => by
  rw [Tree.clean_eq, Tree.isClean_eq]
  split
  · next hk =>
    have hm := Tree.ok_map h hk
    have hr := cleanL_same t.kids ih t.names hm.len hm.ok
    rw [← hr]
    obtain ⟨k, n, x, ns, ks⟩ := t
    simp at hk
    subst hk
    simp [Tree.ok] at h
    have hz : n = 0 ∧ x = emptyB := ⟨h.1.1.1.1.1.1, empty_eq _ (by simpa using h.1.1.1.1.1.2)⟩
    simp only [Tree.names_mk, Tree.kids_mk, Tree.mk.injEq, true_and, Prod.ext_iff]
    exact ⟨fun e => ⟨e.2.2.1, e.2.2.2⟩, fun e => ⟨hz.1.symm, hz.2.symm, e.1, e.2⟩⟩
  · simp
theorem cleanL_mem (ks : List Tree) : ∀ (ns : List ByteArray), ns.length = ks.length → ∀ s ∈ (Tree.cleanL ns ks).1, s ∈ ns := by
  induction ks with
  | nil => intro ns _ s hs; simp [Tree.cleanL] at hs
  | cons x ks ih =>
    intro ns hn s hs
    cases ns with
    | nil => simp at hn
    | cons a ns =>
      rw [Tree.cleanL] at hs
      simp only [List.tail_cons, List.headD_cons] at hs
      split at hs
      · exact List.mem_cons_of_mem _ (ih ns (by simpa using hn) s hs)
      · rcases List.mem_cons.1 hs with rfl | hs
        · simp
        · exact List.mem_cons_of_mem _ (ih ns (by simpa using hn) s hs)
def CleanOK (t : Tree) : Prop := t.ok = true → t.clean.ok = true ∧ t.clean.count ≤ t.count
theorem cleanL_ok (ks : List Tree) (ih : ∀ x ∈ ks, CleanOK x) : ∀ ns, MapOK ns ks → MapOK (Tree.cleanL ns ks).1 (Tree.cleanL ns ks).2 ∧ Tree.countL (Tree.cleanL ns ks).2 ≤ Tree.countL ks := by
  induction ks with
  | nil => intro ns h; simpa [Tree.cleanL, Tree.countL] using MapOK.nil
  | cons x ks ihk =>
    intro ns h
    cases ns with
    | nil => have := h.len; simp at this
    | cons a ns =>
      have ho := h.ok
      have hs := h.str
      simp only [Tree.okL, Bool.and_eq_true] at ho
      simp only [List.all_cons, Bool.and_eq_true] at hs
      have hm : MapOK ns ks := ⟨by simpa using h.len, hs.2, sortedB_tail h.sorted, ho.2⟩
      obtain ⟨h1, h2⟩ := ihk (fun z hz => ih z (List.mem_cons_of_mem _ hz)) ns hm
      obtain ⟨g1, g2⟩ := ih x (by simp) ho.1
      rw [Tree.cleanL]
      simp only [List.tail_cons, List.headD_cons, Tree.countL]
      split
      · exact ⟨h1, by omega⟩
      · refine ⟨⟨by simp [h1.len], by simp only [List.all_cons, hs.1, h1.str, Bool.and_self], sortedB_cons h1.sorted (fun s hs' => sortedB_head h.sorted s (cleanL_mem ks ns hm.len s hs')), by simp only [Tree.okL, g1, h1.ok, Bool.and_self]⟩, ?_⟩
        simp only [Tree.countL]
        omega
theorem clean_ok : ∀ t, CleanOK t := Tree.ind fun t ih h => by
  have hc := t.count_eq
  rw [Tree.clean_eq]
  split
  · next hk =>
    obtain ⟨h1, h2⟩ := cleanL_ok t.kids ih t.names (Tree.ok_map h hk)
    refine ⟨h1.tree, ?_⟩
    rw [Tree.count]
    omega
  · exact ⟨h, Nat.le_refl _⟩
/-! ### What differs -/
def Tree.addL (an : List ByteArray) : List ByteArray → List Tree → List ByteArray → List Tree → List ByteArray × List Tree
  | nm :: bn, y :: bk, on, ok => if an[insPos an nm]? = some nm then Tree.addL an bn bk on ok else Tree.addL an bn bk (ins (insPos on nm) nm on) (ins (insPos on nm) y ok)
  | _, _, on, ok => (on, ok)
mutual
def Tree.diff : Tree → Tree → Tree
  | .mk k _n _t ns ks, b => if k = 7 ∧ b.kind = 7 then
      .mk 7 0 emptyB (Tree.addL ns b.names b.kids (Tree.diffL b.names b.kids ns ks [] []).1 (Tree.diffL b.names b.kids ns ks [] []).2).1 (Tree.addL ns b.names b.kids (Tree.diffL b.names b.kids ns ks [] []).1 (Tree.diffL b.names b.kids ns ks [] []).2).2 else b
def Tree.diffL (bn : List ByteArray) (bk : List Tree) : List ByteArray → List Tree → List ByteArray → List Tree → List ByteArray × List Tree
  | nm :: ns, x :: ks, on, ok =>
    if bn[insPos bn nm]? = some nm then
      match bk[insPos bn nm]? with
      | some y => if Tree.cmp x y = 0 then Tree.diffL bn bk ns ks on ok else Tree.diffL bn bk ns ks (ins (insPos on nm) nm on) (ins (insPos on nm) (Tree.diff x y) ok)
      | none => (on, ok)
    else Tree.diffL bn bk ns ks (ins (insPos on nm) nm on) (ins (insPos on nm) nullT ok)
  | _, _, on, ok => (on, ok)
end
theorem Tree.diff_eq (a b : Tree) : Tree.diff a b = if a.kind = 7 ∧ b.kind = 7 then
      .mk 7 0 emptyB (Tree.addL a.names b.names b.kids (Tree.diffL b.names b.kids a.names a.kids [] []).1 (Tree.diffL b.names b.kids a.names a.kids [] []).2).1 (Tree.addL a.names b.names b.kids (Tree.diffL b.names b.kids a.names a.kids [] []).1 (Tree.diffL b.names b.kids a.names a.kids [] []).2).2 else b := by
  cases a
  rw [Tree.diff]
  rfl
theorem diff_step {bn : List ByteArray} {bk : List Tree} {ns : List ByteArray} {ks : List Tree} {on : List ByteArray} {ok : List Tree} {i : Nat} {nm : ByteArray} {x : Tree} (hn : ns[i]? = some nm) (hk : ks[i]? = some x) :
    Tree.diffL bn bk (ns.drop i) (ks.drop i) on ok = if bn[insPos bn nm]? = some nm then
      match bk[insPos bn nm]? with
      | some y => if Tree.cmp x y = 0 then Tree.diffL bn bk (ns.drop (i + 1)) (ks.drop (i + 1)) on ok else Tree.diffL bn bk (ns.drop (i + 1)) (ks.drop (i + 1)) (ins (insPos on nm) nm on) (ins (insPos on nm) (Tree.diff x y) ok)
      | none => (on, ok)
    else Tree.diffL bn bk (ns.drop (i + 1)) (ks.drop (i + 1)) (ins (insPos on nm) nm on) (ins (insPos on nm) nullT ok) := by
  obtain ⟨h1, e1⟩ := List.getElem?_eq_some_iff.1 hn
  obtain ⟨h2, e2⟩ := List.getElem?_eq_some_iff.1 hk
  rw [List.drop_eq_getElem_cons h1, List.drop_eq_getElem_cons h2, e1, e2, Tree.diffL]
theorem diff_end {bn : List ByteArray} {bk : List Tree} {ns : List ByteArray} {ks : List Tree} {on : List ByteArray} {ok : List Tree} {i : Nat} (h : ns.length ≤ i) : Tree.diffL bn bk (ns.drop i) (ks.drop i) on ok = (on, ok) := by
  rw [List.drop_eq_nil_of_le h]
  cases ks.drop i <;> rw [Tree.diffL] <;> simp
theorem add_step {an : List ByteArray} {ns : List ByteArray} {ks : List Tree} {on : List ByteArray} {ok : List Tree} {i : Nat} {nm : ByteArray} {x : Tree} (hn : ns[i]? = some nm) (hk : ks[i]? = some x) :
    Tree.addL an (ns.drop i) (ks.drop i) on ok = if an[insPos an nm]? = some nm then Tree.addL an (ns.drop (i + 1)) (ks.drop (i + 1)) on ok else Tree.addL an (ns.drop (i + 1)) (ks.drop (i + 1)) (ins (insPos on nm) nm on) (ins (insPos on nm) x ok) := by
  obtain ⟨h1, e1⟩ := List.getElem?_eq_some_iff.1 hn
  obtain ⟨h2, e2⟩ := List.getElem?_eq_some_iff.1 hk
  rw [List.drop_eq_getElem_cons h1, List.drop_eq_getElem_cons h2, e1, e2, Tree.addL]
theorem add_end {an : List ByteArray} {ns : List ByteArray} {ks : List Tree} {on : List ByteArray} {ok : List Tree} {i : Nat} (h : ns.length ≤ i) : Tree.addL an (ns.drop i) (ks.drop i) on ok = (on, ok) := by
  rw [List.drop_eq_nil_of_le h]
  cases ks.drop i <;> rw [Tree.addL] <;> simp
theorem found_iff {ns : List ByteArray} {nm : ByteArray} (hs : sortedB ns = true) : ns[insPos ns nm]? = some nm ↔ nm ∈ ns := by
  refine ⟨fun h => List.mem_of_getElem? h, fun h => ?_⟩
  obtain ⟨i, hi, e⟩ := List.getElem_of_mem h
  have hx : ns[i]? = some nm := by simp [hi, e]
  obtain ⟨p1, p2⟩ := insPos_parts ns nm hs
  have h1 : insPos ns nm ≤ i := by
    rcases Nat.lt_or_ge i (insPos ns nm) with c | c
    · have := p1 i nm c hx
      rw [ltS_irrefl] at this
      cases this
    · exact c
  rcases Nat.lt_or_ge (insPos ns nm) i with c | c
  · have hy : ns[insPos ns nm]? = some (ns[insPos ns nm]'(by omega)) := by simp
    have h2 := p2 _ _ (Nat.le_refl _) hy
    rw [sortedB_lt hs _ _ _ _ c hy hx] at h2
    cases h2
  · rw [show insPos ns nm = i by omega]
    exact hx
theorem mem_ins {α : Type} {i : Nat} {x y : α} {l : List α} (h : y ∈ ins i x l) : y = x ∨ y ∈ l := by
  rcases List.mem_append.1 h with h | h
  · exact .inr (List.mem_of_mem_take h)
  · rcases List.mem_cons.1 h with h | h
    · exact .inl h
    · exact .inr (List.mem_of_mem_drop h)
def DiffOK (x : Tree) : Prop := ∀ y, x.ok = true → y.ok = true → (Tree.diff x y).ok = true ∧ (Tree.diff x y).count ≤ x.count * (y.count + 1)
theorem diffL_ok (bn : List ByteArray) (bk : List Tree) (hb : MapOK bn bk) (M : Nat) (hM : ∀ y ∈ bk, y.count ≤ M) (ks : List Tree) (ih : ∀ x ∈ ks, DiffOK x) : ∀ (ns on : List ByteArray) (ok : List Tree), MapOK ns ks → MapOK on ok → (∀ s ∈ ns, s ∉ on) →
    MapOK (Tree.diffL bn bk ns ks on ok).1 (Tree.diffL bn bk ns ks on ok).2 ∧ Tree.countL (Tree.diffL bn bk ns ks on ok).2 ≤ Tree.countL ok + Tree.countL ks * (M + 1) ∧ ∀ s ∈ (Tree.diffL bn bk ns ks on ok).1, s ∈ on ∨ s ∈ ns := by
  induction ks with
  | nil =>
    intro ns on ok hm ho _
    have : ns = [] := by have := hm.len; simpa using this
    subst this
    rw [Tree.diffL]
    · exact ⟨ho, by simp, fun s h => .inl h⟩
    · simp
  | cons x ks ihk =>
    intro ns on ok hm ho hd
    cases ns with
    | nil => have := hm.len; simp at this
    | cons nm ns =>
      have h1 := hm.ok
      have h2 := hm.str
      simp only [Tree.okL, Bool.and_eq_true] at h1
      simp only [List.all_cons, Bool.and_eq_true] at h2
      have hm' : MapOK ns ks := ⟨by simpa using hm.len, h2.2, sortedB_tail hm.sorted, h1.2⟩
      have hrec := ihk (fun z hz => ih z (List.mem_cons_of_mem _ hz)) ns
      have hnm : nm ∉ on := hd nm (by simp)
      have hd0 : ∀ s ∈ ns, s ∉ on := fun s hs => hd s (List.mem_cons_of_mem _ hs)
      have hfi : on[insPos on nm]? ≠ some nm := fun e => hnm (List.mem_of_getElem? e)
      have hd1 : ∀ s ∈ ns, s ∉ ins (insPos on nm) nm on := fun s hs hi => by
        rcases mem_ins hi with rfl | hi
        · have := sortedB_head hm.sorted s hs
          rw [ltS_irrefl] at this
          cases this
        · exact hd0 s hs hi
      have fin : ∀ z : Tree, z.ok = true → z.count ≤ x.count * (M + 1) → MapOK (Tree.diffL bn bk ns ks (ins (insPos on nm) nm on) (ins (insPos on nm) z ok)).1 (Tree.diffL bn bk ns ks (ins (insPos on nm) nm on) (ins (insPos on nm) z ok)).2 ∧
          Tree.countL (Tree.diffL bn bk ns ks (ins (insPos on nm) nm on) (ins (insPos on nm) z ok)).2 ≤ Tree.countL ok + (x.count + Tree.countL ks) * (M + 1) ∧ ∀ s ∈ (Tree.diffL bn bk ns ks (ins (insPos on nm) nm on) (ins (insPos on nm) z ok)).1, s ∈ on ∨ s ∈ nm :: ns := fun z hz hc => by
        obtain ⟨g1, g2, g3⟩ := hrec _ _ hm' (ho.ins hfi h2.1 hz) hd1
        rw [countL_ins] at g2
        refine ⟨g1, by rw [Nat.add_mul]; omega, fun s hs => ?_⟩
        rcases g3 s hs with h | h
        · rcases mem_ins h with rfl | h
          · exact .inr (by simp)
          · exact .inl h
        · exact .inr (List.mem_cons_of_mem _ h)
      have hx1 := x.count_eq
      rw [Tree.diffL]
      simp only [Tree.countL]
      split
      · next hf =>
        have hlt : insPos bn nm < bk.length := by
          have := (List.getElem?_eq_some_iff.1 hf).1
          have := hb.len
          omega
        have hy : bk[insPos bn nm]? = some (bk[insPos bn nm]'hlt) := by simp [hlt]
        generalize bk[insPos bn nm]'hlt = y at hy
        rw [hy]
        simp only
        split
        · obtain ⟨g1, g2, g3⟩ := hrec on ok hm' ho hd0
          refine ⟨g1, by rw [Nat.add_mul]; omega, fun s hs => ?_⟩
          rcases g3 s hs with h | h
          · exact .inl h
          · exact .inr (List.mem_cons_of_mem _ h)
        · have hyo : y.ok = true := (okL_iff bk).1 hb.ok y (List.mem_of_getElem? hy)
          obtain ⟨g1, g2⟩ := ih x (by simp) y h1.1 hyo
          have hyM := hM y (List.mem_of_getElem? hy)
          exact fin _ g1 (Nat.le_trans g2 (Nat.mul_le_mul_left _ (by omega)))
      · exact fin _ null_ok (by
          have : 1 * 1 ≤ x.count * (M + 1) := Nat.mul_le_mul (by omega) (by omega)
          have := null_count
          omega)
theorem addL_ok (an : List ByteArray) (has : sortedB an = true) (bk : List Tree) : ∀ (bn on : List ByteArray) (ok : List Tree), MapOK bn bk → MapOK on ok → (∀ s ∈ bn, s ∉ an → s ∉ on) →
    MapOK (Tree.addL an bn bk on ok).1 (Tree.addL an bn bk on ok).2 ∧ Tree.countL (Tree.addL an bn bk on ok).2 ≤ Tree.countL ok + Tree.countL bk := by
  induction bk with
  | nil =>
    intro bn on ok hm ho _
    have : bn = [] := by have := hm.len; simpa using this
    subst this
    rw [Tree.addL]
    · exact ⟨ho, by show Tree.countL ok ≤ _; omega⟩
    · simp
  | cons y bk ihk =>
    intro bn on ok hm ho hd
    cases bn with
    | nil => have := hm.len; simp at this
    | cons nm bn =>
      have h1 := hm.ok
      have h2 := hm.str
      simp only [Tree.okL, Bool.and_eq_true] at h1
      simp only [List.all_cons, Bool.and_eq_true] at h2
      have hm' : MapOK bn bk := ⟨by simpa using hm.len, h2.2, sortedB_tail hm.sorted, h1.2⟩
      rw [Tree.addL]
      simp only [Tree.countL]
      split
      · obtain ⟨g1, g2⟩ := ihk bn on ok hm' ho (fun s hs => hd s (List.mem_cons_of_mem _ hs))
        exact ⟨g1, by omega⟩
      · next hf =>
        have hna : nm ∉ an := fun h => hf ((found_iff has).2 h)
        have hnm := hd nm (by simp) hna
        obtain ⟨g1, g2⟩ := ihk bn _ _ hm' (ho.ins (fun e => hnm (List.mem_of_getElem? e)) h2.1 h1.1) (fun s hs hsa hi => by
          rcases mem_ins hi with rfl | hi
          · have := sortedB_head hm.sorted s hs
            rw [ltS_irrefl] at this
            cases this
          · exact hd s (List.mem_cons_of_mem _ hs) hsa hi)
        rw [countL_ins] at g2
        exact ⟨g1, by omega⟩
theorem diff_ok : ∀ a, DiffOK a := Tree.ind fun a ih b ha hb => by
  have hac := a.count_eq
  have hbc := b.count_eq
  rw [Tree.diff_eq]
  split
  · next hk =>
    have hma := Tree.ok_map ha hk.1
    have hmb := Tree.ok_map hb hk.2
    obtain ⟨h1, h2, h3⟩ := diffL_ok b.names b.kids hmb b.count (fun y hy => by have := Tree.countL_mem b.kids y hy; omega) a.kids ih a.names [] [] hma MapOK.nil (fun s _ h => by cases h)
    obtain ⟨g1, g2⟩ := addL_ok a.names hma.sorted b.kids b.names _ _ hmb h1 (fun s _ hsa h => by
      rcases h3 s h with h | h
      · cases h
      · exact hsa h)
    refine ⟨g1.tree, ?_⟩
    simp only [Tree.count, Tree.countL] at h2 ⊢
    rw [hac, Nat.add_mul]
    omega
  · refine ⟨hb, ?_⟩
    have : 1 * (b.count + 1) ≤ a.count * (b.count + 1) := Nat.mul_le_mul_right _ (by omega)
    omega
end Go.Proofs.YtcbcndoddikpjaaGreatDoor
