/- Maps by their names: what a patch, a joined patch, what differs tell of a name. Plain words: P4's laws. Joined patches do what one behind the other does; what differs, put to the one, is the other; what is cleaned is clean. Plain words. -/
import Derived.Test.YteeppdobeeodiaaGreatDoorDf1
namespace Go.Proofs.YteeppdobeeodiaaGreatDoor
/-- What a name leads to. -/
def getT (ns : List ByteArray) (ks : List Tree) (s : ByteArray) : Option Tree := if ns[insPos ns s]? = some s then ks[insPos ns s]? else none
theorem getT_none {ns : List ByteArray} {ks : List Tree} {s : ByteArray} (h : ¬ ns[insPos ns s]? = some s) : getT ns ks s = none := if_neg h
theorem getT_nil (s : ByteArray) : getT [] [] s = none := by simp [getT]
theorem pos_found {ns : List ByteArray} {s : ByteArray} {i : Nat} (hs : sortedB ns = true) (h : ns[i]? = some s) : insPos ns s = i := by
  have h0 := (found_iff hs).2 (List.mem_of_getElem? h)
  rcases Nat.lt_trichotomy (insPos ns s) i with c | c | c
  · have := sortedB_lt hs _ _ _ _ c h0 h
    rw [ltS_irrefl] at this
    cases this
  · exact c
  · have := sortedB_lt hs _ _ _ _ c h h0
    rw [ltS_irrefl] at this
    cases this
theorem getT_at {ns : List ByteArray} {ks : List Tree} {s : ByteArray} {i : Nat} (hs : sortedB ns = true) (h : ns[i]? = some s) : getT ns ks s = ks[i]? := by
  rw [getT, pos_found hs h, if_pos h]
theorem getT_notin {ns : List ByteArray} {ks : List Tree} {s : ByteArray} (h : s ∉ ns) : getT ns ks s = none := getT_none fun e => h (List.mem_of_getElem? e)
theorem getT_mem {ns : List ByteArray} {ks : List Tree} {s : ByteArray} {x : Tree} (h : getT ns ks s = some x) : s ∈ ns ∧ x ∈ ks := by
  unfold getT at h
  split at h
  · next c => exact ⟨List.mem_of_getElem? c, List.mem_of_getElem? h⟩
  · cases h
theorem getT_some {ns : List ByteArray} {ks : List Tree} {s : ByteArray} (hm : MapOK ns ks) (h : s ∈ ns) : ∃ x, getT ns ks s = some x := by
  obtain ⟨i, hi, e⟩ := List.getElem_of_mem h
  have hl := hm.len
  rw [getT_at hm.sorted (i := i) (by simp [hi, e])]
  exact ⟨ks[i]'(by omega), by simp⟩
theorem getT_cons {a : ByteArray} {ns : List ByteArray} {x : Tree} {ks : List Tree} {s : ByteArray} (hs : sortedB (a :: ns) = true) : getT (a :: ns) (x :: ks) s = if a = s then some x else getT ns ks s := by
  by_cases h : a = s
  · subst h
    rw [if_pos rfl, getT_at (i := 0) hs (by simp)]
    rfl
  · rw [if_neg h]
    by_cases hm : s ∈ ns
    · obtain ⟨i, hi, e⟩ := List.getElem_of_mem hm
      have h1 : ns[i]? = some s := by simp [hi, e]
      rw [getT_at (i := i) (sortedB_tail hs) h1, getT_at (i := i + 1) hs (by simpa using h1)]
      rfl
    · rw [getT_notin hm, getT_notin (fun h' => ?_)]
      rcases List.mem_cons.1 h' with h' | h'
      · exact h h'.symm
      · exact hm h'
/-- Two maps that tell the same of every name are one. -/
theorem map_ext : ∀ (ns ms : List ByteArray) (ks ls : List Tree), MapOK ns ks → MapOK ms ls → (∀ s, getT ns ks s = getT ms ls s) → ns = ms ∧ ks = ls
  | [], [], ks, ls, h, h', _ => by
    have h1 := h.len
    have h2 := h'.len
    simp at h1 h2
    exact ⟨rfl, by rw [List.eq_nil_of_length_eq_zero h1.symm, List.eq_nil_of_length_eq_zero h2.symm]⟩
  | a :: ns, [], ks, ls, h, _, he => by
    obtain ⟨x, hx⟩ := getT_some h (s := a) (by simp)
    rw [he a, getT_notin (by simp)] at hx
    cases hx
  | [], b :: ms, ks, ls, _, h', he => by
    obtain ⟨x, hx⟩ := getT_some h' (s := b) (by simp)
    rw [← he b, getT_notin (by simp)] at hx
    cases hx
  | a :: ns, b :: ms, ks, ls, h, h', he => by
    obtain ⟨x, ks, rfl⟩ : ∃ x r, ks = x :: r := by cases ks with
      | nil => have := h.len; simp at this
      | cons x r => exact ⟨x, r, rfl⟩
    obtain ⟨y, ls, rfl⟩ : ∃ x r, ls = x :: r := by cases ls with
      | nil => have := h'.len; simp at this
      | cons x r => exact ⟨x, r, rfl⟩
    have ho := h.ok
    have ho' := h'.ok
    have hs := h.str
    have hs' := h'.str
    simp only [Tree.okL, Bool.and_eq_true] at ho ho'
    simp only [List.all_cons, Bool.and_eq_true] at hs hs'
    have hab : a = b := by
      have h1 : a ∈ b :: ms := by
        obtain ⟨z, hz⟩ := getT_some h (s := a) (by simp)
        rw [he a] at hz
        exact (getT_mem hz).1
      have h2 : b ∈ a :: ns := by
        obtain ⟨z, hz⟩ := getT_some h' (s := b) (by simp)
        rw [← he b] at hz
        exact (getT_mem hz).1
      rcases List.mem_cons.1 h1 with h1 | h1
      · exact h1
      · rcases List.mem_cons.1 h2 with h2 | h2
        · exact h2.symm
        · have g1 := sortedB_head h'.sorted a h1
          have g2 := sortedB_head h.sorted b h2
          rw [ltS_asymm g1] at g2
          cases g2
    subst hab
    have e0 := he a
    rw [getT_cons h.sorted, getT_cons h'.sorted, if_pos rfl, if_pos rfl] at e0
    injection e0 with e0
    subst e0
    have hrec := map_ext ns ms ks ls ⟨by simpa using h.len, hs.2, sortedB_tail h.sorted, ho.2⟩ ⟨by simpa using h'.len, hs'.2, sortedB_tail h'.sorted, ho'.2⟩ (fun s => by
      by_cases c : a = s
      · subst c
        rw [getT_notin (fun hm => ?_), getT_notin (fun hm => ?_)]
        · have := sortedB_head h'.sorted a hm
          rw [ltS_irrefl] at this
          cases this
        · have := sortedB_head h.sorted a hm
          rw [ltS_irrefl] at this
          cases this
      · have := he s
        rw [getT_cons h.sorted, getT_cons h'.sorted, if_neg c, if_neg c] at this
        exact this)
    exact ⟨by rw [hrec.1], by rw [hrec.2]⟩
theorem getElem_ins {α : Type} (i j : Nat) (x : α) (l : List α) (h : i ≤ l.length) : (ins i x l)[j]? = if j < i then l[j]? else if j = i then some x else l[j - 1]? := by
  have hl : (l.take i).length = i := by simp; omega
  unfold ins
  split
  · next c => rw [List.getElem?_append_left (by omega), List.getElem?_take, if_pos c]
  · next c =>
    rw [List.getElem?_append_right (by omega), hl]
    split
    · next e => subst e; simp
    · next e =>
      rw [show j - i = (j - i - 1) + 1 by omega, List.getElem?_cons_succ, List.getElem?_drop]
      congr 1
      omega
theorem getElem_del {α : Type} (i j : Nat) (l : List α) (h : i < l.length) : (del i l)[j]? = if j < i then l[j]? else l[j + 1]? := by
  have hl : (l.take i).length = i := by simp; omega
  unfold del
  split
  · next c => rw [List.getElem?_append_left (by omega), List.getElem?_take, if_pos c]
  · next c =>
    rw [List.getElem?_append_right (by omega), hl, List.getElem?_drop]
    congr 1
    omega
theorem getT_ins {ns : List ByteArray} {ks : List Tree} {nm s : ByteArray} {x : Tree} (hm : MapOK ns ks) (hn : ns[insPos ns nm]? ≠ some nm) : getT (ins (insPos ns nm) nm ns) (ins (insPos ns nm) x ks) s = if s = nm then some x else getT ns ks s := by
  have hp := insPos_le ns nm
  have hl := hm.len
  have hs' := ins_sorted ns nm hm.sorted hn
  split
  · next e =>
    subst e
    rw [getT_at (i := insPos ns s) hs' (by rw [getElem_ins _ _ _ _ hp, if_neg (by omega), if_pos rfl]), getElem_ins _ _ _ _ (by omega), if_neg (by omega), if_pos rfl]
  · next e =>
    by_cases hm' : s ∈ ns
    · obtain ⟨i, hi, e'⟩ := List.getElem_of_mem hm'
      have h1 : ns[i]? = some s := by simp [hi, e']
      rw [getT_at (i := i) hm.sorted h1]
      by_cases c : i < insPos ns nm
      · rw [getT_at (i := i) hs' (by rw [getElem_ins _ _ _ _ hp, if_pos c]; exact h1), getElem_ins _ _ _ _ (by omega), if_pos c]
      · rw [getT_at (i := i + 1) hs' (by rw [getElem_ins _ _ _ _ hp, if_neg (by omega), if_neg (by omega)]; exact h1), getElem_ins _ _ _ _ (by omega), if_neg (by omega), if_neg (by omega)]
        rfl
    · rw [getT_notin hm', getT_notin (fun h => ?_)]
      rcases mem_ins h with h | h
      · exact e h
      · exact hm' h
theorem getT_del {ns : List ByteArray} {ks : List Tree} {nm s : ByteArray} (hm : MapOK ns ks) (hf : ns[insPos ns nm]? = some nm) : getT (del (insPos ns nm) ns) (del (insPos ns nm) ks) s = if s = nm then none else getT ns ks s := by
  have hlt := (List.getElem?_eq_some_iff.1 hf).1
  have hl := hm.len
  have hs' := del_sorted (insPos ns nm) ns hm.sorted
  have hin : ∀ j, (del (insPos ns nm) ns)[j]? = if j < insPos ns nm then ns[j]? else ns[j + 1]? := fun j => getElem_del _ _ _ hlt
  split
  · next e =>
    subst e
    refine getT_notin fun h => ?_
    obtain ⟨j, hj, e'⟩ := List.getElem_of_mem h
    have h1 : (del (insPos ns s) ns)[j]? = some s := by simp [hj, e']
    rw [hin] at h1
    split at h1
    · next c => have := pos_found hm.sorted h1; omega
    · next c => have := pos_found hm.sorted h1; omega
  · next e =>
    by_cases hm' : s ∈ ns
    · obtain ⟨i, hi, e'⟩ := List.getElem_of_mem hm'
      have h1 : ns[i]? = some s := by simp [hi, e']
      rw [getT_at (i := i) hm.sorted h1]
      by_cases c : i < insPos ns nm
      · rw [getT_at (i := i) hs' (by rw [hin, if_pos c]; exact h1), getElem_del _ _ _ (by omega), if_pos c]
      · have hne : i ≠ insPos ns nm := fun ei => by
          rw [← ei] at hf
          rw [h1] at hf
          injection hf with hf
          exact e hf
        rw [getT_at (i := i - 1) hs' (by rw [hin, if_neg (by omega), show i - 1 + 1 = i by omega]; exact h1), getElem_del _ _ _ (by omega), if_neg (by omega), show i - 1 + 1 = i by omega]
    · rw [getT_notin hm', getT_notin (fun h => ?_)]
      rcases List.mem_append.1 h with h | h
      · exact hm' (List.mem_of_mem_take h)
      · exact hm' (List.mem_of_mem_drop h)
theorem getT_set {ns : List ByteArray} {ks : List Tree} {nm s : ByteArray} {x : Tree} (hm : MapOK ns ks) (hf : ns[insPos ns nm]? = some nm) : getT ns (ks.set (insPos ns nm) x) s = if s = nm then some x else getT ns ks s := by
  have hlt := (List.getElem?_eq_some_iff.1 hf).1
  have hl := hm.len
  split
  · next e =>
    subst e
    rw [getT, if_pos hf, List.getElem?_set, if_pos rfl, if_pos (by omega)]
  · next e =>
    unfold getT
    split
    · next c =>
      rw [List.getElem?_set_ne]
      intro ei
      rw [← ei, hf] at c
      injection c with c
      exact e c.symm
    · rfl
/-- What a map behind a patch tells of a name. -/
def patchAt (u : Option Tree) : Option Tree → Option Tree
  | none => u
  | some x => if x.kind = 1 then none else some (Tree.patch (u.getD nullT) x)
theorem getT_patchL (ks : List Tree) : ∀ (ns pn : List ByteArray) (pk : List Tree), MapOK pn pk → MapOK ns ks → ∃ rn rk, Tree.patchL pn pk ns ks = .mk 7 0 emptyB rn rk ∧ MapOK rn rk ∧ ∀ s, getT rn rk s = patchAt (getT pn pk s) (getT ns ks s) := by
  induction ks with
  | nil =>
    intro ns pn pk hm hk
    have : ns = [] := by have := hk.len; simpa using this
    subst this
    refine ⟨pn, pk, by rw [Tree.patchL]; simp, hm, fun s => by rw [getT_nil]; rfl⟩
  | cons x ks ih =>
    intro ns pn pk hm hk
    cases ns with
    | nil => have := hk.len; simp at this
    | cons nm ns =>
      have h1 := hk.ok
      have h2 := hk.str
      simp only [Tree.okL, Bool.and_eq_true] at h1
      simp only [List.all_cons, Bool.and_eq_true] at h2
      have hk' : MapOK ns ks := ⟨by simpa using hk.len, h2.2, sortedB_tail hk.sorted, h1.2⟩
      have hnot : getT ns ks nm = none := getT_notin fun h => by
        have := sortedB_head hk.sorted nm h
        rw [ltS_irrefl] at this
        cases this
      have fin : ∀ (pn' : List ByteArray) (pk' : List Tree), MapOK pn' pk' → (∀ s, s ≠ nm → getT pn' pk' s = getT pn pk s) → getT pn' pk' nm = patchAt (getT pn pk nm) (some x) →
          ∃ rn rk, Tree.patchL pn' pk' ns ks = .mk 7 0 emptyB rn rk ∧ MapOK rn rk ∧ ∀ s, getT rn rk s = patchAt (getT pn pk s) (getT (nm :: ns) (x :: ks) s) := fun pn' pk' hm' ho hn => by
        obtain ⟨rn, rk, e, g1, g2⟩ := ih ns pn' pk' hm' hk'
        refine ⟨rn, rk, e, g1, fun s => ?_⟩
        rw [g2, getT_cons hk.sorted]
        by_cases c : nm = s
        · subst c
          rw [if_pos rfl, hnot]
          exact hn
        · rw [if_neg c, ho s (fun e => c e.symm)]
      rw [Tree.patchL]
      split
      · next hf =>
        have hlt : insPos pn nm < pk.length := by
          have := (List.getElem?_eq_some_iff.1 hf).1
          have := hm.len
          omega
        have hy : pk[insPos pn nm]? = some (pk[insPos pn nm]'hlt) := by simp [hlt]
        have hg : getT pn pk nm = some (pk[insPos pn nm]'hlt) := by rw [getT, if_pos hf, hy]
        generalize pk[insPos pn nm]'hlt = y at hy hg
        have hyo : y.ok = true := (okL_iff pk).1 hm.ok y (List.mem_of_getElem? hy)
        split
        · next hn =>
          refine fin _ _ (hm.del _ hlt) (fun s hs => by rw [getT_del hm hf, if_neg hs]) ?_
          rw [getT_del hm hf, if_pos rfl, patchAt, if_pos hn]
        · next hn =>
          rw [hy]
          refine fin _ _ (hm.set _ (patch_ok x y hyo h1.1).1) (fun s hs => by rw [getT_set hm hf, if_neg hs]) ?_
          rw [getT_set hm hf, if_pos rfl, patchAt, if_neg hn, hg]
          rfl
      · next hf =>
        have hg : getT pn pk nm = none := getT_none hf
        split
        · next hn =>
          refine fin _ _ hm (fun _ _ => rfl) ?_
          rw [hg, patchAt, if_pos hn]
        · next hn =>
          refine fin _ _ (hm.ins hf h2.1 (patch_ok x nullT null_ok h1.1).1) (fun s hs => by rw [getT_ins hm hf, if_neg hs]) ?_
          rw [getT_ins hm hf, if_pos rfl, patchAt, if_neg hn, hg]
          rfl
/-- The parts of a map; none of another value. -/
def mapN (t : Tree) : List ByteArray := if t.kind = 7 then t.names else []
def mapK (t : Tree) : List Tree := if t.kind = 7 then t.kids else []
theorem map_ok {t : Tree} (h : t.ok = true) : MapOK (mapN t) (mapK t) := by
  unfold mapN mapK
  by_cases hk : t.kind = 7
  · rw [if_pos hk, if_pos hk]; exact Tree.ok_map h hk
  · rw [if_neg hk, if_neg hk]; exact MapOK.nil
def Tree.get (t : Tree) (s : ByteArray) : Option Tree := getT (mapN t) (mapK t) s
theorem get_ok {t x : Tree} {s : ByteArray} (h : t.ok = true) (hx : t.get s = some x) : x.ok = true := (okL_iff _).1 (map_ok h).ok x (getT_mem hx).2
theorem get_kid {t x : Tree} {s : ByteArray} (hx : t.get s = some x) : x ∈ t.kids := by
  have := (getT_mem hx).2
  unfold mapK at this
  split at this
  · exact this
  · cases this
theorem tree_ext {a b : Tree} (ha : a.ok = true) (hb : b.ok = true) (hka : a.kind = 7) (hkb : b.kind = 7) (h : ∀ s, a.get s = b.get s) : a = b := by
  obtain ⟨h1, h2⟩ := map_ext _ _ _ _ (map_ok ha) (map_ok hb) h
  unfold mapN at h1
  unfold mapK at h2
  rw [if_pos hka, if_pos hkb] at h1 h2
  have za : a.num = 0 ∧ a.text = emptyB := by
    obtain ⟨k, n, x, ns, ks⟩ := a
    simp at hka
    subst hka
    simp [Tree.ok] at ha
    exact ⟨ha.1.1.1.1.1.1, empty_eq _ (by simpa using ha.1.1.1.1.1.2)⟩
  have zb : b.num = 0 ∧ b.text = emptyB := by
    obtain ⟨k, n, x, ns, ks⟩ := b
    simp at hkb
    subst hkb
    simp [Tree.ok] at hb
    exact ⟨hb.1.1.1.1.1.1, empty_eq _ (by simpa using hb.1.1.1.1.1.2)⟩
  obtain ⟨k, n, x, ns, ks⟩ := a
  obtain ⟨k', n', x', ns', ks'⟩ := b
  simp at hka hkb za zb h1 h2
  rw [hka, hkb, za.1, za.2, zb.1, zb.2, h1, h2]
theorem patch_map {v p : Tree} (hv : v.ok = true) (hp : p.ok = true) (hk : p.kind = 7) : (Tree.patch v p).kind = 7 ∧ ∀ s, (Tree.patch v p).get s = patchAt (v.get s) (p.get s) := by
  have h := getT_patchL (mapK p) (mapN p) (mapN v) (mapK v) (map_ok hv) (map_ok hp)
  have e : Tree.patch v p = Tree.patchL (mapN v) (mapK v) (mapN p) (mapK p) := by
    rw [patch_eq, if_pos hk]
    unfold mapN mapK
    rw [if_pos hk, if_pos hk]
    by_cases hvk : v.kind = 7
    · rw [if_pos hvk, if_pos hvk, if_pos hvk]
    · rw [if_neg hvk, if_neg hvk, if_neg hvk]
  obtain ⟨rn, rk, e', g1, g2⟩ := h
  rw [e, e']
  exact ⟨rfl, fun s => g2 s⟩
theorem patch_leaf {v p : Tree} (hk : p.kind ≠ 7) : Tree.patch v p = p := by rw [patch_eq, if_neg hk]
/-- A patch put twice is put once. -/
theorem patch_twice : ∀ p v : Tree, p.ok = true → v.ok = true → Tree.patch (Tree.patch v p) p = Tree.patch v p := Tree.ind fun p ih v hp hv => by
  by_cases hk : p.kind = 7
  case neg => rw [patch_leaf hk, patch_leaf hk]
  have hr := (patch_ok p v hv hp).1
  obtain ⟨k1, g1⟩ := patch_map hv hp hk
  obtain ⟨k2, g2⟩ := patch_map hr hp hk
  refine tree_ext (patch_ok p _ hr hp).1 hr k2 k1 fun s => ?_
  rw [g2, g1]
  cases hx : p.get s with
  | none => rfl
  | some x =>
    simp only [patchAt]
    split
    · rfl
    · have hu : ((v.get s).getD nullT).ok = true := by
        cases hg : v.get s with
        | none => exact null_ok
        | some u => exact get_ok hv hg
      rw [Option.getD_some, ih x (get_kid hx) _ (get_ok hp hx) hu]
/-- What a clean value makes of nothing is itself. -/
theorem patch_null : ∀ x : Tree, x.ok = true → x.isClean = true → ∀ v, v.ok = true → v.kind ≠ 7 → Tree.patch v x = x := Tree.ind fun x ih hx hc v hv hvk => by
  by_cases hk : x.kind = 7
  case neg => rw [patch_leaf hk]
  obtain ⟨k1, g1⟩ := patch_map hv hx hk
  refine tree_ext (patch_ok x v hv hx).1 hx k1 hk fun s => ?_
  have hv0 : v.get s = none := by unfold Tree.get mapN mapK; rw [if_neg hvk, if_neg hvk]; exact getT_nil s
  rw [g1, hv0]
  cases hg : x.get s with
  | none => rfl
  | some y =>
    rw [Tree.isClean_eq, if_pos hk, isCleanL_iff] at hc
    obtain ⟨h1, h2⟩ := hc y (get_kid hg)
    rw [patchAt, if_neg h1, Option.getD_none, ih y (get_kid hg) (get_ok hx hg) h2 nullT null_ok (by decide)]
end Go.Proofs.YteeppdobeeodiaaGreatDoor
namespace Go.Proofs.YteeppdobeeodiaaGreatDoor
/-- What a joined patch tells of a name. -/
def JoinAt (u : Option Tree) (v r : Option Tree) : Prop := match v with
  | none => r = u
  | some x => match u with
    | none => r = some x
    | some y => ∃ z, Tree.join y x = some z ∧ r = some z
theorem getT_joinL (ks : List Tree) : ∀ (ns pn : List ByteArray) (pk : List Tree) (rn : List ByteArray) (rk : List Tree), MapOK pn pk → MapOK ns ks → Tree.joinL pn pk ns ks = some (rn, rk) → MapOK rn rk ∧ ∀ s, JoinAt (getT pn pk s) (getT ns ks s) (getT rn rk s) := by
  induction ks with
  | nil =>
    intro ns pn pk rn rk hm hk h
    have : ns = [] := by have := hk.len; simpa using this
    subst this
    simp [Tree.joinL] at h
    obtain ⟨rfl, rfl⟩ := h
    exact ⟨hm, fun s => by rw [getT_nil]; exact rfl⟩
  | cons x ks ih =>
    intro ns pn pk rn rk hm hk h
    cases ns with
    | nil => have := hk.len; simp at this
    | cons nm ns =>
      have h1 := hk.ok
      have h2 := hk.str
      simp only [Tree.okL, Bool.and_eq_true] at h1
      simp only [List.all_cons, Bool.and_eq_true] at h2
      have hk' : MapOK ns ks := ⟨by simpa using hk.len, h2.2, sortedB_tail hk.sorted, h1.2⟩
      have hnot : getT ns ks nm = none := getT_notin fun h => by
        have := sortedB_head hk.sorted nm h
        rw [ltS_irrefl] at this
        cases this
      have fin : ∀ (pn' : List ByteArray) (pk' : List Tree), MapOK pn' pk' → Tree.joinL pn' pk' ns ks = some (rn, rk) → (∀ s, s ≠ nm → getT pn' pk' s = getT pn pk s) → JoinAt (getT pn pk nm) (some x) (getT pn' pk' nm) →
          MapOK rn rk ∧ ∀ s, JoinAt (getT pn pk s) (getT (nm :: ns) (x :: ks) s) (getT rn rk s) := fun pn' pk' hm' hj ho hn => by
        obtain ⟨g1, g2⟩ := ih ns pn' pk' rn rk hm' hk' hj
        refine ⟨g1, fun s => ?_⟩
        rw [getT_cons hk.sorted]
        by_cases c : nm = s
        · subst c
          have := g2 nm
          rw [hnot] at this
          rw [if_pos rfl, show getT rn rk nm = _ from this]
          exact hn
        · have := g2 s
          rw [ho s (fun e => c e.symm)] at this
          rw [if_neg c]
          exact this
      rw [Tree.joinL] at h
      split at h
      · next hf =>
        split at h
        · next y hy =>
          split at h
          · next z hz =>
            have hyo : y.ok = true := (okL_iff pk).1 hm.ok y (List.mem_of_getElem? hy)
            refine fin _ _ (hm.set _ (join_ok x y z hyo h1.1 hz).1) h (fun s hs => by rw [getT_set hm hf, if_neg hs]) ?_
            rw [getT_set hm hf, if_pos rfl, getT, if_pos hf, hy]
            exact ⟨z, hz, rfl⟩
          · cases h
        · cases h
      · next hf =>
        refine fin _ _ (hm.ins hf h2.1 h1.1) h (fun s hs => by rw [getT_ins hm hf, if_neg hs]) ?_
        rw [getT_ins hm hf, if_pos rfl, getT_none hf]
        exact rfl
theorem join_form (p q : Tree) : Tree.join p q = if q.kind = 7 then (if p.kind = 7 then (Tree.joinL p.names p.kids q.names q.kids).map (fun r => .mk 7 0 emptyB r.1 r.2) else none) else some q := by
  cases q
  rw [Tree.join]
  rfl
theorem join_map {p q j : Tree} (hp : p.ok = true) (hq : q.ok = true) (hk : q.kind = 7) (h : Tree.join p q = some j) : p.kind = 7 ∧ j.kind = 7 ∧ ∀ s, JoinAt (p.get s) (q.get s) (j.get s) := by
  rw [join_form, if_pos hk] at h
  split at h
  · next hpk =>
    cases hj : Tree.joinL p.names p.kids q.names q.kids with
    | none => rw [hj] at h; cases h
    | some r =>
      obtain ⟨rn, rk⟩ := r
      rw [hj] at h
      simp at h
      subst h
      obtain ⟨g1, g2⟩ := getT_joinL q.kids q.names p.names p.kids rn rk (Tree.ok_map hp hpk) (Tree.ok_map hq hk) hj
      refine ⟨hpk, rfl, fun s => ?_⟩
      have := g2 s
      unfold Tree.get mapN mapK
      rw [if_pos hpk, if_pos hpk, if_pos hk, if_pos hk]
      exact this
  · cases h
theorem join_leaf {p q : Tree} (hk : q.kind ≠ 7) : Tree.join p q = some q := by rw [join_form, if_neg hk]
theorem get_or {v : Tree} (hv : v.ok = true) (s : ByteArray) : ((v.get s).getD nullT).ok = true := by
  cases hg : v.get s with
  | none => exact null_ok
  | some u => exact get_ok hv hg
/-- Patches that are joined do what one behind the other does. -/
theorem join_patch : ∀ q p j v : Tree, q.ok = true → p.ok = true → v.ok = true → Tree.join p q = some j → Tree.patch (Tree.patch v p) q = Tree.patch v j := Tree.ind fun q ih p j v hq hp hv h => by
  by_cases hk : q.kind = 7
  case neg =>
    rw [join_leaf hk] at h
    injection h with h
    subst h
    rw [patch_leaf hk, patch_leaf hk]
  obtain ⟨hpk, hjk, g⟩ := join_map hp hq hk h
  have hj := (join_ok q p j hp hq h).1
  have hvp := (patch_ok p v hv hp).1
  obtain ⟨k1, g1⟩ := patch_map hv hp hpk
  obtain ⟨k2, g2⟩ := patch_map hvp hq hk
  obtain ⟨k3, g3⟩ := patch_map hv hj hjk
  refine tree_ext (patch_ok q _ hvp hq).1 (patch_ok j _ hv hj).1 k2 k3 fun s => ?_
  rw [g2, g1, g3]
  have gs := g s
  cases hx : q.get s with
  | none =>
    rw [hx] at gs
    rw [show j.get s = p.get s from gs]
    rfl
  | some x =>
    rw [hx] at gs
    cases hy : p.get s with
    | none =>
      rw [hy] at gs
      rw [show j.get s = some x from gs]
      rfl
    | some y =>
      rw [hy] at gs
      obtain ⟨z, hz, e⟩ := gs
      rw [e]
      have hxo := get_ok hq hx
      have hyo := get_ok hp hy
      have hrec := ih x (get_kid hx) y z _ hxo hyo (get_or hv s) hz
      simp only [patchAt]
      by_cases hxn : x.kind = 1
      · rw [join_leaf (by omega)] at hz
        injection hz with hz
        subst hz
        rw [if_pos hxn, if_pos hxn]
      · have hzn : z.kind ≠ 1 := by
          by_cases hx7 : x.kind = 7
          · have := (join_map hyo hxo hx7 hz).2.1
            omega
          · rw [join_leaf hx7] at hz
            injection hz with hz
            subst hz
            exact hxn
        rw [if_neg hxn, if_neg hzn]
        by_cases hyn : y.kind = 1
        · have hx7 : x.kind ≠ 7 := fun hx7 => by
            have := (join_map hyo hxo hx7 hz).1
            omega
          rw [join_leaf hx7] at hz
          injection hz with hz
          subst hz
          rw [patch_leaf hx7, patch_leaf hx7]
        · rw [if_neg hyn, Option.getD_some, hrec]
/-- What the patch of what differs tells of a name. -/
def diffAt : Option Tree → Option Tree → Option Tree
  | none, b => b
  | some _, none => some nullT
  | some x, some y => if Tree.cmp x y = 0 then none else some (Tree.diff x y)
theorem getT_diffL (bn : List ByteArray) (bk : List Tree) (hb : MapOK bn bk) (ks : List Tree) : ∀ (ns on : List ByteArray) (ok : List Tree), MapOK ns ks → MapOK on ok → (∀ s ∈ ns, s ∉ on) →
    MapOK (Tree.diffL bn bk ns ks on ok).1 (Tree.diffL bn bk ns ks on ok).2 ∧ ∀ s, getT (Tree.diffL bn bk ns ks on ok).1 (Tree.diffL bn bk ns ks on ok).2 s = match getT ns ks s with
      | none => getT on ok s
      | some x => diffAt (some x) (getT bn bk s) := by
  induction ks with
  | nil =>
    intro ns on ok hm ho _
    have : ns = [] := by have := hm.len; simpa using this
    subst this
    rw [Tree.diffL]
    · exact ⟨ho, fun s => by rw [getT_nil]⟩
    · simp
  | cons x ks ihk =>
    intro ns on ok hm ho hd
    cases ns with
    | nil => have := hm.len; simp at this
    | cons nm ns =>
      have h1 := hm.ok
      have h2 := hm.str
      simp only [Tree.okL, Bool.and_eq_true] at h1
      simp only [List.all_cons, Bool.and_eq_true] at h2
      have hm' : MapOK ns ks := ⟨by simpa using hm.len, h2.2, sortedB_tail hm.sorted, h1.2⟩
      have hrec := ihk ns
      have hnm : nm ∉ on := hd nm (by simp)
      have hd0 : ∀ s ∈ ns, s ∉ on := fun s hs => hd s (List.mem_cons_of_mem _ hs)
      have hfi : on[insPos on nm]? ≠ some nm := fun e => hnm (List.mem_of_getElem? e)
      have hnn : nm ∉ ns := fun hs => by
        have := sortedB_head hm.sorted nm hs
        rw [ltS_irrefl] at this
        cases this
      have hd1 : ∀ s ∈ ns, s ∉ ins (insPos on nm) nm on := fun s hs hi => by
        rcases mem_ins hi with rfl | hi
        · exact hnn hs
        · exact hd0 s hs hi
      have fin : ∀ z : Tree, z.ok = true → some z = diffAt (some x) (getT bn bk nm) → MapOK (Tree.diffL bn bk ns ks (ins (insPos on nm) nm on) (ins (insPos on nm) z ok)).1 (Tree.diffL bn bk ns ks (ins (insPos on nm) nm on) (ins (insPos on nm) z ok)).2 ∧
          ∀ s, getT (Tree.diffL bn bk ns ks (ins (insPos on nm) nm on) (ins (insPos on nm) z ok)).1 (Tree.diffL bn bk ns ks (ins (insPos on nm) nm on) (ins (insPos on nm) z ok)).2 s = match getT (nm :: ns) (x :: ks) s with
            | none => getT on ok s
            | some x => diffAt (some x) (getT bn bk s) := fun z hz hza => by
        obtain ⟨g1, g2⟩ := hrec _ _ hm' (ho.ins hfi h2.1 hz) hd1
        refine ⟨g1, fun s => ?_⟩
        rw [g2, getT_cons hm.sorted]
        by_cases c : nm = s
        · subst c
          rw [if_pos rfl, getT_notin hnn]
          simp only
          rw [getT_ins ho hfi, if_pos rfl]
          exact hza
        · rw [if_neg c]
          cases getT ns ks s with
          | none => simp only; rw [getT_ins ho hfi, if_neg (fun e => c e.symm)]
          | some _ => rfl
      rw [Tree.diffL]
      split
      · next hf =>
        have hlt : insPos bn nm < bk.length := by
          have := (List.getElem?_eq_some_iff.1 hf).1
          have := hb.len
          omega
        have hy : bk[insPos bn nm]? = some (bk[insPos bn nm]'hlt) := by simp [hlt]
        have hg : getT bn bk nm = some (bk[insPos bn nm]'hlt) := by rw [getT, if_pos hf, hy]
        generalize bk[insPos bn nm]'hlt = y at hy hg
        rw [hy]
        simp only
        split
        · next hc =>
          obtain ⟨g1, g2⟩ := hrec on ok hm' ho hd0
          refine ⟨g1, fun s => ?_⟩
          rw [g2, getT_cons hm.sorted]
          by_cases c : nm = s
          · subst c
            rw [if_pos rfl, getT_notin hnn]
            simp only
            rw [getT_notin hnm, hg, diffAt, if_pos hc]
          · rw [if_neg c]
        · next hc =>
          have hyo : y.ok = true := (okL_iff bk).1 hb.ok y (List.mem_of_getElem? hy)
          exact fin _ (diff_ok x y h1.1 hyo).1 (by rw [hg, diffAt, if_neg hc])
      · next hf => exact fin _ null_ok (by rw [getT_none hf]; rfl)
theorem getT_addL (an : List ByteArray) (has : sortedB an = true) (bk : List Tree) : ∀ (bn on : List ByteArray) (ok : List Tree), MapOK bn bk → MapOK on ok → (∀ s ∈ bn, s ∉ an → s ∉ on) →
    ∀ s, getT (Tree.addL an bn bk on ok).1 (Tree.addL an bn bk on ok).2 s = if an[insPos an s]? = some s then getT on ok s else match getT bn bk s with
      | none => getT on ok s
      | some y => some y := by
  induction bk with
  | nil =>
    intro bn on ok hm ho _ s
    have : bn = [] := by have := hm.len; simpa using this
    subst this
    rw [Tree.addL]
    · rw [getT_nil]; split <;> rfl
    · simp
  | cons y bk ihk =>
    intro bn on ok hm ho hd s
    cases bn with
    | nil => have := hm.len; simp at this
    | cons nm bn =>
      have h1 := hm.ok
      have h2 := hm.str
      simp only [Tree.okL, Bool.and_eq_true] at h1
      simp only [List.all_cons, Bool.and_eq_true] at h2
      have hm' : MapOK bn bk := ⟨by simpa using hm.len, h2.2, sortedB_tail hm.sorted, h1.2⟩
      have hnn : nm ∉ bn := fun hs => by
        have := sortedB_head hm.sorted nm hs
        rw [ltS_irrefl] at this
        cases this
      rw [Tree.addL]
      split
      · next hf =>
        rw [ihk bn on ok hm' ho (fun s hs => hd s (List.mem_cons_of_mem _ hs)) s]
        split
        · rfl
        · next hs =>
          rw [getT_cons hm.sorted, if_neg (fun e : nm = s => hs (by rw [← e]; exact hf))]
      · next hf =>
        have hna : nm ∉ an := fun h => hf ((found_iff has).2 h)
        have hnm := hd nm (by simp) hna
        have hfi : on[insPos on nm]? ≠ some nm := fun e => hnm (List.mem_of_getElem? e)
        rw [ihk bn _ _ hm' (ho.ins hfi h2.1 h1.1) (fun s hs hsa hi => by
          rcases mem_ins hi with rfl | hi
          · exact hnn hs
          · exact hd s (List.mem_cons_of_mem _ hs) hsa hi) s]
        rw [getT_ins ho hfi, getT_cons hm.sorted]
        by_cases c : nm = s
        · subst c
          rw [if_neg hf, if_neg hf, getT_notin hnn, if_pos rfl, if_pos rfl]
        · rw [if_neg c, if_neg (show ¬ s = nm from fun e => c e.symm)]
theorem diff_map {a b : Tree} (ha : a.ok = true) (hb : b.ok = true) (hka : a.kind = 7) (hkb : b.kind = 7) : (Tree.diff a b).kind = 7 ∧ ∀ s, (Tree.diff a b).get s = diffAt (a.get s) (b.get s) := by
  have hma := Tree.ok_map ha hka
  have hmb := Tree.ok_map hb hkb
  obtain ⟨h1, h2⟩ := getT_diffL b.names b.kids hmb a.kids a.names [] [] hma MapOK.nil (fun s _ h => by cases h)
  have h3 := fun s => getT_addL a.names hma.sorted b.kids b.names _ _ hmb h1 (fun s hs hsa h => by
    obtain ⟨x, hx⟩ := getT_some h1 h
    rw [h2, getT_notin hsa] at hx
    simp only [getT_nil] at hx
    cases hx) s
  rw [Tree.diff_eq, if_pos ⟨hka, hkb⟩]
  refine ⟨rfl, fun s => ?_⟩
  unfold Tree.get mapN mapK
  rw [if_pos hka, if_pos hka, if_pos hkb, if_pos hkb]
  refine (h3 s).trans ?_
  rw [h2]
  by_cases hs : a.names[insPos a.names s]? = some s
  · obtain ⟨x, hx⟩ := getT_some hma (List.mem_of_getElem? hs)
    rw [if_pos hs, hx]
  · rw [if_neg hs, getT_none hs]
    simp only [getT_nil]
    cases getT b.names b.kids s <;> rfl
theorem diff_leaf {a b : Tree} (h : ¬ (a.kind = 7 ∧ b.kind = 7)) : Tree.diff a b = b := by rw [Tree.diff_eq, if_neg h]
/-- What differs, put to the one, is the other. -/
theorem diff_patch : ∀ a b : Tree, a.ok = true → b.ok = true → b.isClean = true → Tree.patch a (Tree.diff a b) = b := Tree.ind fun a ih b ha hb hc => by
  by_cases hkb : b.kind = 7
  case neg => rw [diff_leaf (fun h => hkb h.2), patch_leaf hkb]
  by_cases hka : a.kind = 7
  case neg => rw [diff_leaf (fun h => hka h.1)]; exact patch_null b hb hc a ha hka
  obtain ⟨hdk, g⟩ := diff_map ha hb hka hkb
  have hd := (diff_ok a b ha hb).1
  obtain ⟨k1, g1⟩ := patch_map ha hd hdk
  refine tree_ext (patch_ok _ a ha hd).1 hb k1 hkb fun s => ?_
  rw [g1, g]
  have hcl : ∀ y, b.get s = some y → y.kind ≠ 1 ∧ y.isClean = true := fun y hy => by
    rw [Tree.isClean_eq, if_pos hkb, isCleanL_iff] at hc
    exact hc y (get_kid hy)
  cases hx : a.get s with
  | none =>
    cases hy : b.get s with
    | none => rfl
    | some y =>
      obtain ⟨h1, h2⟩ := hcl y hy
      simp only [diffAt, patchAt]
      rw [if_neg h1, Option.getD_none, patch_null y (get_ok hb hy) h2 nullT null_ok (by decide)]
  | some x =>
    cases hy : b.get s with
    | none =>
      simp only [diffAt, patchAt]
      exact if_pos rfl
    | some y =>
      obtain ⟨h1, h2⟩ := hcl y hy
      have hxo := get_ok ha hx
      have hyo := get_ok hb hy
      simp only [diffAt]
      split
      · next hc0 =>
        rw [(cmp_zero x y hxo hyo).1 hc0]
        rfl
      · simp only [patchAt]
        have hdn : (Tree.diff x y).kind ≠ 1 := by
          by_cases h7 : x.kind = 7 ∧ y.kind = 7
          · have := (diff_map hxo hyo h7.1 h7.2).1
            omega
          · rw [diff_leaf h7]; exact h1
        rw [if_neg hdn, Option.getD_some, ih x (get_kid hx) y hxo hyo h2]
/-- What is cleaned is clean. -/
theorem cleaned_clean : ∀ t : Tree, t.clean.isClean = true := Tree.ind fun t ih => by
  rw [Tree.clean_eq]
  split
  · next hk =>
    rw [Tree.isClean_eq]
    simp only [Tree.kind_mk, if_pos, Tree.kids_mk]
    have h : ∀ (ks : List Tree), (∀ x ∈ ks, x.clean.isClean = true ∧ (x.kind ≠ 1 → x.clean.kind ≠ 1)) → ∀ ns, Tree.isCleanL (Tree.cleanL ns ks).2 = true := by
      intro ks
      induction ks with
      | nil => intro _ ns; rw [Tree.cleanL]; rfl
      | cons x ks ihk =>
        intro h ns
        have hrec := ihk (fun y hy => h y (List.mem_cons_of_mem _ hy)) ns.tail
        obtain ⟨h1, h2⟩ := h x (by simp)
        rw [Tree.cleanL]
        split
        · exact hrec
        · next hx => simp [Tree.isCleanL, h1, h2 hx, hrec]
    refine h t.kids (fun x hx => ⟨ih x hx, fun hn => ?_⟩) t.names
    rw [Tree.clean_eq]
    split
    · simp
    · exact hn
  · next hk => rw [Tree.isClean_eq, if_neg hk]
end Go.Proofs.YteeppdobeeodiaaGreatDoor
