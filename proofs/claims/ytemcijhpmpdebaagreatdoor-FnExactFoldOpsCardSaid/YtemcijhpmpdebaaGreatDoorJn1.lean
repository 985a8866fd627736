/- Joining trees as patches: plain words. -/
import Derived.Test.YtemcijhpmpdebaaGreatDoorSpec3
namespace Go.Proofs.YtemcijhpmpdebaaGreatDoor
theorem less_irrefl : ∀ x : List UInt8, Op.bytesLess x x = false
  | [] => rfl
  | a :: x => by simp [Op.bytesLess, less_irrefl x]
theorem less_trans : ∀ x y z : List UInt8, Op.bytesLess x y = true → Op.bytesLess y z = true → Op.bytesLess x z = true
  | [], [], _, h, _ => by simp [Op.bytesLess] at h
  | [], _ :: _, [], _, h => by simp [Op.bytesLess] at h
  | [], _ :: _, _ :: _, _, _ => by simp [Op.bytesLess]
  | _ :: _, [], _, h, _ => by simp [Op.bytesLess] at h
  | _ :: _, _ :: _, [], _, h => by simp [Op.bytesLess] at h
  | a :: x, b :: y, c :: z, h, h' => by
    simp only [Op.bytesLess, Bool.or_eq_true, Bool.and_eq_true, decide_eq_true_eq, beq_iff_eq] at h h' ⊢
    rcases h with h | ⟨rfl, h⟩
    · rcases h' with h' | ⟨rfl, h'⟩
      · exact .inl (UInt8.lt_trans h h')
      · exact .inl h
    · rcases h' with h' | ⟨rfl, h'⟩
      · exact .inl h'
      · exact .inr ⟨rfl, less_trans x y z h h'⟩
theorem less_total : ∀ x y : List UInt8, Op.bytesLess x y = true ∨ x = y ∨ Op.bytesLess y x = true
  | [], [] => by simp
  | [], _ :: _ => by simp [Op.bytesLess]
  | _ :: _, [] => by simp [Op.bytesLess]
  | a :: x, b :: y => by
    simp only [Op.bytesLess, Bool.or_eq_true, Bool.and_eq_true, decide_eq_true_eq, beq_iff_eq, List.cons.injEq]
    rcases Nat.lt_trichotomy a.toNat b.toNat with h | h | h
    · exact .inl (.inl h)
    · obtain rfl : a = b := UInt8.toNat.inj h
      rcases less_total x y with h | rfl | h
      · exact .inl (.inr ⟨rfl, h⟩)
      · exact .inr (.inl ⟨rfl, rfl⟩)
      · exact .inr (.inr (.inr ⟨rfl, h⟩))
    · exact .inr (.inr (.inl h))
theorem ba_eq {a b : ByteArray} (h : a.toList = b.toList) : a = b := by
  rw [ByteArray.toList_eq, ByteArray.toList_eq] at h
  exact bytes_ext h
theorem ltS_irrefl (a : ByteArray) : ltS a a = false := less_irrefl _
theorem ltS_trans {a b c : ByteArray} (h : ltS a b = true) (h' : ltS b c = true) : ltS a c = true := less_trans _ _ _ h h'
theorem ltS_total (a b : ByteArray) : ltS a b = true ∨ a = b ∨ ltS b a = true := by
  rcases less_total a.toList b.toList with h | h | h
  · exact .inl h
  · exact .inr (.inl (ba_eq h))
  · exact .inr (.inr h)
theorem ltS_asymm {a b : ByteArray} (h : ltS a b = true) : ltS b a = false := by
  cases c : ltS b a
  · rfl
  · rw [← ltS_irrefl a, ltS_trans h c]
/-- How many names stand ahead of one. -/
def insPos : List ByteArray → ByteArray → Nat
  | [], _ => 0
  | a :: r, s => if ltS a s then insPos r s + 1 else 0
def ins {α : Type} (i : Nat) (x : α) (l : List α) : List α := l.take i ++ x :: l.drop i
theorem ins_length {α : Type} (i : Nat) (x : α) (l : List α) (h : i ≤ l.length) : (ins i x l).length = l.length + 1 := by
  simp [ins]; omega
theorem insPos_le : ∀ (ns : List ByteArray) (s : ByteArray), insPos ns s ≤ ns.length
  | [], _ => Nat.le_refl _
  | a :: r, s => by
    have := insPos_le r s
    unfold insPos
    split <;> simp <;> omega
theorem sortedB_tail {a : ByteArray} {r : List ByteArray} (h : sortedB (a :: r) = true) : sortedB r = true := by
  cases r with
  | nil => rfl
  | cons b r => simp [sortedB] at h; exact h.2
theorem sortedB_head {a : ByteArray} {r : List ByteArray} (h : sortedB (a :: r) = true) : ∀ x ∈ r, ltS a x = true := by
  induction r generalizing a with
  | nil => intro x hx; cases hx
  | cons b r ih =>
    simp [sortedB] at h
    intro x hx
    rcases List.mem_cons.1 hx with rfl | hx
    · exact h.1
    · exact ltS_trans h.1 (ih h.2 x hx)
theorem sortedB_cons {a : ByteArray} {r : List ByteArray} (h : sortedB r = true) (ha : ∀ x ∈ r, ltS a x = true) : sortedB (a :: r) = true := by
  cases r with
  | nil => rfl
  | cons b r => simp [sortedB, ha b (by simp), h]
/-- All ahead of the place are less, all from it on are not. -/
theorem insPos_parts : ∀ (ns : List ByteArray) (s : ByteArray), sortedB ns = true → (∀ i x, i < insPos ns s → ns[i]? = some x → ltS x s = true) ∧ ∀ i x, insPos ns s ≤ i → ns[i]? = some x → ltS x s = false
  | [], _, _ => ⟨fun i x _ h => by simp at h, fun i x _ h => by simp at h⟩
  | a :: r, s, h => by
    obtain ⟨h1, h2⟩ := insPos_parts r s (sortedB_tail h)
    unfold insPos
    split
    · next c =>
      refine ⟨fun i x hi hx => ?_, fun i x hi hx => ?_⟩
      · cases i with
        | zero => simp at hx; subst hx; exact c
        | succ i => simp at hx; exact h1 i x (by omega) hx
      · cases i with
        | zero => omega
        | succ i => simp at hx; exact h2 i x (by omega) hx
    · next c =>
      refine ⟨fun i x hi hx => by omega, fun i x _ hx => ?_⟩
      have c' : ltS a s = false := by simpa using c
      cases i with
      | zero => simp at hx; subst hx; exact c'
      | succ i =>
        simp at hx
        have hax := sortedB_head h x (List.mem_of_getElem? hx)
        cases d : ltS x s
        · rfl
        · rw [ltS_trans hax d] at c'
          cases c'
/-- The place is the only one that parts the row so. -/
theorem insPos_of (ns : List ByteArray) (s : ByteArray) (hs : sortedB ns = true) (k : Nat) (hk : k ≤ ns.length) (h1 : ∀ i x, i < k → ns[i]? = some x → ltS x s = true) (h2 : ∀ i x, k ≤ i → ns[i]? = some x → ltS x s = false) : k = insPos ns s := by
  obtain ⟨p1, p2⟩ := insPos_parts ns s hs
  have hp := insPos_le ns s
  rcases Nat.lt_trichotomy k (insPos ns s) with c | c | c
  · have hx : ns[k]? = some ns[k] := by simp
    have a := h2 k _ (Nat.le_refl _) hx
    have b := p1 k _ c hx
    rw [a] at b
    cases b
  · exact c
  · have hx : ns[insPos ns s]? = some ns[insPos ns s] := by simp
    have a := h1 _ _ c hx
    have b := p2 _ _ (Nat.le_refl _) hx
    rw [a] at b
    cases b
theorem ins_sorted : ∀ (ns : List ByteArray) (s : ByteArray), sortedB ns = true → ns[insPos ns s]? ≠ some s → sortedB (ins (insPos ns s) s ns) = true
  | [], s, _, _ => rfl
  | a :: r, s, h, hn => by
    unfold insPos at hn ⊢
    split
    · next c =>
      rw [if_pos c] at hn
      have ih := ins_sorted r s (sortedB_tail h) (by simpa using hn)
      have e : ins (insPos r s + 1) s (a :: r) = a :: ins (insPos r s) s r := by simp [ins]
      rw [e]
      refine sortedB_cons ih fun x hx => ?_
      rw [ins] at hx
      rcases List.mem_append.1 hx with hx | hx
      · exact sortedB_head h x (List.mem_of_mem_take hx)
      · rcases List.mem_cons.1 hx with rfl | hx
        · exact c
        · exact sortedB_head h x (List.mem_of_mem_drop hx)
    · next c =>
      rw [if_neg c] at hn
      have hsa : ltS s a = true := by
        rcases ltS_total s a with h | h | h
        · exact h
        · subst h; simp at hn
        · exact absurd h c
      have e : ins 0 s (a :: r) = s :: a :: r := rfl
      rw [e]
      refine sortedB_cons h fun x hx => ?_
      rcases List.mem_cons.1 hx with rfl | hx
      · exact hsa
      · exact ltS_trans hsa (sortedB_head h x hx)
mutual
def Tree.join : Tree → Tree → Option Tree
  | p, .mk k n t ns ks => if k = 7 then (if p.kind = 7 then (Tree.joinL p.names p.kids ns ks).map (fun r => .mk 7 0 emptyB r.1 r.2) else none) else some (.mk k n t ns ks)
def Tree.joinL : List ByteArray → List Tree → List ByteArray → List Tree → Option (List ByteArray × List Tree)
  | pn, pk, nm :: ns, x :: ks =>
    if pn[insPos pn nm]? = some nm then
      match pk[insPos pn nm]? with
      | some y => match Tree.join y x with
        | some z => Tree.joinL pn (pk.set (insPos pn nm) z) ns ks
        | none => none
      | none => none
    else Tree.joinL (ins (insPos pn nm) nm pn) (ins (insPos pn nm) x pk) ns ks
  | pn, pk, _, _ => some (pn, pk)
end
/-- The parts of a map that is right. -/
structure MapOK (ns : List ByteArray) (ks : List Tree) : Prop where
  len : ns.length = ks.length
  str : ns.all strOK = true
  sorted : sortedB ns = true
  ok : Tree.okL ks = true
theorem MapOK.tree {ns : List ByteArray} {ks : List Tree} (h : MapOK ns ks) : (Tree.mk 7 0 emptyB ns ks).ok = true := by
  have h1 : strOK emptyB = true := by decide
  have h2 : emptyB.toList.isEmpty = true := by rw [ByteArray.toList_eq]; rfl
  have h3 : numOK 0 = true := by decide
  simp [Tree.ok, h.len, h.str, h.sorted, h.ok, holdsB, h1, h2, h3]
theorem Tree.ok_map {t : Tree} (h : t.ok = true) (hk : t.kind = 7) : MapOK t.names t.kids := by
  obtain ⟨k, n, x, ns, ks⟩ := t
  simp at hk
  subst hk
  simp [Tree.ok] at h
  exact ⟨h.1.1.2.1.1, by simpa using h.1.1.2.1.2, h.1.1.2.2, h.2⟩
theorem okL_iff (ks : List Tree) : Tree.okL ks = true ↔ ∀ k ∈ ks, k.ok = true := by
  induction ks with
  | nil => simp [Tree.okL]
  | cons x ks ih => simp [Tree.okL, ih]
theorem MapOK.ins {ns : List ByteArray} {ks : List Tree} (h : MapOK ns ks) {nm : ByteArray} {x : Tree} (hn : ns[insPos ns nm]? ≠ some nm) (hs : strOK nm = true) (hx : x.ok = true) : MapOK (ins (insPos ns nm) nm ns) (ins (insPos ns nm) x ks) := by
  have hp := insPos_le ns nm
  refine ⟨?_, ?_, ins_sorted ns nm h.sorted hn, ?_⟩
  · rw [ins_length _ _ _ hp, ins_length _ _ _ (by rw [← h.len]; exact hp), h.len]
  · have := h.str
    rw [List.all_eq_true] at this ⊢
    intro y hy
    rcases List.mem_append.1 hy with hy | hy
    · exact this y (List.mem_of_mem_take hy)
    · rcases List.mem_cons.1 hy with rfl | hy
      · exact hs
      · exact this y (List.mem_of_mem_drop hy)
  · have := (okL_iff ks).1 h.ok
    refine (okL_iff _).2 fun y hy => ?_
    rcases List.mem_append.1 hy with hy | hy
    · exact this y (List.mem_of_mem_take hy)
    · rcases List.mem_cons.1 hy with rfl | hy
      · exact hx
      · exact this y (List.mem_of_mem_drop hy)
theorem MapOK.set {ns : List ByteArray} {ks : List Tree} (h : MapOK ns ks) (i : Nat) {x : Tree} (hx : x.ok = true) : MapOK ns (ks.set i x) := by
  refine ⟨by rw [h.len, List.length_set], h.str, h.sorted, (okL_iff _).2 fun y hy => ?_⟩
  rcases List.mem_or_eq_of_mem_set hy with hy | rfl
  · exact (okL_iff ks).1 h.ok y hy
  · exact hx
theorem countL_take_drop (l : List Tree) (i : Nat) : Tree.countL l = Tree.countL (l.take i) + Tree.countL (l.drop i) := by
  rw [← Tree.countL_append, List.take_append_drop]
theorem countL_ins (i : Nat) (x : Tree) (l : List Tree) : Tree.countL (ins i x l) = Tree.countL l + x.count := by
  rw [ins, Tree.countL_append, Tree.countL, countL_take_drop l i]
  omega
theorem countL_set : ∀ (l : List Tree) (i : Nat) (x y : Tree), l[i]? = some y → Tree.countL (l.set i x) + y.count = Tree.countL l + x.count
  | [], i, x, y, h => by simp at h
  | a :: l, 0, x, y, h => by
    simp at h
    subst h
    simp [Tree.countL]
    omega
  | a :: l, i + 1, x, y, h => by
    simp at h
    have := countL_set l i x y h
    simp [Tree.countL]
    omega
def JoinOK (q : Tree) : Prop := ∀ p t, p.ok = true → q.ok = true → Tree.join p q = some t → t.ok = true ∧ t.count ≤ p.count + q.count
theorem joinL_ok (ks : List Tree) (ih : ∀ x ∈ ks, JoinOK x) : ∀ (ns pn : List ByteArray) (pk : List Tree) (rn : List ByteArray) (rk : List Tree), MapOK pn pk → (∀ s ∈ ns, strOK s = true) → Tree.okL ks = true → Tree.joinL pn pk ns ks = some (rn, rk) → MapOK rn rk ∧ Tree.countL rk ≤ Tree.countL pk + Tree.countL ks := by
  induction ks with
  | nil =>
    intro ns pn pk rn rk hm hs hk h
    cases ns <;> (simp [Tree.joinL] at h; obtain ⟨rfl, rfl⟩ := h; exact ⟨hm, by omega⟩)
  | cons x ks ihk =>
    intro ns pn pk rn rk hm hs hk h
    cases ns with
    | nil =>
      simp [Tree.joinL] at h
      obtain ⟨rfl, rfl⟩ := h
      exact ⟨hm, by omega⟩
    | cons nm ns =>
      simp [Tree.okL] at hk
      have hrec := ihk (fun y hy => ih y (List.mem_cons_of_mem _ hy)) ns
      have hs' : ∀ s ∈ ns, strOK s = true := fun s h => hs s (List.mem_cons_of_mem _ h)
      rw [Tree.joinL] at h
      simp only [Tree.countL]
      split at h
      · next hf =>
        split at h
        · next y hy =>
          split at h
          · next z hz =>
            have hyo : y.ok = true := (okL_iff pk).1 hm.ok y (List.mem_of_getElem? hy)
            obtain ⟨hzo, hzc⟩ := ih x (by simp) y z hyo hk.1 hz
            obtain ⟨h1, h2⟩ := hrec pn _ rn rk (hm.set _ hzo) hs' hk.2 h
            have := countL_set pk _ z y hy
            exact ⟨h1, by omega⟩
          · cases h
        · cases h
      · next hf =>
        obtain ⟨h1, h2⟩ := hrec _ _ rn rk (hm.ins hf (hs nm (by simp)) hk.1) hs' hk.2 h
        rw [countL_ins] at h2
        exact ⟨h1, by omega⟩
theorem join_ok : ∀ q, JoinOK q := Tree.ind fun q ih p t hp hq h => by
  obtain ⟨k, n, x, ns, ks⟩ := q
  rw [Tree.join] at h
  split at h
  · next hk =>
    split at h
    · next hpk =>
      cases hj : Tree.joinL p.names p.kids ns ks with
      | none => rw [hj] at h; cases h
      | some r =>
        rw [hj] at h
        simp at h
        subst h
        have hm := Tree.ok_map (t := .mk k n x ns ks) hq hk
        obtain ⟨h1, h2⟩ := joinL_ok ks ih ns p.names p.kids r.1 r.2 (Tree.ok_map hp hpk) (by simpa using hm.str) hm.ok hj
        refine ⟨h1.tree, ?_⟩
        have := p.count_eq
        simp only [Tree.count] at this ⊢
        omega
    · cases h
  · simp at h
    subst h
    exact ⟨hq, by omega⟩
end Go.Proofs.YtemcijhpmpdebaaGreatDoor
