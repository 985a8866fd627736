/- A part of a row of nodes that is a tree; where its kids lie. Plain words. -/
import Derived.Test.YtekamdcojabgeaaGreatDoorFlat
import Derived.Test.YtekamdcojabgeaaGreatDoorKids
namespace Go.Proofs.YtekamdcojabgeaaGreatDoor
open Go.RowKit
mutual
theorem Tree.flat_ups : ∀ (t : Tree) (name : ByteArray) (up : Int) (a : Nat) (j : Nat) (x : Nd), (t.flat name up a)[j]? = some x → 0 < j → (a : Int) ≤ x.up ∧ x.up < (a : Int) + t.count
  | .mk k n t ns ks, name, up, a, j, x, h, hj => by
    rw [Tree.flat] at h
    obtain ⟨j', rfl⟩ : ∃ j', j = j' + 1 := ⟨j - 1, by omega⟩
    rw [List.getElem?_cons_succ] at h
    rw [Tree.count]
    rcases Tree.flatL_ups ks (k == 7) ns a (a + 1) j' x h with h | h
    · omega
    · omega
theorem Tree.flatL_ups : ∀ (ks : List Tree) (map : Bool) (ns : List ByteArray) (s p : Nat) (j : Nat) (x : Nd), (Tree.flatL map ns ks s p)[j]? = some x → x.up = (s : Int) ∨ ((p : Int) ≤ x.up ∧ x.up < (p : Int) + Tree.countL ks)
  | [], _, _, _, _, j, x, h => by rw [Tree.flatL] at h; simp at h
  | k :: ks, map, ns, s, p, j, x, h => by
    rw [Tree.flatL] at h
    rw [Tree.countL]
    by_cases hj : j < k.count
    · rw [List.getElem?_append_left (by rw [Tree.flat_length]; exact hj)] at h
      by_cases h0 : j = 0
      · subst h0
        rw [Tree.flat_eq] at h
        simp at h
        subst h
        exact .inl rfl
      · have := Tree.flat_ups k _ _ p j x h (by omega)
        omega
    · rw [List.getElem?_append_right (by rw [Tree.flat_length]; omega)] at h
      rcases Tree.flatL_ups ks _ _ s _ _ x h with h | h
      · exact .inl h
      · right; omega
end
def kidsPos : Nat → List Tree → List Nat
  | _, [] => []
  | p, k :: ks => p :: kidsPos (p + k.count) ks
/-- At a there lies the tree t, and what lies behind it hangs elsewhere. -/
structure Sub (l : List Nd) (a : Nat) (t : Tree) : Prop where
  fits : a + t.count ≤ l.length
  row : ∃ name up, seg l a (a + t.count) = t.flat name up a
  rest : ∀ i x, a + t.count ≤ i → l[i]? = some x → x.up < (a : Int) ∨ (a : Int) + t.count ≤ x.up
theorem seg_at (l : List Nd) (a c j : Nat) (h : a + j < c) : (seg l a c)[j]? = l[a + j]? := by
  unfold seg
  rw [List.getElem?_take_of_lt (by omega), List.getElem?_drop]
theorem Sub.of_flat {l : List Nd} {t : Tree} {name : ByteArray} {up : Int} (h : l = t.flat name up 0) : Sub l 0 t := by
  have hl : l.length = t.count := by rw [h, Tree.flat_length]
  refine ⟨by omega, ⟨name, up, ?_⟩, fun i x hi hx => ?_⟩
  · rw [Nat.zero_add, ← hl, seg_all]; exact h
  · have := (List.getElem?_eq_some_iff.1 hx).1
    omega
theorem Sub.node {l : List Nd} {a : Nat} {t : Tree} (h : Sub l a t) : ∃ x, l[a]? = some x ∧ x.kind = t.kind ∧ x.num = t.num ∧ x.text = t.text := by
  obtain ⟨name, up, hr⟩ := h.row
  have hc := t.count_eq
  have := seg_at l a (a + t.count) 0 (by omega)
  rw [hr, Tree.flat_eq] at this
  simp at this
  exact ⟨_, this.symm, rfl, rfl, rfl⟩
/-- The kids' part. -/
structure SubL (l : List Nd) (s p e : Nat) (map : Bool) (ns : List ByteArray) (ks : List Tree) : Prop where
  eq : e = p + Tree.countL ks
  fits : e ≤ l.length
  low : s < p
  row : seg l p e = Tree.flatL map ns ks s p
  rest : ∀ i x, e ≤ i → l[i]? = some x → x.up < (s : Int) ∨ (e : Int) ≤ x.up
theorem Sub.kids {l : List Nd} {a : Nat} {t : Tree} (h : Sub l a t) : SubL l a (a + 1) (a + t.count) (t.kind == 7) t.names t.kids := by
  obtain ⟨name, up, hr⟩ := h.row
  obtain ⟨x, hx, _⟩ := h.node
  have hc := t.count_eq
  rw [seg_cons l a _ x hx (by omega), Tree.flat_eq] at hr
  injection hr with _ hr
  exact ⟨by omega, h.fits, by omega, hr, fun i x hi hx => by have := h.rest i x hi hx; omega⟩
theorem SubL.head {l : List Nd} {s p e : Nat} {map : Bool} {ns : List ByteArray} {k : Tree} {ks : List Tree} (h : SubL l s p e map ns (k :: ks)) :
    Sub l p k ∧ SubL l s (p + k.count) e map ns.tail ks ∧ (∃ x, l[p]? = some x ∧ x.up = (s : Int) ∧ x.name = if map then ns.headD emptyB else emptyB) := by
  have he := h.eq
  rw [Tree.countL] at he
  have hrow := h.row
  have hlow := h.low
  have hfit := h.fits
  have hkc := k.count_eq
  rw [← seg_append l p (p + k.count) e (by omega) (by omega), Tree.flatL] at hrow
  have hlen : (seg l p (p + k.count)).length = (k.flat (if map then ns.headD emptyB else emptyB) (s : Int) p).length := by
    rw [Tree.flat_length]; simp [seg]; omega
  obtain ⟨h1, h2⟩ := List.append_inj hrow hlen
  refine ⟨⟨by omega, ⟨_, _, h1⟩, fun i x hi hx => ?_⟩, ⟨by omega, hfit, by omega, h2, h.rest⟩, ?_⟩
  · by_cases hie : i < e
    · have g := seg_at l (p + k.count) e (i - (p + k.count)) (by omega)
      rw [h2, show p + k.count + (i - (p + k.count)) = i by omega, hx] at g
      rcases Tree.flatL_ups ks map ns.tail s (p + k.count) _ x g with g | g <;> omega
    · have := h.rest i x (by omega) hx
      omega
  · have g := seg_at l p (p + k.count) 0 (by omega)
    rw [h1, Tree.flat_eq] at g
    simp at g
    exact ⟨_, g.symm, rfl, by simp⟩
theorem filter_skip (f : Nat → Bool) (p n : Nat) (h : ∀ i, p ≤ i → i < p + n → f i = false) : (List.range' p n).filter f = [] := by
  rw [List.filter_eq_nil_iff]
  intro i hi
  rw [List.mem_range'_1] at hi
  simp [h i hi.1 hi.2]
theorem SubL.filter {l : List Nd} {s : Nat} : ∀ (ks : List Tree) {p e : Nat} {map : Bool} {ns : List ByteArray}, SubL l s p e map ns ks → (List.range' p (Tree.countL ks)).filter (isKid l s) = kidsPos p ks
  | [], p, e, map, ns, _ => by simp [Tree.countL, kidsPos]
  | k :: ks, p, e, map, ns, h => by
    obtain ⟨h1, h2, x, hx, hup, _⟩ := h.head
    have hc := k.count_eq
    obtain ⟨name, up, hr⟩ := h1.row
    rw [Tree.countL, ← List.range'_append_1, List.filter_append, SubL.filter ks h2, kidsPos]
    obtain ⟨m, hm⟩ : ∃ m, k.count = m + 1 := ⟨k.count - 1, by omega⟩
    have hlow := h.low
    rw [hm, List.range'_succ, List.filter_cons]
    have hk : isKid l s p = true := by simp [isKid, hx, hup, hlow]
    rw [if_pos hk, filter_skip (isKid l s) (p+1) m (fun i h3 h4 => ?_)]
    · rfl
    · have g := seg_at l p (p + k.count) (i - p) (by omega)
      rw [hr, show p + (i - p) = i by omega] at g
      cases hi : l[i]? with
      | none => simp [isKid, hi]
      | some y =>
        rw [hi] at g
        have := Tree.flat_ups k name up p (i - p) y g (by omega)
        simp [isKid, hi]
        omega
theorem Sub.kidsTo {l : List Nd} {a : Nat} {t : Tree} (h : Sub l a t) : kidsTo l a l.length = kidsPos (a + 1) t.kids := by
  have hk := h.kids
  have he := hk.eq
  have hf := h.fits
  have hc := t.count_eq
  unfold Go.Proofs.YtekamdcojabgeaaGreatDoor.kidsTo
  obtain ⟨m, hm⟩ : ∃ m, l.length = (a + 1) + (Tree.countL t.kids + m) := ⟨l.length - (a + t.count), by omega⟩
  have e1 : List.range l.length = List.range' 0 (a + 1) ++ (List.range' (a + 1) (Tree.countL t.kids) ++ List.range' (a + 1 + Tree.countL t.kids) m) := by
    rw [List.range_eq_range', hm, List.range'_append_1]
    have := List.range'_append_1 (s := 0) (m := a + 1) (n := Tree.countL t.kids + m)
    rw [Nat.zero_add] at this
    exact this.symm
  rw [e1, List.filter_append, List.filter_append]
  rw [filter_skip _ 0 (a+1) (fun i h1 h2 => by simp [isKid]; omega), SubL.filter t.kids hk, filter_skip _ _ _ (fun i h1 h2 => ?_)]
  · simp
  · cases hi : l[i]? with
    | none => simp [isKid, hi]
    | some y =>
      have := h.rest i y (by omega) hi
      simp [isKid, hi]
      omega
end Go.Proofs.YtekamdcojabgeaaGreatDoor
