/- l1Shape, plain words: a right shape is a tree. -/
import Derived.Test.YtekamdcojabgeaaGreatDoorShape1
namespace Go.Proofs.YtekamdcojabgeaaGreatDoor
open Go.RowKit
theorem shape_tree {l : List Nd} (h : Shape l) : ∃ t : Tree, l = t.flat emptyB (-1) 0 ∧ t.ok = true := by
  obtain ⟨hS, h1, _⟩ := h
  have hx : l[0]? = some l[0] := by simp
  generalize l[0] = x at hx
  obtain ⟨hx0, hxl⟩ := hS 0 x hx
  rw [linkOK, if_pos rfl] at hxl
  obtain ⟨hup, hnm⟩ := hxl
  obtain ⟨t, e', v1, v2, v3, v4, v5⟩ := shape_vl hS _ 0 1 x [] [] rfl (by omega) h1 hx
    (fun z hz => by obtain ⟨q, q1, q2, q3⟩ := link_up (hS 1 z hz).2 (by omega); exact ⟨q, q1, by simpa using q3⟩)
    (fun _ => by rw [lastN, kidsTo_low l 0 1 (Nat.le_refl _)]; rfl) (fun _ => rfl)
  have he : e' = l.length := by
    by_cases h : e' < l.length
    · have hz : l[e']? = some l[e'] := by simp [h]
      obtain ⟨p, p1, p2, p3⟩ := v4 _ hz
      cases p2 with
      | refl => exact absurd rfl p3
      | step s1 s2 s3 =>
        rw [hx] at s1
        injection s1 with s1
        subst s1
        omega
    · omega
  subst he
  have hvf : VF l 0 0 (some (t, l.length)) := ⟨x, hx, .inr ⟨nodeOK_of x 0 hx0 (fun _ => hnm), v1⟩⟩
  exact ⟨t, (VF_iff hvf (fun y hy => by rw [hx] at hy; injection hy with hy; subst hy; exact hup) t).1 rfl⟩
theorem dpt_eq (l : List Nd) (i : Nat) (x : Nd) (h : l[i]? = some x) : dpt l i = (if holdsB x.kind then 1 else 0) + (if 0 ≤ x.up ∧ x.up.toNat < i then dpt l x.up.toNat else 0) := by
  rw [dpt, h]
  simp only [dite_eq_ite]
theorem dpt_up {l : List Nd} {i p : Nat} {x : Nd} (h : l[i]? = some x) (hp : x.up = (p : Int)) (hi : p < i) : dpt l i = (if holdsB x.kind then 1 else 0) + dpt l p := by
  have := dpt_eq l i x h
  rw [hp] at this
  simpa [hi] using this
theorem dpt_top {l : List Nd} {i : Nat} {x : Nd} (h : l[i]? = some x) (hp : x.up = -1) : dpt l i = (if holdsB x.kind then 1 else 0) := by
  have := dpt_eq l i x h
  rw [hp] at this
  simpa using this
/-- The depth of a tree, by the depth of its nodes. -/
theorem deep_le {l : List Nd} (M : Nat) : ∀ (t : Tree) (a : Nat), Sub l a t → (∀ i, a ≤ i → i < a + t.count → dpt l i ≤ M) → t.deep + dpt l a ≤ M + (if holdsB t.kind then 1 else 0) := by
  intro t
  induction t using Tree.ind with
  | _ t ih =>
    intro a hsub hd
    have hc := t.count_eq
    have h0 := hd a (Nat.le_refl _) (by omega)
    rw [t.deep_eq]
    have key : ∀ (ks : List Tree) (p : Nat) (ns : List ByteArray), (∀ k ∈ ks, k ∈ t.kids) → SubL l a p (a + t.count) (t.kind == 7) ns ks → Tree.deepL ks + dpt l a ≤ M := by
      intro ks
      induction ks with
      | nil => intro p ns _ _; rw [Tree.deepL]; omega
      | cons k ks ihk =>
        intro p ns hm hs
        obtain ⟨g1, g2, x, hx, hup, _⟩ := hs.head
        have r1 := ihk _ _ (fun k' hk' => hm k' (List.mem_cons_of_mem _ hk')) g2
        have hfit := g2.eq
        have hlow := hs.low
        have r2 := ih k (hm k (List.mem_cons_self ..)) p g1 (fun i h1 h2 => hd i (by omega) (by omega))
        obtain ⟨x', hx', hk', _⟩ := g1.node
        rw [hx] at hx'
        injection hx' with hx'
        subst hx'
        have hdp := dpt_up hx hup hlow
        rw [hk'] at hdp
        rw [Tree.deepL]
        omega
    have := key t.kids _ _ (fun _ h => h) hsub.kids
    omega
theorem shape_good {l : List Nd} (h : Shape l) : ∃ t : Tree, l = t.flat emptyB (-1) 0 ∧ t.ok = true ∧ t.count ≤ 80 ∧ t.deep ≤ 6 := by
  obtain ⟨t, h1, h2⟩ := shape_tree h
  have hlen : l.length = t.count := by rw [h1, Tree.flat_length]
  have hsub := Sub.of_flat h1
  obtain ⟨hS, h3, h4⟩ := h
  obtain ⟨x, hx, hk, _⟩ := hsub.node
  have hx0 : x.up = -1 := by have := (hS 0 x hx).2; rw [linkOK, if_pos rfl] at this; exact this.1
  have h0 := dpt_top hx hx0
  rw [hk] at h0
  have := deep_le 6 t 0 hsub (fun i _ hi => by
    by_cases hi0 : i = 0
    · subst hi0; rw [h0]; split <;> omega
    · have hz : l[i]? = some l[i] := by simp
      have := (hS i _ hz).2
      rw [linkOK, if_neg hi0] at this
      obtain ⟨_, _, _, _, _, _, _, _, _, h⟩ := this
      exact h)
  exact ⟨t, h1, h2, by omega, by omega⟩
end Go.Proofs.YtekamdcojabgeaaGreatDoor
