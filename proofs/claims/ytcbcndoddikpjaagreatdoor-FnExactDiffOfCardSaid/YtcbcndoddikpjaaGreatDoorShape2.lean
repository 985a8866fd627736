/- What l1Shape asks of nodes: plain words; forward: then valFrom finds a tree. l1Shape, plain words: a right shape is a tree. -/
import Derived.Test.YtcbcndoddikpjaaGreatDoorText1
namespace Go.Proofs.YtcbcndoddikpjaaGreatDoor
open Go.RowKit
def dpt (l : List Nd) (i : Nat) : Nat :=
  match l[i]? with
  | none => 0
  | some x => (if holdsB x.kind then 1 else 0) + (if _h : 0 ≤ x.up ∧ x.up.toNat < i then dpt l x.up.toNat else 0)
  termination_by i
  decreasing_by exact _h.2
inductive Anc (l : List Nd) : Nat → Nat → Prop
  | refl (a : Nat) : Anc l a a
  | step {a p q : Nat} {x : Nd} : l[a]? = some x → x.up = (q : Int) → Anc l q p → Anc l a p
theorem Anc.trans {l : List Nd} {a p q : Nat} (h : Anc l a p) (k : Anc l p q) : Anc l a q := by
  induction h with
  | refl => exact k
  | step h1 h2 _ ih => exact .step h1 h2 (ih k)
def nodeOK0 (x : Nd) : Bool := decide (1 ≤ x.kind ∧ x.kind ≤ 7) && (x.kind == 4 || x.num == 0) && decide (-1000000000 ≤ x.num ∧ x.num ≤ 1000000000) && (x.kind == 5 || x.text.toList.isEmpty) && strOK x.text && strOK x.name
/-- The name of the last part of p ahead of i. -/
def lastN (l : List Nd) (p i : Nat) : Option ByteArray := match (kidsTo l p i).getLast? with
  | some j => (l[j]?).map Nd.name
  | none => none
def linkOK (l : List Nd) (i : Nat) (x : Nd) : Prop :=
  if i = 0 then x.up = -1 ∧ x.name = emptyB
  else ∃ p y, x.up = ((p : Nat) : Int) ∧ p < i ∧ l[p]? = some y ∧ holdsB y.kind = true ∧ Anc l (i - 1) p ∧ (y.kind = 7 → ∀ m, lastN l p i = some m → ltS m x.name = true) ∧ (y.kind ≠ 7 → x.name = emptyB) ∧ dpt l i ≤ 6
def Shape (l : List Nd) : Prop := (∀ i x, l[i]? = some x → nodeOK0 x = true ∧ linkOK l i x) ∧ 1 ≤ l.length ∧ l.length ≤ 80
theorem nodeOK_of (x : Nd) (up : Int) (h : nodeOK0 x = true) (hn : up ≠ 7 → x.name = emptyB) : nodeOKB x up = true := by
  simp only [nodeOK0, Bool.and_eq_true] at h
  obtain ⟨⟨⟨⟨⟨h1, h2⟩, h3⟩, h4⟩, h5⟩, h6⟩ := h
  simp only [nodeOKB, Bool.and_eq_true]
  refine ⟨⟨⟨⟨⟨h1, h2⟩, h4⟩, ?_⟩, h3⟩, h5⟩
  by_cases hu : up = 7
  · simp [hu, h6]
  · have : (up == 7) = false := by simpa using hu
    rw [if_neg (by simp [this]), hn hu, ByteArray.toList_eq]
    rfl
theorem link_up {l : List Nd} {i : Nat} {x : Nd} (h : linkOK l i x) (hi : 0 < i) : ∃ p : Nat, x.up = (p : Int) ∧ p < i ∧ Anc l (i - 1) p := by
  rw [linkOK, if_neg (by omega)] at h
  obtain ⟨p, y, h1, h2, _, _, h3, _⟩ := h
  exact ⟨p, h1, h2, h3⟩
theorem kidsTo_none (l : List Nd) (p i : Nat) (h : ∀ j x, p < j → j < i → l[j]? = some x → x.up ≠ (p : Int)) : kidsTo l p i = [] := by
  rw [kidsTo, List.filter_eq_nil_iff]
  intro j hj
  have hj' : j < i := by simpa using hj
  cases hl : l[j]? with
  | none => simp [isKid, hl]
  | some x =>
    by_cases hp : p < j
    · have := h j x hp hj' hl
      simp [isKid, hl, this]
    · simp [isKid, hp]
theorem kidsTo_skip (l : List Nd) (p i : Nat) : ∀ e, i ≤ e → (∀ j x, i ≤ j → j < e → l[j]? = some x → x.up ≠ (p : Int)) → kidsTo l p e = kidsTo l p i := by
  intro e he h
  obtain ⟨n, rfl⟩ : ∃ n, e = i + n := ⟨e - i, by omega⟩
  clear he
  induction n with
  | zero => rfl
  | succ n ih =>
    rw [← Nat.add_assoc, kidsTo_succ, ih (fun j x h1 h2 => h j x h1 (by omega))]
    have : isKid l p (i + n) = false := by
      cases hl : l[i + n]? with
      | none => simp [isKid, hl]
      | some x =>
        have := h (i + n) x (by omega) (by omega) hl
        simp [isKid, hl, this]
    rw [this]; simp
/-- Behind e: the end, or a part of one around k. -/
def JInv (l : List Nd) (k e : Nat) : Prop := ∀ y, l[e]? = some y → ∃ p : Nat, y.up = (p : Int) ∧ Anc l k p
def VPost (l : List Nd) (k e : Nat) (ns : List ByteArray) (ks : List Tree) : Prop :=
  ∃ t e', VL l k e ns ks (some (t, e')) ∧ e ≤ e' ∧ e' ≤ l.length ∧ (∀ y, l[e']? = some y → ∃ p : Nat, y.up = (p : Int) ∧ Anc l k p ∧ p ≠ k) ∧ ∀ i y, e ≤ i → i < e' → l[i]? = some y → (k : Int) ≤ y.up
theorem shape_vl {l : List Nd} (hS : ∀ i x, l[i]? = some x → nodeOK0 x = true ∧ linkOK l i x) : ∀ (n k e : Nat) (x : Nd) (ns : List ByteArray) (ks : List Tree), n = l.length - e → k < e → e ≤ l.length → l[k]? = some x → JInv l k e → (x.kind = 7 → ns.getLast? = lastN l k e) → (x.kind ≠ 7 → ns = []) → VPost l k e ns ks := by
  intro n
  induction n using Nat.strongRecOn with
  | _ n ih =>
    intro k e x ns ks hn hke hel hx hJ h7 hn7
    by_cases hend : e = l.length
    · have hnone : l[e]? = none := by rw [List.getElem?_eq_none_iff]; omega
      exact ⟨_, e, .stop hx (by unfold kidB; rw [hx, hnone]), Nat.le_refl _, hel, fun y hy => (by rw [hnone] at hy; cases hy), fun i y h1 h2 => by omega⟩
    · have hlt : e < l.length := by omega
      have hy : l[e]? = some l[e] := by simp [hlt]
      generalize l[e] = y at hy
      obtain ⟨p, hp, hA⟩ := hJ y hy
      obtain ⟨hy0, hyl⟩ := hS e y hy
      by_cases hpk : p = k
      · subst hpk
        rw [linkOK, if_neg (by omega)] at hyl
        obtain ⟨p', x', g1, g2, g3, g4, g5, g6, g7, g8⟩ := hyl
        obtain rfl : p' = p := by rw [hp] at g1; omega
        rw [hx] at g3
        injection g3 with g3
        subst g3
        have hkid : kidB l p' e = true := by unfold kidB; rw [hx, hy]; simp [g4, hp]
        have hord : ordB x.kind ns y.name = true := by
          unfold ordB
          by_cases hk : x.kind = 7
          · rw [h7 hk]
            cases hm : lastN l p' e with
            | none => simp
            | some m => simp [g6 hk m hm]
          · have : (x.kind == 7) = false := by simpa using hk
            simp [this]
        have hok : nodeOKB y x.kind = true := nodeOK_of y x.kind hy0 g7
        obtain ⟨t, e', v1, v2, v3, v4, v5⟩ := ih (l.length - (e + 1)) (by omega) e (e + 1) y [] [] rfl (by omega) (by omega) hy
          (fun z hz => by obtain ⟨q, q1, q2, q3⟩ := link_up (hS (e+1) z hz).2 (by omega); exact ⟨q, q1, by simpa using q3⟩)
          (fun _ => by rw [lastN, kidsTo_low l e (e+1) (Nat.le_refl _)]; rfl) (fun _ => rfl)
        have hskip : kidsTo l p' e' = kidsTo l p' e ++ [e] := by
          rw [kidsTo_skip l p' (e+1) e' v2 (fun j z h1 h2 hz => by have := v5 j z h1 h2 hz; omega), kidsTo_succ]
          have : isKid l p' e = true := by simp [isKid, hy, hp]; omega
          rw [this]; simp
        obtain ⟨t', e'', w1, w2, w3, w4, w5⟩ := ih (l.length - e') (by omega) p' e' x (if x.kind = 7 then ns ++ [y.name] else ns) (ks ++ [t]) rfl (by omega) v3 hx
          (fun z hz => by
            obtain ⟨q, q1, q2, q3⟩ := v4 z hz
            refine ⟨q, q1, ?_⟩
            cases q2 with
            | refl => exact absurd rfl q3
            | step s1 s2 s3 =>
              rw [hy] at s1
              injection s1 with s1
              subst s1
              rw [hp] at s2
              have := Int.ofNat_inj.1 s2
              subst this
              exact s3)
          (fun hk => by rw [if_pos hk, lastN, hskip]; simp [hy]) (fun hk => by rw [if_neg hk]; exact hn7 hk)
        refine ⟨t', e'', .kid hkid hx hy hord hok v1 w1, by omega, w3, w4, fun i z h1 h2 hz => ?_⟩
        by_cases hi : i = e
        · subst hi
          rw [hy] at hz
          injection hz with hz
          subst hz
          omega
        · by_cases hi2 : i < e'
          · have := v5 i z (by omega) hi2 hz; omega
          · exact w5 i z (by omega) h2 hz
      · refine ⟨_, e, .stop hx ?_, Nat.le_refl _, hel, fun z hz => ?_, fun i z h1 h2 => by omega⟩
        · unfold kidB; rw [hx, hy]; simp [hp]; intro _; omega
        · rw [hy] at hz
          injection hz with hz
          subst hz
          exact ⟨p, hp, hA, hpk⟩
end Go.Proofs.YtcbcndoddikpjaaGreatDoor
namespace Go.Proofs.YtcbcndoddikpjaaGreatDoor
open Go.RowKit
theorem shape_tree {l : List Nd} (h : Shape l) : ∃ t : Tree, l = t.flat emptyB (-1) 0 ∧ t.ok = true := by
  obtain ⟨hS, h1, _⟩ := h
  have hx : l[0]? = some l[0] := by simp
  generalize l[0] = x at hx
  obtain ⟨hx0, hxl⟩ := hS 0 x hx
  rw [linkOK, if_pos rfl] at hxl
  obtain ⟨hup, hnm⟩ := hxl
  obtain ⟨t, e', v1, v2, v3, v4, v5⟩ := shape_vl hS _ 0 1 x [] [] rfl (by omega) h1 hx
    (fun z hz => by obtain ⟨q, q1, q2, q3⟩ := link_up (hS 1 z hz).2 (by omega); exact ⟨q, q1, by simpa using q3⟩)
    (fun _ => by rw [lastN, kidsTo_low l 0 1 (Nat.le_refl _)]; rfl) (fun _ => rfl)
  have he : e' = l.length := by
    by_cases h : e' < l.length
    · have hz : l[e']? = some l[e'] := by simp [h]
      obtain ⟨p, p1, p2, p3⟩ := v4 _ hz
      cases p2 with
      | refl => exact absurd rfl p3
      | step s1 s2 s3 =>
        rw [hx] at s1
        injection s1 with s1
        subst s1
        omega
    · omega
  subst he
  have hvf : VF l 0 0 (some (t, l.length)) := ⟨x, hx, .inr ⟨nodeOK_of x 0 hx0 (fun _ => hnm), v1⟩⟩
  exact ⟨t, (VF_iff hvf (fun y hy => by rw [hx] at hy; injection hy with hy; subst hy; exact hup) t).1 rfl⟩
theorem dpt_eq (l : List Nd) (i : Nat) (x : Nd) (h : l[i]? = some x) : dpt l i = (if holdsB x.kind then 1 else 0) + (if 0 ≤ x.up ∧ x.up.toNat < i then dpt l x.up.toNat else 0) := by
  rw [dpt, h]
  simp only [dite_eq_ite]
theorem dpt_up {l : List Nd} {i p : Nat} {x : Nd} (h : l[i]? = some x) (hp : x.up = (p : Int)) (hi : p < i) : dpt l i = (if holdsB x.kind then 1 else 0) + dpt l p := by
  have := dpt_eq l i x h
  rw [hp] at this
  simpa [hi] using this
theorem dpt_top {l : List Nd} {i : Nat} {x : Nd} (h : l[i]? = some x) (hp : x.up = -1) : dpt l i = (if holdsB x.kind then 1 else 0) := by
  have := dpt_eq l i x h
  rw [hp] at this
  simpa using this
/-- The depth of a tree, by the depth of its nodes. -/
theorem deep_le {l : List Nd} (M : Nat) : ∀ (t : Tree) (a : Nat), Sub l a t → (∀ i, a ≤ i → i < a + t.count → dpt l i ≤ M) → t.deep + dpt l a ≤ M + (if holdsB t.kind then 1 else 0) := by
  intro t
  induction t using Tree.ind with
  | _ t ih =>
    intro a hsub hd
    have hc := t.count_eq
    have h0 := hd a (Nat.le_refl _) (by omega)
    rw [t.deep_eq]
    have key : ∀ (ks : List Tree) (p : Nat) (ns : List ByteArray), (∀ k ∈ ks, k ∈ t.kids) → SubL l a p (a + t.count) (t.kind == 7) ns ks → Tree.deepL ks + dpt l a ≤ M := by
      intro ks
      induction ks with
      | nil => intro p ns _ _; rw [Tree.deepL]; omega
      | cons k ks ihk =>
        intro p ns hm hs
        obtain ⟨g1, g2, x, hx, hup, _⟩ := hs.head
        have r1 := ihk _ _ (fun k' hk' => hm k' (List.mem_cons_of_mem _ hk')) g2
        have hfit := g2.eq
        have hlow := hs.low
        have r2 := ih k (hm k (List.mem_cons_self ..)) p g1 (fun i h1 h2 => hd i (by omega) (by omega))
        obtain ⟨x', hx', hk', _⟩ := g1.node
        rw [hx] at hx'
        injection hx' with hx'
        subst hx'
        have hdp := dpt_up hx hup hlow
        rw [hk'] at hdp
        rw [Tree.deepL]
        omega
    have := key t.kids _ _ (fun _ h => h) hsub.kids
    omega
theorem shape_good {l : List Nd} (h : Shape l) : ∃ t : Tree, l = t.flat emptyB (-1) 0 ∧ t.ok = true ∧ t.count ≤ 80 ∧ t.deep ≤ 6 := by
  obtain ⟨t, h1, h2⟩ := shape_tree h
  have hlen : l.length = t.count := by rw [h1, Tree.flat_length]
  have hsub := Sub.of_flat h1
  obtain ⟨hS, h3, h4⟩ := h
  obtain ⟨x, hx, hk, _⟩ := hsub.node
  have hx0 : x.up = -1 := by have := (hS 0 x hx).2; rw [linkOK, if_pos rfl] at this; exact this.1
  have h0 := dpt_top hx hx0
  rw [hk] at h0
  have := deep_le 6 t 0 hsub (fun i _ hi => by
    by_cases hi0 : i = 0
    · subst hi0; rw [h0]; split <;> omega
    · have hz : l[i]? = some l[i] := by simp
      have := (hS i _ hz).2
      rw [linkOK, if_neg hi0] at this
      obtain ⟨_, _, _, _, _, _, _, _, _, h⟩ := this
      exact h)
  exact ⟨t, h1, h2, by omega, by omega⟩
end Go.Proofs.YtcbcndoddikpjaaGreatDoor
