/- What l1Shape asks of nodes: plain words; forward: then valFrom finds a tree. l1Shape, plain words: a right shape is a tree. l1Shape, plain words: the row of a good tree is a right shape. What l1Shape keeps in its three rows: plain words. The walk of l1Shape. -/
import Derived.Test.YtemcijhpmpdebaaGreatDoorText1
import Derived.Test.YtemcijhpmpdebaaGreatDoorValOf
import Derived.Test.YtemcijhpmpdebaaGreatDoorLaw4
import Derived.Deep.DeepCutAuto
import Derived.Deep.CutBlock
import Derived.RegionTactic
import Derived.ChangeAlike
namespace Go.Proofs.YtemcijhpmpdebaaGreatDoor
open Go.RowKit
def dpt (l : List Nd) (i : Nat) : Nat :=
  match l[i]? with
  | none => 0
  | some x => (if holdsB x.kind then 1 else 0) + (if _h : 0 ≤ x.up ∧ x.up.toNat < i then dpt l x.up.toNat else 0)
  termination_by i
  decreasing_by exact _h.2
inductive Anc (l : List Nd) : Nat → Nat → Prop
  | refl (a : Nat) : Anc l a a
  | step {a p q : Nat} {x : Nd} : l[a]? = some x → x.up = (q : Int) → Anc l q p → Anc l a p
theorem Anc.trans {l : List Nd} {a p q : Nat} (h : Anc l a p) (k : Anc l p q) : Anc l a q := by
  induction h with
  | refl => exact k
  | step h1 h2 _ ih => exact .step h1 h2 (ih k)
def nodeOK0 (x : Nd) : Bool := decide (1 ≤ x.kind ∧ x.kind ≤ 7) && (x.kind == 4 || x.num == 0) && decide (-1000000000 ≤ x.num ∧ x.num ≤ 1000000000) && (x.kind == 5 || x.text.toList.isEmpty) && strOK x.text && strOK x.name
/-- The name of the last part of p ahead of i. -/
def lastN (l : List Nd) (p i : Nat) : Option ByteArray := match (kidsTo l p i).getLast? with
  | some j => (l[j]?).map Nd.name
  | none => none
def linkOK (l : List Nd) (i : Nat) (x : Nd) : Prop :=
  if i = 0 then x.up = -1 ∧ x.name = emptyB
  else ∃ p y, x.up = ((p : Nat) : Int) ∧ p < i ∧ l[p]? = some y ∧ holdsB y.kind = true ∧ Anc l (i - 1) p ∧ (y.kind = 7 → ∀ m, lastN l p i = some m → ltS m x.name = true) ∧ (y.kind ≠ 7 → x.name = emptyB) ∧ dpt l i ≤ 6
def Shape (l : List Nd) : Prop := (∀ i x, l[i]? = some x → nodeOK0 x = true ∧ linkOK l i x) ∧ 1 ≤ l.length ∧ l.length ≤ 80
theorem nodeOK_of (x : Nd) (up : Int) (h : nodeOK0 x = true) (hn : up ≠ 7 → x.name = emptyB) : nodeOKB x up = true := by
  simp only [nodeOK0, Bool.and_eq_true] at h
  obtain ⟨⟨⟨⟨⟨h1, h2⟩, h3⟩, h4⟩, h5⟩, h6⟩ := h
  simp only [nodeOKB, Bool.and_eq_true]
  refine ⟨⟨⟨⟨⟨h1, h2⟩, h4⟩, ?_⟩, h3⟩, h5⟩
  by_cases hu : up = 7
  · simp [hu, h6]
  · have : (up == 7) = false := by simpa using hu
    rw [if_neg (by simp [this]), hn hu, ByteArray.toList_eq]
    rfl
theorem link_up {l : List Nd} {i : Nat} {x : Nd} (h : linkOK l i x) (hi : 0 < i) : ∃ p : Nat, x.up = (p : Int) ∧ p < i ∧ Anc l (i - 1) p := by
  rw [linkOK, if_neg (by omega)] at h
  obtain ⟨p, y, h1, h2, _, _, h3, _⟩ := h
  exact ⟨p, h1, h2, h3⟩
theorem kidsTo_none (l : List Nd) (p i : Nat) (h : ∀ j x, p < j → j < i → l[j]? = some x → x.up ≠ (p : Int)) : kidsTo l p i = [] := by
  rw [kidsTo, List.filter_eq_nil_iff]
  intro j hj
  have hj' : j < i := by simpa using hj
  cases hl : l[j]? with
  | none => simp [isKid, hl]
  | some x =>
    by_cases hp : p < j
    · have := h j x hp hj' hl
      simp [isKid, hl, this]
    · simp [isKid, hp]
theorem kidsTo_skip (l : List Nd) (p i : Nat) : ∀ e, i ≤ e → (∀ j x, i ≤ j → j < e → l[j]? = some x → x.up ≠ (p : Int)) → kidsTo l p e = kidsTo l p i := by
  intro e he h
  obtain ⟨n, rfl⟩ : ∃ n, e = i + n := ⟨e - i, by omega⟩
  clear he
  induction n with
  | zero => rfl
  | succ n ih =>
    rw [← Nat.add_assoc, kidsTo_succ, ih (fun j x h1 h2 => h j x h1 (by omega))]
    have : isKid l p (i + n) = false := by
      cases hl : l[i + n]? with
      | none => simp [isKid, hl]
      | some x =>
        have := h (i + n) x (by omega) (by omega) hl
        simp [isKid, hl, this]
    rw [this]; simp
/-- Behind e: the end, or a part of one around k. -/
def JInv (l : List Nd) (k e : Nat) : Prop := ∀ y, l[e]? = some y → ∃ p : Nat, y.up = (p : Int) ∧ Anc l k p
def VPost (l : List Nd) (k e : Nat) (ns : List ByteArray) (ks : List Tree) : Prop :=
  ∃ t e', VL l k e ns ks (some (t, e')) ∧ e ≤ e' ∧ e' ≤ l.length ∧ (∀ y, l[e']? = some y → ∃ p : Nat, y.up = (p : Int) ∧ Anc l k p ∧ p ≠ k) ∧ ∀ i y, e ≤ i → i < e' → l[i]? = some y → (k : Int) ≤ y.up
theorem shape_vl {l : List Nd} (hS : ∀ i x, l[i]? = some x → nodeOK0 x = true ∧ linkOK l i x) : ∀ (n k e : Nat) (x : Nd) (ns : List ByteArray) (ks : List Tree), n = l.length - e → k < e → e ≤ l.length → l[k]? = some x → JInv l k e → (x.kind = 7 → ns.getLast? = lastN l k e) → (x.kind ≠ 7 → ns = []) → VPost l k e ns ks := by
  intro n
  induction n using Nat.strongRecOn with
  | _ n ih =>
    intro k e x ns ks hn hke hel hx hJ h7 hn7
    by_cases hend : e = l.length
    · have hnone : l[e]? = none := by rw [List.getElem?_eq_none_iff]; omega
      exact ⟨_, e, .stop hx (by unfold kidB; rw [hx, hnone]), Nat.le_refl _, hel, fun y hy => (by rw [hnone] at hy; cases hy), fun i y h1 h2 => by omega⟩
    · have hlt : e < l.length := by omega
      have hy : l[e]? = some l[e] := by simp [hlt]
      generalize l[e] = y at hy
      obtain ⟨p, hp, hA⟩ := hJ y hy
      obtain ⟨hy0, hyl⟩ := hS e y hy
      by_cases hpk : p = k
      · subst hpk
        rw [linkOK, if_neg (by omega)] at hyl
        obtain ⟨p', x', g1, g2, g3, g4, g5, g6, g7, g8⟩ := hyl
        obtain rfl : p' = p := by rw [hp] at g1; omega
        rw [hx] at g3
        injection g3 with g3
        subst g3
        have hkid : kidB l p' e = true := by unfold kidB; rw [hx, hy]; simp [g4, hp]
        have hord : ordB x.kind ns y.name = true := by
          unfold ordB
          by_cases hk : x.kind = 7
          · rw [h7 hk]
            cases hm : lastN l p' e with
            | none => simp
            | some m => simp [g6 hk m hm]
          · have : (x.kind == 7) = false := by simpa using hk
            simp [this]
        have hok : nodeOKB y x.kind = true := nodeOK_of y x.kind hy0 g7
        obtain ⟨t, e', v1, v2, v3, v4, v5⟩ := ih (l.length - (e + 1)) (by omega) e (e + 1) y [] [] rfl (by omega) (by omega) hy
          (fun z hz => by obtain ⟨q, q1, q2, q3⟩ := link_up (hS (e+1) z hz).2 (by omega); exact ⟨q, q1, by simpa using q3⟩)
          (fun _ => by rw [lastN, kidsTo_low l e (e+1) (Nat.le_refl _)]; rfl) (fun _ => rfl)
        have hskip : kidsTo l p' e' = kidsTo l p' e ++ [e] := by
          rw [kidsTo_skip l p' (e+1) e' v2 (fun j z h1 h2 hz => by have := v5 j z h1 h2 hz; omega), kidsTo_succ]
          have : isKid l p' e = true := by simp [isKid, hy, hp]; omega
          rw [this]; simp
        obtain ⟨t', e'', w1, w2, w3, w4, w5⟩ := ih (l.length - e') (by omega) p' e' x (if x.kind = 7 then ns ++ [y.name] else ns) (ks ++ [t]) rfl (by omega) v3 hx
          (fun z hz => by
            obtain ⟨q, q1, q2, q3⟩ := v4 z hz
            refine ⟨q, q1, ?_⟩
            cases q2 with
            | refl => exact absurd rfl q3
            | step s1 s2 s3 =>
              rw [hy] at s1
              injection s1 with s1
              subst s1
              rw [hp] at s2
              have := Int.ofNat_inj.1 s2
              subst this
              exact s3)
          (fun hk => by rw [if_pos hk, lastN, hskip]; simp [hy]) (fun hk => by rw [if_neg hk]; exact hn7 hk)
        refine ⟨t', e'', .kid hkid hx hy hord hok v1 w1, by omega, w3, w4, fun i z h1 h2 hz => ?_⟩
        by_cases hi : i = e
        · subst hi
          rw [hy] at hz
          injection hz with hz
          subst hz
          omega
        · by_cases hi2 : i < e'
          · have := v5 i z (by omega) hi2 hz; omega
          · exact w5 i z (by omega) h2 hz
      · refine ⟨_, e, .stop hx ?_, Nat.le_refl _, hel, fun z hz => ?_, fun i z h1 h2 => by omega⟩
        · unfold kidB; rw [hx, hy]; simp [hp]; intro _; omega
        · rw [hy] at hz
          injection hz with hz
          subst hz
          exact ⟨p, hp, hA, hpk⟩
end Go.Proofs.YtemcijhpmpdebaaGreatDoor
namespace Go.Proofs.YtemcijhpmpdebaaGreatDoor
open Go.RowKit
theorem shape_tree {l : List Nd} (h : Shape l) : ∃ t : Tree, l = t.flat emptyB (-1) 0 ∧ t.ok = true := by
  obtain ⟨hS, h1, _⟩ := h
  have hx : l[0]? = some l[0] := by simp
  generalize l[0] = x at hx
  obtain ⟨hx0, hxl⟩ := hS 0 x hx
  rw [linkOK, if_pos rfl] at hxl
  obtain ⟨hup, hnm⟩ := hxl
  obtain ⟨t, e', v1, v2, v3, v4, v5⟩ := shape_vl hS _ 0 1 x [] [] rfl (by omega) h1 hx
    (fun z hz => by obtain ⟨q, q1, q2, q3⟩ := link_up (hS 1 z hz).2 (by omega); exact ⟨q, q1, by simpa using q3⟩)
    (fun _ => by rw [lastN, kidsTo_low l 0 1 (Nat.le_refl _)]; rfl) (fun _ => rfl)
  have he : e' = l.length := by
    by_cases h : e' < l.length
    · have hz : l[e']? = some l[e'] := by simp [h]
      obtain ⟨p, p1, p2, p3⟩ := v4 _ hz
      cases p2 with
      | refl => exact absurd rfl p3
      | step s1 s2 s3 =>
        rw [hx] at s1
        injection s1 with s1
        subst s1
        omega
    · omega
  subst he
  have hvf : VF l 0 0 (some (t, l.length)) := ⟨x, hx, .inr ⟨nodeOK_of x 0 hx0 (fun _ => hnm), v1⟩⟩
  exact ⟨t, (VF_iff hvf (fun y hy => by rw [hx] at hy; injection hy with hy; subst hy; exact hup) t).1 rfl⟩
theorem dpt_eq (l : List Nd) (i : Nat) (x : Nd) (h : l[i]? = some x) : dpt l i = (if holdsB x.kind then 1 else 0) + (if 0 ≤ x.up ∧ x.up.toNat < i then dpt l x.up.toNat else 0) := by
  rw [dpt, h]
  simp only [dite_eq_ite]
theorem dpt_up {l : List Nd} {i p : Nat} {x : Nd} (h : l[i]? = some x) (hp : x.up = (p : Int)) (hi : p < i) : dpt l i = (if holdsB x.kind then 1 else 0) + dpt l p := by
  have := dpt_eq l i x h
  rw [hp] at this
  simpa [hi] using this
theorem dpt_top {l : List Nd} {i : Nat} {x : Nd} (h : l[i]? = some x) (hp : x.up = -1) : dpt l i = (if holdsB x.kind then 1 else 0) := by
  have := dpt_eq l i x h
  rw [hp] at this
  simpa using this
/-- The depth of a tree, by the depth of its nodes. -/
theorem deep_le {l : List Nd} (M : Nat) : ∀ (t : Tree) (a : Nat), Sub l a t → (∀ i, a ≤ i → i < a + t.count → dpt l i ≤ M) → t.deep + dpt l a ≤ M + (if holdsB t.kind then 1 else 0) := by
  intro t
  induction t using Tree.ind with
  | _ t ih =>
    intro a hsub hd
    have hc := t.count_eq
    have h0 := hd a (Nat.le_refl _) (by omega)
    rw [t.deep_eq]
    have key : ∀ (ks : List Tree) (p : Nat) (ns : List ByteArray), (∀ k ∈ ks, k ∈ t.kids) → SubL l a p (a + t.count) (t.kind == 7) ns ks → Tree.deepL ks + dpt l a ≤ M := by
      intro ks
      induction ks with
      | nil => intro p ns _ _; rw [Tree.deepL]; omega
      | cons k ks ihk =>
        intro p ns hm hs
        obtain ⟨g1, g2, x, hx, hup, _⟩ := hs.head
        have r1 := ihk _ _ (fun k' hk' => hm k' (List.mem_cons_of_mem _ hk')) g2
        have hfit := g2.eq
        have hlow := hs.low
        have r2 := ih k (hm k (List.mem_cons_self ..)) p g1 (fun i h1 h2 => hd i (by omega) (by omega))
        obtain ⟨x', hx', hk', _⟩ := g1.node
        rw [hx] at hx'
        injection hx' with hx'
        subst hx'
        have hdp := dpt_up hx hup hlow
        rw [hk'] at hdp
        rw [Tree.deepL]
        omega
    have := key t.kids _ _ (fun _ h => h) hsub.kids
    omega
theorem shape_good {l : List Nd} (h : Shape l) : ∃ t : Tree, l = t.flat emptyB (-1) 0 ∧ t.ok = true ∧ t.count ≤ 80 ∧ t.deep ≤ 6 := by
  obtain ⟨t, h1, h2⟩ := shape_tree h
  have hlen : l.length = t.count := by rw [h1, Tree.flat_length]
  have hsub := Sub.of_flat h1
  obtain ⟨hS, h3, h4⟩ := h
  obtain ⟨x, hx, hk, _⟩ := hsub.node
  have hx0 : x.up = -1 := by have := (hS 0 x hx).2; rw [linkOK, if_pos rfl] at this; exact this.1
  have h0 := dpt_top hx hx0
  rw [hk] at h0
  have := deep_le 6 t 0 hsub (fun i _ hi => by
    by_cases hi0 : i = 0
    · subst hi0; rw [h0]; split <;> omega
    · have hz : l[i]? = some l[i] := by simp
      have := (hS i _ hz).2
      rw [linkOK, if_neg hi0] at this
      obtain ⟨_, _, _, _, _, _, _, _, _, h⟩ := this
      exact h)
  exact ⟨t, h1, h2, by omega, by omega⟩
end Go.Proofs.YtemcijhpmpdebaaGreatDoor
namespace Go.Proofs.YtemcijhpmpdebaaGreatDoor
open Go.RowKit
theorem Anc.of_sub {l : List Nd} : ∀ (t : Tree) (a : Nat), Sub l a t → ∀ i, a ≤ i → i < a + t.count → Anc l i a := by
  intro t
  induction t using Tree.ind with
  | _ t ih =>
    intro a hsub i h1 h2
    by_cases hi : i = a
    · rw [hi]; exact .refl a
    · have key : ∀ (ks : List Tree) (p : Nat) (ns : List ByteArray), (∀ k ∈ ks, k ∈ t.kids) → SubL l a p (a + t.count) (t.kind == 7) ns ks → p ≤ i → Anc l i a := by
        intro ks
        induction ks with
        | nil => intro p ns _ hs hp; have := hs.eq; rw [Tree.countL] at this; omega
        | cons k ks ihk =>
          intro p ns hm hs hp
          obtain ⟨g1, g2, x, hx, hup, _⟩ := hs.head
          by_cases hpk : i < p + k.count
          · exact (ih k (hm k (List.mem_cons_self ..)) p g1 i hp hpk).trans (.step hx hup (.refl a))
          · exact ihk _ _ (fun k' hk' => hm k' (List.mem_cons_of_mem _ hk')) g2 (by omega)
      exact key t.kids _ _ (fun _ h => h) hsub.kids (by omega)
theorem dpt_sub {l : List Nd} : ∀ (t : Tree) (a : Nat), Sub l a t → ∀ i, a ≤ i → i < a + t.count → dpt l i + (if holdsB t.kind then 1 else 0) ≤ dpt l a + t.deep := by
  intro t
  induction t using Tree.ind with
  | _ t ih =>
    intro a hsub i h1 h2
    rw [t.deep_eq]
    by_cases hi : i = a
    · rw [hi]; omega
    · have key : ∀ (ks : List Tree) (p : Nat) (ns : List ByteArray), (∀ k ∈ ks, k ∈ t.kids) → SubL l a p (a + t.count) (t.kind == 7) ns ks → p ≤ i → dpt l i ≤ dpt l a + Tree.deepL ks := by
        intro ks
        induction ks with
        | nil => intro p ns _ hs hp; have := hs.eq; rw [Tree.countL] at this; omega
        | cons k ks ihk =>
          intro p ns hm hs hp
          obtain ⟨g1, g2, x, hx, hup, _⟩ := hs.head
          have hlow := hs.low
          rw [Tree.deepL]
          by_cases hpk : i < p + k.count
          · have r := ih k (hm k (List.mem_cons_self ..)) p g1 i hp hpk
            obtain ⟨x', hx', hk', _⟩ := g1.node
            rw [hx] at hx'
            injection hx' with hx'
            subst hx'
            have hdp := dpt_up hx hup hlow
            rw [hk'] at hdp
            omega
          · have := ihk _ _ (fun k' hk' => hm k' (List.mem_cons_of_mem _ hk')) g2 (by omega); omega
      have := key t.kids _ _ (fun _ h => h) hsub.kids (by omega)
      omega
theorem node0_of {x : Nd} {t : Tree} (h : t.ok = true) (hk : x.kind = t.kind) (hn : x.num = t.num) (ht : x.text = t.text) (hs : strOK x.name = true) : nodeOK0 x = true := by
  obtain ⟨k, n, s, ns, ks⟩ := t
  simp only [Tree.ok, Bool.and_eq_true] at h
  obtain ⟨⟨⟨⟨⟨⟨⟨h1, h2⟩, h3⟩, h4⟩, h5⟩, _⟩, _⟩, _⟩ := h
  simp only [Tree.kind_mk] at hk
  simp only [Tree.num_mk] at hn
  simp only [Tree.text_mk] at ht
  simp only [nodeOK0, Bool.and_eq_true, hk, hn, ht]
  exact ⟨⟨⟨⟨⟨h1, h2⟩, by simpa [numOK] using h4⟩, h3⟩, h5⟩, hs⟩
theorem ok_names {t : Tree} (h : t.ok = true) : (t.kind = 7 → t.names.length = t.kids.length ∧ t.names.all strOK = true ∧ sortedB t.names = true) ∧ (t.kids ≠ [] → holdsB t.kind = true) := by
  obtain ⟨k, n, s, ns, ks⟩ := t
  simp only [Tree.ok, Bool.and_eq_true] at h
  obtain ⟨⟨⟨_, h1⟩, h2⟩, _⟩ := h
  refine ⟨fun hk => ?_, fun hk => ?_⟩
  · simp only [Tree.kind_mk] at hk
    rw [if_pos hk] at h1
    simp only [Bool.and_eq_true, decide_eq_true_eq] at h1
    exact ⟨h1.1.1, h1.1.2, h1.2⟩
  · simp only [Tree.kids_mk] at hk
    simpa [hk] using h2
theorem Sub.ups {l : List Nd} {a : Nat} {t : Tree} (h : Sub l a t) (j : Nat) (x : Nd) (h1 : a < j) (h2 : j < a + t.count) (hx : l[j]? = some x) : (a : Int) ≤ x.up := by
  obtain ⟨nm, up, hrow⟩ := h.row
  have := seg_at l a (a + t.count) (j - a) (by omega)
  rw [hrow, show a + (j - a) = j by omega, hx] at this
  exact (Tree.flat_ups t nm up a (j - a) x this (by omega)).1
theorem strOK_empty : strOK emptyB = true := by decide
theorem shape_sub {l : List Nd} : ∀ (t : Tree) (a : Nat), Sub l a t → t.ok = true → (∀ i, a < i → i < a + t.count → dpt l i ≤ 6) → ∀ i x, a < i → i < a + t.count → l[i]? = some x → nodeOK0 x = true ∧ linkOK l i x := by
  intro t
  induction t using Tree.ind with
  | _ t ih =>
    intro a hsub hok hd i x h1 h2 hx
    obtain ⟨y, hy, yk, _, _⟩ := hsub.node
    obtain ⟨o1, o2⟩ := ok_names hok
    obtain ⟨_, _, _, _, _, o7⟩ := t.ok_eq hok
    have key : ∀ (ks : List Tree) (p : Nat) (ns0 ns : List ByteArray), (∀ k ∈ ks, k ∈ t.kids) → SubL l a p (a + t.count) (t.kind == 7) ns ks →
        (t.kind = 7 → ns.length = ks.length ∧ ns.all strOK = true ∧ sortedB (ns0 ++ ns) = true ∧ lastN l a p = ns0.getLast?) → p ≤ i → nodeOK0 x = true ∧ linkOK l i x := by
      intro ks
      induction ks with
      | nil => intro p ns0 ns _ hs _ hp; have := hs.eq; rw [Tree.countL] at this; omega
      | cons k ks ihk =>
        intro p ns0 ns hm hs hn hp
        obtain ⟨g1, g2, z, hz, hup, hnm⟩ := hs.head
        have hlow := hs.low
        have hkm := hm k (List.mem_cons_self ..)
        have hfit := g2.eq
        have hkc := k.count_eq
        have hho : holdsB t.kind = true := o2 (fun h => by rw [h] at hkm; simp at hkm)
        by_cases hpk : i < p + k.count
        · by_cases hip : i = p
          · subst hip
            rw [hz] at hx
            injection hx with hx
            subst hx
            obtain ⟨z', hz', q1, q2, q3⟩ := g1.node
            rw [hz] at hz'
            injection hz' with hz'
            subst hz'
            have hsn : strOK z.name = true := by
              rw [hnm]
              by_cases h7 : t.kind = 7
              · obtain ⟨n1, n2, _⟩ := hn h7
                rw [if_pos (by simpa using h7)]
                cases ns with
                | nil => simp at n1
                | cons m ns => simp at n2; exact n2.1
              · rw [if_neg (by simpa using h7)]
                exact strOK_empty
            refine ⟨node0_of (o7 k hkm) q1 q2 q3 hsn, ?_⟩
            rw [linkOK, if_neg (by omega)]
            refine ⟨a, y, hup, hlow, hy, by rw [yk]; exact hho, Anc.of_sub t a hsub (i - 1) (by omega) (by omega), ?_, ?_, hd i h1 h2⟩
            · intro h7 m hm'
              rw [yk] at h7
              obtain ⟨n1, n2, n3, n4⟩ := hn h7
              rw [n4] at hm'
              rw [hnm, if_pos (by simpa using h7)]
              cases ns with
              | nil => simp at n1
              | cons m' ns =>
                rw [show ns0 ++ m' :: ns = (ns0 ++ [m']) ++ ns by simp] at n3
                have := sortedB_pre _ _ n3
                rw [sortedB_snoc, hm'] at this
                simp only [Bool.and_eq_true] at this
                exact this.2
            · intro h7
              rw [yk] at h7
              rw [hnm, if_neg (by simpa using h7)]
          · exact ih k hkm p g1 (o7 k hkm) (fun j j1 j2 => hd j (by omega) (by omega)) i x (by omega) hpk hx
        · refine ihk (p + k.count) (ns0 ++ [ns.headD emptyB]) ns.tail (fun k' hk' => hm k' (List.mem_cons_of_mem _ hk')) g2 (fun h7 => ?_) (by omega)
          obtain ⟨n1, n2, n3, n4⟩ := hn h7
          cases ns with
          | nil => simp at n1
          | cons m ns =>
            simp only [List.all_cons, Bool.and_eq_true] at n2
            refine ⟨by simpa using n1, n2.2, by simpa using n3, ?_⟩
            have hskip : kidsTo l a (p + k.count) = kidsTo l a p ++ [p] := by
              rw [kidsTo_skip l a (p + 1) (p + k.count) (by omega) (fun j z h1 h2 hz => by have := g1.ups j z h1 h2 hz; omega), kidsTo_succ]
              have : isKid l a p = true := by simp [isKid, hz, hup]; omega
              rw [this]; simp
            rw [lastN, hskip]
            simp only [List.getLast?_append, List.getLast?_singleton, Option.some_or, hz, Option.map_some, List.headD_cons]
            rw [hnm, if_pos (by simpa using h7)]
            rfl
    refine key t.kids (a + 1) [] t.names (fun _ h => h) hsub.kids (fun h7 => ?_) (by omega)
    obtain ⟨n1, n2, n3⟩ := o1 h7
    exact ⟨n1, n2, n3, by rw [lastN, kidsTo_low l a (a + 1) (Nat.le_refl _)]; rfl⟩
theorem good_shape {l : List Nd} {t : Tree} (h1 : l = t.flat emptyB (-1) 0) (h2 : t.ok = true) (h3 : t.count ≤ 80) (h4 : t.deep ≤ 6) : Shape l := by
  have hlen : l.length = t.count := by rw [h1, Tree.flat_length]
  have hsub := Sub.of_flat h1
  have hc := t.count_eq
  obtain ⟨x, hx, k1, k2, k3⟩ := hsub.node
  have hx0 : x.up = -1 ∧ x.name = emptyB := by
    rw [h1, t.flat_eq] at hx
    simp at hx
    rw [← hx]
    exact ⟨rfl, rfl⟩
  have h0 := dpt_top hx hx0.1
  rw [k1] at h0
  refine ⟨fun i y hy => ?_, by omega, by omega⟩
  have hi := (List.getElem?_eq_some_iff.1 hy).1
  by_cases hi0 : i = 0
  · subst hi0
    rw [hx] at hy
    injection hy with hy
    subst hy
    exact ⟨node0_of h2 k1 k2 k3 (by rw [hx0.2]; exact strOK_empty), by rw [linkOK, if_pos rfl]; exact hx0⟩
  · exact shape_sub t 0 hsub h2 (fun j j1 j2 => by have := dpt_sub t 0 hsub j (by omega) (by omega); omega) i y (by omega) (by omega) hy
theorem shape_iff {l : List Nd} : Shape l ↔ ∃ t : Tree, l = t.flat emptyB (-1) 0 ∧ t.ok = true ∧ t.count ≤ 80 ∧ t.deep ≤ 6 :=
  ⟨shape_good, fun ⟨_, h1, h2, h3, h4⟩ => good_shape h1 h2 h3 h4⟩
theorem isGood_iff {l : List Nd} {t : Tree} : IsGood l t ↔ (l = t.flat emptyB (-1) 0 ∧ t.ok = true ∧ t.count ≤ 80 ∧ t.deep ≤ 6) ∧ t.wr.length ≤ 300 := by
  constructor
  · rintro ⟨h1, h2, h3⟩
    simp only [Tree.good, Bool.and_eq_true, decide_eq_true_eq] at h3
    exact ⟨⟨h1, h2, h3.1.1.2, h3.1.2⟩, h3.2⟩
  · rintro ⟨⟨h1, h2, h3, h4⟩, h5⟩
    exact ⟨h1, h2, by simp [Tree.good, t.ok_bounded h2, h3, h4, h5]⟩
end Go.Proofs.YtemcijhpmpdebaaGreatDoor
namespace Go.Proofs.YtemcijhpmpdebaaGreatDoor
open Go.RowKit
def lastM (l : List Nd) (p i : Nat) : Option ByteArray := match l[p]? with
  | some y => if y.kind = 7 then lastN l p i else none
  | none => none
def dArr (l : List Nd) (k : Nat) : List Value := (List.range l.length).map fun i => .int .i64 ((if i < k then dpt l i else 0 : Nat) : Int)
def nArr (l : List Nd) (k : Nat) : List Value := (List.range l.length).map fun p => .string ((lastM l p k).getD emptyB)
def sArr (l : List Nd) (k : Nat) : List Value := (List.range l.length).map fun p => .bool (lastM l p k).isSome
theorem lastM_zero (l : List Nd) (p : Nat) : lastM l p 0 = none := by
  unfold lastM
  split
  · split
    · rfl
    · rfl
  · rfl
theorem lastM_succ (l : List Nd) (q k : Nat) (x : Nd) (hx : l[k]? = some x) : lastM l q (k + 1) = if isKid l q k = true ∧ (∃ y, l[q]? = some y ∧ y.kind = 7) then some x.name else lastM l q k := by
  cases hq : l[q]? with
  | none => simp [lastM, hq]
  | some y =>
    by_cases h7 : y.kind = 7
    · cases hk : isKid l q k
      · simp [lastM, hq, h7, lastN, kidsTo_succ, hk]
      · simp [lastM, hq, h7, lastN, kidsTo_succ, hk, hx]
    · simp [lastM, hq, h7]
theorem map_set {f g : Nat → Value} (n p : Nat) (v : Value) (hp : p < n) (hv : g p = v) (h : ∀ i, i ≠ p → g i = f i) : (List.range n).map g = ((List.range n).map f).set p v := by
  apply List.ext_getElem?
  intro i
  rw [List.getElem?_set]
  by_cases hi : i < n
  · by_cases hip : p = i
    · subst hip
      simp [hi, hv]
    · simp [hi, hip, h i (fun e => hip e.symm)]
  · have : n ≤ i := by omega
    by_cases hip : p = i
    · omega
    · simp [hip, this]
theorem map_same {f g : Nat → Value} (n : Nat) (h : ∀ i, i < n → g i = f i) : (List.range n).map g = (List.range n).map f := by
  apply List.map_congr_left
  intro i hi
  exact h i (by simpa using hi)
theorem dArr_zero (l : List Nd) : dArr l 0 = List.replicate l.length (.int .i64 0) := by
  simp [dArr, List.eq_replicate_iff]
theorem nArr_zero (l : List Nd) : nArr l 0 = List.replicate l.length (.string emptyB) := by
  simp [nArr, List.eq_replicate_iff, lastM_zero]
theorem sArr_zero (l : List Nd) : sArr l 0 = List.replicate l.length (.bool false) := by
  simp [sArr, List.eq_replicate_iff, lastM_zero]
theorem dArr_get (l : List Nd) (k i : Nat) (h : i < l.length) : (dArr l k)[i]? = some (.int .i64 ((if i < k then dpt l i else 0 : Nat) : Int)) := by
  simp [dArr, h]
theorem nArr_get (l : List Nd) (k i : Nat) (h : i < l.length) : (nArr l k)[i]? = some (.string ((lastM l i k).getD emptyB)) := by
  simp [nArr, h]
theorem sArr_get (l : List Nd) (k i : Nat) (h : i < l.length) : (sArr l k)[i]? = some (.bool (lastM l i k).isSome) := by
  simp [sArr, h]
theorem dArr_succ (l : List Nd) (k : Nat) (h : k < l.length) : dArr l (k + 1) = (dArr l k).set k (.int .i64 (dpt l k : Int)) :=
  map_set l.length k _ h (by simp) (fun i hi => by
    have : i < k + 1 ↔ i < k := by omega
    simp [this])
theorem isKid_iff {l : List Nd} {q k p : Nat} {x : Nd} (hx : l[k]? = some x) (hp : x.up = (p : Int)) (hpk : p < k) : isKid l q k = true ↔ q = p := by
  simp [isKid, hx, hp]
  omega
theorem isKid_top {l : List Nd} {q k : Nat} {x : Nd} (hx : l[k]? = some x) (hp : x.up = -1) : isKid l q k = false := by
  simp [isKid, hx, hp]
theorem nArr_map (l : List Nd) (k p : Nat) (x y : Nd) (hx : l[k]? = some x) (hp : x.up = (p : Int)) (hpk : p < k) (hy : l[p]? = some y) (h7 : y.kind = 7) :
    nArr l (k + 1) = (nArr l k).set p (.string x.name) ∧ sArr l (k + 1) = (sArr l k).set p (.bool true) := by
  have hl := (List.getElem?_eq_some_iff.1 hy).1
  have hne : ∀ q, q ≠ p → lastM l q (k + 1) = lastM l q k := fun q hq => by
    rw [lastM_succ l q k x hx, if_neg]
    rw [isKid_iff hx hp hpk]
    exact fun h => hq h.1
  have heq : lastM l p (k + 1) = some x.name := by
    rw [lastM_succ l p k x hx, if_pos]
    exact ⟨(isKid_iff hx hp hpk).2 rfl, y, hy, h7⟩
  exact ⟨map_set _ _ _ hl (by rw [heq]; rfl) (fun i hi => by rw [hne i hi]), map_set _ _ _ hl (by rw [heq]; rfl) (fun i hi => by rw [hne i hi])⟩
theorem nArr_list (l : List Nd) (k p : Nat) (x y : Nd) (hx : l[k]? = some x) (hp : x.up = (p : Int)) (hpk : p < k) (hy : l[p]? = some y) (h7 : y.kind ≠ 7) :
    nArr l (k + 1) = nArr l k ∧ sArr l (k + 1) = sArr l k := by
  have hne : ∀ q, lastM l q (k + 1) = lastM l q k := fun q => by
    rw [lastM_succ l q k x hx, if_neg]
    rw [isKid_iff hx hp hpk]
    rintro ⟨rfl, z, hz, h⟩
    rw [hy] at hz
    injection hz with hz
    subst hz
    exact h7 h
  exact ⟨map_same _ (fun i _ => by rw [hne i]), map_same _ (fun i _ => by rw [hne i])⟩
theorem nArr_top (l : List Nd) (k : Nat) (x : Nd) (hx : l[k]? = some x) (hp : x.up = -1) : nArr l (k + 1) = nArr l k ∧ sArr l (k + 1) = sArr l k := by
  have hne : ∀ q, lastM l q (k + 1) = lastM l q k := fun q => by
    rw [lastM_succ l q k x hx, if_neg]
    simp [isKid_top hx hp]
  exact ⟨map_same _ (fun i _ => by rw [hne i]), map_same _ (fun i _ => by rw [hne i])⟩
theorem made_one (z : Value) (hz : z.cells = #[z]) (n : Nat) : madeCells z.cells (n * 1) = (List.replicate n z).toArray := by
  have := madeCells_rep [z] n
  rw [List.flatten_replicate_singleton] at this
  rw [hz]
  exact this
theorem lastM_map {l : List Nd} {p i : Nat} {y : Nd} (hy : l[p]? = some y) (h7 : y.kind = 7) : lastM l p i = lastN l p i := by
  simp [lastM, hy, h7]
/-- One node ahead of the first has no one ahead of it. -/
theorem Anc.zero {l : List Nd} {a p : Nat} {x : Nd} (hx : l[a]? = some x) (hup : x.up = -1) (hp : a ≠ p) : ¬ Anc l a p := by
  intro h
  cases h with
  | refl => exact hp rfl
  | step h1 h2 _ =>
    rw [hx] at h1
    injection h1 with h1
    subst h1
    omega
theorem Anc.up_iff {l : List Nd} {a p q : Nat} {x : Nd} (hx : l[a]? = some x) (hup : x.up = (q : Int)) (hp : a ≠ p) : Anc l a p ↔ Anc l q p := by
  constructor
  · intro h
    cases h with
    | refl => exact absurd rfl hp
    | step h1 h2 h3 =>
      rw [hx] at h1
      injection h1 with h1
      subst h1
      rw [hup] at h2
      have := Int.ofNat_inj.1 h2
      subst this
      exact h3
  · exact fun h => .step hx hup h
end Go.Proofs.YtemcijhpmpdebaaGreatDoor
namespace Go.Proofs.YtemcijhpmpdebaaGreatDoor
open Go.RowKit
def ShPost (l : List Nd) (w : World) (e : Ending) (w' : World) : Prop := Below w.heap.size w w' ∧ ∃ r, e = .returned (.bool r) ∧ (r = true ↔ Shape l)
theorem infoBool : (Tryz.prog.info? 4).map (fun i => (i.zero, i.size, i.bytes)) = some (some (.bool false), 1, 1) := by kernel_rfl
structure ShRel (l : List Nd) (A : Option Addr) (c : Nat) (w : World) (k : Nat) (wx : World) : Prop where
  le : k ≤ l.length
  all : ∀ i x, i < k → l[i]? = some x → nodeOK0 x = true ∧ linkOK l i x
  below : Below w.heap.size w wx
  b0 : wx.heap[w.heap.size]? = some (.cells #[.slice A l.length c] 55 (0, 0))
  b1 : wx.heap[w.heap.size + 1]? = some (.cells (dArr l k).toArray 3 (0, 0))
  b2 : wx.heap[w.heap.size + 1 + 1]? = some (.cells (nArr l k).toArray 9 (0, 0))
  b3 : wx.heap[w.heap.size + 1 + 1 + 1]? = some (.cells (sArr l k).toArray 4 (0, 0))
theorem blk_set {w : World} {b : Nat} {L : List Value} {T : TypeId} (h : w.heap[b]? = some (.cells L.toArray T (0, 0))) (j : Nat) (v : Value) : (w.setCell ⟨b, j, none⟩ v).heap[b]? = some (.cells (L.set j v).toArray T (0, 0)) := by
  rw [block_setCell h]; simp
theorem cell_of_row {w : World} {b : Nat} {L : List Value} {T : TypeId} (h : w.heap[b]? = some (.cells L.toArray T (0, 0))) (j : Nat) (v : Value) (hj : L[j]? = some v) : w.cell? ⟨b, j, none⟩ = some v := by
  rw [cell_of_block h]; simpa using hj
theorem dArr_set0 (l : List Nd) (k : Nat) (h : k < l.length) : (dArr l k).set k (.int .i64 ((0 : Nat) : Int)) = dArr l k := (map_set l.length k _ h (by simp) (fun i _ => rfl)).symm
structure ShMid (l : List Nd) (A : Option Addr) (c : Nat) (w : World) (k nb : Nat) (x : Nd) (h : Nat) (wx : World) : Prop where
  below : Below w.heap.size w wx
  b0 : wx.heap[w.heap.size]? = some (.cells #[.slice A l.length c] 55 (0, 0))
  b1 : wx.heap[w.heap.size + 1]? = some (.cells ((dArr l k).set k (.int .i64 (h : Int))).toArray 3 (0, 0))
  b2 : wx.heap[w.heap.size + 1 + 1]? = some (.cells (nArr l k).toArray 9 (0, 0))
  b3 : wx.heap[w.heap.size + 1 + 1 + 1]? = some (.cells (sArr l k).toArray 4 (0, 0))
  bn : wx.heap[nb]? = some (.cells #[.int .i64 x.kind, .int .i64 x.num, .string x.text, .string x.name, .int .i64 x.up] 100 (0, 0))
def AtOK (l : List Nd) (k p : Nat) (ai : Int) : Prop := (ai = -1 ∧ ¬ Anc l (k - 1) p) ∨ ∃ q : Nat, ai = (q : Int) ∧ q < k ∧ (Anc l (k - 1) p ↔ Anc l q p)
theorem shape_no0 {l : List Nd} {k : Nat} {x : Nd} (hx : l[k]? = some x) (h : nodeOK0 x = false) : (false = true ↔ Shape l) :=
  ⟨(fun h => by cases h), fun hs => by have := (hs.1 k x hx).1; rw [h] at this; cases this⟩
theorem shape_no {l : List Nd} {k : Nat} {x : Nd} (hx : l[k]? = some x) (h : ¬ linkOK l k x) : (false = true ↔ Shape l) :=
  ⟨(fun h => by cases h), fun hs => absurd (hs.1 k x hx).2 h⟩
theorem rel_next {l : List Nd} {A : Option Addr} {c : Nat} {w wr wx : World} {k : Nat} {x : Nd} (rel : ShRel l A c w k wr) (hx : l[k]? = some x) (h0 : nodeOK0 x = true) (h1 : linkOK l k x) (hb : Below w.heap.size w wx)
    (b0 : wx.heap[w.heap.size]? = some (.cells #[.slice A l.length c] 55 (0, 0)))
    (b1 : wx.heap[w.heap.size + 1]? = some (.cells (dArr l (k+1)).toArray 3 (0, 0)))
    (b2 : wx.heap[w.heap.size + 1 + 1]? = some (.cells (nArr l (k+1)).toArray 9 (0, 0)))
    (b3 : wx.heap[w.heap.size + 1 + 1 + 1]? = some (.cells (sArr l (k+1)).toArray 4 (0, 0))) : ShRel l A c w (k+1) wx := by
  have hk := (List.getElem?_eq_some_iff.1 hx).1
  refine ⟨by omega, fun i y hi hy => ?_, hb, b0, b1, b2, b3⟩
  by_cases hik : i = k
  · subst hik
    rw [hx] at hy
    injection hy with hy
    subst hy
    exact ⟨h0, h1⟩
  · exact rel.all i y (by omega) hy
theorem name_ne {s : ByteArray} (h : s ≠ emptyB) : s.toList.isEmpty = false := by
  cases he : s.toList.isEmpty
  · rfl
  · exact absurd (empty_eq s he) h
theorem link_no_holds {l : List Nd} {k p : Nat} {x y : Nd} (hk : k ≠ 0) (hp : x.up = (p : Int)) (hy : l[p]? = some y) (hh : holdsB y.kind = false) : ¬ linkOK l k x := by
  rw [linkOK, if_neg hk]
  rintro ⟨p', y', h1, _, h3, h4, _⟩
  obtain rfl : p' = p := by omega
  rw [hy] at h3
  injection h3 with h3
  subst h3
  rw [hh] at h4
  cases h4
theorem link_no_anc {l : List Nd} {k p : Nat} {x : Nd} (hk : k ≠ 0) (hp : x.up = (p : Int)) (hh : ¬ Anc l (k - 1) p) : ¬ linkOK l k x := by
  rw [linkOK, if_neg hk]
  rintro ⟨p', y', h1, _, _, _, h5, _⟩
  obtain rfl : p' = p := by omega
  exact hh h5
theorem link_no_name {l : List Nd} {k p : Nat} {x y : Nd} (hk : k ≠ 0) (hp : x.up = (p : Int)) (hy : l[p]? = some y) (hh : ¬ ((y.kind = 7 → ∀ m, lastN l p k = some m → ltS m x.name = true) ∧ (y.kind ≠ 7 → x.name = emptyB))) : ¬ linkOK l k x := by
  rw [linkOK, if_neg hk]
  rintro ⟨p', y', h1, _, h3, _, _, h6, h7, _⟩
  obtain rfl : p' = p := by omega
  rw [hy] at h3
  injection h3 with h3
  subst h3
  exact hh ⟨h6, h7⟩
theorem link_no_deep {l : List Nd} {k : Nat} {x : Nd} (hk : k ≠ 0) (hh : ¬ dpt l k ≤ 6) : ¬ linkOK l k x := by
  rw [linkOK, if_neg hk]
  rintro ⟨p', y', _, _, _, _, _, _, _, h8⟩
  exact hh h8
theorem link_deep {l : List Nd} {k : Nat} {x : Nd} (hx : l[k]? = some x) (h : linkOK l k x) : dpt l k ≤ 6 := by
  by_cases hk : k = 0
  · rw [linkOK, if_pos hk] at h
    rw [dpt_top hx h.1]
    split <;> omega
  · rw [linkOK, if_neg hk] at h
    obtain ⟨p', y', _, _, _, _, _, _, _, h8⟩ := h
    exact h8
theorem mid_sum {l : List Nd} {A : Option Addr} {c : Nat} {w wr wc : World} {k h : Nat} {x : Nd} {v : Value} (rel : ShRel l A c w k wr) (mid : ShMid l A c w k wr.heap.size x h wc) (hk : k < l.length) (hv : v = .int .i64 (dpt l k : Int)) :
    (wc.setCell ⟨w.heap.size + 1, k, none⟩ v).drew.heap[w.heap.size]? = some (.cells #[.slice A l.length c] 55 (0, 0)) ∧
    (wc.setCell ⟨w.heap.size + 1, k, none⟩ v).drew.heap[w.heap.size + 1]? = some (.cells (dArr l (k + 1)).toArray 3 (0, 0)) ∧
    (wc.setCell ⟨w.heap.size + 1, k, none⟩ v).drew.heap[w.heap.size + 1 + 1]? = some (.cells (nArr l k).toArray 9 (0, 0)) ∧
    (wc.setCell ⟨w.heap.size + 1, k, none⟩ v).drew.heap[w.heap.size + 1 + 1 + 1]? = some (.cells (sArr l k).toArray 4 (0, 0)) ∧
    (wc.setCell ⟨w.heap.size + 1, k, none⟩ v).drew.heap[wr.heap.size]? = some (.cells #[.int .i64 x.kind, .int .i64 x.num, .string x.text, .string x.name, .int .i64 x.up] 100 (0, 0)) ∧
    Below w.heap.size w (wc.setCell ⟨w.heap.size + 1, k, none⟩ v).drew := by
  have h3 := lt_of_block rel.b3
  refine ⟨blk_skip _ _ mid.b0 (by show w.heap.size ≠ w.heap.size + 1; omega), ?_, blk_skip _ _ mid.b2 (by show w.heap.size + 1 + 1 ≠ w.heap.size + 1; omega), blk_skip _ _ mid.b3 (by show w.heap.size + 1 + 1 + 1 ≠ w.heap.size + 1; omega), blk_skip _ _ mid.bn (by show wr.heap.size ≠ w.heap.size + 1; omega), (mid.below.setCell (by show w.heap.size ≤ w.heap.size + 1; omega) _).drew⟩
  have := blk_set mid.b1 k v
  rw [List.set_set, hv, ← dArr_succ l k hk] at this
  rw [hv]
  exact this
theorem link_yes {l : List Nd} {k p : Nat} {x y : Nd} (hk : k ≠ 0) (hp : x.up = (p : Int)) (hpk : p < k) (hy : l[p]? = some y) (hh : holdsB y.kind = true) (ha : Anc l (k - 1) p) (hn : (y.kind = 7 → ∀ m, lastN l p k = some m → ltS m x.name = true) ∧ (y.kind ≠ 7 → x.name = emptyB)) (hd : dpt l k ≤ 6) : linkOK l k x := by
  rw [linkOK, if_neg hk]
  exact ⟨p, y, hp, hpk, hy, hh, ha, hn.1, hn.2, hd⟩
theorem below_drawn {B : Nat} {a w : World} (h : Below B a w) (n : Nat) : Below B a (w.drewN n) := h.trans ⟨rfl, rfl, rfl, Nat.le_refl _, fun _ _ => rfl⟩
theorem fin_below {B : Nat} {a w : World} {b1 b2 j1 j2 n : Nat} {v1 v2 : Value} (h1 : B ≤ b1) (h2 : B ≤ b2) (h : Below B a w) : Below B a (((w.setCell ⟨b1, j1, none⟩ v1).setCell ⟨b2, j2, none⟩ v2).drewN n) := below_drawn ((h.setCell (p := ⟨b1, j1, none⟩) h1 v1).setCell (p := ⟨b2, j2, none⟩) h2 v2) n
theorem fin_map {l : List Nd} {A : Option Addr} {c : Nat} {w wr w2 : World} {k q n : Nat} {x : Nd} (rel : ShRel l A c w k wr) (hx : l[k]? = some x) (h0 : nodeOK0 x = true) (h1 : linkOK l k x)
    (hns : nArr l (k + 1) = (nArr l k).set q (.string x.name) ∧ sArr l (k + 1) = (sArr l k).set q (.bool true))
    (b0 : w2.heap[w.heap.size]? = some (.cells #[.slice A l.length c] 55 (0, 0)))
    (b1 : w2.heap[w.heap.size + 1]? = some (.cells (dArr l (k+1)).toArray 3 (0, 0)))
    (b2 : w2.heap[w.heap.size + 1 + 1]? = some (.cells (nArr l k).toArray 9 (0, 0)))
    (b3 : w2.heap[w.heap.size + 1 + 1 + 1]? = some (.cells (sArr l k).toArray 4 (0, 0))) (hb : Below w.heap.size w w2) :
    ShRel l A c w (k+1) (((w2.setCell ⟨w.heap.size + 1 + 1, q, none⟩ (.string x.name)).setCell ⟨w.heap.size + 1 + 1 + 1, q, none⟩ (.bool true)).drewN n) := by
  refine rel_next rel hx h0 h1 (fin_below (by omega) (by omega) hb) ?_ ?_ ?_ ?_
  · exact blk_skip _ _ (blk_skip _ _ b0 (by show w.heap.size ≠ w.heap.size + 1 + 1; omega)) (by show w.heap.size ≠ w.heap.size + 1 + 1 + 1; omega)
  · exact blk_skip _ _ (blk_skip _ _ b1 (by show w.heap.size + 1 ≠ w.heap.size + 1 + 1; omega)) (by show w.heap.size + 1 ≠ w.heap.size + 1 + 1 + 1; omega)
  · have := blk_skip ⟨w.heap.size + 1 + 1 + 1, q, none⟩ (.bool true) (blk_set b2 q (.string x.name)) (by show w.heap.size + 1 + 1 ≠ w.heap.size + 1 + 1 + 1; omega)
    rw [← hns.1] at this
    exact this
  · have := blk_set (blk_skip ⟨w.heap.size + 1 + 1, q, none⟩ (.string x.name) b3 (by show w.heap.size + 1 + 1 + 1 ≠ w.heap.size + 1 + 1; omega)) q (.bool true)
    rw [← hns.2] at this
    exact this
set_option maxRecDepth 100000 in
set_option maxHeartbeats 4000000 in
theorem sShape_any (l : List Nd) (hl : l.length ≤ 1000000000) (hsz : ∀ x ∈ l, x.text.size ≤ 9223372036854775807 ∧ x.name.size ≤ 9223372036854775807) (F : Nat → Prop) (A : Option Addr) (c : Nat) (w : World) (hr : Rds F w A (ndCells l)) :
    Calls Tryz.prog 87 #[.agg #[.slice A l.length c]] w (ShPost l w) := by
  have hm1 := make_rowN (P := Tryz.prog) 129 3 _ 1 8 Tryz.underlying129 infoInt l.length (by omega) (by omega)
  have hm2 := make_rowN (P := Tryz.prog) 78 9 _ 1 16 Tryz.underlying78 Tryz.infoStr l.length (by omega) (by omega)
  have hm3 := make_rowN (P := Tryz.prog) 149 4 _ 1 1 Tryz.underlying149 infoBool l.length (by omega) (by omega)
  rw [made_one _ rfl, ← dArr_zero] at hm1
  rw [made_one _ rfl] at hm2
  change ∀ w : World, _ = Go.Result.ok _ (w.alloc (.cells (List.replicate l.length (Value.string emptyB)).toArray _)) at hm2
  rw [← nArr_zero] at hm2
  rw [made_one _ rfl, ← sArr_zero] at hm3
  have HR := Lib.hid hr
  have HS := Lib.hid hsz
  clear hr hsz
  go_enter Tryz.func87, Tryz.ntmps87
  go_wp2
  go_loopw [24] (fun i wx => ∃ k : Nat, i = .int .i64 (k : Int) ∧ ShRel l A c w k wx) (fun i _ => l.length - (intOf i).toNat)
  case atStart =>
    refine ⟨0, rfl, Nat.zero_le _, fun i x h => by omega, ((((Below.refl _ _).alloc (Nat.le_refl _) _).alloc (by simp) _).alloc (by simp; omega) _).alloc (by simp; omega) _, ?_, ?_, ?_, ?_⟩
    · (repeat (first | with_reducible assumption | (with_reducible refine blk_new _ ?_; (first | rfl | (simp; done) | (simp; omega))) | with_reducible apply block_setCell | (with_reducible refine blk_skip _ _ ?_ ?_; rotate_left; (first | (simp; done) | (simp; omega))) | with_reducible refine blk_old ?_))
    · (repeat (first | with_reducible assumption | (with_reducible refine blk_new _ ?_; (first | rfl | (simp; done) | (simp; omega))) | with_reducible apply block_setCell | (with_reducible refine blk_skip _ _ ?_ ?_; rotate_left; (first | (simp; done) | (simp; omega))) | with_reducible refine blk_old ?_))
    · (repeat (first | with_reducible assumption | (with_reducible refine blk_new _ ?_; (first | rfl | (simp; done) | (simp; omega))) | with_reducible apply block_setCell | (with_reducible refine blk_skip _ _ ?_ ?_; rotate_left; (first | (simp; done) | (simp; omega))) | with_reducible refine blk_old ?_))
    · (repeat (first | with_reducible assumption | (with_reducible refine blk_new _ ?_; (first | rfl | (simp; done) | (simp; omega))) | with_reducible apply block_setCell | (with_reducible refine blk_skip _ _ ?_ ?_; rotate_left; (first | (simp; done) | (simp; omega))) | with_reducible refine blk_old ?_))
  case round =>
    obtain ⟨k, rfl, rel⟩ := hrel
    clear hm1 hm2 hm3
    have hk := rel.le
    have hsz3 : w.heap.size + 1 + 1 + 1 < wr.heap.size := lt_of_block rel.b3
    have REL := Lib.hid rel
    clear rel
    by_cases hlt : k < l.length
    · obtain ⟨b, o, x, rfl, hF, hbl, hx, g0, g1, g2, g3, g4⟩ := nd_at (HR.out.frame (Agree.of_below REL.out.below)) k hlt
      have hxs := HS.out x (List.mem_of_getElem? hx)
      have HX := Lib.hid hx
      clear hx
      have hnb := heap_alloc_new wr (.cells #[.int .i64 x.kind, .int .i64 x.num, .string x.text, .string x.name, .int .i64 x.up] 100 (0, 0))
      have hbn : Below wr.heap.size wr (wr.alloc (.cells #[.int .i64 x.kind, .int .i64 x.num, .string x.text, .string x.name, .int .i64 x.up] 100 (0, 0))) := (Below.refl _ _).alloc (Nat.le_refl _) _
      go_upto_region 7 with fail
      generalize wr.alloc (.cells #[.int .i64 x.kind, .int .i64 x.num, .string x.text, .string x.name, .int .i64 x.up] 100 (0, 0)) = w1 at hnb hbn ⊢
      obtain ⟨d0, d1, d2, d3, d4⟩ := cells5 hnb
      have HNB := Lib.hid hnb
      have HBN := Lib.hid hbn
      clear hnb hbn
      go_cut [70] (fun s70 wx' => s70 = .bool (!nodeOK0 x) ∧ wx' = w1)
      case first =>
        --<first
        go_wp2_with (first | (go_at_call 33; refine (sIn_any _ _ _ _).mono ?_; rintro e w' ⟨rfl, rfl⟩) | (go_at_call 106; refine (sNumber_any _ _).mono ?_; rintro e w' ⟨rfl, rfl⟩) | (go_at_call 107; refine (sPrinted_any _ _ (by first | exact hxs.1 | exact hxs.2)).mono ?_; rintro e w' ⟨rfl, rfl⟩))
        all_goals
          go_meet
          refine ⟨congrArg Value.bool ?_, rfl⟩
          clear g0 g1 g2 g3 g4
          simp_all [nodeOK0] <;> omega
        -->first
      case rest =>
        obtain ⟨rfl, rfl⟩ := hcut
        have e0 := block_below REL.out.b0 HBN.out
        have e1 := block_below REL.out.b1 HBN.out
        have e2 := block_below REL.out.b2 HBN.out
        have e3 := block_below REL.out.b3 HBN.out
        have HB1 := Lib.hid (below_then REL.out.below REL.out.below.size HBN.out)
        have E0 := Lib.hid e0
        have E1 := Lib.hid e1
        have E2 := Lib.hid e2
        have E3 := Lib.hid e3
        clear e0 e1 e2 e3
        cases hok : nodeOK0 x
        · have HOK := Lib.hid hok
          go_wp2
          go_ret
          exact ⟨HB1.out, false, rfl, shape_no0 HX.out HOK.out⟩
        · go_upto_if 73 with (go_at_call 108; refine (sHolds_any _ _).mono ?_; rintro e w' ⟨rfl, rfl⟩)
          obtain ⟨h, hh, hh1⟩ : ∃ h : Nat, h = (if holdsB x.kind then 1 else 0) ∧ h ≤ 1 := ⟨_, rfl, by split <;> omega⟩
          have HH := Lib.hid hh
          have HOK := Lib.hid hok
          clear hh hok
          go_cut [] (fun wx => ShMid l (some ⟨b, o, none⟩) c w k wr.heap.size x h wx)
          case first =>
            --<mid
            have q := cell_of_row E1.out k _ (dArr_get l k k hlt)
            rw [if_neg (Nat.lt_irrefl k)] at q
            have f := free_of_block E1.out k
            cases hhx : holdsB x.kind
            · have HHX := Lib.hid hhx
              go_wp2_with fail
              go_meet
              have h0 : h = 0 := by rw [HH.out, HHX.out]; rfl
              exact ⟨HB1.out, E0.out, by rw [h0, dArr_set0 l k hlt]; exact E1.out, E2.out, E3.out, HNB.out⟩
            · have HHX := Lib.hid hhx
              go_wp2_with fail
              go_meet
              have h1 : h = 1 := by rw [HH.out, HHX.out]; rfl
              refine ⟨HB1.out.setCell (by show w.heap.size ≤ w.heap.size + 1; omega) _, ?_, by rw [h1]; exact blk_set E1.out k _, ?_, ?_, ?_⟩
              · exact blk_skip _ _ E0.out (by show w.heap.size ≠ w.heap.size + 1; omega)
              · exact blk_skip _ _ E2.out (by show w.heap.size + 1 + 1 ≠ w.heap.size + 1; omega)
              · exact blk_skip _ _ E3.out (by show w.heap.size + 1 + 1 + 1 ≠ w.heap.size + 1; omega)
              · have := REL.out.below.size
                have h3 := lt_of_block REL.out.b3
                exact blk_skip _ _ HNB.out (by show wr.heap.size ≠ w.heap.size + 1; omega)
            -->mid
          case rest =>
            have MID := Lib.hid hcut
            obtain ⟨m0, m1, m2, m3, m4⟩ := cells5 hcut.bn
            have v0 := cell_of_block hcut.b0 0
            simp at v0
            clear hcut d0 d1 d2 d3 d4 g0 g1 g2 g3 g4
            by_cases hk0 : k = 0
            · skip
              --<k0
              have hkb : ((k : Int) == 0) = true := by simp [hk0]
              have HK0 := Lib.hid hk0
              clear hk0
              by_cases hup : x.up = -1
              · have hub : (x.up != -1) = false := by simp [hup]
                rw [hup] at m4
                have HUP := Lib.hid hup
                clear hup
                by_cases hnm : x.name = emptyB
                · have hnb : x.name.toList.isEmpty = true := by rw [hnm, ByteArray.toList_eq]; rfl
                  have HNM := Lib.hid hnm
                  clear hnm hub
                  go_wp2
                  refine ⟨?_, ?_⟩
                  · have hl0 : linkOK l k x := by rw [linkOK, if_pos HK0.out]; exact ⟨HUP.out, HNM.out⟩
                    have hd := dpt_top HX.out HUP.out
                    obtain ⟨q1, q2⟩ := nArr_top l k x HX.out HUP.out
                    exact ⟨k + 1, by go_num, rel_next REL.out HX.out HOK.out hl0 MID.out.below MID.out.b0 (by rw [dArr_succ l k hlt, hd, ← HH.out]; exact MID.out.b1) (by rw [q1]; exact MID.out.b2) (by rw [q2]; exact MID.out.b3)⟩
                  · simp [intOf]; omega
                · have hnb : x.name.toList.isEmpty = false := name_ne hnm
                  have HNM := Lib.hid hnm
                  clear hnm
                  go_wp2
                  go_ret
                  exact ⟨MID.out.below, false, rfl, shape_no HX.out (by rw [linkOK, if_pos HK0.out]; exact fun h => HNM.out h.2)⟩
              · have hub : (x.up != -1) = true := by simp [hup]
                have HUP := Lib.hid hup
                clear hup
                go_wp2
                go_ret
                exact ⟨MID.out.below, false, rfl, shape_no HX.out (by rw [linkOK, if_pos HK0.out]; exact fun h => HUP.out h.1)⟩
              -->k0
            · have hkb : ((k : Int) == 0) = false := by simp; omega
              by_cases hup : 0 ≤ x.up ∧ x.up ≤ (k : Int) - 1
              · obtain ⟨p, hp⟩ : ∃ p : Nat, x.up = (p : Int) := ⟨x.up.toNat, by omega⟩
                have hpk : p < k := by omega
                have hin : (decide (0 ≤ (p : Int)) && decide ((p : Int) ≤ (k : Int) - 1)) = true := by simp; omega
                rw [hp] at m4
                have HP := Lib.hid hp
                have HK0 := Lib.hid hk0
                clear hup hp hk0
                have hpl : p < l.length := by omega
                have hpl' : (p : Int) < (l.length : Int) := by omega
                have hkl' : (k : Int) < (l.length : Int) := by omega
                obtain ⟨y, hy, y0, y1, y2, y3, y4⟩ := nd_at2 (HR.out.frame (Agree.of_below MID.out.below)) p hpl
                have HY := Lib.hid hy
                clear hy y1 y2 y3 y4 m0 m1 m2
                cases hyh : holdsB y.kind
                · have HYH := Lib.hid hyh
                  go_wp2_with (first | (go_at_call 33; refine (sIn_any _ _ _ _).mono ?_; rintro e w' ⟨rfl, rfl⟩) | (go_at_call 108; refine (sHolds_any _ _).mono ?_; rintro e w' ⟨rfl, rfl⟩))
                  go_ret
                  exact ⟨MID.out.below, false, rfl, shape_no HX.out (link_no_holds HK0.out HP.out HY.out HYH.out)⟩
                · go_wp2_with (first | (go_at_call 33; refine (sIn_any _ _ _ _).mono ?_; rintro e w' ⟨rfl, rfl⟩) | (go_at_call 108; refine (sHolds_any _ _).mono ?_; rintro e w' ⟨rfl, rfl⟩))
                  have HYH := Lib.hid hyh
                  clear hyh hin hkb
                  go_loop [8] (fun a => ∃ ai : Int, a = .int .i64 ai ∧ -1 ≤ ai ∧ ai < (k : Int) ∧ AtOK l k p ai) (fun a => (intOf a + 1).toNat)
                  case atStart => exact ⟨_, rfl, by omega, by omega, .inr ⟨k - 1, by omega, by omega, Iff.rfl⟩⟩
                  case round =>
                    obtain ⟨ai, rfl, hai0, hai1, hat⟩ := hrel
                    rcases hat with ⟨hai, hna⟩ | ⟨q, hai, hqk, hiff⟩
                    · subst hai
                      have b1 : ((-1 : Int) != (p : Int)) = true := by simp
                      go_wp2
                      go_ret
                      exact ⟨MID.out.below, false, rfl, shape_no HX.out (link_no_anc HK0.out HP.out hna)⟩
                    · subst hai
                      by_cases hqp : q = p
                      · have HA : Hid (Anc l (k - 1) p) := Lib.hid (hiff.2 (hqp ▸ Anc.refl _))
                        subst hqp
                        obtain ⟨hy0, hyl⟩ := REL.out.all q y hpk HY.out
                        have hd6 : dpt l q ≤ 6 := link_deep HY.out hyl
                        have hdk : dpt l k = h + dpt l q := by rw [dpt_up HX.out HP.out hpk, HH.out]
                        obtain ⟨dq, hdq⟩ : ∃ dq, dq = dpt l q := ⟨_, rfl⟩
                        have c1 := cell_of_row MID.out.b1 k (.int .i64 (h : Int)) (by rw [List.getElem?_set_self (by simp [dArr]; exact hlt)])
                        have c2 := cell_of_row MID.out.b1 q (.int .i64 (dq : Int)) (by rw [List.getElem?_set_ne (by omega), dArr_get l k q hpl, if_pos hpk, hdq])
                        have f1 := free_of_block MID.out.b1 k
                        rw [← hdq] at hd6 hdk
                        have hs : IntKind.i64.wrap ((h : Int) + (dq : Int)) = ((h + dq : Nat) : Int) := by rw [IntWalk.i64_in _ (by omega)]; omega
                        have HS1 := Lib.hid hs
                        have HDK := Lib.hid hdk
                        clear hyl hy0 hdq hs hdk
                        go_wp2
                        go_region
                        go_upto_region 22 with fail
                        obtain ⟨n0, n1, n2, n3, n4, hb2⟩ := mid_sum (v := .int .i64 ((h : Int) + (dq : Int))) (REL.out) MID.out hlt (by rw [HDK.out]; simp)
                        generalize (wc.setCell ⟨w.heap.size + 1, k, none⟩ (.int .i64 ((h : Int) + (dq : Int)))).drew = w2 at n0 n1 n2 n3 n4 hb2 ⊢
                        clear c1 c2 f1 y0 m3 m4 v0
                        obtain ⟨y', hy', y0, _, _, _, _⟩ := nd_at2 (HR.out.frame (Agree.of_below hb2)) q hpl
                        rw [HY.out] at hy'
                        injection hy' with hy'
                        subst hy'
                        have N0 := Lib.hid n0
                        have N1 := Lib.hid n1
                        have N2 := Lib.hid n2
                        have N3 := Lib.hid n3
                        have N4 := Lib.hid n4
                        have HB2 := Lib.hid hb2
                        obtain ⟨_, _, _, m3, m4⟩ := cells5 n4
                        rw [HP.out] at m4
                        have v0 := cell_of_block n0 0
                        simp at v0
                        have c1 := cell_of_row n1 k _ (dArr_get l (k + 1) k hlt)
                        rw [if_pos (Nat.lt_succ_self k), HDK.out] at c1
                        have s2 := cell_of_row n2 q _ (nArr_get l k q hpl)
                        have s3 := cell_of_row n3 q _ (sArr_get l k q hpl)
                        have f2 := free_of_block n2 q
                        have f3 := free_of_block n3 q
                        clear n0 n1 n2 n3 n4 hb2
                        by_cases h7 : y.kind = 7
                        · have hns := nArr_map l k q x y HX.out HP.out hpk HY.out h7
                          have hlm := lastM_map (i := k) HY.out h7
                          rw [h7] at y0
                          have HNS := Lib.hid hns
                          have HLM := Lib.hid hlm
                          have H7 := Lib.hid h7
                          clear hns hlm h7
                          cases hm : lastM l q k with
                          | none =>
                            rw [hm] at s2 s3
                            have HM := Lib.hid hm
                            clear hm
                            by_cases hdp : h + dq ≤ 6
                            all_goals
                              go_wp2
                              go_quiet (fail)
                              go_wp2
                            · refine ⟨⟨k + 1, by go_num, fin_map REL.out HX.out HOK.out (link_yes HK0.out HP.out hpk HY.out HYH.out HA.out ⟨fun _ m hm => (by rw [← HLM.out, HM.out] at hm; cases hm), fun h => absurd H7.out h⟩ (by rw [HDK.out]; exact hdp)) HNS.out N0.out N1.out N2.out N3.out HB2.out⟩, by simp [intOf]; omega⟩
                            · go_ret
                              exact ⟨fin_below (by show w.heap.size ≤ w.heap.size + 1 + 1; omega) (by show w.heap.size ≤ w.heap.size + 1 + 1 + 1; omega) HB2.out, false, rfl, shape_no HX.out (link_no_deep HK0.out (by rw [HDK.out]; exact hdp))⟩
                          | some m =>
                            rw [hm] at s2 s3
                            have HM := Lib.hid hm
                            clear hm
                            cases hlt2 : ltS m x.name
                            · have hlt3 : Op.bytesLess m.toList x.name.toList = false := hlt2
                              have HLT := Lib.hid hlt2
                              clear hlt2
                              go_wp2
                              go_quiet (fail)
                              go_wp2
                              go_ret
                              exact ⟨below_drawn HB2.out _, false, rfl, shape_no HX.out (link_no_name HK0.out HP.out HY.out (fun h => by have := h.1 H7.out m (by rw [← HLM.out, HM.out]); rw [HLT.out] at this; cases this))⟩
                            · have hlt3 : Op.bytesLess m.toList x.name.toList = true := hlt2
                              have HLT := Lib.hid hlt2
                              clear hlt2
                              by_cases hdp : h + dq ≤ 6
                              all_goals
                                go_wp2
                                go_quiet (fail)
                                go_wp2
                              · refine ⟨⟨k + 1, by go_num, fin_map REL.out HX.out HOK.out (link_yes HK0.out HP.out hpk HY.out HYH.out HA.out ⟨fun _ m' hm => (by rw [← HLM.out, HM.out] at hm; injection hm with hm; subst hm; exact HLT.out), fun h => absurd H7.out h⟩ (by rw [HDK.out]; exact hdp)) HNS.out N0.out N1.out N2.out N3.out HB2.out⟩, by simp [intOf]; omega⟩
                              · go_ret
                                exact ⟨fin_below (by show w.heap.size ≤ w.heap.size + 1 + 1; omega) (by show w.heap.size ≤ w.heap.size + 1 + 1 + 1; omega) HB2.out, false, rfl, shape_no HX.out (link_no_deep HK0.out (by rw [HDK.out]; exact hdp))⟩
                        · have h7b : ((y.kind : Int) == 7) = false := by simpa using h7
                          have hns := nArr_list l k q x y HX.out HP.out hpk HY.out h7
                          have HNS := Lib.hid hns
                          have H7 := Lib.hid h7
                          clear hns h7
                          by_cases hnm : x.name = emptyB
                          · have hnb : x.name.toList.isEmpty = true := by rw [hnm, ByteArray.toList_eq]; rfl
                            have HNM := Lib.hid hnm
                            clear hnm
                            by_cases hdp : h + dq ≤ 6
                            all_goals go_wp2
                            · refine ⟨⟨k + 1, by go_num, rel_next REL.out HX.out HOK.out (link_yes HK0.out HP.out hpk HY.out HYH.out HA.out ⟨fun h => absurd h H7.out, fun _ => HNM.out⟩ (by rw [HDK.out]; exact hdp)) HB2.out N0.out N1.out (by rw [HNS.out.1]; exact N2.out) (by rw [HNS.out.2]; exact N3.out)⟩, by simp [intOf]; omega⟩
                            · go_ret
                              exact ⟨HB2.out, false, rfl, shape_no HX.out (link_no_deep HK0.out (by rw [HDK.out]; exact hdp))⟩
                          · have hnb : x.name.toList.isEmpty = false := name_ne hnm
                            have HNM := Lib.hid hnm
                            clear hnm
                            go_wp2
                            go_ret
                            exact ⟨HB2.out, false, rfl, shape_no HX.out (link_no_name HK0.out HP.out HY.out (fun h => HNM.out (h.2 H7.out)))⟩
                      · have hq1 : ((q : Int) != (p : Int)) = true := by simp; omega
                        have hql : q < l.length := by omega
                        have hql' : (q : Int) < (l.length : Int) := by omega
                        obtain ⟨z, hz, z0, z1, z2, z3, z4⟩ := nd_at2 (HR.out.frame (Agree.of_below MID.out.below)) q hql
                        have hzl := (REL.out.all q z (by omega) hz).2
                        have hnx : (z.up = -1 ∧ ¬ Anc l (k - 1) p) ∨ ∃ q' : Nat, z.up = (q' : Int) ∧ q' < q ∧ (Anc l (k - 1) p ↔ Anc l q' p) := by
                          by_cases hq0 : q = 0
                          · rw [linkOK, if_pos hq0] at hzl
                            exact .inl ⟨hzl.1, fun h => Anc.zero hz hzl.1 hqp (hiff.1 h)⟩
                          · obtain ⟨q', r1, r2, _⟩ := link_up hzl (by omega)
                            exact .inr ⟨q', r1, r2, hiff.trans (Anc.up_iff hz r1 hqp)⟩
                        have HN := Lib.hid hnx
                        clear hz hzl hnx hiff z0 z1 z2 z3
                        go_wp2
                        refine ⟨⟨z.up, rfl, ?_, ?_, ?_⟩, ?_⟩
                        · rcases HN.out with ⟨h, _⟩ | ⟨q', h, h', _⟩ <;> omega
                        · rcases HN.out with ⟨h, _⟩ | ⟨q', h, h', _⟩ <;> omega
                        · rcases HN.out with ⟨h, h'⟩ | ⟨q', h, h', h''⟩
                          · exact .inl ⟨h, h'⟩
                          · exact .inr ⟨q', h, by omega, h''⟩
                        · simp only [intOf]; rcases HN.out with ⟨h, _⟩ | ⟨q', h, h', _⟩ <;> omega
              · have hin : (decide (0 ≤ x.up) && decide (x.up ≤ (k : Int) - 1)) = false := by rw [Bool.and_eq_false_iff]; simp; omega
                have HUP := Lib.hid hup
                have HK0 := Lib.hid hk0
                clear hup hk0
                go_wp2_with (go_at_call 33; refine (sIn_any _ _ _ _).mono ?_; rintro e w' ⟨rfl, rfl⟩)
                go_ret
                exact ⟨MID.out.below, false, rfl, shape_no HX.out (by rw [linkOK, if_neg HK0.out]; rintro ⟨p, y, h1, h2, _⟩; exact HUP.out (by omega))⟩
    · have hkl : k = l.length := by omega
      have HKL := Lib.hid hkl
      have v0 := cell_of_block REL.out.b0 0
      simp at v0
      clear hkl
      go_wp2_with (go_at_call 33; refine (sIn_any _ _ _ _).mono ?_; rintro e w' ⟨rfl, rfl⟩)
      go_ret
      refine ⟨REL.out.below, _, rfl, ?_⟩
      constructor
      · intro h
        simp at h
        exact ⟨fun i x hx => REL.out.all i x (by have := (List.getElem?_eq_some_iff.1 hx).1; rw [HKL.out]; exact this) hx, by omega, by omega⟩
      · rintro ⟨_, h1, h2⟩
        simp
        omega
end Go.Proofs.YtemcijhpmpdebaaGreatDoor
