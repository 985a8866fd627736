/- l1Shape, plain words: the row of a good tree is a right shape. -/
import Derived.Test.YtcbcndoddikpjaaGreatDoorShape2
import Derived.Test.YtcbcndoddikpjaaGreatDoorValOf
namespace Go.Proofs.YtcbcndoddikpjaaGreatDoor
open Go.RowKit
theorem Anc.of_sub {l : List Nd} : ∀ (t : Tree) (a : Nat), Sub l a t → ∀ i, a ≤ i → i < a + t.count → Anc l i a := by
  intro t
  induction t using Tree.ind with
  | _ t ih =>
    intro a hsub i h1 h2
    by_cases hi : i = a
    · rw [hi]; exact .refl a
    · have key : ∀ (ks : List Tree) (p : Nat) (ns : List ByteArray), (∀ k ∈ ks, k ∈ t.kids) → SubL l a p (a + t.count) (t.kind == 7) ns ks → p ≤ i → Anc l i a := by
        intro ks
        induction ks with
        | nil => intro p ns _ hs hp; have := hs.eq; rw [Tree.countL] at this; omega
        | cons k ks ihk =>
          intro p ns hm hs hp
          obtain ⟨g1, g2, x, hx, hup, _⟩ := hs.head
          by_cases hpk : i < p + k.count
          · exact (ih k (hm k (List.mem_cons_self ..)) p g1 i hp hpk).trans (.step hx hup (.refl a))
          · exact ihk _ _ (fun k' hk' => hm k' (List.mem_cons_of_mem _ hk')) g2 (by omega)
      exact key t.kids _ _ (fun _ h => h) hsub.kids (by omega)
theorem dpt_sub {l : List Nd} : ∀ (t : Tree) (a : Nat), Sub l a t → ∀ i, a ≤ i → i < a + t.count → dpt l i + (if holdsB t.kind then 1 else 0) ≤ dpt l a + t.deep := by
  intro t
  induction t using Tree.ind with
  | _ t ih =>
    intro a hsub i h1 h2
    rw [t.deep_eq]
    by_cases hi : i = a
    · rw [hi]; omega
    · have key : ∀ (ks : List Tree) (p : Nat) (ns : List ByteArray), (∀ k ∈ ks, k ∈ t.kids) → SubL l a p (a + t.count) (t.kind == 7) ns ks → p ≤ i → dpt l i ≤ dpt l a + Tree.deepL ks := by
        intro ks
        induction ks with
        | nil => intro p ns _ hs hp; have := hs.eq; rw [Tree.countL] at this; omega
        | cons k ks ihk =>
          intro p ns hm hs hp
          obtain ⟨g1, g2, x, hx, hup, _⟩ := hs.head
          have hlow := hs.low
          rw [Tree.deepL]
          by_cases hpk : i < p + k.count
          · have r := ih k (hm k (List.mem_cons_self ..)) p g1 i hp hpk
            obtain ⟨x', hx', hk', _⟩ := g1.node
            rw [hx] at hx'
            injection hx' with hx'
            subst hx'
            have hdp := dpt_up hx hup hlow
            rw [hk'] at hdp
            omega
          · have := ihk _ _ (fun k' hk' => hm k' (List.mem_cons_of_mem _ hk')) g2 (by omega); omega
      have := key t.kids _ _ (fun _ h => h) hsub.kids (by omega)
      omega
theorem node0_of {x : Nd} {t : Tree} (h : t.ok = true) (hk : x.kind = t.kind) (hn : x.num = t.num) (ht : x.text = t.text) (hs : strOK x.name = true) : nodeOK0 x = true := by
  obtain ⟨k, n, s, ns, ks⟩ := t
  simp only [Tree.ok, Bool.and_eq_true] at h
  obtain ⟨⟨⟨⟨⟨⟨⟨h1, h2⟩, h3⟩, h4⟩, h5⟩, _⟩, _⟩, _⟩ := h
  simp only [Tree.kind_mk] at hk
  simp only [Tree.num_mk] at hn
  simp only [Tree.text_mk] at ht
  simp only [nodeOK0, Bool.and_eq_true, hk, hn, ht]
  exact ⟨⟨⟨⟨⟨h1, h2⟩, by simpa [numOK] using h4⟩, h3⟩, h5⟩, hs⟩
theorem ok_names {t : Tree} (h : t.ok = true) : (t.kind = 7 → t.names.length = t.kids.length ∧ t.names.all strOK = true ∧ sortedB t.names = true) ∧ (t.kids ≠ [] → holdsB t.kind = true) := by
  obtain ⟨k, n, s, ns, ks⟩ := t
  simp only [Tree.ok, Bool.and_eq_true] at h
  obtain ⟨⟨⟨_, h1⟩, h2⟩, _⟩ := h
  refine ⟨fun hk => ?_, fun hk => ?_⟩
  · simp only [Tree.kind_mk] at hk
    rw [if_pos hk] at h1
    simp only [Bool.and_eq_true, decide_eq_true_eq] at h1
    exact ⟨h1.1.1, h1.1.2, h1.2⟩
  · simp only [Tree.kids_mk] at hk
    simpa [hk] using h2
theorem Sub.ups {l : List Nd} {a : Nat} {t : Tree} (h : Sub l a t) (j : Nat) (x : Nd) (h1 : a < j) (h2 : j < a + t.count) (hx : l[j]? = some x) : (a : Int) ≤ x.up := by
  obtain ⟨nm, up, hrow⟩ := h.row
  have := seg_at l a (a + t.count) (j - a) (by omega)
  rw [hrow, show a + (j - a) = j by omega, hx] at this
  exact (Tree.flat_ups t nm up a (j - a) x this (by omega)).1
theorem strOK_empty : strOK emptyB = true := by decide
theorem shape_sub {l : List Nd} : ∀ (t : Tree) (a : Nat), Sub l a t → t.ok = true → (∀ i, a < i → i < a + t.count → dpt l i ≤ 6) → ∀ i x, a < i → i < a + t.count → l[i]? = some x → nodeOK0 x = true ∧ linkOK l i x := by
  intro t
  induction t using Tree.ind with
  | _ t ih =>
    intro a hsub hok hd i x h1 h2 hx
    obtain ⟨y, hy, yk, _, _⟩ := hsub.node
    obtain ⟨o1, o2⟩ := ok_names hok
    obtain ⟨_, _, _, _, _, o7⟩ := t.ok_eq hok
    have key : ∀ (ks : List Tree) (p : Nat) (ns0 ns : List ByteArray), (∀ k ∈ ks, k ∈ t.kids) → SubL l a p (a + t.count) (t.kind == 7) ns ks →
        (t.kind = 7 → ns.length = ks.length ∧ ns.all strOK = true ∧ sortedB (ns0 ++ ns) = true ∧ lastN l a p = ns0.getLast?) → p ≤ i → nodeOK0 x = true ∧ linkOK l i x := by
      intro ks
      induction ks with
      | nil => intro p ns0 ns _ hs _ hp; have := hs.eq; rw [Tree.countL] at this; omega
      | cons k ks ihk =>
        intro p ns0 ns hm hs hn hp
        obtain ⟨g1, g2, z, hz, hup, hnm⟩ := hs.head
        have hlow := hs.low
        have hkm := hm k (List.mem_cons_self ..)
        have hfit := g2.eq
        have hkc := k.count_eq
        have hho : holdsB t.kind = true := o2 (fun h => by rw [h] at hkm; simp at hkm)
        by_cases hpk : i < p + k.count
        · by_cases hip : i = p
          · subst hip
            rw [hz] at hx
            injection hx with hx
            subst hx
            obtain ⟨z', hz', q1, q2, q3⟩ := g1.node
            rw [hz] at hz'
            injection hz' with hz'
            subst hz'
            have hsn : strOK z.name = true := by
              rw [hnm]
              by_cases h7 : t.kind = 7
              · obtain ⟨n1, n2, _⟩ := hn h7
                rw [if_pos (by simpa using h7)]
                cases ns with
                | nil => simp at n1
                | cons m ns => simp at n2; exact n2.1
              · rw [if_neg (by simpa using h7)]
                exact strOK_empty
            refine ⟨node0_of (o7 k hkm) q1 q2 q3 hsn, ?_⟩
            rw [linkOK, if_neg (by omega)]
            refine ⟨a, y, hup, hlow, hy, by rw [yk]; exact hho, Anc.of_sub t a hsub (i - 1) (by omega) (by omega), ?_, ?_, hd i h1 h2⟩
            · intro h7 m hm'
              rw [yk] at h7
              obtain ⟨n1, n2, n3, n4⟩ := hn h7
              rw [n4] at hm'
              rw [hnm, if_pos (by simpa using h7)]
              cases ns with
              | nil => simp at n1
              | cons m' ns =>
                rw [show ns0 ++ m' :: ns = (ns0 ++ [m']) ++ ns by simp] at n3
                have := sortedB_pre _ _ n3
                rw [sortedB_snoc, hm'] at this
                simp only [Bool.and_eq_true] at this
                exact this.2
            · intro h7
              rw [yk] at h7
              rw [hnm, if_neg (by simpa using h7)]
          · exact ih k hkm p g1 (o7 k hkm) (fun j j1 j2 => hd j (by omega) (by omega)) i x (by omega) hpk hx
        · refine ihk (p + k.count) (ns0 ++ [ns.headD emptyB]) ns.tail (fun k' hk' => hm k' (List.mem_cons_of_mem _ hk')) g2 (fun h7 => ?_) (by omega)
          obtain ⟨n1, n2, n3, n4⟩ := hn h7
          cases ns with
          | nil => simp at n1
          | cons m ns =>
            simp only [List.all_cons, Bool.and_eq_true] at n2
            refine ⟨by simpa using n1, n2.2, by simpa using n3, ?_⟩
            have hskip : kidsTo l a (p + k.count) = kidsTo l a p ++ [p] := by
              rw [kidsTo_skip l a (p + 1) (p + k.count) (by omega) (fun j z h1 h2 hz => by have := g1.ups j z h1 h2 hz; omega), kidsTo_succ]
              have : isKid l a p = true := by simp [isKid, hz, hup]; omega
              rw [this]; simp
            rw [lastN, hskip]
            simp only [List.getLast?_append, List.getLast?_singleton, Option.some_or, hz, Option.map_some, List.headD_cons]
            rw [hnm, if_pos (by simpa using h7)]
            rfl
    refine key t.kids (a + 1) [] t.names (fun _ h => h) hsub.kids (fun h7 => ?_) (by omega)
    obtain ⟨n1, n2, n3⟩ := o1 h7
    exact ⟨n1, n2, n3, by rw [lastN, kidsTo_low l a (a + 1) (Nat.le_refl _)]; rfl⟩
theorem good_shape {l : List Nd} {t : Tree} (h1 : l = t.flat emptyB (-1) 0) (h2 : t.ok = true) (h3 : t.count ≤ 80) (h4 : t.deep ≤ 6) : Shape l := by
  have hlen : l.length = t.count := by rw [h1, Tree.flat_length]
  have hsub := Sub.of_flat h1
  have hc := t.count_eq
  obtain ⟨x, hx, k1, k2, k3⟩ := hsub.node
  have hx0 : x.up = -1 ∧ x.name = emptyB := by
    rw [h1, t.flat_eq] at hx
    simp at hx
    rw [← hx]
    exact ⟨rfl, rfl⟩
  have h0 := dpt_top hx hx0.1
  rw [k1] at h0
  refine ⟨fun i y hy => ?_, by omega, by omega⟩
  have hi := (List.getElem?_eq_some_iff.1 hy).1
  by_cases hi0 : i = 0
  · subst hi0
    rw [hx] at hy
    injection hy with hy
    subst hy
    exact ⟨node0_of h2 k1 k2 k3 (by rw [hx0.2]; exact strOK_empty), by rw [linkOK, if_pos rfl]; exact hx0⟩
  · exact shape_sub t 0 hsub h2 (fun j j1 j2 => by have := dpt_sub t 0 hsub j (by omega) (by omega); omega) i y (by omega) (by omega) hy
theorem shape_iff {l : List Nd} : Shape l ↔ ∃ t : Tree, l = t.flat emptyB (-1) 0 ∧ t.ok = true ∧ t.count ≤ 80 ∧ t.deep ≤ 6 :=
  ⟨shape_good, fun ⟨_, h1, h2, h3, h4⟩ => good_shape h1 h2 h3 h4⟩
theorem isGood_iff {l : List Nd} {t : Tree} : IsGood l t ↔ (l = t.flat emptyB (-1) 0 ∧ t.ok = true ∧ t.count ≤ 80 ∧ t.deep ≤ 6) ∧ t.wr.length ≤ 300 := by
  constructor
  · rintro ⟨h1, h2, h3⟩
    simp only [Tree.good, Bool.and_eq_true, decide_eq_true_eq] at h3
    exact ⟨⟨h1, h2, h3.1.1.2, h3.1.2⟩, h3.2⟩
  · rintro ⟨⟨h1, h2, h3, h4⟩, h5⟩
    exact ⟨h1, h2, by simp [Tree.good, t.ok_bounded h2, h3, h4, h5]⟩
end Go.Proofs.YtcbcndoddikpjaaGreatDoor
