/- A base of the program's own in memory, and what becomes of it. -/
import Derived.Test.YtemcijhpmpdebaaGreatDoorFo1
import Derived.Test.YtemcijhpmpdebaaGreatDoorMark4
import Derived.Test.YtemcijhpmpdebaaGreatDoorOps
import Derived.Test.YtemcijhpmpdebaaGreatDoorIns2
namespace Go.Proofs.YtemcijhpmpdebaaGreatDoor
open Go.RowKit
theorem flat_take {α : Type} (f : α → List Value) (sz : Nat) (hf : ∀ x, (f x).length = sz) (l : List α) (i : Nat) (hi : i ≤ l.length) : (l.flatMap f).take (i * sz) = (l.take i).flatMap f := by
  have e : l.flatMap f = (l.take i).flatMap f ++ (l.drop i).flatMap f := by rw [← List.flatMap_append, List.take_append_drop]
  rw [e]
  exact List.take_left' (by rw [flat_len f sz hf, List.length_take, Nat.min_eq_left hi])
theorem flat_drop {α : Type} (f : α → List Value) (sz : Nat) (hf : ∀ x, (f x).length = sz) (l : List α) (i : Nat) (hi : i ≤ l.length) : (l.flatMap f).drop (i * sz) = (l.drop i).flatMap f := by
  have e : l.flatMap f = (l.take i).flatMap f ++ (l.drop i).flatMap f := by rw [← List.flatMap_append, List.take_append_drop]
  rw [e]
  exact List.drop_left' (by rw [flat_len f sz hf, List.length_take, Nat.min_eq_left hi])
theorem flat_ins {α : Type} (f : α → List Value) (sz : Nat) (hf : ∀ x, (f x).length = sz) (l : List α) (i : Nat) (hi : i ≤ l.length) (x : α) : insN (i * sz) (f x) (l.flatMap f) = (ins i x l).flatMap f := by
  unfold insN ins
  rw [flat_take f sz hf l i hi, flat_drop f sz hf l i hi, List.flatMap_append, List.flatMap_cons, List.append_assoc]
theorem set_mid' {α : Type} {l : List α} {i : Nat} {x : α} (hi : i < l.length) : l.set i x = l.take i ++ x :: l.drop (i + 1) := by
  rw [List.set_eq_take_append_cons_drop, if_pos hi]
theorem own_set {w : World} {base g n c j : Nat} {e : TypeId} {size : Nat} {xs : List Value} (h : w.ownsRow base e size (.slice (some ⟨g, 0, none⟩) n c) n xs) (u : Value) : (w.setCell ⟨g, j, none⟩ u).ownsRow base e size (.slice (some ⟨g, 0, none⟩) n c) n (xs.set j u) := by
  refine ⟨by rw [List.length_set]; exact h.1, ?_⟩
  rcases h.2 with ⟨e0, _⟩ | ⟨g', cap, cur, e0, hb, hk, hnc, hcm, hcs, htk⟩
  · cases e0
  · injection e0 with e1 _ e3
    injection e1 with e1
    injection e1 with e1
    subst e1 e3
    exact .inr ⟨g, c, _, rfl, hb, block_setCell hk j u, hnc, hcm, by simpa using hcs, by rw [Array.toList_setIfInBounds, List.take_set, htk]⟩
/-- The nodes of a document lie in memory of the base's own. -/
def OwnR (base : Nat) (w : World) (r : StR) : Prop := r.d.doc.length ≤ r.cap ∧ w.ownsRow base 100 5 (.slice r.adr r.d.doc.length r.cap) r.d.doc.length (ndCells r.d.doc)
/-- No two documents have one row. -/
def Apart (rs : List StR) : Prop := ∀ (i j : Nat) (r s : StR) (a b : Addr), i ≠ j → rs[i]? = some r → rs[j]? = some s → 0 < r.d.doc.length → 0 < s.d.doc.length → r.adr = some a → s.adr = some b → a.block ≠ b.block
structure BMem (base g : Nat) (b : BsV) (rs : List StR) (A1 : Option Addr) (c1 : Nat) (A2 : Option Addr) (c2 : Nat) (w : World) : Prop where
  hg : base ≤ g
  blk : w.heap[g]? = some (.cells #[.int .i64 b.applied, .slice A1 rs.length c1, .slice A2 b.sess.length c2] 27 (0, 0))
  map : rs.map StR.d = b.docs
  own1 : w.ownsRow base 94 2 (.slice A1 rs.length c1) rs.length (stCells rs)
  own2 : w.ownsRow base 97 3 (.slice A2 b.sess.length c2) b.sess.length (ssCells b.sess)
  docs : ∀ r ∈ rs, OwnR base w r
  apart : Apart rs
section
variable {base g c1 c2 c1' c2' : Nat} {b : BsV} {rs rs' : List StR} {A1 A2 A1' A2' : Option Addr} {w w1 : World}
theorem BMem.len (h : BMem base g b rs A1 c1 A2 c2 w) : b.docs.length = rs.length := by rw [← h.map, List.length_map]
theorem BMem.below (h : BMem base g b rs A1 c1 A2 c2 w) (hb : Below w.heap.size w w1) : BMem base g b rs A1 c1 A2 c2 w1 :=
  ⟨h.hg, block_below h.blk hb, h.map, own_below h.own1 hb, own_below h.own2 hb, fun r hr => ⟨(h.docs r hr).1, own_below (h.docs r hr).2 hb⟩, h.apart⟩
theorem BMem.at (h : BMem base g b rs A1 c1 A2 c2 w) : StAt (fun k => base ≤ k) w A1 b.docs := ⟨rs, h.map, Rds.of_own h.own1, fun r hr => ⟨(h.docs r hr).1, Rds.of_own (h.docs r hr).2⟩⟩
theorem BMem.ss (h : BMem base g b rs A1 c1 A2 c2 w) : Rds (fun k => base ≤ k) w A2 (ssCells b.sess) := Rds.of_own h.own2
/-- The count is written. -/
theorem BMem.app (h : BMem base g b rs A1 c1 A2 c2 w) (v : Int) : BMem base g ⟨v, b.docs, b.sess⟩ rs A1 c1 A2 c2 (w.setCell ⟨g, 0, none⟩ (.int .i64 v)) := by
  have ha : Agree (fun k => k ≠ g) w (w.setCell ⟨g, 0, none⟩ (.int .i64 v)) := Agree.of_setCell _ _ _ (fun _ h => h)
  refine ⟨h.hg, ?_, h.map, own_agree h.own1 ha (fun k hk e => own_not_at h.own1 h.blk (by decide) k hk e.symm), own_agree h.own2 ha (fun k hk e => own_not_at h.own2 h.blk (by decide) k hk e.symm), fun r hr => ⟨(h.docs r hr).1, own_agree (h.docs r hr).2 ha (fun k hk e => own_not_at (h.docs r hr).2 h.blk (by decide) k hk e.symm)⟩, h.apart⟩
  exact block_setCell h.blk 0 _
/-- What else lies in the base's memory, where the row of its documents alone was written. -/
theorem BMem.docs_at (h : BMem base g b rs A1 c1 A2 c2 w) (hs : w.heap.size ≤ w1.heap.size) (hw : ∀ k, k < w.heap.size → (Value.slice A1 rs.length c1).ownBlock ≠ some k → w1.heap[k]? = w.heap[k]?) :
    w1.heap[g]? = some (.cells #[.int .i64 b.applied, .slice A1 rs.length c1, .slice A2 b.sess.length c2] 27 (0, 0)) ∧ w1.ownsRow base 97 3 (.slice A2 b.sess.length c2) b.sess.length (ssCells b.sess) ∧ ∀ r ∈ rs, OwnR base w1 r := by
  have ha : Agree (fun k => (Value.slice A1 rs.length c1).ownBlock ≠ some k) w w1 := ⟨hs, fun k hk hl => hw k hl hk⟩
  refine ⟨block_agree h.blk ha (fun e => own_not_at h.own1 h.blk (by decide) g e rfl), own_agree h.own2 ha (fun k hk => own_ne h.own2 h.own1 (by decide) k hk), fun r hr => ⟨(h.docs r hr).1, own_agree (h.docs r hr).2 ha (fun k hk => own_ne (h.docs r hr).2 h.own1 (by decide) k hk)⟩⟩
/-- The documents' row is another, and laid in the base. -/
theorem BMem.docs_to (h : BMem base g b rs A1 c1 A2 c2 w) (hs : w.heap.size ≤ w1.heap.size) (hw : ∀ k, k < w.heap.size → (Value.slice A1 rs.length c1).ownBlock ≠ some k → w1.heap[k]? = w.heap[k]?)
    (ho : w1.ownsRow base 94 2 (.slice A1' rs'.length c1') rs'.length (stCells rs')) (hr : ∀ r ∈ rs', r ∈ rs ∨ OwnR base w1 r) (hap : Apart rs') :
    BMem base g ⟨b.applied, rs'.map StR.d, b.sess⟩ rs' A1' c1' A2 c2 (w1.setCell ⟨g, 1, none⟩ (.slice A1' rs'.length c1')) := by
  obtain ⟨k1, k2, k3⟩ := h.docs_at hs hw
  have ha : Agree (fun k => k ≠ g) w1 (w1.setCell ⟨g, 1, none⟩ (.slice A1' rs'.length c1')) := Agree.of_setCell _ _ _ (fun _ h => h)
  refine ⟨h.hg, block_setCell k1 1 _, rfl, own_agree ho ha (fun k hk e => own_not_at ho k1 (by decide) k hk e.symm), own_agree k2 ha (fun k hk e => own_not_at k2 k1 (by decide) k hk e.symm), fun r hm => ?_, hap⟩
  have h4 : OwnR base w1 r := (hr r hm).elim (k3 r) id
  exact ⟨h4.1, own_agree h4.2 ha (fun k hk e => own_not_at h4.2 k1 (by decide) k hk e.symm)⟩
/-- The documents' row is written in place. -/
theorem BMem.docs_in (h : BMem base g b rs A1 c1 A2 c2 w) (hs : w.heap.size ≤ w1.heap.size) (hw : ∀ k, k < w.heap.size → (Value.slice A1 rs.length c1).ownBlock ≠ some k → w1.heap[k]? = w.heap[k]?) (hl : rs'.length = rs.length)
    (ho : w1.ownsRow base 94 2 (.slice A1 rs'.length c1) rs'.length (stCells rs')) (hr : ∀ r ∈ rs', r ∈ rs ∨ OwnR base w1 r) (hap : Apart rs') : BMem base g ⟨b.applied, rs'.map StR.d, b.sess⟩ rs' A1 c1 A2 c2 w1 := by
  obtain ⟨k1, k2, k3⟩ := h.docs_at hs hw
  exact ⟨h.hg, by rw [hl]; exact k1, rfl, ho, k2, fun r hm => (hr r hm).elim (k3 r) id, hap⟩
theorem BMem.sess_at (h : BMem base g b rs A1 c1 A2 c2 w) (hs : w.heap.size ≤ w1.heap.size) (hw : ∀ k, k < w.heap.size → (Value.slice A2 b.sess.length c2).ownBlock ≠ some k → w1.heap[k]? = w.heap[k]?) :
    w1.heap[g]? = some (.cells #[.int .i64 b.applied, .slice A1 rs.length c1, .slice A2 b.sess.length c2] 27 (0, 0)) ∧ w1.ownsRow base 94 2 (.slice A1 rs.length c1) rs.length (stCells rs) ∧ ∀ r ∈ rs, OwnR base w1 r := by
  have ha : Agree (fun k => (Value.slice A2 b.sess.length c2).ownBlock ≠ some k) w w1 := ⟨hs, fun k hk hl => hw k hl hk⟩
  refine ⟨block_agree h.blk ha (fun e => own_not_at h.own2 h.blk (by decide) g e rfl), own_agree h.own1 ha (fun k hk => own_ne h.own1 h.own2 (by decide) k hk), fun r hr => ⟨(h.docs r hr).1, own_agree (h.docs r hr).2 ha (fun k hk => own_ne (h.docs r hr).2 h.own2 (by decide) k hk)⟩⟩
theorem BMem.sess_to {l : List SsV} (h : BMem base g b rs A1 c1 A2 c2 w) (hs : w.heap.size ≤ w1.heap.size) (hw : ∀ k, k < w.heap.size → (Value.slice A2 b.sess.length c2).ownBlock ≠ some k → w1.heap[k]? = w.heap[k]?)
    (ho : w1.ownsRow base 97 3 (.slice A2' l.length c2') l.length (ssCells l)) :
    BMem base g ⟨b.applied, b.docs, l⟩ rs A1 c1 A2' c2' (w1.setCell ⟨g, 2, none⟩ (.slice A2' l.length c2')) := by
  obtain ⟨k1, k2, k3⟩ := h.sess_at hs hw
  have ha : Agree (fun k => k ≠ g) w1 (w1.setCell ⟨g, 2, none⟩ (.slice A2' l.length c2')) := Agree.of_setCell _ _ _ (fun _ h => h)
  exact ⟨h.hg, block_setCell k1 2 _, h.map, own_agree k2 ha (fun k hk e => own_not_at k2 k1 (by decide) k hk e.symm), own_agree ho ha (fun k hk e => own_not_at ho k1 (by decide) k hk e.symm), fun r hm => ⟨(k3 r hm).1, own_agree (k3 r hm).2 ha (fun k hk e => own_not_at (k3 r hm).2 k1 (by decide) k hk e.symm)⟩, h.apart⟩
theorem BMem.sess_in {l : List SsV} (h : BMem base g b rs A1 c1 A2 c2 w) (hs : w.heap.size ≤ w1.heap.size) (hw : ∀ k, k < w.heap.size → (Value.slice A2 b.sess.length c2).ownBlock ≠ some k → w1.heap[k]? = w.heap[k]?) (hl : l.length = b.sess.length)
    (ho : w1.ownsRow base 97 3 (.slice A2 l.length c2) l.length (ssCells l)) : BMem base g ⟨b.applied, b.docs, l⟩ rs A1 c1 A2 c2 w1 := by
  obtain ⟨k1, k2, k3⟩ := h.sess_at hs hw
  exact ⟨h.hg, by show _ = some (Obj.cells #[_, _, .slice A2 l.length c2] _ _); rw [hl]; exact k1, h.map, k2, ho, k3, h.apart⟩
/-- A base of its own as the laws write into it. -/
theorem BMem.marks (h : BMem base g b rs A1 c1 A2 c2 w) : StF (fun k => base ≤ k) w A1 rs ∧ Own (fun k => base ≤ k) w 97 A2 (ssCells b.sess) := by
  refine ⟨⟨fun h0 => ?_, fun r hr => Own.of_own (h.docs r hr).2, h.apart⟩, Own.of_own h.own2⟩
  rcases h.own1.2 with ⟨_, e0⟩ | ⟨g', cap, cur, e, hb, hk, hnc, hcm, hcs, htk⟩
  · omega
  · injection e with e1 _ e3
    subst e1 e3
    refine ⟨g', 0, cur, rfl, hb, hk, by omega, fun j r hj => ?_⟩
    have hjl := (List.getElem?_eq_some_iff.1 hj).1
    have hget : ∀ m v, m < 2 → r.cells[m]? = some v → cur[0 + j * 2 + m]? = some v := fun m v hm hv => by
      have h1 : (stCells rs)[j * 2 + m]? = some v := by rw [stCells, flat_get StR.cells 2 (fun _ => rfl) rs j r hj m hm]; exact hv
      rw [← htk, List.getElem?_take] at h1
      split at h1
      · rw [Nat.zero_add]; simpa using h1
      · cases h1
    exact ⟨hget 0 _ (by omega) rfl, hget 1 _ (by omega) rfl⟩
/-- A document that is new among those that lie apart. -/
theorem Apart.fresh {B : Nat} (h : Apart rs) (hold : ∀ r ∈ rs, ∀ a, 0 < r.d.doc.length → r.adr = some a → a.block < B) {r : StR} (hr : ∀ a, r.adr = some a → B ≤ a.block) (i : Nat) : Apart (ins i r rs) ∧ Apart (rs.set i r) := by
  have key : ∀ (L : List StR) (p : Nat), (∀ (k : Nat) (s : StR), k ≠ p → L[k]? = some s → ∃ m : Nat, rs[m]? = some s ∧ ∀ (k' : Nat) (s' : StR), k' ≠ p → k' ≠ k → L[k']? = some s' → ∃ m' : Nat, m' ≠ m ∧ rs[m']? = some s') → (∀ s, L[p]? = some s → s = r) → Apart L := by
    intro L p hL hp i j x y a b hij hi hj h1 h2 h3 h4
    by_cases e : i = p
    · subst e
      obtain rfl := hp x hi
      obtain ⟨m, hm, _⟩ := hL j y (fun e => hij e.symm) hj
      have q1 := hr a h3
      have q2 := hold y (List.mem_of_getElem? hm) b h2 h4
      omega
    · obtain ⟨m, hm, hm2⟩ := hL i x e hi
      by_cases e' : j = p
      · subst e'
        obtain rfl := hp y hj
        have q1 := hr b h4
        have q2 := hold x (List.mem_of_getElem? hm) a h1 h3
        omega
      · obtain ⟨m', hne, hm'⟩ := hm2 j y e' (fun e => hij e.symm) hj
        exact h m m' x y a b (fun e => hne e.symm) hm hm' h1 h2 h3 h4
  constructor
  · by_cases hil : i ≤ rs.length
    · have hlt : (rs.take i).length = i := by rw [List.length_take]; omega
      refine key _ i (fun k s hk hs => ?_) (fun s hs => ?_)
      · have conv : ∀ (k : Nat) (s : StR), k ≠ i → (ins i r rs)[k]? = some s → rs[if k < i then k else k - 1]? = some s := fun k s hk hs => by
          unfold ins at hs
          split
          · next hlt' =>
            rw [List.getElem?_append_left (by omega), List.getElem?_take, if_pos hlt'] at hs
            exact hs
          · next hlt' =>
            rw [List.getElem?_append_right (by omega), hlt] at hs
            obtain ⟨m, hm⟩ : ∃ m, k - i = m + 1 := ⟨k - i - 1, by omega⟩
            rw [hm, List.getElem?_cons_succ, List.getElem?_drop] at hs
            rw [show k - 1 = i + m by omega]
            exact hs
        refine ⟨_, conv k s hk hs, fun k' s' hk' hkk hs' => ⟨_, ?_, conv k' s' hk' hs'⟩⟩
        split <;> split <;> omega
      · unfold ins at hs
        rw [List.getElem?_append_right (by omega), hlt, Nat.sub_self] at hs
        simpa using hs.symm
    · have e : ins i r rs = rs ++ [r] := by unfold ins; rw [List.take_of_length_le (by omega), List.drop_eq_nil_of_le (by omega)]
      rw [e]
      refine key _ rs.length (fun k s hk hs => ?_) (fun s hs => ?_)
      · have conv : ∀ (k : Nat) (s : StR), k ≠ rs.length → (rs ++ [r])[k]? = some s → rs[k]? = some s := fun k s hk hs => by
          have hl := (List.getElem?_eq_some_iff.1 hs).1
          rw [List.length_append, List.length_singleton] at hl
          rwa [List.getElem?_append_left (by omega)] at hs
        exact ⟨k, conv k s hk hs, fun k' s' hk' hkk hs' => ⟨k', hkk, conv k' s' hk' hs'⟩⟩
      · rw [List.getElem?_append_right (Nat.le_refl _), Nat.sub_self] at hs
        simpa using hs.symm
  · refine key _ i (fun k s hk hs => ?_) (fun s hs => ?_)
    · rw [List.getElem?_set_ne (Ne.symm hk)] at hs
      exact ⟨k, hs, fun k' s' hk' hkk hs' => ⟨k', hkk, by rwa [List.getElem?_set_ne (Ne.symm hk')] at hs'⟩⟩
    · rw [List.getElem?_set] at hs
      simp at hs
      exact hs.2.symm
theorem Apart.del (h : Apart rs) (i : Nat) : Apart (del i rs) := by
  intro k j x y a b hkj hk hj h1 h2 h3 h4
  have conv : ∀ (k : Nat) (s : StR), (Go.Proofs.YtemcijhpmpdebaaGreatDoor.del i rs)[k]? = some s → rs[if k < i then k else k + 1]? = some s := fun k s hs => by
    unfold Go.Proofs.YtemcijhpmpdebaaGreatDoor.del at hs
    by_cases hil : i ≤ rs.length
    · have hlt : (rs.take i).length = i := by rw [List.length_take]; omega
      split
      · next hlt' =>
        rw [List.getElem?_append_left (by omega), List.getElem?_take, if_pos hlt'] at hs
        exact hs
      · next hlt' =>
        rw [List.getElem?_append_right (by omega), hlt, List.getElem?_drop] at hs
        rw [show k + 1 = i + 1 + (k - i) by omega]
        exact hs
    · rw [List.take_of_length_le (by omega), List.drop_eq_nil_of_le (by omega), List.append_nil] at hs
      have hl := (List.getElem?_eq_some_iff.1 hs).1
      rw [if_pos (by omega)]
      exact hs
  refine h _ _ x y a b ?_ (conv k x hk) (conv j y hj) h1 h2 h3 h4
  split <;> split <;> omega
end
end Go.Proofs.YtemcijhpmpdebaaGreatDoor
