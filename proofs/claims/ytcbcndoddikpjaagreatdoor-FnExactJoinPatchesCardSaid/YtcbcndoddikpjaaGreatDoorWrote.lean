/- What is written into the blocks of F whose types are of K, and into no other block: plain words. -/
import Derived.Test.YtcbcndoddikpjaaGreatDoorBase
namespace Go.Proofs.YtcbcndoddikpjaaGreatDoor
open Go.RowKit
structure Wrote (K : TypeId → Prop) (F : Nat → Prop) (w w' : World) : Prop where
  size : w.heap.size ≤ w'.heap.size
  blk : ∀ b, b < w.heap.size → (F b ∧ ∃ cs cs' T, K T ∧ w.heap[b]? = some (.cells cs T (0, 0)) ∧ w'.heap[b]? = some (.cells cs' T (0, 0)) ∧ cs'.size = cs.size) ∨ w'.heap[b]? = w.heap[b]?
  bel : ∀ B, B ≤ w.heap.size → (∀ b, F b → B ≤ b) → Below B w w'
variable {K : TypeId → Prop} {F : Nat → Prop} {w w1 w2 : World}
theorem Wrote.of_below (h : Below w.heap.size w w1) : Wrote K F w w1 := ⟨h.size, fun b hb => .inr (h.block b hb), fun _ hB _ => h.mono hB⟩
theorem Wrote.refl (K : TypeId → Prop) (F : Nat → Prop) (w : World) : Wrote K F w w := .of_below (Below.refl _ _)
theorem Wrote.trans (h : Wrote K F w w1) (h' : Wrote K F w1 w2) : Wrote K F w w2 := by
  refine ⟨Nat.le_trans h.size h'.size, fun b hb => ?_, fun B hB hF => (h.bel B hB hF).trans (h'.bel B (Nat.le_trans hB h.size) hF)⟩
  rcases h.blk b hb with ⟨hF, cs, cs1, T, hT, e, e1, s1⟩ | e1
  · rcases h'.blk b (Nat.lt_of_lt_of_le hb h.size) with ⟨_, d, d1, T', _, e2, e3, s2⟩ | e2
    · rw [e1] at e2
      injection e2 with e2
      injection e2 with e4 e5
      subst e4 e5
      exact .inl ⟨hF, cs, d1, T, hT, e, e3, s2.trans s1⟩
    · exact .inl ⟨hF, cs, cs1, T, hT, e, e2.trans e1, s1⟩
  · rcases h'.blk b (Nat.lt_of_lt_of_le hb h.size) with ⟨hF, d, d1, T', hT, e2, e3, s2⟩ | e2
    · exact .inl ⟨hF, d, d1, T', hT, e1.symm.trans e2, e3, s2⟩
    · exact .inr (e2.trans e1)
theorem Wrote.then (h : Wrote K F w w1) (h' : Below w1.heap.size w1 w2) : Wrote K F w w2 := h.trans (.of_below h')
theorem Wrote.set (h : Wrote K F w w1) {g : Nat} {cs : Array Value} {T : TypeId} (hb : w1.heap[g]? = some (.cells cs T (0, 0))) (hT : K T) (hF : F g) (j : Nat) (v : Value) : Wrote K F w (w1.setCell ⟨g, j, none⟩ v) := by
  refine h.trans ⟨by simp [World.setCell], fun b hb' => ?_, fun B hB hF' => (Below.refl _ _).setCell (hF' g hF) _⟩
  by_cases e : b = g
  · subst e
    exact .inl ⟨hF, cs, cs.setIfInBounds j v, T, hT, hb, block_setCell hb j v, by simp⟩
  · exact .inr (Below.heap_setCell w1 ⟨g, j, none⟩ v b e)
theorem Wrote.mono {K' : TypeId → Prop} {F' : Nat → Prop} (h : Wrote K F w w1) (hK : ∀ T, K T → K' T) (hF : ∀ b, F b → F' b) : Wrote K' F' w w1 :=
  ⟨h.size, fun b hb => (h.blk b hb).imp (fun ⟨a, cs, cs', T, k, r⟩ => ⟨hF b a, cs, cs', T, hK T k, r⟩) id, fun B hB hB' => h.bel B hB fun b hb => hB' b (hF b hb)⟩
theorem Wrote.agree (h : Wrote K F w w1) {G : Nat → Prop} (hG : ∀ b, F b → ¬ G b) : Agree G w w1 :=
  ⟨h.size, fun b hg hb => by
    rcases h.blk b hb with ⟨hF, _⟩ | e
    · exact absurd hg (hG b hF)
    · exact e⟩
/-- A block of a type that is not written is as it was. -/
theorem Wrote.other (h : Wrote K F w w1) {b : Nat} {cs : Array Value} {T : TypeId} {fr : Nat × Nat} (hb : w.heap[b]? = some (.cells cs T fr)) (hT : ¬ K T) : w1.heap[b]? = some (.cells cs T fr) := by
  rcases h.blk b (lt_of_block hb) with ⟨_, cs1, _, T1, hK, e, _⟩ | e
  · rw [hb] at e
    injection e with e
    injection e with _ e2
    subst e2
    exact absurd hK hT
  · exact e.trans hb
theorem WRow.wrote {K' : TypeId → Prop} {F' G : Nat → Prop} {T : TypeId} {m : Nat} {A : Option Addr} (h : WRow G w T m A) (hw : Wrote K' F' w w1) : WRow G w1 T m A := by
  intro hm
  obtain ⟨g, o, cs, e, hG, hh, hs⟩ := h hm
  rcases hw.blk g (lt_of_block hh) with ⟨_, cs1, cs2, T1, _, e1, e2, s⟩ | e1
  · rw [hh] at e1
    injection e1 with e1
    injection e1 with e3 e4
    subst e3 e4
    exact ⟨g, o, cs2, e, hG, e2, by omega⟩
  · exact ⟨g, o, cs, e, hG, e1.trans hh, hs⟩
theorem some_at {cs : Array Value} {j : Nat} (h : j < cs.size) : ∃ v, cs[j]? = some v := ⟨cs[j], by simp [h]⟩
theorem five_at {k : Nat} {cs : Array Value} (h : k + 5 ≤ cs.size) (v0 v1 v2 v3 v4 : Value) :
    (∀ i, i < k ∨ k + 5 ≤ i → (((((cs.setIfInBounds k v0).setIfInBounds (k+1) v1).setIfInBounds (k+2) v2).setIfInBounds (k+3) v3).setIfInBounds (k+4) v4)[i]? = cs[i]?) ∧
    ∀ j v, [v0, v1, v2, v3, v4][j]? = some v → (((((cs.setIfInBounds k v0).setIfInBounds (k+1) v1).setIfInBounds (k+2) v2).setIfInBounds (k+3) v3).setIfInBounds (k+4) v4)[k + j]? = some v := by
  constructor
  · intro i hi
    simp only [Array.getElem?_setIfInBounds]
    rw [if_neg (by omega), if_neg (by omega), if_neg (by omega), if_neg (by omega), if_neg (by omega)]
  · intro j v hj
    simp only [Array.getElem?_setIfInBounds, Array.size_setIfInBounds]
    match j, hj with
    | 0, hj => rw [if_neg (by omega), if_neg (by omega), if_neg (by omega), if_neg (by omega), if_pos (by omega), if_pos (by omega)]; exact hj
    | 1, hj => rw [if_neg (by omega), if_neg (by omega), if_neg (by omega), if_pos (by omega), if_pos (by omega)]; exact hj
    | 2, hj => rw [if_neg (by omega), if_neg (by omega), if_pos (by omega), if_pos (by omega)]; exact hj
    | 3, hj => rw [if_neg (by omega), if_pos (by omega), if_pos (by omega)]; exact hj
    | 4, hj => rw [if_pos (by omega), if_pos (by omega)]; exact hj
    | j + 5, hj => simp at hj
end Go.Proofs.YtcbcndoddikpjaaGreatDoor
