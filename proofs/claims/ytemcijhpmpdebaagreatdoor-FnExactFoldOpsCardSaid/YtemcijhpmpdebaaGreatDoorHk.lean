/- A region that draws its order and at its end stores into cells that it has loaded before: loads are taken first under a condition on the memory that holds till the first of those stores. -/
import Derived.Deep.RegionHeld
import Derived.Test.YtemcijhpmpdebaaGreatDoorBase
namespace Go.Proofs.YtemcijhpmpdebaaGreatDoor
section
variable {P : Program} {ops : Array Oper} {Q : Exit → Act → World → Prop} {md : Region.Mode} {k : Nat} {S : World → Prop}
/-- In whatever order the rest comes up, it ends well; and as long as number k has not come up, S holds behind each step. -/
def Till (P : Program) (md : Region.Mode) (ops : Array Oper) (Q : Exit → Act → World → Prop) (k : Nat) (S : World → Prop) (n : Nat) (L : Array Bool) (a : Act) (w : World) : Prop :=
  match n with
  | 0 => Region.ready md ops L = [] ∧ Q .normal a w
  | m + 1 => (Region.ready md ops L = [] → Q .normal a w) ∧ ∀ i, i ∈ Region.ready md ops L → wpOp P ops Q i (fun b v => ((L.setIfInBounds i true).getD k true = false → S v) ∧ Till P md ops Q k S m (L.setIfInBounds i true) b v) a w
theorem Till.plain : ∀ (n : Nat) (L : Array Bool) (a : Act) (w : World), Till P md ops Q k S n L a w → wpAny P md ops Q n L a w
  | 0, _, _, _, h => by unfold Till at h; exact h
  | n + 1, L, a, w, h => by
    unfold Till at h
    exact ⟨h.1, fun i hi => wpOp_mono (fun b v g => Till.plain n _ b v g.2) (h.2 i hi)⟩
theorem listed_more {L : Array Bool} {i : Nat} (h : L.getD k true = true) : (L.setIfInBounds i true).getD k true = true := by
  by_cases e : i = k
  · subst e
    by_cases hl : i < L.size
    · simp [hl]
    · simp [hl]
  · rw [getD_set_ne true e]
    exact h
/-- Once k has come up nothing is asked of S. -/
theorem Till.late : ∀ (n : Nat) (L : Array Bool) (a : Act) (w : World), L.getD k true = true → wpAny P md ops Q n L a w → Till P md ops Q k S n L a w
  | 0, _, _, _, _, h => by unfold Till; exact h
  | n + 1, L, a, w, hk, h => by
    unfold Till
    refine ⟨h.1, fun i hi => wpOp_mono (fun b v g => ⟨fun c => ?_, Till.late n _ b v (listed_more hk) g⟩) (h.2 i hi)⟩
    rw [listed_more hk] at c
    cases c
theorem getD_both {L : Array Bool} {i : Nat} (h0 : L.getD i true = false) (h1 : L.getD i false = true) : False := by
  by_cases h : i < L.size
  · simp [h] at h0 h1
    rw [h0] at h1
    cases h1
  · simp [h] at h1
/-- Number j is bound to come up behind number i. -/
def behind (md : Region.Mode) (ops : Array Oper) (j i : Nat) : Bool :=
  match ops[j]? with
  | some o => o.after.toList.any (fun e => Region.binds md e && e.on == i)
  | none => false
theorem behind_not {L : Array Bool} {i j : Nat} (h : behind md ops j i = true) (hi : i ∈ Region.ready md ops L) : j ∉ Region.ready md ops L := by
  intro hj
  obtain ⟨_, o, ho, hall⟩ := mem_ready.1 hj
  have hu := (mem_ready.1 hi).1
  unfold behind at h
  rw [ho] at h
  simp only [List.any_eq_true, Bool.and_eq_true, beq_iff_eq] at h
  obtain ⟨e, hm, hb, hon⟩ := h
  have hl := hall e (Array.mem_toList_iff.1 hm) hb
  rw [hon] at hl
  have := getD_both hu hl
  exact this
/-- The move of a walk, for any condition T that the worlds meet as long as C tells of what has come up. -/
theorem Till.move {i : Nat} {oi : Oper} {u : Value} {T : World → Prop} {C : Array Bool → Prop} (hi : ops[i]? = some oi) (hns : Region.noSelect ops = true) (hik : i ≠ k)
    (hC : ∀ (L : Array Bool) (j : Nat), C L → i ∈ Region.ready md ops L → j ∈ Region.ready md ops L → j ≠ i → C (L.setIfInBounds j true)) (hT : ∀ (L : Array Bool) (w : World), C L → (L.getD k true = false → S w) → T w)
    (hQ : ∀ c a w, Q (.panic c) (a.put oi.dst u) w → Q (.panic c) a w) (n : Nat) : ∀ (L : Array Bool) (a : Act) (w : World),
      (∀ j oj, ops[j]? = some oj → j ≠ i → L.getD j true = false → (∀ e ∈ oj.after, Region.binds md e = true → e.on ≠ i) → oi.apart ops oj = true) → i ∈ Region.ready md ops L → C L → YieldsIf P ops T oi u a → T w → (L.getD k true = false → S w) →
      Till P md ops Q k S n (L.setIfInBounds i true) (a.put oi.dst u) w → Till P md ops Q k S (n + 1) L a w := by
  have hsel := Region.noSelect_spec hns
  have hset : ∀ (L : Array Bool), (L.setIfInBounds i true).getD k true = L.getD k true := fun L => getD_set_ne true hik
  induction n with
  | zero =>
    intro L a w _ hr _ hy ht hs H
    unfold Till
    refine ⟨fun e => absurd hr (by rw [e]; simp), fun j hj => ?_⟩
    by_cases e : j = i
    · rw [e]
      exact hy.wpOp hi ht ⟨fun c => hs (by rw [← hset L]; exact c), H⟩
    · unfold Till at H
      exact absurd (ready_mono hj e) (by rw [H.1]; simp)
  | succ n ih =>
    intro L a w hfree hr hcl hy ht hs H
    unfold Till
    refine ⟨fun e => absurd hr (by rw [e]; simp), fun j hj => ?_⟩
    by_cases e : j = i
    · rw [e]
      exact hy.wpOp hi ht ⟨fun c => hs (by rw [← hset L]; exact c), H⟩
    · obtain ⟨hju, oj, hoj, hall⟩ := mem_ready.1 hj
      have hno : ∀ e ∈ oj.after, Region.binds md e = true → e.on ≠ i := fun e he hb hon => by
        have hl := hall e he hb
        rw [hon] at hl
        exact getD_both (mem_ready.1 hr).1 hl
      have H' := H
      unfold Till at H'
      have g := wpOp_putIf hoj (hfree j oj hoj e hju hno) (fun cs b => hsel i oi cs b hi) (fun cs b => hsel j oj cs b hoj) hQ hy (H'.2 j (ready_mono hj e))
      refine wpOp_mono (fun b v g3 => ?_) g
      obtain ⟨gy, gs, gt⟩ := g3
      rw [← Array.setIfInBounds_comm _ _ e] at gs gt
      have gs' : (L.setIfInBounds j true).getD k true = false → S v := fun c => gs (by rw [hset]; exact c)
      have hcl' := hC L j hcl hr hj e
      refine ⟨gs', ih (L.setIfInBounds j true) b v (fun m om hom hmi hmu hmn => hfree m om hom hmi ?_ hmn) (ready_mono hr (Ne.symm e)) hcl' gy (hT _ v hcl' gs') gs' gt⟩
      by_cases ejm : j = m
      · rw [← ejm]; exact hju
      · rw [getD_set_ne true ejm] at hmu; exact hmu
/-- A load of what S tells, that number k waits for. -/
theorem Till.load {i : Nat} {oi : Oper} {u : Value} {n : Nat} {L : Array Bool} {a : Act} {w : World} (hi : ops[i]? = some oi) (hns : Region.noSelect ops = true) (hf : Region.free md ops L i = true) (hr : (Region.ready md ops L).contains i = true)
    (hk : L.getD k true = false) (hb : behind md ops k i = true) (hQ : ∀ c a w, Q (.panic c) (a.put oi.dst u) w → Q (.panic c) a w) (hy : YieldsIf P ops S oi u a) (hS : S w) (h : Till P md ops Q k S n (L.setIfInBounds i true) (a.put oi.dst u) w) : Till P md ops Q k S (n + 1) L a w := by
  have hr' : i ∈ Region.ready md ops L := by simpa using hr
  have hik : i ≠ k := fun e => behind_not hb hr' (by rw [← e]; exact hr')
  refine Till.move (T := S) (C := fun L => L.getD k true = false) hi hns hik (fun L j hc hri hrj hji => ?_) (fun L w hc hs => hs hc) hQ n L a w (Region.free_spec hi hf) hr' hk hy hS (fun _ => hS) h
  rw [getD_set_ne true (fun e => behind_not hb hri (by rw [← e]; exact hrj))]
  exact hc
/-- What yields its value in whatever world. -/
theorem Till.pure {i : Nat} {oi : Oper} {u : Value} {n : Nat} {L : Array Bool} {a : Act} {w : World} (hi : ops[i]? = some oi) (hns : Region.noSelect ops = true) (hf : Region.free md ops L i = true) (hr : (Region.ready md ops L).contains i = true)
    (hik : i ≠ k) (hQ : ∀ c a w, Q (.panic c) (a.put oi.dst u) w → Q (.panic c) a w) (hy : YieldsIf P ops (fun _ => True) oi u a) (hS : L.getD k true = false → S w) (h : Till P md ops Q k S n (L.setIfInBounds i true) (a.put oi.dst u) w) : Till P md ops Q k S (n + 1) L a w :=
  Till.move (T := fun _ => True) (C := fun _ => True) hi hns hik (fun _ _ _ _ _ _ => trivial) (fun _ _ _ _ => trivial) hQ n L a w (Region.free_spec hi hf) (by simpa using hr) trivial hy trivial hS h
/-- The one that may come up, ahead of k. -/
theorem Till.one {i : Nat} {oi : Oper} {n : Nat} {L : Array Bool} {a : Act} {w : World} (hr : Region.ready md ops L = [i]) (ho : ops[i]? = some oi)
    (h : ∀ K : Act → World → Prop, Shut (∀ b v, S v → (S v → Till P md ops Q k S n (L.setIfInBounds i true) b v) → K b v) → if Region.wanted oi (yielded ops a.tmps) = true then Oper.wp P oi a w K Q else K (a.put oi.dst undef) w) : Till P md ops Q k S (n + 1) L a w := by
  unfold Till
  refine ⟨fun e => absurd hr (by rw [e]; simp), fun j hj => ?_⟩
  rw [hr] at hj
  obtain rfl : j = i := by simpa using hj
  exact wpOp_step ho (fun K hK => h K (fun b v hs hw => hK b v ⟨fun _ => hs, hw hs⟩))
/-- Two that may come up, ahead of k. -/
theorem Till.two {i j : Nat} {oi oj : Oper} {n : Nat} {L : Array Bool} {a : Act} {w : World} (hr : Region.ready md ops L = [i, j]) (hoi : ops[i]? = some oi) (hoj : ops[j]? = some oj)
    (hi : ∀ K : Act → World → Prop, Shut (∀ b v, S v → (S v → Till P md ops Q k S n (L.setIfInBounds i true) b v) → K b v) → if Region.wanted oi (yielded ops a.tmps) = true then Oper.wp P oi a w K Q else K (a.put oi.dst undef) w)
    (hj : ∀ K : Act → World → Prop, Shut (∀ b v, S v → (S v → Till P md ops Q k S n (L.setIfInBounds j true) b v) → K b v) → if Region.wanted oj (yielded ops a.tmps) = true then Oper.wp P oj a w K Q else K (a.put oj.dst undef) w) : Till P md ops Q k S (n + 1) L a w := by
  unfold Till
  refine ⟨fun e => absurd hr (by rw [e]; simp), fun m hm => ?_⟩
  rw [hr] at hm
  rcases (show m = i ∨ m = j by simpa using hm) with rfl | rfl
  · exact wpOp_step hoi (fun K hK => hi K (fun b v hs hw => hK b v ⟨fun _ => hs, hw hs⟩))
  · exact wpOp_step hoj (fun K hK => hj K (fun b v hs hw => hK b v ⟨fun _ => hs, hw hs⟩))
/-- Number k itself: from here on without S. -/
theorem Till.last {oi : Oper} {n : Nat} {L : Array Bool} {a : Act} {w : World} (hr : Region.ready md ops L = [k]) (ho : ops[k]? = some oi) (hk : (L.setIfInBounds k true).getD k true = true)
    (h : ∀ K : Act → World → Prop, Shut (∀ b v, wpAny P md ops Q n (L.setIfInBounds k true) b v → K b v) → if Region.wanted oi (yielded ops a.tmps) = true then Oper.wp P oi a w K Q else K (a.put oi.dst undef) w) : Till P md ops Q k S (n + 1) L a w := by
  unfold Till
  refine ⟨fun e => absurd hr (by rw [e]; simp), fun j hj => ?_⟩
  rw [hr] at hj
  obtain rfl : j = k := by simpa using hj
  exact wpOp_step ho (fun K hK => h K (fun b v hw => hK b v ⟨fun c => (by rw [hk] at c; cases c), Till.late n _ b v hk hw⟩))
end
/-- The beginning. -/
theorem till_region {P : Program} {ops : Array Oper} {Q : Exit → Act → World → Prop} {id : Nat} {a : Act} {w : World} (k : Nat) (S : World → Prop) (hm : P.follows .mixedOrders = true) (hS : S w.drew)
    (h : S w.drew → Till P .any ops Q k S ops.size (Array.replicate ops.size false) a w.drew) : (Code.region id ops true).wp P Q a w :=
  wp_region_any hm (Till.plain _ _ _ _ (h hS))
end Go.Proofs.YtemcijhpmpdebaaGreatDoor
