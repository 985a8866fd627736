/- Operations done on a base, one behind the other: plain words. -/
import Derived.Test.YtemcijhpmpdebaaGreatDoorBin
import Derived.Test.YtemcijhpmpdebaaGreatDoorGoodOp
import Derived.Test.YtemcijhpmpdebaaGreatDoorDf1
namespace Go.Proofs.YtemcijhpmpdebaaGreatDoor
/-- How many of rising numbers are less than one. -/
def posI : List Int → Int → Nat
  | [], _ => 0
  | a :: r, x => if a < x then posI r x + 1 else 0
theorem posI_le : ∀ (ids : List Int) (x : Int), posI ids x ≤ ids.length
  | [], _ => Nat.le_refl _
  | a :: r, x => by
    have := posI_le r x
    unfold posI
    split <;> simp <;> omega
def RiseI (ids : List Int) : Prop := ids.Pairwise (· < ·)
theorem posI_less : ∀ (ids : List Int) (x : Int) (k : Nat) (a : Int), k < posI ids x → ids[k]? = some a → a < x
  | [], _, _, _, h, _ => by simp [posI] at h
  | b :: r, x, k, a, h, e => by
    unfold posI at h
    split at h
    · next hb =>
      cases k with
      | zero => simp at e; omega
      | succ k => exact posI_less r x k a (by omega) (by simpa using e)
    · omega
theorem posI_more : ∀ (ids : List Int) (x : Int), RiseI ids → ∀ (k : Nat) (a : Int), posI ids x ≤ k → ids[k]? = some a → x ≤ a
  | [], _, _, _, _, _, e => by simp at e
  | b :: r, x, hr, k, a, h, e => by
    unfold RiseI at hr
    rw [List.pairwise_cons] at hr
    unfold posI at h
    split at h
    · next hb =>
      cases k with
      | zero => omega
      | succ k => exact posI_more r x hr.2 k a (by omega) (by simpa using e)
    · next hb =>
      cases k with
      | zero => simp at e; omega
      | succ k =>
        have := hr.1 a (List.mem_of_getElem? (by simpa using e))
        omega
theorem posI_of {ids : List Int} {x : Int} (hr : RiseI ids) {i : Nat} (hi : i ≤ ids.length) (h1 : ∀ k a, k < i → ids[k]? = some a → a < x) (h2 : ∀ k a, i ≤ k → ids[k]? = some a → x ≤ a) : i = posI ids x := by
  have hp := posI_le ids x
  rcases Nat.lt_trichotomy i (posI ids x) with c | c | c
  · have e : ids[i]? = some ids[i] := by simp
    have := posI_less ids x i _ c e
    have := h2 i _ (Nat.le_refl _) e
    omega
  · exact c
  · have e : ids[posI ids x]? = some ids[posI ids x] := by simp
    have := posI_more ids x hr _ _ (Nat.le_refl _) e
    have := h1 _ _ c e
    omega
def hasI (ids : List Int) (x : Int) : Bool := ids[posI ids x]? == some x
theorem hasI_iff {ids : List Int} {x : Int} : hasI ids x = true ↔ ids[posI ids x]? = some x := by unfold hasI; simp
/-- Where a number stands among rising ones, it stands at its place. -/
theorem hasI_mem {ids : List Int} {x : Int} (hr : RiseI ids) : hasI ids x = true ↔ x ∈ ids := by
  rw [hasI_iff]
  constructor
  · exact fun h => List.mem_of_getElem? h
  · intro hm
    obtain ⟨k, hk⟩ := List.mem_iff_getElem?.1 hm
    have h1 : ¬ k < posI ids x := fun c => by have := posI_less ids x k x c hk; omega
    have hp := posI_le ids x
    have hkl := (List.getElem?_eq_some_iff.1 hk).1
    have e : ids[posI ids x]? = some ids[posI ids x] := by simp
    have h2 := posI_more ids x hr _ _ (Nat.le_refl _) e
    by_cases c : posI ids x = k
    · rw [c]; exact hk
    · have h3 : ids[posI ids x] < x := by
        unfold RiseI at hr
        rw [List.pairwise_iff_getElem] at hr
        have := hr (posI ids x) k (by omega) hkl (by omega)
        rw [(List.getElem?_eq_some_iff.1 hk).2] at this
        exact this
      omega
theorem posI_first : ∀ {ids : List Int} {x : Int} {k : Nat}, k ≤ ids.length → (∀ j a, j < k → ids[j]? = some a → a < x) → (∀ a, ids[k]? = some a → ¬ a < x) → k = posI ids x
  | [], _, k, hk, _, _ => by simpa [posI] using hk
  | a :: r, x, 0, _, _, h2 => by
    unfold posI
    rw [if_neg (h2 a rfl)]
  | a :: r, x, k + 1, hk, h1, h2 => by
    unfold posI
    rw [if_pos (h1 0 a (by omega) rfl), ← posI_first (ids := r) (x := x) (k := k) (by simpa using hk) (fun j b hj e => h1 (j + 1) b (by omega) (by simpa using e)) (fun b e => h2 b (by simpa using e))]
theorem found_pos {ids : List Int} {x : Int} {k : Nat} (hr : RiseI ids) (h : ids[k]? = some x) : hasI ids x = true ∧ k = posI ids x := by
  have h1 := (hasI_mem hr).2 (List.mem_of_getElem? h)
  refine ⟨h1, ?_⟩
  have h2 := hasI_iff.1 h1
  have hk := (List.getElem?_eq_some_iff.1 h)
  have hp := (List.getElem?_eq_some_iff.1 h2)
  unfold RiseI at hr
  rw [List.pairwise_iff_getElem] at hr
  obtain ⟨hk, ek⟩ := hk
  obtain ⟨hp, ep⟩ := hp
  rcases Nat.lt_trichotomy k (posI ids x) with c | c | c
  · have := hr _ _ hk hp c
    omega
  · exact c
  · have := hr _ _ hp hk c
    omega
theorem rise_ins {ids : List Int} {x : Int} (hr : RiseI ids) (h : hasI ids x = false) : RiseI (ins (posI ids x) x ids) := by
  have hx : x ∉ ids := fun hm => by rw [(hasI_mem hr).2 hm] at h; cases h
  unfold RiseI ins
  rw [List.pairwise_append]
  have hsub := hr
  unfold RiseI at hsub
  refine ⟨hsub.sublist (List.take_sublist _ _), ?_, ?_⟩
  · rw [List.pairwise_cons]
    refine ⟨fun a ha => ?_, hsub.sublist (List.drop_sublist _ _)⟩
    obtain ⟨k, hk⟩ := List.mem_iff_getElem?.1 ha
    rw [List.getElem?_drop] at hk
    have := posI_more ids x hr _ a (by omega) hk
    have hne : a ≠ x := fun e => hx (by rw [← e]; exact List.mem_of_getElem? hk)
    omega
  · intro a ha b hb
    obtain ⟨k, hk⟩ := List.mem_iff_getElem?.1 ha
    rw [List.getElem?_take] at hk
    split at hk
    · next hlt =>
      have h1 := posI_less ids x k a hlt hk
      rcases List.mem_cons.1 hb with rfl | hb
      · exact h1
      · obtain ⟨m, hm⟩ := List.mem_iff_getElem?.1 hb
        rw [List.getElem?_drop] at hm
        have := posI_more ids x hr _ b (by omega) hm
        omega
    · cases hk
theorem rise_del {ids : List Int} (hr : RiseI ids) (k : Nat) : RiseI (del k ids) := by
  unfold RiseI at hr ⊢
  refine hr.sublist ?_
  unfold del
  have h : (ids.take k ++ ids.drop (k + 1)).Sublist (ids.take k ++ ids.drop k) := List.Sublist.append (List.Sublist.refl _) (by
    rw [show k + 1 = k + 1 from rfl, ← List.drop_drop]
    exact List.drop_sublist _ _)
  rwa [List.take_append_drop] at h
theorem map_ins {α β : Type} (f : α → β) (k : Nat) (x : α) (l : List α) : (ins k x l).map f = ins k (f x) (l.map f) := by simp [ins, List.map_take, List.map_drop]
theorem map_del {α β : Type} (f : α → β) (k : Nat) (l : List α) : (del k l).map f = del k (l.map f) := by simp [del, List.map_take, List.map_drop]
/-! ### One operation -/
def dIds (ds : List StV) : List Int := ds.map StV.id
def sIds (l : List SsV) : List Int := l.map SsV.id
def putD (ds : List StV) (d : StV) : List StV × Bool :=
  if hasI (dIds ds) d.id = true then (ds.set (posI (dIds ds) d.id) d, true) else if ds.length = 20 then (ds, false) else (ins (posI (dIds ds) d.id) d ds, true)
def cutD (ds : List StV) (id : Int) : List StV × Bool := if hasI (dIds ds) id = true then (del (posI (dIds ds) id) ds, true) else (ds, false)
/-- The documents behind an operation, and whether it was fine. -/
def opD (ds : List StV) (o : OpV) (doc : List Nd) : List StV × Bool := if o.kind = 1 then putD ds ⟨o.id, doc⟩ else cutD ds o.id
/-- Whether nothing but the count changes: the session has done it, or there is no room for it. -/
def idle (l : List SsV) (o : OpV) : Bool :=
  match l[posI (sIds l) o.session]? with
  | some s => if s.id = o.session then decide (o.no ≤ s.no) else decide (l.length = 8)
  | none => decide (l.length = 8)
def sessD (l : List SsV) (o : OpV) (fine : Bool) : List SsV :=
  if hasI (sIds l) o.session = true then l.set (posI (sIds l) o.session) ⟨o.session, o.no, fine⟩ else ins (posI (sIds l) o.session) ⟨o.session, o.no, fine⟩ l
def stepV (b : BsV) (o : OpV) (doc : List Nd) : BsV :=
  if idle b.sess o = true then ⟨b.applied + 1, b.docs, b.sess⟩ else ⟨b.applied + 1, (opD b.docs o doc).1, sessD b.sess o (opD b.docs o doc).2⟩
/-- What the bases on the way are. -/
structure FoldOK (n : Nat) (b : BsV) : Prop where
  app : b.applied = n
  dl : b.docs.length ≤ 20
  sl : b.sess.length ≤ 8
  dr : RiseI (dIds b.docs)
  sr : RiseI (sIds b.sess)
  di : ∀ d ∈ b.docs, (0 ≤ d.id ∧ d.id ≤ 100) ∧ ∃ t, IsGood d.doc t
  si : ∀ s ∈ b.sess, 0 ≤ s.id ∧ s.id ≤ 100
theorem FoldOK.zero : FoldOK 0 ⟨0, [], []⟩ := ⟨rfl, by simp, by simp, by simp [dIds, RiseI], by simp [sIds, RiseI], fun d h => (by cases h), fun s h => (by cases h)⟩
theorem set_id {α : Type} (f : α → Int) {l : List α} {k : Nat} {x : α} (h : (l.map f)[k]? = some (f x)) : (l.set k x).map f = l.map f := by
  rw [List.map_set]
  apply List.ext_getElem?
  intro j
  rw [List.getElem?_set]
  split
  · next e =>
    subst e
    split
    · exact h.symm
    · next hl => rw [List.getElem?_eq_none (by omega)]
  · rfl
theorem dIds_set {ds : List StV} {d : StV} (h : hasI (dIds ds) d.id = true) : dIds (ds.set (posI (dIds ds) d.id) d) = dIds ds := set_id StV.id (hasI_iff.1 h)
theorem sIds_set {l : List SsV} {s : SsV} (h : hasI (sIds l) s.id = true) : sIds (l.set (posI (sIds l) s.id) s) = sIds l := set_id SsV.id (hasI_iff.1 h)
theorem mem_ins2 {α : Type} {k : Nat} {x y : α} {l : List α} (h : y ∈ ins k x l) : y = x ∨ y ∈ l := by
  unfold ins at h
  rcases List.mem_append.1 h with h | h
  · exact .inr (List.mem_of_mem_take h)
  · rcases List.mem_cons.1 h with h | h
    · exact .inl h
    · exact .inr (List.mem_of_mem_drop h)
theorem mem_del {α : Type} {k : Nat} {y : α} {l : List α} (h : y ∈ del k l) : y ∈ l := by
  unfold del at h
  rcases List.mem_append.1 h with h | h
  · exact List.mem_of_mem_take h
  · exact List.mem_of_mem_drop h
theorem mem_set' {α : Type} {k : Nat} {x y : α} {l : List α} (h : y ∈ l.set k x) : y = x ∨ y ∈ l := by
  rcases List.mem_or_eq_of_mem_set h with h | h
  · exact .inr h
  · exact .inl h
theorem FoldOK.docs {n : Nat} {b : BsV} (h : FoldOK n b) {o : OpV} {doc : List Nd} (ho : 0 ≤ o.id ∧ o.id ≤ 100) (hg : o.kind = 1 → ∃ t, IsGood doc t) :
    (opD b.docs o doc).1.length ≤ 20 ∧ RiseI (dIds (opD b.docs o doc).1) ∧ ∀ d ∈ (opD b.docs o doc).1, (0 ≤ d.id ∧ d.id ≤ 100) ∧ ∃ t, IsGood d.doc t := by
  have hl := h.dl
  unfold opD
  split
  · next hk =>
    unfold putD
    split
    · next hh =>
      refine ⟨by simpa using hl, ?_, fun d hd => ?_⟩
      · show RiseI (dIds (b.docs.set _ _))
        rw [dIds_set (d := ⟨o.id, doc⟩) hh]
        exact h.dr
      · rcases mem_set' hd with rfl | hd
        · exact ⟨ho, hg hk⟩
        · exact h.di d hd
    · next hh =>
      split
      · exact ⟨hl, h.dr, h.di⟩
      · next hne =>
        have hp := posI_le (dIds b.docs) o.id
        have hlen : (dIds b.docs).length = b.docs.length := by simp [dIds]
        refine ⟨?_, ?_, fun d hd => ?_⟩
        · rw [ins_length _ _ _ (by rw [← hlen]; exact hp)]
          omega
        · show RiseI (dIds (ins _ _ _))
          rw [dIds, map_ins]
          exact rise_ins h.dr (by simpa using hh)
        · rcases mem_ins2 hd with rfl | hd
          · exact ⟨ho, hg hk⟩
          · exact h.di d hd
  · unfold cutD
    split
    · refine ⟨?_, ?_, fun d hd => h.di d (mem_del hd)⟩
      · have : (del (posI (dIds b.docs) o.id) b.docs).length ≤ b.docs.length := by simp [del]; omega
        show (del (posI (dIds b.docs) o.id) b.docs).length ≤ 20
        omega
      · show RiseI (dIds (del _ _))
        rw [dIds, map_del]
        exact rise_del h.dr _
    · exact ⟨hl, h.dr, h.di⟩
theorem idle_room {l : List SsV} {o : OpV} (h : idle l o = false) (hh : hasI (sIds l) o.session = false) : l.length ≠ 8 := by
  unfold idle at h
  unfold hasI sIds at hh
  rw [List.getElem?_map] at hh
  unfold sIds at h
  split at h
  · next s hs =>
    rw [hs] at hh
    split at h
    · next e => simp [e] at hh
    · simpa using h
  · simpa using h
theorem FoldOK.step {n : Nat} {b : BsV} (h : FoldOK n b) {o : OpV} {doc : List Nd} (ho : 0 ≤ o.id ∧ o.id ≤ 100) (hs : 0 ≤ o.session ∧ o.session ≤ 100) (hg : o.kind = 1 → ∃ t, IsGood doc t) : FoldOK (n + 1) (stepV b o doc) := by
  have ha := h.app
  unfold stepV
  split
  · exact ⟨by show b.applied + 1 = _; rw [ha]; rfl, h.dl, h.sl, h.dr, h.sr, h.di, h.si⟩
  · next hi =>
    obtain ⟨d1, d2, d3⟩ := h.docs ho hg
    have hsl := h.sl
    generalize (opD b.docs o doc).2 = fine
    refine ⟨by show b.applied + 1 = _; rw [ha]; rfl, d1, ?_, d2, ?_, d3, fun s hm => ?_⟩
    · show (sessD b.sess o fine).length ≤ 8
      unfold sessD
      split
      · simpa using hsl
      · next hh =>
        have hr := idle_room (by simpa using hi) (by simpa using hh)
        have hp := posI_le (sIds b.sess) o.session
        have hlen : (sIds b.sess).length = b.sess.length := by simp [sIds]
        rw [ins_length _ _ _ (by rw [← hlen]; exact hp)]
        omega
    · show RiseI (sIds (sessD b.sess o fine))
      unfold sessD
      split
      · next hh =>
        rw [sIds_set (s := ⟨o.session, o.no, fine⟩) hh]
        exact h.sr
      · next hh =>
        rw [sIds, map_ins]
        exact rise_ins h.sr (by simpa using hh)
    · have hm' : s ∈ sessD b.sess o fine := hm
      unfold sessD at hm'
      split at hm'
      · rcases mem_set' hm' with rfl | hm'
        · exact hs
        · exact h.si s hm'
      · rcases mem_ins2 hm' with rfl | hm'
        · exact hs
        · exact h.si s hm'
end Go.Proofs.YtemcijhpmpdebaaGreatDoor
