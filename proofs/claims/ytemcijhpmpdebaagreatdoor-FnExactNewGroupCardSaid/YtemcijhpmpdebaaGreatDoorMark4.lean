/- What the laws write into bases, told exactly; what they find there again. -/
import Derived.Test.YtemcijhpmpdebaaGreatDoorMark3
namespace Go.Proofs.YtemcijhpmpdebaaGreatDoor
open Go.RowKit
/-- Stored documents in memory of their own, no two with one row. -/
structure StF (F : Nat → Prop) (w : World) (A : Option Addr) (rs : List StR) : Prop where
  top : 0 < rs.length → ∃ g o cs, A = some ⟨g, o, none⟩ ∧ F g ∧ w.heap[g]? = some (.cells cs 94 (0, 0)) ∧ o + rs.length * 2 ≤ cs.size ∧ ∀ j r, rs[j]? = some r → cs[o + j * 2]? = some (.int .i64 r.d.id) ∧ cs[o + j * 2 + 1]? = some (.slice r.adr r.d.doc.length r.cap)
  docs : ∀ r ∈ rs, Own F w 100 r.adr (ndCells r.d.doc)
  apart : ∀ (i j : Nat) (r s : StR) (a b : Addr), i ≠ j → rs[i]? = some r → rs[j]? = some s → 0 < r.d.doc.length → 0 < s.d.doc.length → r.adr = some a → s.adr = some b → a.block ≠ b.block
theorem Own.pin {F : Nat → Prop} {w : World} {T : TypeId} {A : Option Addr} {vs : List Value} (h : Own F w T A vs) : Own (fun b => F b ∧ 0 < vs.length ∧ ∀ a, A = some a → b = a.block) w T A vs := by
  refine ⟨fun hv => ?_, fun hm => ?_⟩
  · obtain ⟨b, o, e, hF, hl, hc⟩ := h.1 hv
    exact ⟨b, o, e, ⟨hF, List.length_pos_iff.2 hv, fun a ha => by rw [e] at ha; injection ha with ha; rw [← ha]⟩, hl, hc⟩
  · obtain ⟨g, o, cs, e, hF, hh, hs⟩ := h.2 hm
    exact ⟨g, o, cs, e, ⟨hF, hm, fun a ha => by rw [e] at ha; injection ha with ha; rw [← ha]⟩, hh, hs⟩
theorem mid_get {α : Type} {M R : List α} {x y z : α} {j : Nat} (h : (M ++ y :: R)[j]? = some z) : (j = M.length ∧ z = y) ∨ (j ≠ M.length ∧ (M ++ x :: R)[j]? = some z) := by
  by_cases e : j = M.length
  · subst e
    rw [List.getElem?_append_right (Nat.le_refl _), Nat.sub_self] at h
    exact .inl ⟨rfl, by simpa using h.symm⟩
  · refine .inr ⟨e, ?_⟩
    by_cases hl : j < M.length
    · rw [List.getElem?_append_left hl] at h ⊢
      exact h
    · rw [List.getElem?_append_right (by omega)] at h ⊢
      obtain ⟨m, hm⟩ : ∃ m, j - M.length = m + 1 := ⟨j - M.length - 1, by omega⟩
      rw [hm] at h ⊢
      exact h
theorem mid_pos {α : Type} (M R : List α) (x : α) : 0 < (M ++ x :: R).length := by simp; omega
theorem WRow.len {F : Nat → Prop} {w : World} {T : TypeId} {m m' : Nat} {A : Option Addr} (h : WRow F w T m A) (e : m = m') : WRow F w T m' A := e ▸ h
theorem mid_at {α : Type} {M R : List α} {x : α} : (M ++ x :: R)[M.length]? = some x := by
  rw [List.getElem?_append_right (Nat.le_refl _), Nat.sub_self]
  rfl
theorem mid_mem {α : Type} {M R : List α} {x y z : α} (h : z ∈ M ++ y :: R) : z = y ∨ z ∈ M ++ x :: R := by
  rcases List.mem_append.1 h with h | h
  · exact .inr (List.mem_append_left _ h)
  · rcases List.mem_cons.1 h with h | h
    · exact .inl h
    · exact .inr (List.mem_append_right _ (List.mem_cons_of_mem _ h))
section
variable {F F' : Nat → Prop} {w w1 : World} {A : Option Addr} {rs M R : List StR} {r : StR} {g o : Nat}
theorem StF.below (h : StF F w A rs) (hb : Below w.heap.size w w1) : StF F w1 A rs := by
  refine ⟨fun h0 => ?_, fun r hr => (h.docs r hr).frame (Agree.of_below hb), h.apart⟩
  obtain ⟨g, o, cs, e, hF, hh, hs, hc⟩ := h.top h0
  exact ⟨g, o, cs, e, hF, block_below hh hb, hs, hc⟩
/-- The id of one is written. -/
theorem StF.setId (h : StF F w (some ⟨g, o, none⟩) (M ++ r :: R)) (v : Int) : StF F (w.setCell ⟨g, o + M.length * 2, none⟩ (.int .i64 v)) (some ⟨g, o, none⟩) (M ++ ⟨⟨v, r.d.doc⟩, r.adr, r.cap⟩ :: R) ∧ Wrote KM F w (w.setCell ⟨g, o + M.length * 2, none⟩ (.int .i64 v)) := by
  obtain ⟨g', o', cs, e, hF, hh, hs, hc⟩ := h.top (mid_pos _ _ _)
  injection e with e
  injection e with e1 e2
  subst e1 e2
  have hW : Wrote KM F w (w.setCell ⟨g, o + M.length * 2, none⟩ (.int .i64 v)) := (Wrote.refl KM F w).set hh (by simp [KM]) hF _ _
  have hl : (M ++ (⟨⟨v, r.d.doc⟩, r.adr, r.cap⟩ : StR) :: R).length = (M ++ r :: R).length := by simp
  have hdoc : ∀ s ∈ M ++ r :: R, Own F (w.setCell ⟨g, o + M.length * 2, none⟩ (.int .i64 v)) 100 s.adr (ndCells s.d.doc) := fun s hs => by
    have h1 := h.docs s hs
    refine ⟨fun hv => ?_, h1.2.wrote hW⟩
    obtain ⟨b, o2, e, hF2, hl2, hc2⟩ := h1.1 hv
    obtain ⟨g3, o3, cs3, e3, _, hh3, _⟩ := h1.2 (List.length_pos_iff.2 hv)
    rw [e] at e3
    injection e3 with e3
    injection e3 with e4 e5
    subst e4 e5
    have hne : b ≠ g := fun e => by
      subst e
      rw [hh] at hh3
      injection hh3 with hh3
      injection hh3 with _ h6
      exact absurd h6 (by decide)
    exact ⟨b, o2, e, hF2, by simpa [World.setCell] using hl2, fun j u hj => (World.cell?_of_block (a := ⟨b, o2 + j, none⟩) (Below.heap_setCell w _ _ b hne)).trans (hc2 j u hj)⟩
  refine ⟨⟨fun _ => ⟨g, o, _, rfl, hF, block_setCell hh _ _, by rw [hl]; simpa using hs, fun j s hj => ?_⟩, fun s hs => ?_, fun i j a b c d hij ha hb h1 h2 h3 h4 => ?_⟩, hW⟩
  · have hjl : j < (M ++ r :: R).length := by rw [← hl]; exact (List.getElem?_eq_some_iff.1 hj).1
    rcases mid_get (x := r) hj with ⟨rfl, rfl⟩ | ⟨hne, hj'⟩
    · have h2 := (hc _ r mid_at).2
      refine ⟨?_, ?_⟩
      · rw [Array.getElem?_setIfInBounds, if_pos rfl, if_pos (by omega)]
      · rw [Array.getElem?_setIfInBounds, if_neg (by omega)]
        exact h2
    · obtain ⟨h1, h2⟩ := hc j s hj'
      refine ⟨?_, ?_⟩
      · rw [Array.getElem?_setIfInBounds, if_neg (by omega)]
        exact h1
      · rw [Array.getElem?_setIfInBounds, if_neg (by omega)]
        exact h2
  · rcases mid_mem (x := r) hs with rfl | hs
    · exact hdoc r (by simp)
    · exact hdoc s hs
  · have conv : ∀ (i : Nat) (a : StR), (M ++ (⟨⟨v, r.d.doc⟩, r.adr, r.cap⟩ : StR) :: R)[i]? = some a → ∃ a', (M ++ r :: R)[i]? = some a' ∧ a'.adr = a.adr ∧ a'.d.doc = a.d.doc := fun i a ha => by
      rcases mid_get (x := r) ha with ⟨rfl, rfl⟩ | ⟨_, ha⟩
      · exact ⟨r, mid_at, rfl, rfl⟩
      · exact ⟨a, ha, rfl, rfl⟩
    obtain ⟨a', k1, k2, k3⟩ := conv i a ha
    obtain ⟨b', m1, m2, m3⟩ := conv j b hb
    exact h.apart i j a' b' c d hij k1 m1 (by rw [k3]; exact h1) (by rw [m3]; exact h2) (by rw [k2]; exact h3) (by rw [m2]; exact h4)
/-- The nodes of one are written. -/
theorem StF.setDoc {l : List Nd} (h : StF F w A (M ++ r :: R)) (hw : Wrote (fun T => T = 100) (fun b => F b ∧ 0 < (ndCells r.d.doc).length ∧ ∀ a, r.adr = some a → b = a.block) w w1) (ho : Own F w1 100 r.adr (ndCells l)) (hl : l.length = r.d.doc.length) : StF F w1 A (M ++ ⟨⟨r.d.id, l⟩, r.adr, r.cap⟩ :: R) := by
  have hlen : (M ++ (⟨⟨r.d.id, l⟩, r.adr, r.cap⟩ : StR) :: R).length = (M ++ r :: R).length := by simp
  refine ⟨fun _ => ?_, fun s hs => ?_, fun i j a b c d hij ha hb h1 h2 h3 h4 => ?_⟩
  · obtain ⟨g, o, cs, e, hF, hh, hs, hc⟩ := h.top (mid_pos _ _ _)
    refine ⟨g, o, cs, e, hF, hw.other hh (by decide), by rw [hlen]; exact hs, fun j s hj => ?_⟩
    rcases mid_get (x := r) hj with ⟨rfl, rfl⟩ | ⟨_, hj⟩
    · have h2 := hc _ r mid_at
      exact ⟨h2.1, by rw [hl]; exact h2.2⟩
    · exact hc j s hj
  · obtain ⟨i, hi⟩ := List.mem_iff_getElem?.1 hs
    rcases mid_get (x := r) hi with ⟨rfl, rfl⟩ | ⟨hne, hi⟩
    · exact ho
    · have h1 := (h.docs s (List.mem_of_getElem? hi)).pin
      refine (Own.frame h1 (hw.agree (fun b hb hg => ?_))).mono (fun b hb _ => hb.1)
      obtain ⟨_, hb2, hb3⟩ := hb
      obtain ⟨_, hg2, hg3⟩ := hg
      rw [ndCells_length] at hb2 hg2
      obtain ⟨b1, o1, e1, _⟩ := (h.docs r (by simp)).1 (List.length_pos_iff.1 (by rw [ndCells_length]; exact hb2))
      obtain ⟨b2, o2, e2, _⟩ := (h.docs s (List.mem_of_getElem? hi)).1 (List.length_pos_iff.1 (by rw [ndCells_length]; exact hg2))
      have q1 := hb3 _ e1
      have q2 := hg3 _ e2
      exact h.apart M.length i r s _ _ (Ne.symm hne) mid_at hi (by omega) (by omega) e1 e2 (by rw [← q1, ← q2])
  · have conv : ∀ (i : Nat) (a : StR), (M ++ (⟨⟨r.d.id, l⟩, r.adr, r.cap⟩ : StR) :: R)[i]? = some a → ∃ a', (M ++ r :: R)[i]? = some a' ∧ a'.adr = a.adr ∧ a'.d.doc.length = a.d.doc.length := fun i a ha => by
      rcases mid_get (x := r) ha with ⟨rfl, rfl⟩ | ⟨_, ha⟩
      · exact ⟨r, mid_at, rfl, hl.symm⟩
      · exact ⟨a, ha, rfl, rfl⟩
    obtain ⟨a', k1, k2, k3⟩ := conv i a ha
    obtain ⟨b', m1, m2, m3⟩ := conv j b hb
    exact h.apart i j a' b' c d hij k1 m1 (by rw [k3]; exact h1) (by rw [m3]; exact h2) (by rw [k2]; exact h3) (by rw [m2]; exact h4)
end
def mkStL : Nat → List StR → List StR
  | _, [] => []
  | k, r :: rs => ⟨⟨(k : Int), mkRow (k + 1) r.d.doc.length⟩, r.adr, r.cap⟩ :: mkStL (k + 1 + 5 * r.d.doc.length) rs
def endSt : Nat → List StR → Nat
  | k, [] => k
  | k, r :: rs => endSt (k + 1 + 5 * r.d.doc.length) rs
theorem mkStL_length : ∀ (k : Nat) (rs : List StR), (mkStL k rs).length = rs.length
  | _, [] => rfl
  | k, r :: rs => by simp [mkStL, mkStL_length _ rs]
theorem mkStL_snoc : ∀ (k : Nat) (rs : List StR) (r : StR), mkStL k (rs ++ [r]) = mkStL k rs ++ [⟨⟨(endSt k rs : Int), mkRow (endSt k rs + 1) r.d.doc.length⟩, r.adr, r.cap⟩]
  | _, [], _ => rfl
  | k, q :: rs, r => by simp [mkStL, endSt, mkStL_snoc _ rs r]
theorem endSt_snoc : ∀ (k : Nat) (rs : List StR) (r : StR), endSt k (rs ++ [r]) = endSt k rs + 1 + 5 * r.d.doc.length
  | _, [], _ => rfl
  | k, q :: rs, r => by simp [endSt, endSt_snoc _ rs r]
theorem take_snoc2 {α : Type} {l : List α} {i : Nat} {x : α} (h : l[i]? = some x) : l.take (i + 1) = l.take i ++ [x] := by rw [List.take_add_one, h]; rfl
theorem endSt_le (rs : List StR) (hd : ∀ r ∈ rs, r.d.doc.length ≤ 1048576) : ∀ k, endSt k rs ≤ k + rs.length * 5242881 := by
  induction rs with
  | nil => intro k; simp [endSt]
  | cons r rs ih =>
    intro k
    have h1 := ih (fun s hs => hd s (List.mem_cons_of_mem _ hs)) (k + 1 + 5 * r.d.doc.length)
    have h2 := hd r (by simp)
    simp only [endSt, List.length_cons]
    omega
set_option maxRecDepth 100000 in
set_option maxHeartbeats 1600000 in
theorem markStF_any (rs : List StR) (hn : rs.length ≤ 1048576) (hd : ∀ r ∈ rs, r.d.doc.length ≤ 1048576) (k c : Nat) (hk : k ≤ 1000000) (F : Nat → Prop) (A : Option Addr) (w : World) (hw : StF F w A rs) :
    Calls Tryz.prog 27 #[.slice A rs.length c, .int .i64 (k : Int)] w (fun e w' => e = .returned (.int .i64 (endSt k rs : Int)) ∧ StF F w' A (mkStL k rs) ∧ Wrote KM F w w') := by
  have HM := Lib.hid hw
  have HD := Lib.hid hd
  clear hw hd
  go_enter Tryz.func27, Tryz.ntmps27
  go_wp2
  go_loopw [1, 5] (fun kv iv wx => ∃ i m : Nat, kv = .int .i64 (m : Int) ∧ iv = .int .i64 (i : Int) ∧ i ≤ rs.length ∧ m ≤ k + i * 5242881 ∧ Hid (m = endSt k (rs.take i)) ∧ Hid (StF F wx A (mkStL k (rs.take i) ++ rs.drop i)) ∧ Hid (Wrote KM F w wx)) (fun _ i _ => rs.length - (intOf i).toNat)
  case atStart => exact ⟨0, k, rfl, rfl, Nat.zero_le _, by omega, rfl, (by have h := HM.out; show StF F w A (mkStL k (rs.take 0) ++ rs.drop 0); simpa [mkStL] using h), Wrote.refl _ _ _⟩
  case round =>
    obtain ⟨i, m, rfl, rfl, hi, hm, hme, hinv, hwr⟩ := hrel
    have HE := Lib.hid hme
    have HI := Lib.hid hinv
    have HW := Lib.hid hwr
    clear hinv hwr hme HM
    by_cases hlt : i < rs.length
    · have hri : rs[i]? = some rs[i] := by simp [hlt]
      have hdr : rs.drop i = rs[i] :: rs.drop (i + 1) := List.drop_eq_getElem_cons hlt
      generalize rs[i] = r at hri hdr
      have hmem : r ∈ rs := List.mem_of_getElem? hri
      have hml : (mkStL k (rs.take i)).length = i := by rw [mkStL_length, List.length_take]; omega
      have hst := HI.out
      change StF F wr A (mkStL k (rs.take i) ++ rs.drop i) at hst
      rw [hdr] at hst
      obtain ⟨g, o, cs, rfl, hF, hh, hs, hc⟩ := hst.top (mid_pos _ _ _)
      have hat := hc i r (by have h := mid_at (M := mkStL k (rs.take i)) (x := r) (R := rs.drop (i + 1)); rw [hml] at h; exact h)
      have q0 := (cell_of_block hh _).trans hat.1
      have q1 := (cell_of_block hh _).trans hat.2
      have f0 := free_of_block hh (o + i * 2)
      have h2 := hst.setId (m : Int)
      rw [hml] at h2
      have HS2 := Lib.hid h2.1
      have HW2 := Lib.hid (HW.out.trans h2.2)
      have HOWN := Lib.hid (h2.1.docs ⟨⟨(m : Int), r.d.doc⟩, r.adr, r.cap⟩ (by simp)).pin
      have hrd := HD.out r hmem
      have HRI := Lib.hid hri
      have HLT := Lib.hid hlt
      clear hh hc hF hat hst h2 HI HW hs hdr hri
      go_wp2_with fail
      generalize wr.setCell ⟨g, o + i * 2, none⟩ (.int .i64 (m : Int)) = w1 at HS2 HW2 HOWN ⊢
      refine (markNodeS_any r.d.doc.length (m + 1) r.cap (by omega) (by omega) _ r.adr w1 (HOWN.out.2.len (ndCells_length _))).mono ?_
      rintro e w2 ⟨rfl, ho2, hw2⟩
      have HS3 := Lib.hid (HS2.out.setDoc hw2 (ho2.mono (fun b hb _ => hb.1)) (by rw [mkRow_length]))
      have HW3 := Lib.hid (HW2.out.trans (hw2.mono (fun _ h => .inl h) (fun _ h => h.1)))
      clear ho2 hw2 HS2 HW2 HOWN
      go_wp2
      go_roundw
      case rel =>
        refine ⟨i + 1, m + 1 + 5 * r.d.doc.length, rfl, by go_num, by omega, by omega, ?_, ?_, HW3.out⟩
        · show m + 1 + 5 * r.d.doc.length = endSt k (rs.take (i + 1))
          rw [take_snoc2 HRI.out, endSt_snoc, ← (show m = _ from HE.out)]
        · have h := HS3.out
          show StF F _ _ (mkStL k (rs.take (i + 1)) ++ rs.drop (i + 1))
          rw [take_snoc2 HRI.out, mkStL_snoc, ← (show m = _ from HE.out), List.append_assoc]
          exact h
      case measure => simp [intOf]; omega
    · go_wp2
      go_ret
      obtain rfl : i = rs.length := by omega
      have h1 : m = endSt k (rs.take rs.length) := HE.out
      have h2 : StF F _ A (mkStL k (rs.take rs.length) ++ rs.drop rs.length) := HI.out
      rw [List.take_length] at h1 h2
      rw [List.drop_length, List.append_nil] at h2
      exact ⟨by rw [h1]; rfl, h2, HW.out⟩
set_option maxRecDepth 100000 in
set_option maxHeartbeats 1600000 in
theorem heldStF_any (rs : List StR) (hn : rs.length ≤ 1048576) (hd : ∀ r ∈ rs, r.d.doc.length ≤ 1048576) (k c : Nat) (hk : k ≤ 1000000) (F : Nat → Prop) (A : Option Addr) (w : World) (hw : StF F w A (mkStL k rs)) :
    Calls Tryz.prog 29 #[.slice A rs.length c, .int .i64 (k : Int)] w (fun e w' => e = .returned (.int .i64 (endSt k rs : Int)) ∧ Below w.heap.size w w') := by
  have HM := Lib.hid hw
  have HD := Lib.hid hd
  clear hw hd
  go_enter Tryz.func29, Tryz.ntmps29
  go_wp2
  go_loopw [1, 5] (fun kv iv wx => ∃ i m : Nat, kv = .int .i64 (m : Int) ∧ iv = .int .i64 (i : Int) ∧ i ≤ rs.length ∧ m ≤ k + i * 5242881 ∧ Hid (m = endSt k (rs.take i)) ∧ Below w.heap.size w wx) (fun _ i _ => rs.length - (intOf i).toNat)
  case atStart => exact ⟨0, k, rfl, rfl, Nat.zero_le _, by omega, rfl, Below.refl _ _⟩
  case round =>
    obtain ⟨i, m, rfl, rfl, hi, hm, hme, hbx⟩ := hrel
    have HE := Lib.hid hme
    have HB := Lib.hid hbx
    clear hbx hme
    by_cases hlt : i < rs.length
    · have hri : rs[i]? = some rs[i] := by simp [hlt]
      have hdr : rs.drop i = rs[i] :: rs.drop (i + 1) := List.drop_eq_getElem_cons hlt
      generalize rs[i] = r at hri hdr
      have hrd := HD.out r (List.mem_of_getElem? hri)
      have hml : (mkStL k (rs.take i)).length = i := by rw [mkStL_length, List.length_take]; omega
      have hsplit : ∃ R, mkStL k rs = mkStL k (rs.take i) ++ ⟨⟨(m : Int), mkRow (m + 1) r.d.doc.length⟩, r.adr, r.cap⟩ :: R := by
        have happ : ∀ (a b : List StR) (k : Nat), mkStL k (a ++ b) = mkStL k a ++ mkStL (endSt k a) b := fun a => by
          induction a with
          | nil => intro b k; rfl
          | cons q a ih => intro b k; simp [mkStL, endSt, ih]
        have h := happ (rs.take i) (rs.drop i) k
        rw [List.take_append_drop, hdr, mkStL, ← (show m = _ from HE.out)] at h
        exact ⟨_, h⟩
      obtain ⟨R, hR⟩ := hsplit
      have hst := HM.out.below HB.out
      rw [hR] at hst
      obtain ⟨g, o, cs, rfl, hF, hh, hs, hc⟩ := hst.top (mid_pos _ _ _)
      have hat := hc i _ (by have h := mid_at (M := mkStL k (rs.take i)) (x := (⟨⟨(m : Int), mkRow (m + 1) r.d.doc.length⟩, r.adr, r.cap⟩ : StR)) (R := R); rw [hml] at h; exact h)
      have q0 : wr.cell? ⟨g, o + i * 2, none⟩ = some (.int .i64 (m : Int)) := (cell_of_block hh _).trans hat.1
      have q1 : wr.cell? ⟨g, o + i * 2 + 1, none⟩ = some (.slice r.adr r.d.doc.length r.cap) := by
        have h := (cell_of_block hh _).trans hat.2
        simp only [mkRow_length] at h
        exact h
      have HRI := Lib.hid hri
      have HH := Lib.hid (heldNodeS_any r.d.doc.length (m + 1) r.cap (by omega) (by omega) F r.adr wr (hst.docs _ (by simp : (⟨⟨(m : Int), mkRow (m + 1) r.d.doc.length⟩, r.adr, r.cap⟩ : StR) ∈ mkStL k (rs.take i) ++ ⟨⟨(m : Int), mkRow (m + 1) r.d.doc.length⟩, r.adr, r.cap⟩ :: R)).1)
      clear hh hc hF hat hst hs hdr hri hR
      go_wp2_with fail
      refine HH.out.mono ?_
      rintro e w2 ⟨rfl, hb2⟩
      have HB2 := Lib.hid (below_then HB.out HB.out.size hb2)
      obtain ⟨z, hz⟩ : ∃ z, z = m + 1 + 5 * r.d.doc.length := ⟨_, rfl⟩
      have HZ := Lib.hid hz
      have hzb : z ≤ m + 5242881 := by omega
      rw [← hz]
      have hz0 : ¬ ((z : Int) < 0) := by omega
      clear hb2 HH hz
      go_wp2
      go_roundw
      case rel =>
        refine ⟨i + 1, z, rfl, by go_num, by omega, by omega, ?_, HB2.out⟩
        show z = endSt k (rs.take (i + 1))
        rw [take_snoc2 HRI.out, endSt_snoc, ← (show m = _ from HE.out)]
        exact HZ.out
      case measure => simp [intOf]; omega
    · go_wp2
      go_ret
      obtain rfl : i = rs.length := by omega
      have h1 : m = endSt k (rs.take rs.length) := HE.out
      rw [List.take_length] at h1
      exact ⟨by rw [h1]; rfl, HB.out⟩
end Go.Proofs.YtemcijhpmpdebaaGreatDoor
