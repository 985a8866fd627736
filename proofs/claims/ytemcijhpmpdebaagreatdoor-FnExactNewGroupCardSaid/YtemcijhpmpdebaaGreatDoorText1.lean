/- The walk of l1Text: leaves. -/
import Derived.Test.YtemcijhpmpdebaaGreatDoorSub
import Derived.Test.YtemcijhpmpdebaaGreatDoorSpec2
import Derived.Test.YtemcijhpmpdebaaGreatDoorValOf
namespace Go.Proofs.YtemcijhpmpdebaaGreatDoor
open Go.RowKit
mutual
theorem Tree.ok_bounded : ∀ t : Tree, t.ok = true → t.bounded = true
  | .mk k n t ns ks, h => by
    rw [Tree.ok] at h
    simp only [Bool.and_eq_true] at h
    rw [Tree.bounded]
    simp only [Bool.and_eq_true]
    refine ⟨⟨⟨h.1.1.1.1.2, h.1.1.1.2⟩, ?_⟩, Tree.okL_bounded ks h.2⟩
    have hn := h.1.1.2
    split at hn
    · simp only [Bool.and_eq_true] at hn; exact hn.1.2
    · rw [List.isEmpty_iff] at hn; rw [hn]; rfl
theorem Tree.okL_bounded : ∀ ks : List Tree, Tree.okL ks = true → Tree.boundedL ks = true
  | [], _ => rfl
  | k :: ks, h => by
    rw [Tree.okL, Bool.and_eq_true] at h
    rw [Tree.boundedL, Tree.ok_bounded k h.1, Tree.okL_bounded ks h.2]; rfl
end
theorem Tree.okL_all (ks : List Tree) : Tree.okL ks = ks.all Tree.ok := by
  induction ks with
  | nil => rfl
  | cons k ks ih => simp [Tree.okL, ih]
theorem Tree.ok_eq (t : Tree) : t.ok = true → (1 ≤ t.kind ∧ t.kind ≤ 7) ∧ numOK t.num = true ∧ strOK t.text = true ∧ (t.kind = 7 → t.names.length = t.kids.length) ∧ t.names.all strOK = true ∧ ∀ x ∈ t.kids, x.ok = true := by
  intro h
  have hb := Tree.ok_bounded t h
  have hs := Tree.ok_shaped t h
  rw [Tree.bounded_eq] at hb
  simp only [Bool.and_eq_true] at hb
  cases t with
  | mk k n t ns ks =>
  rw [Tree.shaped] at hs
  rw [Tree.ok] at h
  simp only [Bool.and_eq_true, decide_eq_true_eq] at h
  have h7 := h.2
  rw [Tree.okL_all, List.all_eq_true] at h7
  exact ⟨h.1.1.1.1.1.1.1, hb.1.1.1, hb.1.1.2, hs.1, hb.1.2, h7⟩
def TxSpec (t : Tree) : Prop := t.ok = true → t.count ≤ 1000000 → ∀ (l : List Nd) (_ : l.length ≤ 1000000) (a : Nat) (_ : Sub l a t) (F : Nat → Prop) (A : Option Addr) (c : Nat) (w : World) (_ : Rds F w A (ndCells l)),
  Calls Tryz.prog 88 #[.agg #[.slice A l.length c], .int .i64 (a : Int)] w fun e w' => e = .returned (.string ⟨t.wr.toArray⟩) ∧ Below w.heap.size w w'
set_option maxRecDepth 100000 in
set_option maxHeartbeats 1600000 in
theorem text_leaf (t : Tree) (hk : t.kind ≤ 5) : TxSpec t := by
  intro hok hcn l hl a hsub F A c w hr
  obtain ⟨⟨o1, o2⟩, o3, o4, o5, o6, o7⟩ := t.ok_eq hok
  obtain ⟨x, hx, e1, e2, e3⟩ := hsub.node
  have hal : a < l.length := (List.getElem?_eq_some_iff.1 hx).1
  obtain ⟨b, o, x', rfl, hF, hbl, hx', g0, g1, g2, g3, g4⟩ := nd_at hr a hal
  rw [hx] at hx'
  injection hx' with hx'
  subst hx'
  rw [e1] at g0
  rw [e2] at g1
  rw [e3] at g2
  have hal' : (a : Int) < (l.length : Int) := by omega
  have HWR := Lib.hid t.wr_eq
  have hb0 : ∀ o1 o2, Below w.heap.size w ((w.alloc o1).alloc o2) := fun o1 o2 => ((Below.refl _ _).alloc (Nat.le_refl _) _).alloc (by simp) _
  have HB0 := Lib.hid hb0
  simp only [numOK, Bool.and_eq_true, decide_eq_true_eq] at o3
  have hsz : t.text.size ≤ 24 := by have := strOK_len _ o4; simpa using this
  have hI := Lib.hid (sInt_any t.num o3.1 o3.2)
  have hQ := Lib.hid (sQuote_any t.text (by omega))
  clear hx e1 e2 e3 hr hsub o4 o6 o7 o5 hok hb0
  have hkk : t.kind = 1 ∨ t.kind = 2 ∨ t.kind = 3 ∨ t.kind = 4 ∨ t.kind = 5 := by omega
  rcases hkk with k | k | k | k | k
  all_goals
    have K := Lib.hid k
    rw [k] at g0
    clear k o1 o2 hk
    go_enter Tryz.func88, Tryz.ntmps88
  · go_wp2
    go_ret
    exact ⟨by rw [HWR.out, if_pos K.out]; rfl, HB0.out _ _⟩
  · go_wp2
    go_ret
    exact ⟨by rw [HWR.out, if_neg (by rw [K.out]; decide), if_pos K.out]; rfl, HB0.out _ _⟩
  · go_wp2
    go_ret
    exact ⟨by rw [HWR.out, if_neg (by rw [K.out]; decide), if_neg (by rw [K.out]; decide), if_pos K.out]; rfl, HB0.out _ _⟩
  · go_wp2_with fail
    refine (hI.out _).mono ?_
    rintro e w1 ⟨rfl, hb1⟩
    have HB1 := Lib.hid (below_then (HB0.out _ _) (HB0.out _ _).size hb1)
    clear hb1
    go_wp2
    go_ret
    exact ⟨by rw [HWR.out, if_neg (by rw [K.out]; decide), if_neg (by rw [K.out]; decide), if_neg (by rw [K.out]; decide), if_pos K.out]; rfl, HB1.out⟩
  · go_wp2_with fail
    refine (hQ.out _).mono ?_
    rintro e w1 ⟨rfl, rfl⟩
    go_wp2
    go_ret
    exact ⟨by rw [HWR.out, if_neg (by rw [K.out]; decide), if_neg (by rw [K.out]; decide), if_neg (by rw [K.out]; decide), if_neg (by rw [K.out]; decide), if_pos K.out]; rfl, HB0.out _ _⟩
end Go.Proofs.YtemcijhpmpdebaaGreatDoor
