/- The walk of valOf and GoodValue: a good value as a tree. -/
import Derived.Test.YtemcijhpmpdebaaGreatDoorSub
import Derived.Test.YtemcijhpmpdebaaGreatDoorVal3
namespace Go.Proofs.YtemcijhpmpdebaaGreatDoor
open Go.RowKit
/-- The nodes are those of this good tree. -/
def IsGood (l : List Nd) (t : Tree) : Prop := l = t.flat emptyB (-1) 0 ∧ t.ok = true ∧ t.good = true
/-- What valOf finds. -/
def ValOf (l : List Nd) (o : Option Tree) : Prop := (∀ t, o = some t → IsGood l t) ∧ (o = none → ∀ t, ¬ IsGood l t)
mutual
theorem Tree.ok_shaped : ∀ t : Tree, t.ok = true → t.shaped
  | .mk k n tx ns ks, h => by
    rw [Tree.ok] at h
    simp only [Bool.and_eq_true] at h
    rw [Tree.shaped]
    refine ⟨fun hk => ?_, Tree.okL_shaped ks h.2⟩
    have := h.1.1.2
    rw [if_pos hk] at this
    simp only [Bool.and_eq_true, decide_eq_true_eq] at this
    exact this.1.1
theorem Tree.okL_shaped : ∀ ks : List Tree, Tree.okL ks = true → Tree.shapedL ks
  | [], _ => by rw [Tree.shapedL]; trivial
  | k :: ks, h => by
    rw [Tree.okL, Bool.and_eq_true] at h
    rw [Tree.shapedL]
    exact ⟨Tree.ok_shaped k h.1, Tree.okL_shaped ks h.2⟩
end
theorem strOK_sized (s : ByteArray) (h : strOK s = true) : Sized s := by
  simp only [strOK, Bool.and_eq_true, decide_eq_true_eq] at h
  unfold Sized
  omega
mutual
theorem Tree.ok_sized : ∀ t : Tree, t.ok = true → t.count ≤ 1000000000 → t.sized
  | .mk k n tx ns ks, h, hc => by
    rw [Tree.ok] at h
    simp only [Bool.and_eq_true] at h
    rw [Tree.count] at hc
    have hkl := Tree.kids_le_count ks
    rw [Tree.sized]
    have hn := h.1.1.2
    refine ⟨strOK_sized _ h.1.1.1.2, ?_, by omega, ?_, Tree.okL_sized ks h.2 (by omega)⟩
    · split at hn
      · simp only [Bool.and_eq_true, decide_eq_true_eq] at hn; omega
      · rw [List.isEmpty_iff] at hn; rw [hn]; simp
    · intro s hs
      split at hn
      · simp only [Bool.and_eq_true, List.all_eq_true] at hn
        exact strOK_sized s (hn.1.2 s hs)
      · rw [List.isEmpty_iff] at hn; rw [hn] at hs; simp at hs
theorem Tree.okL_sized : ∀ ks : List Tree, Tree.okL ks = true → Tree.countL ks ≤ 1000000000 → Tree.sizedL ks
  | [], _, _ => by rw [Tree.sizedL]; trivial
  | k :: ks, h, hc => by
    rw [Tree.okL, Bool.and_eq_true] at h
    rw [Tree.countL] at hc
    rw [Tree.sizedL]
    exact ⟨Tree.ok_sized k h.1 (by omega), Tree.okL_sized ks h.2 (by omega)⟩
end
theorem IsGood.count {l : List Nd} {t : Tree} (h : IsGood l t) : l.length = t.count ∧ t.count ≤ 80 := by
  obtain ⟨h1, _, h3⟩ := h
  simp only [Tree.good, Bool.and_eq_true, decide_eq_true_eq] at h3
  exact ⟨by rw [h1, Tree.flat_length], h3.1.1.2⟩
theorem IsGood.up {l : List Nd} {t : Tree} (h : IsGood l t) : ∃ x, l[0]? = some x ∧ x.up = -1 := by
  rw [h.1, Tree.flat_eq]
  exact ⟨_, rfl, rfl⟩
theorem run_eql_nil_nil_val (w : World) : (binOp .eql 123 (.pointer none) (.pointer none)).run Tryz.prog w = .ok (.bool true) w := by kernel_rfl
def VOPost (l : List Nd) (w : World) (e : Ending) (w' : World) : Prop := Below w.heap.size w w' ∧ ∃ o v, e = .returned v ∧ OptAt (fun b => w.heap.size ≤ b) w' v o ∧ ValOf l o
set_option maxRecDepth 100000 in
set_option maxHeartbeats 2000000 in
theorem valOf_any (l : List Nd) (hn : l.length ≤ 1000000000000) (hsz : ∀ x ∈ l, x.text.size ≤ 9223372036854775807 ∧ x.name.size ≤ 9223372036854775807) (F : Nat → Prop) (A : Option Addr) (c : Nat) (hc : l.length ≤ c) (w : World) (hr : Rds F w A (ndCells l)) (htab : Tabs w.heap.size w) :
    Calls Tryz.prog 89 #[.agg #[.slice A l.length c]] w (VOPost l w) := by
  have hb0 : ∀ o, Below w.heap.size w (w.alloc o) := fun o => (Below.refl _ _).alloc (Nat.le_refl _) _
  by_cases h1 : 1 ≤ l.length ∧ l.length ≤ 80
  case neg =>
    have hno : ValOf l none := ⟨fun t h => (by cases h), fun _ t ht => by
      have := ht.count
      have := t.count_eq
      omega⟩
    have HNO := Lib.hid hno
    clear hno hr
    by_cases h2 : 1 ≤ l.length
    · have h3 : ¬ l.length ≤ 80 := fun h => h1 ⟨h2, h⟩
      clear h1
      go_enter Tryz.func89, Tryz.ntmps89
      go_wp2_with (go_at_call 35; refine (within_any _ _ _ _).mono ?_; rintro e w' ⟨rfl, rfl⟩)
      go_ret
      exact ⟨hb0 _, none, _, rfl, rfl, HNO.out⟩
    · clear h1
      go_enter Tryz.func89, Tryz.ntmps89
      go_wp2_with (go_at_call 35; refine (within_any _ _ _ _).mono ?_; rintro e w' ⟨rfl, rfl⟩)
      go_ret
      exact ⟨hb0 _, none, _, rfl, rfl, HNO.out⟩
  case pos =>
  obtain ⟨h2, h3⟩ := h1
  obtain ⟨b, o, x, rfl, hF, hl, hx, c0, c1, c2, c3, c4⟩ := nd_at hr 0 (by omega)
  simp only [Nat.zero_mul, Nat.add_zero] at c0 c1 c2 c3 c4
  have HX := Lib.hid hx
  clear c0 c1 c2 c3 hx
  by_cases hu : x.up = -1
  case neg =>
    have hno : ValOf l none := ⟨fun t h => (by cases h), fun _ t ht => by
      obtain ⟨x', hx', hu'⟩ := ht.up
      rw [HX.out] at hx'
      injection hx' with hx'
      subst hx'
      exact hu hu'⟩
    have HNO := Lib.hid hno
    have hu' : (x.up == -1) = false := by simpa using hu
    have hu2 : (x.up != -1) = true := by simpa using hu
    clear hno
    go_enter Tryz.func89, Tryz.ntmps89
    go_wp2_with (go_at_call 35; refine (within_any _ _ _ _).mono ?_; rintro e w' ⟨rfl, rfl⟩)
    go_ret
    exact ⟨hb0 _, none, _, rfl, rfl, HNO.out⟩
  case pos =>
  have HU := Lib.hid hu
  rw [hu] at c4
  clear hu
  have hV := valFrom_any l (by omega) hsz F (some ⟨b, o, none⟩) c hc (l.length - 0) 0 0 (w.alloc (.cells #[.slice (some ⟨b, o, none⟩) l.length c] 55)) rfl (by omega) (hr.frame (Agree.of_below (hb0 _)))
  have HV := Lib.hid hV
  clear hV
  go_enter Tryz.func89, Tryz.ntmps89
  go_wp2_with (go_at_call 35; refine (within_any _ _ _ _).mono ?_; rintro e w' ⟨rfl, rfl⟩)
  refine HV.out.mono ?_
  rintro e w1 ⟨hb1, r, v, hvf, rfl, hopt⟩
  have hbw := (hb0 (.cells #[.slice (some ⟨b, o, none⟩) l.length c] 55)).trans (hb1.mono (by simp))
  have hiff := fun t => VF_iff hvf (fun x' hx' => by rw [HX.out] at hx'; injection hx' with hx'; subst hx'; exact HU.out) t
  have HIFF := Lib.hid hiff
  have hvb := Lib.hid hvf
  have k0 : w1.cell? ⟨w.heap.size, 0, none⟩ = some (.slice (some ⟨b, o, none⟩) l.length c) := by
    have := (hb1.cell (p := ⟨w.heap.size, 0, none⟩) (by simp)).trans (World.cell?_alloc_new w #[.slice (some ⟨b, o, none⟩) l.length c] 55 0)
    simpa using this
  clear hiff hvf
  rcases r with _ | ⟨t, e⟩
  · obtain rfl : v = .pointer none := hopt
    have hno : ValOf l none := ⟨fun t h => (by cases h), fun _ t ht => by
      have := (HIFF.out t).2 ⟨ht.1, ht.2.1⟩
      cases this⟩
    have HNO := Lib.hid hno
    clear hno
    go_wp2
    go_ret
    exact ⟨hbw, none, _, rfl, rfl, HNO.out⟩
  · have hbd := VF.bound hvb.out
    have hopt' : TreeAt _ w1 v t := hopt
    obtain ⟨pb, _, _, _, _, _, rfl, hpF, hpl, _⟩ := hopt'.open
    have HOPT := Lib.hid hopt'
    clear hopt hopt'
    by_cases he : e = l.length
    · have hg := (HIFF.out t).1 (by rw [he])
      have hcnt : t.count ≤ 80 := by rw [← Tree.flat_length t emptyB (-1) 0, ← hg.1]; exact h3
      have HG := Lib.hid (good_any (some t) _ _ w1 (fun t' ht' => by injection ht' with ht'; subst ht'; exact ⟨t.ok_shaped hg.2, t.ok_sized hg.2 (by omega), by omega⟩) HOPT.out ((htab.below hbw).mono hbw.size))
      have hne1 : ((e : Int) != (l.length : Int)) = false := by simp [he]
      have hne2 : ((e : Int) == (l.length : Int)) = true := by simp [he]
      have HE := Lib.hid he
      have HGG := Lib.hid hg
      clear he hg
      cases hgd : t.good
      · have hgo : goodO (some t) = false := hgd
        rw [hgo] at HG
        have HGD := Lib.hid hgd
        clear hgd hgo
        have hno : ValOf l none := ⟨fun t h => (by cases h), fun _ t' ht => by
          have := (HIFF.out t').2 ⟨ht.1, ht.2.1⟩
          injection this with this
          injection this with this _
          subst this
          have h3 := ht.2.2
          rw [HGD.out] at h3
          cases h3⟩
        have HNO := Lib.hid hno
        clear hno
        go_wp2_with (go_at_call 113; refine HG.out.mono ?_; rintro e w' ⟨rfl, hb2⟩)
        go_ret
        exact ⟨below_then hbw hbw.size hb2, none, _, rfl, rfl, HNO.out⟩
      · have hgo : goodO (some t) = true := hgd
        rw [hgo] at HG
        have HGD := Lib.hid hgd
        clear hgd hgo
        go_wp2_with (go_at_call 113; refine HG.out.mono ?_; rintro e w' ⟨rfl, hb2⟩)
        go_ret
        exact ⟨below_then hbw hbw.size hb2, some t, _, rfl, (HOPT.out.below hb2).frame (Agree.refl _ _) (fun b h _ => by simp at h; omega), ⟨fun t' ht' => by injection ht' with ht'; subst ht'; exact ⟨HGG.out.1, HGG.out.2, HGD.out⟩, fun h => by cases h⟩⟩
    · have hno : ValOf l none := ⟨fun t h => (by cases h), fun _ t' ht => by
        have := (HIFF.out t').2 ⟨ht.1, ht.2.1⟩
        injection this with this
        injection this with _ this
        exact he this⟩
      have HNO := Lib.hid hno
      have hne1 : ((e : Int) != (l.length : Int)) = true := by simp; omega
      have hne2 : ((e : Int) == (l.length : Int)) = false := by simp; omega
      clear hno he
      go_wp2
      go_ret
      exact ⟨hbw, none, _, rfl, rfl, HNO.out⟩
end Go.Proofs.YtemcijhpmpdebaaGreatDoor
