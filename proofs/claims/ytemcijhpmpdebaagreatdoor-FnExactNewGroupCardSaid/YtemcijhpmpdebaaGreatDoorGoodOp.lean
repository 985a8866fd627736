/- The walks of GoodOp: the reference's and the program's. -/
import Derived.Test.YtemcijhpmpdebaaGreatDoorSpec3
import Derived.Test.YtemcijhpmpdebaaGreatDoorOp1
namespace Go.Proofs.YtemcijhpmpdebaaGreatDoor
open Go.RowKit
def inB (n lo hi : Int) : Bool := decide (lo ≤ n) && decide (n ≤ hi)
def opR (p : OpV) : Bool := inB p.id 0 100 && (inB p.session 0 100 && inB p.no 1 1000)
def opG (p : OpV) (l : List Nd) (g : Bool) : Bool := opR p && (if p.kind = 1 then g else if p.kind = 2 then decide (l.length = 0) else false)
def GOP (p : OpV) (l : List Nd) (w : World) (e : Ending) (w' : World) : Prop := Below w.heap.size w w' ∧ ∃ g, e = .returned (.bool (opG p l g)) ∧ IsVal l g
theorem isVal_ex (l : List Nd) : ∃ g, IsVal l g := by
  by_cases h : ∃ t, IsGood l t
  · exact ⟨true, fun _ => h, fun _ => rfl⟩
  · exact ⟨false, (fun h => by cases h), fun h' => absurd h' h⟩
theorem gop_no {p : OpV} {l : List Nd} {w w' : World} (h : opR p = false) (hb : Below w.heap.size w w') : GOP p l w (.returned (.bool false)) w' := by
  obtain ⟨g, hg⟩ := isVal_ex l
  exact ⟨hb, g, by rw [opG, h]; rfl, hg⟩
theorem gop_del {p : OpV} {l : List Nd} {w w' : World} {r : Bool} (h : opR p = true) (hk : p.kind = 2) (hr : r = decide (l.length = 0)) (hb : Below w.heap.size w w') : GOP p l w (.returned (.bool r)) w' := by
  obtain ⟨g, hg⟩ := isVal_ex l
  exact ⟨hb, g, by rw [opG, h, if_neg (by omega), if_pos hk, hr]; rfl, hg⟩
theorem gop_else {p : OpV} {l : List Nd} {w w' : World} (h1 : p.kind ≠ 1) (h2 : p.kind ≠ 2) (hb : Below w.heap.size w w') : GOP p l w (.returned (.bool false)) w' := by
  obtain ⟨g, hg⟩ := isVal_ex l
  exact ⟨hb, g, by rw [opG, if_neg h1, if_neg h2, Bool.and_false], hg⟩
theorem gop_put {p : OpV} {l : List Nd} {w w' : World} {g : Bool} (h : opR p = true) (hk : p.kind = 1) (hg : IsVal l g) (hb : Below w.heap.size w w') : GOP p l w (.returned (.bool g)) w' :=
  ⟨hb, g, by rw [opG, h, if_pos hk]; rfl, hg⟩
set_option maxHeartbeats 1000000 in
theorem sGoodOp_any (p : OpV) (l : List Nd) (hl : l.length ≤ 1000000000) (hsz : ∀ x ∈ l, x.text.size ≤ 9223372036854775807 ∧ x.name.size ≤ 9223372036854775807) (F : Nat → Prop) (A : Option Addr) (c : Nat) (w : World) (hr : Rds F w A (ndCells l)) :
    Calls Tryz.prog 31 #[p.val A l.length c] w (GOP p l w) := by
  have hb0 : ∀ o1, Below w.heap.size w (w.alloc o1) := fun o1 => (Below.refl _ _).alloc (Nat.le_refl _) _
  have HB0 := Lib.hid hb0
  have HC := Lib.hid (fun w1 (hb : Below w.heap.size w w1) => sGoodValue_any l hl hsz F A c w1 (hr.frame (Agree.of_below hb)))
  clear hr hb0
  unfold OpV.val
  by_cases k1 : p.kind = 1
  all_goals
    cases c1 : decide (0 ≤ p.id) && decide (p.id ≤ 100)
    · have C1 := Lib.hid c1
      have K1 := Lib.hid k1
      go_enter Tryz.func31, Tryz.ntmps31
      go_wp2_with (go_at_call 33; refine (sIn_any _ _ _ _).mono ?_; rintro e w' ⟨rfl, rfl⟩)
      go_ret
      exact gop_no (by simp only [opR, inB, C1.out]; rfl) (HB0.out _)
    cases c2 : decide (0 ≤ p.session) && decide (p.session ≤ 100)
    · have C1 := Lib.hid c1
      have C2 := Lib.hid c2
      have K1 := Lib.hid k1
      go_enter Tryz.func31, Tryz.ntmps31
      go_wp2_with (go_at_call 33; refine (sIn_any _ _ _ _).mono ?_; rintro e w' ⟨rfl, rfl⟩)
      go_ret
      exact gop_no (by simp only [opR, inB, C1.out, C2.out]; rfl) (HB0.out _)
    cases c3 : decide (1 ≤ p.no) && decide (p.no ≤ 1000)
    · have C1 := Lib.hid c1
      have C2 := Lib.hid c2
      have C3 := Lib.hid c3
      have K1 := Lib.hid k1
      go_enter Tryz.func31, Tryz.ntmps31
      go_wp2_with (go_at_call 33; refine (sIn_any _ _ _ _).mono ?_; rintro e w' ⟨rfl, rfl⟩)
      go_ret
      exact gop_no (by simp only [opR, inB, C1.out, C2.out, C3.out]; rfl) (HB0.out _)
    have hR : Hid (opR p = true) := by simp only [opR, inB, c1, c2, c3]; rfl
  · have K1 := Lib.hid k1
    have kb : (p.kind == 1) = true := by simp [k1]
    clear k1
    go_enter Tryz.func31, Tryz.ntmps31
    go_wp2_with (go_at_call 33; refine (sIn_any _ _ _ _).mono ?_; rintro e w' ⟨rfl, rfl⟩)
    refine (HC.out _ (HB0.out _)).mono ?_
    rintro e w2 ⟨hb2, g, rfl, hg⟩
    have HB2 := Lib.hid (below_then (HB0.out _) (HB0.out _).size hb2)
    have HG := Lib.hid hg
    clear hg
    have k0 := block_below (heap_alloc_new w _) hb2
    have x0 := cell_of_block k0 0
    simp at x0
    clear k0 hb2
    cases g
    · have kb2 : (p.kind == 2) = false := by have := K1.out; simp; omega
      go_wp2
      go_ret
      exact gop_put hR.out K1.out HG.out HB2.out
    · go_wp2
      go_ret
      exact gop_put hR.out K1.out HG.out HB2.out
  · have K1 := Lib.hid k1
    have kb : (p.kind == 1) = false := by simpa using k1
    clear k1
    by_cases k2 : p.kind = 2
    · have K2 := Lib.hid k2
      have kb2 : (p.kind == 2) = true := by simp [k2]
      clear k2
      go_enter Tryz.func31, Tryz.ntmps31
      go_wp2_with (first | (go_at_call 33; refine (sIn_any _ _ _ _).mono ?_; rintro e w' ⟨rfl, rfl⟩) | (go_at_call 62; refine (sZero_any _ _ _ _).mono ?_; rintro e w' ⟨rfl, hb⟩))
      go_ret
      exact gop_del hR.out K2.out (by simp) (below_then (HB0.out _) (HB0.out _).size hb)
    · have K2 := Lib.hid k2
      have kb2 : (p.kind == 2) = false := by simpa using k2
      clear k2
      go_enter Tryz.func31, Tryz.ntmps31
      go_wp2_with (go_at_call 33; refine (sIn_any _ _ _ _).mono ?_; rintro e w' ⟨rfl, rfl⟩)
      go_ret
      exact gop_else K1.out K2.out (HB0.out _)
set_option maxHeartbeats 1000000 in
theorem goodOp_any (p : OpV) (l : List Nd) (hl : l.length ≤ 1000000000) (hsz : ∀ x ∈ l, x.text.size ≤ 9223372036854775807 ∧ x.name.size ≤ 9223372036854775807) (F : Nat → Prop) (A : Option Addr) (c : Nat) (hc : l.length ≤ c) (w : World) (hr : Rds F w A (ndCells l)) (htab : Tabs w.heap.size w) :
    Calls Tryz.prog 38 #[p.val A l.length c] w (GOP p l w) := by
  have hb0 : ∀ o1, Below w.heap.size w (w.alloc o1) := fun o1 => (Below.refl _ _).alloc (Nat.le_refl _) _
  have HB0 := Lib.hid hb0
  have HC := Lib.hid (fun w1 (hb : Below w.heap.size w w1) => goodValue_any l (by omega) hsz F A c hc w1 (hr.frame (Agree.of_below hb)) ((htab.below hb).mono hb.size))
  clear hr hb0 htab
  unfold OpV.val
  cases c1 : decide (0 ≤ p.id) && decide (p.id ≤ 100)
  · have C1 := Lib.hid c1
    go_enter Tryz.func38, Tryz.ntmps38
    go_wp2_with (go_at_call 35; refine (within_any _ _ _ _).mono ?_; rintro e w' ⟨rfl, rfl⟩)
    go_ret
    exact gop_no (by simp only [opR, inB, C1.out]; rfl) (HB0.out _)
  cases c2 : decide (0 ≤ p.session) && decide (p.session ≤ 100)
  · have C1 := Lib.hid c1
    have C2 := Lib.hid c2
    go_enter Tryz.func38, Tryz.ntmps38
    go_wp2_with (go_at_call 35; refine (within_any _ _ _ _).mono ?_; rintro e w' ⟨rfl, rfl⟩)
    go_ret
    exact gop_no (by simp only [opR, inB, C1.out, C2.out]; rfl) (HB0.out _)
  cases c3 : decide (1 ≤ p.no) && decide (p.no ≤ 1000)
  · have C1 := Lib.hid c1
    have C2 := Lib.hid c2
    have C3 := Lib.hid c3
    go_enter Tryz.func38, Tryz.ntmps38
    go_wp2_with (go_at_call 35; refine (within_any _ _ _ _).mono ?_; rintro e w' ⟨rfl, rfl⟩)
    go_ret
    exact gop_no (by simp only [opR, inB, C1.out, C2.out, C3.out]; rfl) (HB0.out _)
  have hR : Hid (opR p = true) := by simp only [opR, inB, c1, c2, c3]; rfl
  by_cases k1 : p.kind = 1
  · have K1 := Lib.hid k1
    have kb : (p.kind == 1) = true := by simp [k1]
    clear k1
    go_enter Tryz.func38, Tryz.ntmps38
    go_wp2_with (go_at_call 35; refine (within_any _ _ _ _).mono ?_; rintro e w' ⟨rfl, rfl⟩)
    refine (HC.out _ (HB0.out _)).mono ?_
    rintro e w2 hgv
    obtain ⟨hb2, g, rfl, hg⟩ := gvp_of hgv
    have HB2 := Lib.hid (below_then (HB0.out _) (HB0.out _).size hb2)
    have HG := Lib.hid hg
    clear hg hb2 hgv
    go_wp2
    go_ret
    exact gop_put hR.out K1.out HG.out HB2.out
  · have K1 := Lib.hid k1
    have kb : (p.kind == 1) = false := by simpa using k1
    clear k1
    by_cases k2 : p.kind = 2
    · have K2 := Lib.hid k2
      have kb2 : (p.kind == 2) = true := by simp [k2]
      clear k2
      go_enter Tryz.func38, Tryz.ntmps38
      go_wp2_with (go_at_call 35; refine (within_any _ _ _ _).mono ?_; rintro e w' ⟨rfl, rfl⟩)
      go_ret
      exact gop_del hR.out K2.out (by cases l <;> simp <;> omega) (HB0.out _)
    · have K2 := Lib.hid k2
      have kb2 : (p.kind == 2) = false := by simpa using k2
      clear k2
      go_enter Tryz.func38, Tryz.ntmps38
      go_wp2_with (go_at_call 35; refine (within_any _ _ _ _).mono ?_; rintro e w' ⟨rfl, rfl⟩)
      go_ret
      exact gop_else K1.out K2.out (HB0.out _)
end Go.Proofs.YtemcijhpmpdebaaGreatDoor
