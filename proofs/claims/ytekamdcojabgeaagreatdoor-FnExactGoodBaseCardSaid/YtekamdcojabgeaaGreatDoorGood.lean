/- The walks of string and good. -/
import Derived.Test.YtekamdcojabgeaaGreatDoorWrite
namespace Go.Proofs.YtekamdcojabgeaaGreatDoor
open Go.RowKit
theorem byteCells_bv (l : List UInt8) : Lib.byteCells l = bv l := rfl
set_option maxRecDepth 100000 in
set_option maxHeartbeats 1000000 in
theorem string_any (t : Tree) (hbd : t.bounded = true) (hsh : t.shaped) (hcn : t.count ≤ 1000000000) (F : Nat → Prop) (v : Value) (w : World) (ht : TreeAt F w v t) (htab : Tabs w.heap.size w) :
    Calls Tryz.prog 46 #[v] w fun e w' => e = .returned (.string ⟨t.wr.toArray⟩) ∧ Below w.heap.size w w' := by
  have hwl := t.wr_len hbd
  have hb0 : Below w.heap.size w (w.alloc (.cells #[.pointer none, .slice none 0 0] 118)) := (Below.refl _ _).alloc (Nat.le_refl _) _
  have hbi : BuilderIs w.heap.size w.heap.size [] (w.alloc (.cells #[.pointer none, .slice none 0 0] 118)) := .inl ⟨Nat.le_refl _, .slice none 0 0, heap_alloc_new _ _, World.ownsRow_nil _ _ _ _, by simp [Value.ownBlock]⟩
  have HW := Lib.hid (write_any t hbd hsh hcn w.heap.size w.heap.size (fun b => F b ∧ b < w.heap.size) [] v (w.alloc (.cells #[.pointer none, .slice none 0 0] 118)) (ht.frame (Agree.of_below hb0) (fun b h1 h2 => ⟨h1, h2⟩)) (fun b h => h.2) hbi (by simp) (by simp only [List.length_nil]; omega) (htab.below hb0))
  go_enter Tryz.func46, Tryz.ntmps46
  go_wp2_with fail
  refine HW.out.mono ?_
  rintro e w1 ⟨rfl, hb1, hbl1⟩
  have HS := Lib.hid (Tryz.Builder_String_any w.heap.size w.heap.size t.wr w1 (by rw [byteCells_bv]; simpa using hb1) (Nat.le_trans hb0.size hbl1.size))
  go_wp2_with fail
  refine HS.out.mono ?_
  rintro e w2 ⟨rfl, hb2⟩
  go_wp2
  go_ret
  exact ⟨rfl, (hb0.trans hbl1).trans hb2⟩
def Tree.good (t : Tree) : Bool := t.bounded && decide (t.count ≤ 80) && decide (t.deep ≤ 6) && decide (t.wr.length ≤ 300)
def goodO : Option Tree → Bool
  | none => false
  | some t => t.good
theorem run_eql_ptr_nil (b : Nat) (w : World) : (binOp .eql 76 (.pointer (some ⟨b, 0, none⟩)) (.pointer none)).run Tryz.prog w = .ok (.bool false) w := by kernel_rfl
set_option maxRecDepth 100000 in
set_option maxHeartbeats 1000000 in
theorem good_any (o : Option Tree) (F : Nat → Prop) (v : Value) (w : World) (ho : ∀ t, o = some t → t.shaped ∧ t.sized ∧ t.count ≤ 1000000000) (ht : OptAt F w v o) (htab : Tabs w.heap.size w) :
    Calls Tryz.prog 77 #[v] w fun e w' => e = .returned (.bool (goodO o)) ∧ Below w.heap.size w w' := by
  cases o with
  | none =>
    obtain rfl : v = .pointer none := ht
    go_enter Tryz.func77, Tryz.ntmps77
    go_wp2
    go_ret
    exact ⟨rfl, Below.refl _ _⟩
  | some t =>
    obtain ⟨hsh, hsz, hcn⟩ := ho t rfl
    have ht' : TreeAt F w v t := ht
    have hs' := hsz
    rw [Tree.sized_eq] at hs'
    obtain ⟨vb, A1, c1, A2, c2, ps, rfl, hF, hl, h0, h1, h2, _, _, _, _, _, _, _⟩ := ht'.open
    have HB := Lib.hid (bounded_any t hsz F _ w ht')
    have HC := Lib.hid (count_any t hcn F _ w ht')
    have HD := Lib.hid (deep_any t hcn F _ w ht')
    have hdc := Tree.deep_le_count t
    have ss := hs'.1
    cases hbd : t.bounded
    · have hg : goodO (some t) = false := by simp [goodO, Tree.good, hbd]
      have HG := Lib.hid hg
      rw [hbd] at HB
      clear hbd hg ho
      go_enter Tryz.func77, Tryz.ntmps77
      go_wp2_with (first | (go_at_call 41; refine (within_any _ _ _ _).mono ?_; rintro e w' ⟨rfl, rfl⟩) | (go_at_call 113; refine (stringOK_any _ _ ss).mono ?_; rintro e w' ⟨rfl, rfl⟩) | (go_at_call 114; refine HB.out.mono ?_; rintro e w' ⟨rfl, rfl⟩))
      all_goals
        go_ret
        exact ⟨by rw [HG.out]; rfl, Below.refl _ _⟩
    · have hbe := t.bounded_eq
      rw [hbd] at hbe
      have hbe' := hbe.symm
      simp only [Bool.and_eq_true] at hbe'
      obtain ⟨⟨⟨b1, b2⟩, _⟩, _⟩ := hbe'
      have n1 : -1000000000 ≤ t.num ∧ t.num ≤ 1000000000 := by simpa [numOK] using b1
      have n2 := n1.1
      have n3 := n1.2
      have B2 := Lib.hid b2
      have HS := Lib.hid (string_any t hbd hsh hcn F _ w ht' htab)
      have HGE := Lib.hid (show goodO (some t) = (t.bounded && decide (t.count ≤ 80) && decide (t.deep ≤ 6) && decide (t.wr.length ≤ 300)) from rfl)
      have HBD := Lib.hid hbd
      rw [hbd] at HB
      have hwl : t.wr.length ≤ 1000000000000 := by have := t.wr_len hbd; omega
      clear hbd hbe b1 n1 ho
      by_cases q1 : t.count ≤ 80
      · by_cases q2 : t.deep ≤ 6
        · by_cases q3 : t.wr.length ≤ 300
          all_goals
            have HQ := Lib.hid q3
            obtain ⟨R, hR⟩ : ∃ R : ByteArray, R = ⟨t.wr.toArray⟩ := ⟨_, rfl⟩
            have hRs : R.size = t.wr.length := by rw [hR]; rfl
            rw [← hRs] at q3 hwl
            rw [← hR] at HS
            clear hR hRs
            go_enter Tryz.func77, Tryz.ntmps77
            go_wp2_with (first | (go_at_call 41; refine (within_any _ _ _ _).mono ?_; rintro e w' ⟨rfl, rfl⟩) | (go_at_call 113; refine (stringOK_any _ _ ss).mono ?_; rw [B2.out]; rintro e w' ⟨rfl, rfl⟩) | (go_at_call 114; refine HB.out.mono ?_; rintro e w' ⟨rfl, rfl⟩) | (go_at_call 115; refine HC.out.mono ?_; rintro e w' ⟨rfl, rfl⟩) | (go_at_call 116; refine HD.out.mono ?_; rintro e w' ⟨rfl, rfl⟩) | (go_at_call 46; refine HS.out.mono ?_; rintro e w' ⟨rfl, hb1⟩))
            all_goals
              go_ret
              exact ⟨by rw [HGE.out, HBD.out]; have := HQ.out; simp [q1, q2, this] <;> omega, hb1⟩
        · go_enter Tryz.func77, Tryz.ntmps77
          go_wp2_with (first | (go_at_call 41; refine (within_any _ _ _ _).mono ?_; rintro e w' ⟨rfl, rfl⟩) | (go_at_call 113; refine (stringOK_any _ _ ss).mono ?_; rw [B2.out]; rintro e w' ⟨rfl, rfl⟩) | (go_at_call 114; refine HB.out.mono ?_; rintro e w' ⟨rfl, rfl⟩) | (go_at_call 115; refine HC.out.mono ?_; rintro e w' ⟨rfl, rfl⟩) | (go_at_call 116; refine HD.out.mono ?_; rintro e w' ⟨rfl, rfl⟩))
          all_goals
            go_ret
            exact ⟨by rw [HGE.out]; simp [q2], Below.refl _ _⟩
      · go_enter Tryz.func77, Tryz.ntmps77
        go_wp2_with (first | (go_at_call 41; refine (within_any _ _ _ _).mono ?_; rintro e w' ⟨rfl, rfl⟩) | (go_at_call 113; refine (stringOK_any _ _ ss).mono ?_; rw [B2.out]; rintro e w' ⟨rfl, rfl⟩) | (go_at_call 114; refine HB.out.mono ?_; rintro e w' ⟨rfl, rfl⟩) | (go_at_call 115; refine HC.out.mono ?_; rintro e w' ⟨rfl, rfl⟩))
        all_goals
          go_ret
          exact ⟨by rw [HGE.out]; simp [q1], Below.refl _ _⟩
end Go.Proofs.YtekamdcojabgeaaGreatDoor
