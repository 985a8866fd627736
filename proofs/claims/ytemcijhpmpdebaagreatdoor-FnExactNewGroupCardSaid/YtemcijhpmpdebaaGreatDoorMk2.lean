/- What the laws write into voters, askers and texts, told exactly; what they find there again. -/
import Derived.Test.YtemcijhpmpdebaaGreatDoorMk1
namespace Go.Proofs.YtemcijhpmpdebaaGreatDoor
open Go.RowKit
set_option maxRecDepth 100000 in
theorem markInt0 (x : Int) (w : World) : Calls Tryz.prog 92 #[.slice none 0 0, .int .i64 x] w fun e w' => e = .returned (.int .i64 x) ∧ Below w.heap.size w w' := by
  go_enter Tryz.func92, Tryz.ntmps92
  go_wp2
  go_loopw [1, 5] (fun kv iv wx => kv = .int .i64 x ∧ iv = .int .i64 0 ∧ wx = w) (fun _ _ _ => 0)
  case atStart => exact ⟨rfl, rfl, rfl⟩
  case round =>
    obtain ⟨rfl, rfl, rfl⟩ := hrel
    go_wp2
    go_ret
    exact ⟨rfl, Below.refl _ _⟩
set_option maxRecDepth 100000 in
theorem heldInt0 (x : Int) (w : World) : Calls Tryz.prog 93 #[.slice none 0 0, .int .i64 x] w fun e w' => e = .returned (.int .i64 x) ∧ Below w.heap.size w w' := by
  go_enter Tryz.func93, Tryz.ntmps93
  go_wp2
  go_loopw [1, 5] (fun kv iv wx => kv = .int .i64 x ∧ iv = .int .i64 0 ∧ wx = w) (fun _ _ _ => 0)
  case atStart => exact ⟨rfl, rfl, rfl⟩
  case round =>
    obtain ⟨rfl, rfl, rfl⟩ := hrel
    go_wp2
    go_ret
    exact ⟨rfl, Below.refl _ _⟩
set_option maxRecDepth 100000 in
theorem markNote0 (x : Int) (w : World) : Calls Tryz.prog 70 #[.slice none 0 0, .int .i64 x] w fun e w' => e = .returned (.int .i64 x) ∧ Below w.heap.size w w' := by
  go_enter Tryz.func70, Tryz.ntmps70
  go_wp2
  go_loopw [1, 5] (fun kv iv wx => kv = .int .i64 x ∧ iv = .int .i64 0 ∧ wx = w) (fun _ _ _ => 0)
  case atStart => exact ⟨rfl, rfl, rfl⟩
  case round =>
    obtain ⟨rfl, rfl, rfl⟩ := hrel
    go_wp2
    go_ret
    exact ⟨rfl, Below.refl _ _⟩
set_option maxRecDepth 100000 in
theorem heldNote0 (x : Int) (w : World) : Calls Tryz.prog 75 #[.slice none 0 0, .int .i64 x] w fun e w' => e = .returned (.int .i64 x) ∧ Below w.heap.size w w' := by
  go_enter Tryz.func75, Tryz.ntmps75
  go_wp2
  go_loopw [1, 5] (fun kv iv wx => kv = .int .i64 x ∧ iv = .int .i64 0 ∧ wx = w) (fun _ _ _ => 0)
  case atStart => exact ⟨rfl, rfl, rfl⟩
  case round =>
    obtain ⟨rfl, rfl, rfl⟩ := hrel
    go_wp2
    go_ret
    exact ⟨rfl, Below.refl _ _⟩
set_option maxRecDepth 100000 in
theorem markVote0 (x : Int) (w : World) : Calls Tryz.prog 71 #[.slice none 0 0, .int .i64 x] w fun e w' => e = .returned (.int .i64 x) ∧ Below w.heap.size w w' := by
  go_enter Tryz.func71, Tryz.ntmps71
  go_wp2
  go_loopw [1, 5] (fun kv iv wx => kv = .int .i64 x ∧ iv = .int .i64 0 ∧ wx = w) (fun _ _ _ => 0)
  case atStart => exact ⟨rfl, rfl, rfl⟩
  case round =>
    obtain ⟨rfl, rfl, rfl⟩ := hrel
    go_wp2
    go_ret
    exact ⟨rfl, Below.refl _ _⟩
set_option maxRecDepth 100000 in
theorem heldVote0 (x : Int) (w : World) : Calls Tryz.prog 76 #[.slice none 0 0, .int .i64 x] w fun e w' => e = .returned (.int .i64 x) ∧ Below w.heap.size w w' := by
  go_enter Tryz.func76, Tryz.ntmps76
  go_wp2
  go_loopw [1, 5] (fun kv iv wx => kv = .int .i64 x ∧ iv = .int .i64 0 ∧ wx = w) (fun _ _ _ => 0)
  case atStart => exact ⟨rfl, rfl, rfl⟩
  case round =>
    obtain ⟨rfl, rfl, rfl⟩ := hrel
    go_wp2
    go_ret
    exact ⟨rfl, Below.refl _ _⟩
set_option maxRecDepth 100000 in
theorem markStored0 (x : Int) (w : World) : Calls Tryz.prog 27 #[.slice none 0 0, .int .i64 x] w fun e w' => e = .returned (.int .i64 x) ∧ Below w.heap.size w w' := by
  go_enter Tryz.func27, Tryz.ntmps27
  go_wp2
  go_loopw [1, 5] (fun kv iv wx => kv = .int .i64 x ∧ iv = .int .i64 0 ∧ wx = w) (fun _ _ _ => 0)
  case atStart => exact ⟨rfl, rfl, rfl⟩
  case round =>
    obtain ⟨rfl, rfl, rfl⟩ := hrel
    go_wp2
    go_ret
    exact ⟨rfl, Below.refl _ _⟩
set_option maxRecDepth 100000 in
theorem heldStored0 (x : Int) (w : World) : Calls Tryz.prog 29 #[.slice none 0 0, .int .i64 x] w fun e w' => e = .returned (.int .i64 x) ∧ Below w.heap.size w w' := by
  go_enter Tryz.func29, Tryz.ntmps29
  go_wp2
  go_loopw [1, 5] (fun kv iv wx => kv = .int .i64 x ∧ iv = .int .i64 0 ∧ wx = w) (fun _ _ _ => 0)
  case atStart => exact ⟨rfl, rfl, rfl⟩
  case round =>
    obtain ⟨rfl, rfl, rfl⟩ := hrel
    go_wp2
    go_ret
    exact ⟨rfl, Below.refl _ _⟩
set_option maxRecDepth 100000 in
theorem markSession0 (x : Int) (w : World) : Calls Tryz.prog 28 #[.slice none 0 0, .int .i64 x] w fun e w' => e = .returned (.int .i64 x) ∧ Below w.heap.size w w' := by
  go_enter Tryz.func28, Tryz.ntmps28
  go_wp2
  go_loopw [1, 5] (fun kv iv wx => kv = .int .i64 x ∧ iv = .int .i64 0 ∧ wx = w) (fun _ _ _ => 0)
  case atStart => exact ⟨rfl, rfl, rfl⟩
  case round =>
    obtain ⟨rfl, rfl, rfl⟩ := hrel
    go_wp2
    go_ret
    exact ⟨rfl, Below.refl _ _⟩
set_option maxRecDepth 100000 in
theorem heldSession0 (x : Int) (w : World) : Calls Tryz.prog 30 #[.slice none 0 0, .int .i64 x] w fun e w' => e = .returned (.int .i64 x) ∧ Below w.heap.size w w' := by
  go_enter Tryz.func30, Tryz.ntmps30
  go_wp2
  go_loopw [1, 5] (fun kv iv wx => kv = .int .i64 x ∧ iv = .int .i64 0 ∧ wx = w) (fun _ _ _ => 0)
  case atStart => exact ⟨rfl, rfl, rfl⟩
  case round =>
    obtain ⟨rfl, rfl, rfl⟩ := hrel
    go_wp2
    go_ret
    exact ⟨rfl, Below.refl _ _⟩
def zVo : List Value := [.int .i64 0, .int .i64 0, .string (⟨#[]⟩ : ByteArray)]
def mkVo (k : Nat) : List Value := [.int .i64 ((k : Int)), .int .i64 ((k : Int) + 1), .string (mtext (k + 2))]
theorem mkVo_length (k : Nat) : (mkVo k).length = 3 := rfl
set_option maxRecDepth 100000 in
set_option maxHeartbeats 8000000 in
theorem markVo_any (n : Nat) (hn : n ≤ 1048576) (k c : Nat) (hk : k ≤ 900000000000) (F : Nat → Prop) (A : Option Addr) (w : World) (ho : Own F w 128 A (zeros zVo n)) :
    Calls Tryz.prog 68 #[.slice A n c, .int .i64 (k : Int)] w (MkP F 128 (mkRows mkVo 3 k n) (k + 3 * n) A w) := by
  have HO0 := Lib.hid ho
  clear ho
  go_enter Tryz.func68, Tryz.ntmps68
  go_wp2
  go_loopw [1, 5] (fun kv iv wx => ∃ i m : Nat, kv = .int .i64 (m : Int) ∧ iv = .int .i64 (i : Int) ∧ i ≤ n ∧ m = k + 3 * i ∧ Hid (Own F wx 128 A (mkRows mkVo 3 k i ++ zeros zVo (n - i))) ∧ Hid (Wrote (fun t => t = 128) F w wx)) (fun _ i _ => n - (intOf i).toNat)
  case atStart => exact ⟨0, k, rfl, rfl, Nat.zero_le _, rfl, Lib.hid (by have h := HO0.out; simpa [mkRows] using h), Lib.hid (Wrote.refl _ _ _)⟩
  case round =>
    obtain ⟨i, m, rfl, rfl, hi, hm, HO, HW⟩ := hrel
    have HMM := Lib.hid hm
    have hmb : m ≤ 910000000000 := by omega
    clear hm HO0
    by_cases hlt : i < n
    · have hP : (mkRows mkVo 3 k i).length = i * 3 := mkRows_length mkVo_length _ _ _
      have ho := HO.out
      rw [show n - i = (n - i - 1) + 1 by omega, zeros_succ] at ho
      obtain ⟨g, o, rfl, _⟩ := own_ptr ho (by simp [zVo])
      generalize hPe : mkRows mkVo 3 k i = P at ho hP
      generalize hRe : zeros zVo (n - i - 1) = R at ho
      have HPE := Lib.hid hPe
      have HRE := Lib.hid hRe
      have HPL := Lib.hid hP
      have H0 := Lib.hid ho
      clear ho hP hPe hRe HO
      obtain ⟨q0, f0⟩ := own_cell H0.out HPL.out 0 (.int .i64 0) rfl (o + i * 3) (by omega)
      obtain ⟨q1, f1⟩ := own_cell H0.out HPL.out 1 (.int .i64 0) rfl (o + i * 3 + 1) (by omega)
      obtain ⟨q2, f2⟩ := own_cell H0.out HPL.out 2 (.string (⟨#[]⟩ : ByteArray)) rfl (o + i * 3 + 2) (by omega)
      go_wp2_with fail
      have p0 := own_put H0.out HPL.out 0 (by first | decide | simp) (.int .i64 ((m : Int))) (o + i * 3) (by omega)
      have u0 : Own F (wr.setCell ⟨g, o + i * 3, none⟩ (.int .i64 ((m : Int)))) 128 (some ⟨g, o, none⟩) (P ++ ([.int .i64 ((m : Int)), .int .i64 0, .string (⟨#[]⟩ : ByteArray)] ++ R)) := p0.1
      have v0 := HW.out.trans p0.2
      have p1 := own_put u0 HPL.out 1 (by first | decide | simp) (.int .i64 ((m : Int) + 1)) (o + i * 3 + 1) (by omega)
      have u1 : Own F ((wr.setCell ⟨g, o + i * 3, none⟩ (.int .i64 ((m : Int)))).setCell ⟨g, o + i * 3 + 1, none⟩ (.int .i64 ((m : Int) + 1))) 128 (some ⟨g, o, none⟩) (P ++ ([.int .i64 ((m : Int)), .int .i64 ((m : Int) + 1), .string (⟨#[]⟩ : ByteArray)] ++ R)) := p1.1
      have v1 := v0.trans p1.2
      have HO1 := Lib.hid u1
      have HW1 := Lib.hid v1
      clear p0 u0 v0 p1 u1 v1
      clear q0 f0 q1 f1 q2 f2
      generalize ((wr.setCell ⟨g, o + i * 3, none⟩ (.int .i64 ((m : Int)))).setCell ⟨g, o + i * 3 + 1, none⟩ (.int .i64 ((m : Int) + 1))) = w1 at HO1 HW1 ⊢
      refine (markText_any (m + 2) (by omega) w1).mono ?_
      rintro e w2 ⟨rfl, hb2⟩
      have HO2 := Lib.hid (HO1.out.frame (Agree.of_below hb2))
      have HW2 := Lib.hid (HW1.out.then hb2)
      clear hb2
      obtain ⟨q2, f2⟩ := own_cell HO2.out HPL.out 2 (.string (⟨#[]⟩ : ByteArray)) rfl (o + i * 3 + 2) (by omega)
      go_wp2
      go_roundw
      case rel =>
        have p2 := own_put HO2.out HPL.out 2 (by first | decide | simp) (.string (mtext (m + 2))) (o + i * 3 + 2) (by omega)
        have u2 : Own F (w2.setCell ⟨g, o + i * 3 + 2, none⟩ (.string (mtext (m + 2)))) 128 (some ⟨g, o, none⟩) (P ++ ([.int .i64 ((m : Int)), .int .i64 ((m : Int) + 1), .string (mtext (m + 2))] ++ R)) := p2.1
        have v2 := HW2.out.trans p2.2
        have e1 : mkRows mkVo 3 k (i + 1) ++ zeros zVo (n - (i + 1)) = P ++ (mkVo m ++ R) := by rw [mkRows_succ, ← HMM.out, HPE.out, List.append_assoc, show n - (i + 1) = n - i - 1 by omega, HRE.out]
        exact ⟨i + 1, m + 3, by go_num, by go_num, by omega, by have := HMM.out; omega, Lib.hid (by rw [e1]; exact u2), Lib.hid v2⟩
      case measure => simp [intOf]; omega
    · go_wp2
      go_ret
      obtain rfl : i = n := by omega
      have h := HO.out
      rw [Nat.sub_self] at h
      exact ⟨by have h := HMM.out; subst h; rfl, by simpa [zeros] using h, HW.out⟩
set_option maxRecDepth 100000 in
set_option maxHeartbeats 8000000 in
theorem heldVo_any (n : Nat) (hn : n ≤ 1048576) (k c : Nat) (hk : k ≤ 900000000000) (F : Nat → Prop) (A : Option Addr) (w : World) (hr : Rds F w A (mkRows mkVo 3 k n)) :
    Calls Tryz.prog 73 #[.slice A n c, .int .i64 (k : Int)] w fun e w' => e = .returned (.int .i64 ((k + 3 * n : Nat) : Int)) ∧ Below w.heap.size w w' := by
  have HR := Lib.hid hr
  clear hr
  go_enter Tryz.func73, Tryz.ntmps73
  go_wp2
  go_loopw [1, 5] (fun kv iv wx => ∃ i m : Nat, kv = .int .i64 (m : Int) ∧ iv = .int .i64 (i : Int) ∧ i ≤ n ∧ m = k + 3 * i ∧ Below w.heap.size w wx) (fun _ i _ => n - (intOf i).toNat)
  case atStart => exact ⟨0, k, rfl, rfl, Nat.zero_le _, rfl, Below.refl _ _⟩
  case round =>
    obtain ⟨i, m, rfl, rfl, hi, hm, hbx⟩ := hrel
    have HMM := Lib.hid hm
    have hmb : m ≤ 910000000000 := by omega
    have HB := Lib.hid hbx
    clear hbx
    by_cases hlt : i < n
    · obtain ⟨g, o, rfl, _⟩ := HR.out.open (by intro h; have := congrArg List.length h; rw [mkRows_length mkVo_length] at this; simp at this; omega)
      have HC := Lib.hid (fun (W : World) (hb : Below w.heap.size w W) => show W.cell? ⟨g, o + i * 3, none⟩ = some (.int .i64 ((m : Int))) ∧ W.cell? ⟨g, o + i * 3 + 1, none⟩ = some (.int .i64 ((m : Int) + 1)) ∧ W.cell? ⟨g, o + i * 3 + 2, none⟩ = some (.string (mtext (m + 2))) from ⟨by have h := ((HR.out.frame (Agree.of_below hb)).at (i * 3 + 0) _ ((mkRows_get mkVo_length 3 k n i 0 hlt (by decide)).trans (by rw [← HMM.out]; rfl))); rw [← Nat.add_assoc] at h; exact h, by have h := ((HR.out.frame (Agree.of_below hb)).at (i * 3 + 1) _ ((mkRows_get mkVo_length 3 k n i 1 hlt (by decide)).trans (by rw [← HMM.out]; rfl))); rw [← Nat.add_assoc] at h; exact h, by have h := ((HR.out.frame (Agree.of_below hb)).at (i * 3 + 2) _ ((mkRows_get mkVo_length 3 k n i 2 hlt (by decide)).trans (by rw [← HMM.out]; rfl))); rw [← Nat.add_assoc] at h; exact h⟩)
      clear hm
      obtain ⟨q0, q1, q2⟩ := HC.out _ HB.out
      go_wp2
      go_region_with (go_at_call 59; refine (markText_any (m + 2) (by omega) _).mono ?_; rintro e w1 ⟨rfl, hb1⟩; obtain ⟨z0, z1, z2⟩ := HC.out _ (below_then HB.out.drew HB.out.size hb1))
      all_goals
        have HB1 := Lib.hid (below_then HB.out.drew HB.out.size hb1)
        clear hb1 z0 z1 z2 q0 q1 q2
        obtain ⟨q0, q1, q2⟩ := HC.out _ HB1.out
        go_wp2
        go_roundw
        case rel => exact ⟨i + 1, m + 3, by go_num, by go_num, by omega, by have := HMM.out; omega, HB1.out⟩
        case measure => simp [intOf]; omega
    · go_wp2
      go_ret
      obtain rfl : i = n := by omega
      exact ⟨by have h := HMM.out; subst h; rfl, HB.out⟩
def zAs : List Value := [.int .i64 0, .int .i64 0, .string (⟨#[]⟩ : ByteArray), .slice none 0 0, .int .i64 0, .string (⟨#[]⟩ : ByteArray), .bool false]
def mkAs (k : Nat) : List Value := [.int .i64 ((k : Int)), .int .i64 ((k : Int) + 1), .string (mtext (k + 2)), .slice none 0 0, .int .i64 ((k : Int) + 1 + 1 + 1), .string (mtext (k + 4)), .bool (third ((k : Int) + 1 + 1 + 1 + 1 + 1))]
theorem mkAs_length (k : Nat) : (mkAs k).length = 7 := rfl
set_option maxRecDepth 100000 in
set_option maxHeartbeats 8000000 in
theorem markAs_any (n : Nat) (hn : n ≤ 1048576) (k c : Nat) (hk : k ≤ 900000000000) (F : Nat → Prop) (A : Option Addr) (w : World) (ho : Own F w 131 A (zeros zAs n)) :
    Calls Tryz.prog 69 #[.slice A n c, .int .i64 (k : Int)] w (MkP F 131 (mkRows mkAs 6 k n) (k + 6 * n) A w) := by
  have HO0 := Lib.hid ho
  clear ho
  go_enter Tryz.func69, Tryz.ntmps69
  go_wp2
  go_loopw [1, 5] (fun kv iv wx => ∃ i m : Nat, kv = .int .i64 (m : Int) ∧ iv = .int .i64 (i : Int) ∧ i ≤ n ∧ m = k + 6 * i ∧ Hid (Own F wx 131 A (mkRows mkAs 6 k i ++ zeros zAs (n - i))) ∧ Hid (Wrote (fun t => t = 131) F w wx)) (fun _ i _ => n - (intOf i).toNat)
  case atStart => exact ⟨0, k, rfl, rfl, Nat.zero_le _, rfl, Lib.hid (by have h := HO0.out; simpa [mkRows] using h), Lib.hid (Wrote.refl _ _ _)⟩
  case round =>
    obtain ⟨i, m, rfl, rfl, hi, hm, HO, HW⟩ := hrel
    have HMM := Lib.hid hm
    have hmb : m ≤ 910000000000 := by omega
    clear hm HO0
    by_cases hlt : i < n
    · have hP : (mkRows mkAs 6 k i).length = i * 7 := mkRows_length mkAs_length _ _ _
      have ho := HO.out
      rw [show n - i = (n - i - 1) + 1 by omega, zeros_succ] at ho
      obtain ⟨g, o, rfl, _⟩ := own_ptr ho (by simp [zAs])
      generalize hPe : mkRows mkAs 6 k i = P at ho hP
      generalize hRe : zeros zAs (n - i - 1) = R at ho
      have HPE := Lib.hid hPe
      have HRE := Lib.hid hRe
      have HPL := Lib.hid hP
      have H0 := Lib.hid ho
      clear ho hP hPe hRe HO
      obtain ⟨q0, f0⟩ := own_cell H0.out HPL.out 0 (.int .i64 0) rfl (o + i * 7) (by omega)
      obtain ⟨q1, f1⟩ := own_cell H0.out HPL.out 1 (.int .i64 0) rfl (o + i * 7 + 1) (by omega)
      obtain ⟨q2, f2⟩ := own_cell H0.out HPL.out 2 (.string (⟨#[]⟩ : ByteArray)) rfl (o + i * 7 + 2) (by omega)
      go_wp2_with fail
      have p0 := own_put H0.out HPL.out 0 (by first | decide | simp) (.int .i64 ((m : Int))) (o + i * 7) (by omega)
      have u0 : Own F (wr.setCell ⟨g, o + i * 7, none⟩ (.int .i64 ((m : Int)))) 131 (some ⟨g, o, none⟩) (P ++ ([.int .i64 ((m : Int)), .int .i64 0, .string (⟨#[]⟩ : ByteArray), .slice none 0 0, .int .i64 0, .string (⟨#[]⟩ : ByteArray), .bool false] ++ R)) := p0.1
      have v0 := HW.out.trans p0.2
      have p1 := own_put u0 HPL.out 1 (by first | decide | simp) (.int .i64 ((m : Int) + 1)) (o + i * 7 + 1) (by omega)
      have u1 : Own F ((wr.setCell ⟨g, o + i * 7, none⟩ (.int .i64 ((m : Int)))).setCell ⟨g, o + i * 7 + 1, none⟩ (.int .i64 ((m : Int) + 1))) 131 (some ⟨g, o, none⟩) (P ++ ([.int .i64 ((m : Int)), .int .i64 ((m : Int) + 1), .string (⟨#[]⟩ : ByteArray), .slice none 0 0, .int .i64 0, .string (⟨#[]⟩ : ByteArray), .bool false] ++ R)) := p1.1
      have v1 := v0.trans p1.2
      have HO1 := Lib.hid u1
      have HW1 := Lib.hid v1
      clear p0 u0 v0 p1 u1 v1
      clear q0 f0 q1 f1 q2 f2
      generalize ((wr.setCell ⟨g, o + i * 7, none⟩ (.int .i64 ((m : Int)))).setCell ⟨g, o + i * 7 + 1, none⟩ (.int .i64 ((m : Int) + 1))) = w1 at HO1 HW1 ⊢
      refine (markText_any (m + 2) (by omega) w1).mono ?_
      rintro e w2 ⟨rfl, hb2⟩
      have HO2 := Lib.hid (HO1.out.frame (Agree.of_below hb2))
      have HW2 := Lib.hid (HW1.out.then hb2)
      clear hb2
      obtain ⟨q2, f2⟩ := own_cell HO2.out HPL.out 2 (.string (⟨#[]⟩ : ByteArray)) rfl (o + i * 7 + 2) (by omega)
      obtain ⟨q3, f3⟩ := own_cell HO2.out HPL.out 3 (.slice none 0 0) rfl (o + i * 7 + 3) (by omega)
      go_wp2_with fail
      have p2 := own_put HO2.out HPL.out 2 (by first | decide | simp) (.string (mtext (m + 2))) (o + i * 7 + 2) (by omega)
      have u2 : Own F (w2.setCell ⟨g, o + i * 7 + 2, none⟩ (.string (mtext (m + 2)))) 131 (some ⟨g, o, none⟩) (P ++ ([.int .i64 ((m : Int)), .int .i64 ((m : Int) + 1), .string (mtext (m + 2)), .slice none 0 0, .int .i64 0, .string (⟨#[]⟩ : ByteArray), .bool false] ++ R)) := p2.1
      have v2 := HW2.out.trans p2.2
      have HO3 := Lib.hid u2
      have HW3 := Lib.hid v2
      clear p2 u2 v2
      clear q2 f2 q3 f3
      generalize (w2.setCell ⟨g, o + i * 7 + 2, none⟩ (.string (mtext (m + 2)))) = w3 at HO3 HW3 ⊢
      refine (markInt0 ((m : Int) + 1 + 1 + 1) w3).mono ?_
      rintro e w4 ⟨rfl, hb4⟩
      have HO4 := Lib.hid (HO3.out.frame (Agree.of_below hb4))
      have HW4 := Lib.hid (HW3.out.then hb4)
      clear hb4
      obtain ⟨q4, f4⟩ := own_cell HO4.out HPL.out 4 (.int .i64 0) rfl (o + i * 7 + 4) (by omega)
      obtain ⟨q5, f5⟩ := own_cell HO4.out HPL.out 5 (.string (⟨#[]⟩ : ByteArray)) rfl (o + i * 7 + 5) (by omega)
      go_wp2_with fail
      have p4 := own_put HO4.out HPL.out 4 (by first | decide | simp) (.int .i64 ((m : Int) + 1 + 1 + 1)) (o + i * 7 + 4) (by omega)
      have u4 : Own F (w4.setCell ⟨g, o + i * 7 + 4, none⟩ (.int .i64 ((m : Int) + 1 + 1 + 1))) 131 (some ⟨g, o, none⟩) (P ++ ([.int .i64 ((m : Int)), .int .i64 ((m : Int) + 1), .string (mtext (m + 2)), .slice none 0 0, .int .i64 ((m : Int) + 1 + 1 + 1), .string (⟨#[]⟩ : ByteArray), .bool false] ++ R)) := p4.1
      have v4 := HW4.out.trans p4.2
      have HO5 := Lib.hid u4
      have HW5 := Lib.hid v4
      clear p4 u4 v4
      clear q4 f4 q5 f5
      generalize (w4.setCell ⟨g, o + i * 7 + 4, none⟩ (.int .i64 ((m : Int) + 1 + 1 + 1))) = w5 at HO5 HW5 ⊢
      refine (markText_any (m + 4) (by omega) w5).mono ?_
      rintro e w6 ⟨rfl, hb6⟩
      have HO6 := Lib.hid (HO5.out.frame (Agree.of_below hb6))
      have HW6 := Lib.hid (HW5.out.then hb6)
      clear hb6
      obtain ⟨q5, f5⟩ := own_cell HO6.out HPL.out 5 (.string (⟨#[]⟩ : ByteArray)) rfl (o + i * 7 + 5) (by omega)
      obtain ⟨q6, f6⟩ := own_cell HO6.out HPL.out 6 (.bool false) rfl (o + i * 7 + 6) (by omega)
      go_wp2
      go_roundw
      case rel =>
        have p5 := own_put HO6.out HPL.out 5 (by first | decide | simp) (.string (mtext (m + 4))) (o + i * 7 + 5) (by omega)
        have u5 : Own F (w6.setCell ⟨g, o + i * 7 + 5, none⟩ (.string (mtext (m + 4)))) 131 (some ⟨g, o, none⟩) (P ++ ([.int .i64 ((m : Int)), .int .i64 ((m : Int) + 1), .string (mtext (m + 2)), .slice none 0 0, .int .i64 ((m : Int) + 1 + 1 + 1), .string (mtext (m + 4)), .bool false] ++ R)) := p5.1
        have v5 := HW6.out.trans p5.2
        have p6 := own_put u5 HPL.out 6 (by first | decide | simp) (.bool (third ((m : Int) + 1 + 1 + 1 + 1 + 1))) (o + i * 7 + 6) (by omega)
        have u6 : Own F ((w6.setCell ⟨g, o + i * 7 + 5, none⟩ (.string (mtext (m + 4)))).setCell ⟨g, o + i * 7 + 6, none⟩ (.bool (third ((m : Int) + 1 + 1 + 1 + 1 + 1)))) 131 (some ⟨g, o, none⟩) (P ++ ([.int .i64 ((m : Int)), .int .i64 ((m : Int) + 1), .string (mtext (m + 2)), .slice none 0 0, .int .i64 ((m : Int) + 1 + 1 + 1), .string (mtext (m + 4)), .bool (third ((m : Int) + 1 + 1 + 1 + 1 + 1))] ++ R)) := p6.1
        have v6 := v5.trans p6.2
        have e1 : mkRows mkAs 6 k (i + 1) ++ zeros zAs (n - (i + 1)) = P ++ (mkAs m ++ R) := by rw [mkRows_succ, ← HMM.out, HPE.out, List.append_assoc, show n - (i + 1) = n - i - 1 by omega, HRE.out]
        exact ⟨i + 1, m + 6, by go_num, by go_num, by omega, by have := HMM.out; omega, Lib.hid (by rw [e1]; exact u6), Lib.hid v6⟩
      case measure => simp [intOf]; omega
    · go_wp2
      go_ret
      obtain rfl : i = n := by omega
      have h := HO.out
      rw [Nat.sub_self] at h
      exact ⟨by have h := HMM.out; subst h; rfl, by simpa [zeros] using h, HW.out⟩
set_option maxRecDepth 100000 in
set_option maxHeartbeats 8000000 in
theorem heldAs_any (n : Nat) (hn : n ≤ 1048576) (k c : Nat) (hk : k ≤ 900000000000) (F : Nat → Prop) (A : Option Addr) (w : World) (hr : Rds F w A (mkRows mkAs 6 k n)) :
    Calls Tryz.prog 74 #[.slice A n c, .int .i64 (k : Int)] w fun e w' => e = .returned (.int .i64 ((k + 6 * n : Nat) : Int)) ∧ Below w.heap.size w w' := by
  have HR := Lib.hid hr
  clear hr
  go_enter Tryz.func74, Tryz.ntmps74
  go_wp2
  go_loopw [1, 5] (fun kv iv wx => ∃ i m : Nat, kv = .int .i64 (m : Int) ∧ iv = .int .i64 (i : Int) ∧ i ≤ n ∧ m = k + 6 * i ∧ Below w.heap.size w wx) (fun _ i _ => n - (intOf i).toNat)
  case atStart => exact ⟨0, k, rfl, rfl, Nat.zero_le _, rfl, Below.refl _ _⟩
  case round =>
    obtain ⟨i, m, rfl, rfl, hi, hm, hbx⟩ := hrel
    have HMM := Lib.hid hm
    have hmb : m ≤ 910000000000 := by omega
    have HB := Lib.hid hbx
    clear hbx
    by_cases hlt : i < n
    · obtain ⟨g, o, rfl, _⟩ := HR.out.open (by intro h; have := congrArg List.length h; rw [mkRows_length mkAs_length] at this; simp at this; omega)
      have HC := Lib.hid (fun (W : World) (hb : Below w.heap.size w W) => show W.cell? ⟨g, o + i * 7, none⟩ = some (.int .i64 ((m : Int))) ∧ W.cell? ⟨g, o + i * 7 + 1, none⟩ = some (.int .i64 ((m : Int) + 1)) ∧ W.cell? ⟨g, o + i * 7 + 2, none⟩ = some (.string (mtext (m + 2))) ∧ W.cell? ⟨g, o + i * 7 + 3, none⟩ = some (.slice none 0 0) ∧ W.cell? ⟨g, o + i * 7 + 4, none⟩ = some (.int .i64 ((m : Int) + 1 + 1 + 1)) ∧ W.cell? ⟨g, o + i * 7 + 5, none⟩ = some (.string (mtext (m + 4))) ∧ W.cell? ⟨g, o + i * 7 + 6, none⟩ = some (.bool (third ((m : Int) + 1 + 1 + 1 + 1 + 1))) from ⟨by have h := ((HR.out.frame (Agree.of_below hb)).at (i * 7 + 0) _ ((mkRows_get mkAs_length 6 k n i 0 hlt (by decide)).trans (by rw [← HMM.out]; rfl))); rw [← Nat.add_assoc] at h; exact h, by have h := ((HR.out.frame (Agree.of_below hb)).at (i * 7 + 1) _ ((mkRows_get mkAs_length 6 k n i 1 hlt (by decide)).trans (by rw [← HMM.out]; rfl))); rw [← Nat.add_assoc] at h; exact h, by have h := ((HR.out.frame (Agree.of_below hb)).at (i * 7 + 2) _ ((mkRows_get mkAs_length 6 k n i 2 hlt (by decide)).trans (by rw [← HMM.out]; rfl))); rw [← Nat.add_assoc] at h; exact h, by have h := ((HR.out.frame (Agree.of_below hb)).at (i * 7 + 3) _ ((mkRows_get mkAs_length 6 k n i 3 hlt (by decide)).trans (by rw [← HMM.out]; rfl))); rw [← Nat.add_assoc] at h; exact h, by have h := ((HR.out.frame (Agree.of_below hb)).at (i * 7 + 4) _ ((mkRows_get mkAs_length 6 k n i 4 hlt (by decide)).trans (by rw [← HMM.out]; rfl))); rw [← Nat.add_assoc] at h; exact h, by have h := ((HR.out.frame (Agree.of_below hb)).at (i * 7 + 5) _ ((mkRows_get mkAs_length 6 k n i 5 hlt (by decide)).trans (by rw [← HMM.out]; rfl))); rw [← Nat.add_assoc] at h; exact h, by have h := ((HR.out.frame (Agree.of_below hb)).at (i * 7 + 6) _ ((mkRows_get mkAs_length 6 k n i 6 hlt (by decide)).trans (by rw [← HMM.out]; rfl))); rw [← Nat.add_assoc] at h; exact h⟩)
      clear hm
      obtain ⟨q0, q1, q2, q3, q4, q5, q6⟩ := HC.out _ HB.out
      go_wp2
      go_region_with (go_at_call 59; refine (markText_any (m + 2) (by omega) _).mono ?_; rintro e w1 ⟨rfl, hb1⟩; obtain ⟨z0, z1, z2, z3, z4, z5, z6⟩ := HC.out _ (below_then HB.out.drew HB.out.size hb1))
      all_goals
        have HB1 := Lib.hid (below_then HB.out.drew HB.out.size hb1)
        clear hb1 z0 z1 z2 z3 z4 z5 z6 q0 q1 q2 q3 q4 q5 q6
        obtain ⟨q0, q1, q2, q3, q4, q5, q6⟩ := HC.out _ HB1.out
        go_wp2_with fail
        clear q0 q1 q2 q3 q4 q5 q6
        refine (heldInt0 ((m : Int) + 1 + 1 + 1) _).mono ?_
        rintro e w2 ⟨rfl, hb2⟩
        have HB2 := Lib.hid (below_then HB1.out HB1.out.size hb2)
        clear hb2
        obtain ⟨q0, q1, q2, q3, q4, q5, q6⟩ := HC.out _ HB2.out
        have hneg : ¬ ((m : Int) + 1 + 1 + 1 < 0) := by omega
        go_wp2
        go_region_with (go_at_call 59; refine (markText_any (m + 4) (by omega) _).mono ?_; rintro e w3 ⟨rfl, hb3⟩; obtain ⟨z0, z1, z2, z3, z4, z5, z6⟩ := HC.out _ (below_then HB2.out.drew HB2.out.size hb3))
        all_goals
          have HB3 := Lib.hid (below_then HB2.out.drew HB2.out.size hb3)
          clear hb3 z0 z1 z2 z3 z4 z5 z6 q0 q1 q2 q3 q4 q5 q6
          obtain ⟨q0, q1, q2, q3, q4, q5, q6⟩ := HC.out _ HB3.out
          unfold third at q6
          go_wp2
          go_roundw
          case rel => exact ⟨i + 1, m + 6, by go_num, by go_num, by omega, by have := HMM.out; omega, HB3.out⟩
          case measure => simp [intOf]; omega
    · go_wp2
      go_ret
      obtain rfl : i = n := by omega
      exact ⟨by have h := HMM.out; subst h; rfl, HB.out⟩
def zTx : List Value := [.string (⟨#[]⟩ : ByteArray)]
def mkTx (k : Nat) : List Value := [.string (mtext (k))]
theorem mkTx_length (k : Nat) : (mkTx k).length = 1 := rfl
set_option maxRecDepth 100000 in
set_option maxHeartbeats 8000000 in
theorem markTx_any (n : Nat) (hn : n ≤ 1048576) (k c : Nat) (hk : k ≤ 900000000000) (F : Nat → Prop) (A : Option Addr) (w : World) (ho : Own F w 9 A (zeros zTx n)) :
    Calls Tryz.prog 72 #[.slice A n c, .int .i64 (k : Int)] w (MkP F 9 (mkRows mkTx 1 k n) (k + 1 * n) A w) := by
  have HO0 := Lib.hid ho
  clear ho
  go_enter Tryz.func72, Tryz.ntmps72
  go_wp2
  go_loopw [1, 5] (fun kv iv wx => ∃ i m : Nat, kv = .int .i64 (m : Int) ∧ iv = .int .i64 (i : Int) ∧ i ≤ n ∧ m = k + 1 * i ∧ Hid (Own F wx 9 A (mkRows mkTx 1 k i ++ zeros zTx (n - i))) ∧ Hid (Wrote (fun t => t = 9) F w wx)) (fun _ i _ => n - (intOf i).toNat)
  case atStart => exact ⟨0, k, rfl, rfl, Nat.zero_le _, rfl, Lib.hid (by have h := HO0.out; simpa [mkRows] using h), Lib.hid (Wrote.refl _ _ _)⟩
  case round =>
    obtain ⟨i, m, rfl, rfl, hi, hm, HO, HW⟩ := hrel
    have HMM := Lib.hid hm
    have hmb : m ≤ 910000000000 := by omega
    clear hm HO0
    by_cases hlt : i < n
    · have hP : (mkRows mkTx 1 k i).length = i * 1 := mkRows_length mkTx_length _ _ _
      have ho := HO.out
      rw [show n - i = (n - i - 1) + 1 by omega, zeros_succ] at ho
      obtain ⟨g, o, rfl, _⟩ := own_ptr ho (by simp [zTx])
      generalize hPe : mkRows mkTx 1 k i = P at ho hP
      generalize hRe : zeros zTx (n - i - 1) = R at ho
      have HPE := Lib.hid hPe
      have HRE := Lib.hid hRe
      have HPL := Lib.hid hP
      have H0 := Lib.hid ho
      clear ho hP hPe hRe HO
      obtain ⟨q0, f0⟩ := own_cell H0.out HPL.out 0 (.string (⟨#[]⟩ : ByteArray)) rfl (o + i) (by omega)
      go_wp2_with fail
      clear q0 f0
      refine (markText_any (m) (by omega) wr).mono ?_
      rintro e w2 ⟨rfl, hb2⟩
      have HO2 := Lib.hid (H0.out.frame (Agree.of_below hb2))
      have HW2 := Lib.hid (HW.out.then hb2)
      clear hb2
      obtain ⟨q0, f0⟩ := own_cell HO2.out HPL.out 0 (.string (⟨#[]⟩ : ByteArray)) rfl (o + i) (by omega)
      go_wp2
      go_roundw
      case rel =>
        have p0 := own_put HO2.out HPL.out 0 (by first | decide | simp) (.string (mtext (m))) (o + i) (by omega)
        have u0 : Own F (w2.setCell ⟨g, o + i, none⟩ (.string (mtext (m)))) 9 (some ⟨g, o, none⟩) (P ++ ([.string (mtext (m))] ++ R)) := p0.1
        have v0 := HW2.out.trans p0.2
        have e1 : mkRows mkTx 1 k (i + 1) ++ zeros zTx (n - (i + 1)) = P ++ (mkTx m ++ R) := by rw [mkRows_succ, ← HMM.out, HPE.out, List.append_assoc, show n - (i + 1) = n - i - 1 by omega, HRE.out]
        exact ⟨i + 1, m + 1, by go_num, by go_num, by omega, by have := HMM.out; omega, Lib.hid (by rw [e1]; exact u0), Lib.hid v0⟩
      case measure => simp [intOf]; omega
    · go_wp2
      go_ret
      obtain rfl : i = n := by omega
      have h := HO.out
      rw [Nat.sub_self] at h
      exact ⟨by have h := HMM.out; subst h; rfl, by simpa [zeros] using h, HW.out⟩
set_option maxRecDepth 100000 in
set_option maxHeartbeats 8000000 in
theorem heldTx_any (n : Nat) (hn : n ≤ 1048576) (k c : Nat) (hk : k ≤ 900000000000) (F : Nat → Prop) (A : Option Addr) (w : World) (hr : Rds F w A (mkRows mkTx 1 k n)) :
    Calls Tryz.prog 77 #[.slice A n c, .int .i64 (k : Int)] w fun e w' => e = .returned (.int .i64 ((k + 1 * n : Nat) : Int)) ∧ Below w.heap.size w w' := by
  have HR := Lib.hid hr
  clear hr
  go_enter Tryz.func77, Tryz.ntmps77
  go_wp2
  go_loopw [1, 5] (fun kv iv wx => ∃ i m : Nat, kv = .int .i64 (m : Int) ∧ iv = .int .i64 (i : Int) ∧ i ≤ n ∧ m = k + 1 * i ∧ Below w.heap.size w wx) (fun _ i _ => n - (intOf i).toNat)
  case atStart => exact ⟨0, k, rfl, rfl, Nat.zero_le _, rfl, Below.refl _ _⟩
  case round =>
    obtain ⟨i, m, rfl, rfl, hi, hm, hbx⟩ := hrel
    have HMM := Lib.hid hm
    have hmb : m ≤ 910000000000 := by omega
    have HB := Lib.hid hbx
    clear hbx
    by_cases hlt : i < n
    · obtain ⟨g, o, rfl, _⟩ := HR.out.open (by intro h; have := congrArg List.length h; rw [mkRows_length mkTx_length] at this; simp at this; omega)
      have HC := Lib.hid (fun (W : World) (hb : Below w.heap.size w W) => show W.cell? ⟨g, o + i, none⟩ = some (.string (mtext (m))) from (by have h := ((HR.out.frame (Agree.of_below hb)).at (i * 1 + 0) _ ((mkRows_get mkTx_length 1 k n i 0 hlt (by decide)).trans (by rw [← HMM.out]; rfl))); simpa using h))
      clear hm
      obtain q0 := HC.out _ HB.out
      go_wp2
      go_region_with (go_at_call 59; refine (markText_any (m) (by omega) _).mono ?_; rintro e w1 ⟨rfl, hb1⟩; obtain z0 := HC.out _ (below_then HB.out.drew HB.out.size hb1))
      all_goals
        have HB1 := Lib.hid (below_then HB.out.drew HB.out.size hb1)
        clear hb1 z0 q0
        obtain q0 := HC.out _ HB1.out
        go_wp2
        go_roundw
        case rel => exact ⟨i + 1, m + 1, by go_num, by go_num, by omega, by have := HMM.out; omega, HB1.out⟩
        case measure => simp [intOf]; omega
    · go_wp2
      go_ret
      obtain rfl : i = n := by omega
      exact ⟨by have h := HMM.out; subst h; rfl, HB.out⟩
end Go.Proofs.YtemcijhpmpdebaaGreatDoor
