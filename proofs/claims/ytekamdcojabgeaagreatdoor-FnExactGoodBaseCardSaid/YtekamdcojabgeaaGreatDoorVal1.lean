/- The walks of the small functions on nodes: within, holds, stringOK, nodeOK. -/
import Derived.Test.YtekamdcojabgeaaGreatDoorBase
namespace Go.Proofs.YtekamdcojabgeaaGreatDoor
open Go.RowKit
set_option maxHeartbeats 400000 in
theorem within_any (n lo hi : Int) (w : World) :
    Calls Tryz.prog 41 #[.int .i64 n, .int .i64 lo, .int .i64 hi] w fun e w' => e = .returned (.bool (decide (lo ≤ n) && decide (n ≤ hi))) ∧ w = w' := by
  by_cases h1 : lo ≤ n <;> by_cases h2 : n ≤ hi
  all_goals
    go_enter Tryz.func41, Tryz.ntmps41
    go_wp2
    go_ret
    exact ⟨by simp [h1, h2], rfl⟩
theorem holds_any (n : Int) (w : World) :
    Calls Tryz.prog 112 #[.int .i64 n] w fun e w' => e = .returned (.bool (holdsB n)) ∧ w = w' := by
  go_enter Tryz.func112, Tryz.ntmps112
  go_wp2
  all_goals
    go_ret
    exact ⟨by simp [holdsB, *], rfl⟩
set_option maxHeartbeats 400000 in
theorem stringOK_any (s : ByteArray) (w : World) (hs : s.size ≤ 9223372036854775807) :
    Calls Tryz.prog 113 #[.string s] w fun e w' => e = .returned (.bool (strOK s)) ∧ w = w' := by
  by_cases h0 : s.size ≤ 24
  · go_enter Tryz.func113, Tryz.ntmps113
    go_wp2
    go_loop [9] (fun i => ∃ k : Nat, k ≤ s.size ∧ i = .int .i64 k ∧ (s.data.toList.take k).all byteOK = true) (fun i => s.size - (intOf i).toNat)
    case atStart => exact ⟨0, Nat.zero_le _, rfl, rfl⟩
    case round =>
      obtain ⟨k, hk, rfl, hall⟩ := hrel
      have Hall := Lib.hid hall
      clear hall
      by_cases hlt : k < s.size
      · by_cases hb : 32 ≤ s[k].toNat
        · by_cases hc : s[k].toNat ≤ 126
          · go_wp2
            go_round
            case rel => exact ⟨k+1, by omega, by go_num, take_all s k hlt Hall.out (by simp [byteOK, hb, hc])⟩
            case measure => simp [intOf]; omega
          · go_wp2
            go_ret
            exact ⟨by simp [strOK, not_all s k hlt (by simp [byteOK, hc])], rfl⟩
        · go_wp2
          go_ret
          exact ⟨by simp [strOK, not_all s k hlt (by simp [byteOK, hb])], rfl⟩
      · go_wp2
        go_ret
        have : (s.data.toList.take k) = s.data.toList := List.take_of_length_le (by simp; omega)
        have hall := Hall.out
        rw [this] at hall
        exact ⟨by simp [strOK, h0, hall], rfl⟩
  · go_enter Tryz.func113, Tryz.ntmps113
    go_wp2
    go_ret
    exact ⟨by simp [strOK, h0], rfl⟩
set_option maxHeartbeats 800000 in
theorem nodeOK_any (x : Nd) (up : Int) (w : World) (h1 : x.text.size ≤ 9223372036854775807) (h2 : x.name.size ≤ 9223372036854775807) :
    Calls Tryz.prog 111 #[x.val, .int .i64 up] w fun e w' => e = .returned (.bool (nodeOKB x up)) ∧ Below w.heap.size w w' := by
  unfold Nd.val
  go_enter Tryz.func111, Tryz.ntmps111
  go_wp2_with (first | (go_at_call 41; refine (within_any _ _ _ _).mono ?_; rintro e w' ⟨rfl, rfl⟩) | (go_at_call 113; refine (stringOK_any _ _ (by assumption)).mono ?_; rintro e w' ⟨rfl, rfl⟩))
  all_goals
    go_ret
    refine ⟨?_, (Below.refl _ _).alloc (Nat.le_refl _) _⟩
    simp_all [nodeOKB] <;> (intros; omega)
end Go.Proofs.YtekamdcojabgeaaGreatDoor
