/- The walks of the specification's small functions: l1In, l1Number, l1Holds, l1Printed, l5Zero. -/
import Derived.Test.YtcbcndoddikpjaaGreatDoorVal2
namespace Go.Proofs.YtcbcndoddikpjaaGreatDoor
open Go.RowKit
set_option maxHeartbeats 400000 in
theorem sIn_any (n lo hi : Int) (w : World) :
    Calls Tryz.prog 60 #[.int .i64 n, .int .i64 lo, .int .i64 hi] w fun e w' => e = .returned (.bool (decide (lo ≤ n) && decide (n ≤ hi))) ∧ w = w' := by
  by_cases h1 : lo ≤ n <;> by_cases h2 : n ≤ hi
  all_goals
    go_enter Tryz.func60, Tryz.ntmps60
    go_wp2
    go_ret
    exact ⟨by simp [h1, h2], rfl⟩
theorem sNumber_any (n : Int) (w : World) :
    Calls Tryz.prog 61 #[.int .i64 n] w fun e w' => e = .returned (.bool (decide (-1000000000 ≤ n) && decide (n ≤ 1000000000))) ∧ w = w' := by
  go_enter Tryz.func61, Tryz.ntmps61
  go_wp2_with (go_at_call 60; refine (sIn_any _ _ _ _).mono ?_; rintro e w' ⟨rfl, rfl⟩)
  go_ret
  exact ⟨rfl, rfl⟩
theorem sHolds_any (n : Int) (w : World) :
    Calls Tryz.prog 63 #[.int .i64 n] w fun e w' => e = .returned (.bool (holdsB n)) ∧ w = w' := by
  go_enter Tryz.func63, Tryz.ntmps63
  go_wp2
  all_goals
    go_ret
    exact ⟨by simp [holdsB, *], rfl⟩
set_option maxHeartbeats 400000 in
theorem sPrinted_any (s : ByteArray) (w : World) (hs : s.size ≤ 9223372036854775807) :
    Calls Tryz.prog 62 #[.string s] w fun e w' => e = .returned (.bool (strOK s)) ∧ w = w' := by
  go_enter Tryz.func62, Tryz.ntmps62
  go_wp2
  go_loop [3] (fun i => ∃ k : Nat, k ≤ s.size ∧ i = .int .i64 k ∧ (s.data.toList.take k).all byteOK = true) (fun i => s.size - (intOf i).toNat)
  case atStart => exact ⟨0, Nat.zero_le _, rfl, rfl⟩
  case round =>
    obtain ⟨k, hk, rfl, hall⟩ := hrel
    have Hall := Lib.hid hall
    clear hall
    by_cases hlt : k < s.size
    · by_cases hb : 32 ≤ s[k].toNat
      · by_cases hc : s[k].toNat ≤ 126
        · go_wp2
          go_round
          case rel => exact ⟨k+1, by omega, by go_num, take_all s k hlt Hall.out (by simp [byteOK, hb, hc])⟩
          case measure => simp [intOf]; omega
        · go_wp2
          go_ret
          exact ⟨by simp [strOK, not_all s k hlt (by simp [byteOK, hc])], rfl⟩
      · go_wp2
        go_ret
        exact ⟨by simp [strOK, not_all s k hlt (by simp [byteOK, hb])], rfl⟩
    · have : (s.data.toList.take k) = s.data.toList := List.take_of_length_le (by simp; omega)
      have hall := Lib.hid Hall.out
      rw [this] at hall
      clear this
      by_cases h0 : s.size ≤ 24
      · go_wp2
        go_ret
        exact ⟨by simp [strOK, h0, hall.out]; omega, rfl⟩
      · go_wp2
        go_ret
        exact ⟨by simp [strOK, h0]; omega, rfl⟩
end Go.Proofs.YtcbcndoddikpjaaGreatDoor
