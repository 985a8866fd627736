/- What the laws write into rows of nodes and look for there: markText, markNodeS, heldNodeS. -/
import Derived.Test.YtcbcndoddikpjaaGreatDoorSpec2
import Derived.Test.YtcbcndoddikpjaaGreatDoorBs2
import Derived.Deep.RegionWith
namespace Go.Proofs.YtcbcndoddikpjaaGreatDoor
open Go.RowKit
def mtext (k : Nat) : ByteArray := if k = 0 then ⟨#[109, 48]⟩ else ⟨(109 :: Lib.decDigits k).toArray⟩
theorem decDigits_step (n : Nat) (h : 0 < n) (tail : List UInt8) : (if n / 10 = 0 then [] else Lib.decDigits (n / 10)) ++ (UInt8.ofNat (48 + n % 10) :: tail) = Lib.decDigits n ++ tail := by
  by_cases h10 : n < 10
  · rw [if_pos (by omega), Lib.decDigits, dif_pos h10]
    simp [Nat.mod_eq_of_lt h10]
  · rw [if_neg (by omega)]
    conv => rhs; rw [Lib.decDigits, dif_neg h10]
    simp
set_option maxRecDepth 100000 in
set_option maxHeartbeats 2000000 in
theorem markText_any (k : Nat) (hk : k ≤ 1000000000000000) (w : World) :
    Calls Tryz.prog 53 #[.int .i64 (k : Int)] w fun e w' => e = .returned (.string (mtext k)) ∧ Below w.heap.size w w' := by
  by_cases h0 : k = 0
  · subst h0
    go_enter Tryz.func53, Tryz.ntmps53
    go_wp2
    go_ret
    exact ⟨rfl, Below.refl _ _⟩
  · have hpos : ¬ ((k : Int) ≤ 0) := by omega
    go_enter Tryz.func53, Tryz.ntmps53
    go_wp2
    go_loopw [0, 3] (fun v s wx => ∃ (n : Nat) (R : ByteArray), v = .int .i64 (n : Int) ∧ s = .string R ∧ n ≤ k ∧ (if n = 0 then [] else Lib.decDigits n) ++ R.data.toList = Lib.decDigits k ∧ Below w.heap.size w wx) (fun v _ _ => (intOf v).toNat)
    case atStart => exact ⟨k, ⟨#[]⟩, rfl, rfl, Nat.le_refl _, by rw [if_neg h0]; simp, Below.refl _ _⟩
    case round =>
      obtain ⟨n, R, rfl, rfl, hn, hR, hb⟩ := hrel
      have hlen := digits_len k 15 (by omega)
      have hRl : R.size ≤ 16 := by
        have := congrArg List.length hR
        simp at this
        omega
      have HR := Lib.hid hR
      have HB := Lib.hid hb
      clear hR hb
      by_cases hn0 : n = 0
      · subst hn0
        have HR0 := Lib.hid (show R.data.toList = Lib.decDigits k by simpa using HR.out)
        have e1 : ¬ 9223372036854775807 < 1 + R.size := by omega
        go_wp2
        go_ret
        refine ⟨congrArg (fun x => Ending.returned (Value.string x)) ?_, HB.out⟩
        rw [mtext, if_neg h0]
        exact bytes_ext (by rw [app_list, HR0.out]; simp)
      · have HQ := Lib.hid (show (n : Int) / 10 = ((n / 10 : Nat) : Int) by omega)
        have hcv := conv_one (48 + n % 10) (by omega) wr
        have hce : ((48 + n % 10 : Nat) : Int) = 48 + (n : Int) % 10 := by omega
        rw [hce] at hcv
        clear hce
        have hpn : (0 : Int) < (n : Int) := by omega
        have e1 : ¬ 9223372036854775807 < 1 + R.size := by omega
        have HST := Lib.hid (decDigits_step n (by omega) R.data.toList)
        go_wp2
        go_roundw
        case rel =>
          refine ⟨n / 10, _, by rw [← HQ.out], rfl, by omega, ?_, HB.out.alloc HB.out.size _⟩
          have h := HST.out
          rw [app_list]
          have h2 := HR.out
          rw [if_neg hn0] at h2
          rw [← h2, ← h]
          by_cases hz : n / 10 = 0 <;> simp [hz]
        case measure => simp [intOf]; omega
end Go.Proofs.YtcbcndoddikpjaaGreatDoor
