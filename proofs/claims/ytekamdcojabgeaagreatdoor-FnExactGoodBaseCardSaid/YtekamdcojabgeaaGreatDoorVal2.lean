/- The walks of count and deep of a tree. -/
import Derived.Test.YtekamdcojabgeaaGreatDoorTree
import Derived.Test.YtekamdcojabgeaaGreatDoorVal1
namespace Go.Proofs.YtekamdcojabgeaaGreatDoor
open Go.RowKit
set_option maxHeartbeats 400000 in
theorem count_any (t : Tree) : t.count ≤ 1000000000 → ∀ (F : Nat → Prop) (v : Value) (w : World), TreeAt F w v t →
    Calls Tryz.prog 115 #[v] w fun e w' => e = .returned (.int .i64 t.count) ∧ w = w' := by
  induction t using Tree.ind with
  | _ t ih =>
    intro hcount F v w ht
    obtain ⟨b, A1, c1, A2, c2, ps, rfl, hF, hl, h0, h1, h2, h3, g3, r3, h4, g4, r4, hks⟩ := ht.open
    have IH := Lib.hid ih
    clear ih ht h0 h1 h2 h3
    have he := t.count_eq
    have hkl := Tree.kids_le_count t.kids
    have HE := Lib.hid he
    have hbd : Tree.countL t.kids ≤ 1000000000 := by omega
    clear he
    go_enter Tryz.func115, Tryz.ntmps115
    go_wp2
    go_loop [3, 5, 11] (fun n _ i => ∃ k : Nat, k ≤ t.kids.length ∧ i = .int .i64 k ∧ n = .int .i64 ((1 + Tree.countL (t.kids.take k) : Nat) : Int)) (fun _ _ i => t.kids.length - (intOf i).toNat)
    case atStart => exact ⟨0, Nat.zero_le _, rfl, by simp [Tree.countL]⟩
    case round =>
      obtain ⟨k, hk, rfl, rfl⟩ := hrel
      by_cases hlt : k < t.kids.length
      · obtain ⟨b2, o2, p, kd, rfl, hl2, hc2, hkt, hkd, hmem⟩ := kid_at r4 hks k hlt
        have hts := Tree.countL_take_succ _ _ _ hkd
        have HTS := Lib.hid hts
        have hm := Tree.countL_mem _ _ hmem
        have hle := Tree.countL_take_le t.kids k
        have hle2 := Tree.countL_take_le t.kids (k + 1)
        have hsum : 1 + Tree.countL (t.kids.take k) + kd.count ≤ 1000000001 := by omega
        have HKD := Lib.hid hkd
        clear hts hkd
        go_wp2_with fail
        refine (IH.out kd hmem (by omega) _ _ _ hkt).mono ?_
        rintro e w' ⟨rfl, rfl⟩
        go_wp2
        go_round
        case rel => exact ⟨k + 1, by omega, by go_num, by rw [HTS.out]; go_num⟩
        case measure => simp [intOf]; omega
      · go_wp2
        go_ret
        have : t.kids.take k = t.kids := List.take_of_length_le (by omega)
        exact ⟨by simp [HE.out, this], rfl⟩
set_option maxHeartbeats 400000 in
theorem deep_any (t : Tree) : t.count ≤ 1000000000 → ∀ (F : Nat → Prop) (v : Value) (w : World), TreeAt F w v t →
    Calls Tryz.prog 116 #[v] w fun e w' => e = .returned (.int .i64 t.deep) ∧ w = w' := by
  induction t using Tree.ind with
  | _ t ih =>
    intro hcount F v w ht
    obtain ⟨b, A1, c1, A2, c2, ps, rfl, hF, hl, h0, h1, h2, h3, g3, r3, h4, g4, r4, hks⟩ := ht.open
    have IH := Lib.hid ih
    clear ih ht h1 h2 h3
    have he := t.count_eq
    have hde := t.deep_eq
    have hkl := Tree.kids_le_count t.kids
    have HE := Lib.hid hde
    have hbd : Tree.countL t.kids ≤ 1000000000 := by omega
    have hbd2 := Tree.deepL_le_count t.kids
    clear he hde
    go_enter Tryz.func116, Tryz.ntmps116
    go_wp2
    go_loop [3, 5, 11] (fun n _ i => ∃ k : Nat, k ≤ t.kids.length ∧ i = .int .i64 k ∧ n = .int .i64 (Tree.deepL (t.kids.take k) : Int)) (fun _ _ i => t.kids.length - (intOf i).toNat)
    case atStart => exact ⟨0, Nat.zero_le _, rfl, by simp [Tree.deepL]⟩
    case round =>
      obtain ⟨k, hk, rfl, rfl⟩ := hrel
      by_cases hlt : k < t.kids.length
      · obtain ⟨b2, o2, p, kd, rfl, hl2, hc2, hkt, hkd, hmem⟩ := kid_at r4 hks k hlt
        have hts := Tree.deepL_take_succ _ _ _ hkd
        have HTS := Lib.hid hts
        have hm := Tree.countL_mem _ _ hmem
        have HKD := Lib.hid hkd
        clear hts hkd
        go_wp2_with fail
        refine (IH.out kd hmem (by omega) _ _ _ hkt).mono ?_
        rintro e w' ⟨rfl, rfl⟩
        go_wp2
        go_round
        case rel => exact ⟨k + 1, by omega, by go_num, by rw [HTS.out, Nat.max_def]; simp; split <;> split <;> omega⟩
        case measure => simp [intOf]; omega
      · have : t.kids.take k = t.kids := List.take_of_length_le (by omega)
        have HT := Lib.hid this
        clear this
        have hb3 := Tree.deepL_take_le t.kids k
        have hb4 : Tree.deepL (t.kids.take k) ≤ 1000000000 := by omega
        by_cases hh : holdsB t.kind = true
        all_goals
          go_wp2_with (go_at_call 112; refine (holds_any _ _).mono ?_; rintro e w' ⟨rfl, rfl⟩)
        all_goals
          go_ret
          exact ⟨by simp [HE.out, HT.out, *], rfl⟩
end Go.Proofs.YtekamdcojabgeaaGreatDoor
