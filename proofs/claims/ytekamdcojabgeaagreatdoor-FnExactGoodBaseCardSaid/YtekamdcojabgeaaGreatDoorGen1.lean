/- The walks of slices.IndexFunc and slices.ContainsFunc over names and over parts. -/
import Derived.Test.YtekamdcojabgeaaGreatDoorGen0
namespace Go.Proofs.YtekamdcojabgeaaGreatDoor
open Go.RowKit
set_option maxHeartbeats 400000 in
theorem indexFuncS (g : FuncId) (cap : Array Value) (hg : ∀ (args : Array Value) (w : World), (callFunc g args).run Tryz.prog w = .ok (.enter g args) w) (F : Nat → Prop) (A : Option Addr) (n c : Nat) (vs : List Value) (w : World) (hr : Rds F w A vs) (hn : vs.length = n) (hb : n ≤ 1000000000000) (p : Nat → Bool)
    (hp : ∀ wr, Below w.heap.size w wr → ∀ i v, vs[i]? = some v → Calls Tryz.prog g (#[v] ++ cap) wr fun e w' => e = .returned (.bool (p i)) ∧ Below wr.heap.size wr w') :
    Calls Tryz.prog 166 #[.slice A n c, .func (.func g) #[] cap] w fun e w' => e = .returned (.int .i64 (firstIdx p n)) ∧ Below w.heap.size w w' := by
  have HP := Lib.hid hp
  clear hp
  go_enter Tryz.func166, Tryz.ntmps166
  go_wp2
  go_loopw [5, 8] (fun _ i wr => ∃ k : Nat, k ≤ n ∧ i = .int .i64 k ∧ Below w.heap.size w wr ∧ Hid (∀ j, j < k → p j = false)) (fun _ i _ => n - (intOf i).toNat)
  case atStart => exact ⟨0, Nat.zero_le _, rfl, Below.refl _ _, fun j hj => absurd hj (by omega)⟩
  case round =>
    obtain ⟨k, hk, rfl, hbl, hnone⟩ := hrel
    by_cases hlt : k < n
    · obtain ⟨b, o, rfl, _, hl⟩ := hr.open (by intro h; subst h; simp at hn; omega)
      have hc := (hr.below hbl).at k vs[k] (by simp)
      go_wp2_with fail
      refine (HP.out _ hbl k vs[k] (by simp)).mono ?_
      rintro e w' ⟨rfl, hb1⟩
      cases hpk : p k
      · have HPK := Lib.hid hpk
        clear hpk
        go_wp2
        go_roundw
        case rel => exact ⟨k + 1, by omega, by go_num, hbl.trans (hb1.mono hbl.size), none_snoc hnone HPK.out⟩
        case measure => simp [intOf]; omega
      · have HPK := Lib.hid hpk
        clear hpk
        go_wp2
        go_ret
        exact ⟨by rw [firstIdx_some hnone HPK.out hlt]; rfl, below_then hbl hbl.size hb1⟩
    · go_wp2
      go_ret
      obtain rfl : k = n := by omega
      exact ⟨by rw [firstIdx_none hnone]; rfl, hbl⟩
set_option maxHeartbeats 400000 in
theorem containsFuncS (g : FuncId) (cap : Array Value) (hg : ∀ (args : Array Value) (w : World), (callFunc g args).run Tryz.prog w = .ok (.enter g args) w) (F : Nat → Prop) (A : Option Addr) (n c : Nat) (vs : List Value) (w : World) (hr : Rds F w A vs) (hn : vs.length = n) (hb : n ≤ 1000000000000) (p : Nat → Bool)
    (hp : ∀ wr, Below w.heap.size w wr → ∀ i v, vs[i]? = some v → Calls Tryz.prog g (#[v] ++ cap) wr fun e w' => e = .returned (.bool (p i)) ∧ Below wr.heap.size wr w') :
    Calls Tryz.prog 139 #[.slice A n c, .func (.func g) #[] cap] w fun e w' => e = .returned (.bool (anyIdx p n)) ∧ Below w.heap.size w w' := by
  have HC := indexFuncS g cap hg F A n c vs w hr hn hb p hp
  have HC' := Lib.hid HC
  clear HC hp
  cases hany : anyIdx p n
  · have hz := Lib.hid (firstIdx_any_false hany)
    have HA := Lib.hid hany
    clear hany
    go_enter Tryz.func139, Tryz.ntmps139
    go_wp2_with fail
    refine HC'.out.mono ?_
    rintro e w' ⟨rfl, hb1⟩
    rw [hz.out]
    go_wp2
    go_ret
    exact ⟨by simp, hb1⟩
  · have hz := Lib.hid (firstIdx_any_true hany)
    have HA := Lib.hid hany
    clear hany
    go_enter Tryz.func139, Tryz.ntmps139
    go_wp2_with fail
    refine HC'.out.mono ?_
    rintro e w' ⟨rfl, hb1⟩
    obtain ⟨q, hq⟩ := hz.out
    rw [hq]
    go_wp2
    go_ret
    exact ⟨by simp, hb1⟩
set_option maxHeartbeats 400000 in
theorem indexFuncQS (g : FuncId) (cap : Array Value) (hg : ∀ (args : Array Value) (w : World), (callFunc g args).run Tryz.prog w = .ok (.enter g args) w) (F : Nat → Prop) (A : Option Addr) (n c : Nat) (vs : List Value) (w : World) (hr : Rds F w A vs) (hn : vs.length = n) (hb : n ≤ 1000000000000) (p : Nat → Bool)
    (hp : ∀ i v, vs[i]? = some v → Calls Tryz.prog g (#[v] ++ cap) w fun e w' => e = .returned (.bool (p i)) ∧ w = w') :
    Calls Tryz.prog 166 #[.slice A n c, .func (.func g) #[] cap] w fun e w' => e = .returned (.int .i64 (firstIdx p n)) ∧ w = w' := by
  have HP := Lib.hid hp
  clear hp
  go_enter Tryz.func166, Tryz.ntmps166
  go_wp2
  go_loop [5, 8] (fun _ i => ∃ k : Nat, k ≤ n ∧ i = .int .i64 k ∧ Hid (∀ j, j < k → p j = false)) (fun _ i => n - (intOf i).toNat)
  case atStart => exact ⟨0, Nat.zero_le _, rfl, fun j hj => absurd hj (by omega)⟩
  case round =>
    obtain ⟨k, hk, rfl, hnone⟩ := hrel
    by_cases hlt : k < n
    · obtain ⟨b, o, rfl, _, hl⟩ := hr.open (by intro h; subst h; simp at hn; omega)
      have hc := hr.at k vs[k] (by simp)
      go_wp2_with fail
      refine (HP.out k vs[k] (by simp)).mono ?_
      rintro e w' ⟨rfl, rfl⟩
      cases hpk : p k
      · have HPK := Lib.hid hpk
        clear hpk
        go_wp2
        go_round
        case rel => exact ⟨k + 1, by omega, by go_num, none_snoc hnone HPK.out⟩
        case measure => simp [intOf]; omega
      · have HPK := Lib.hid hpk
        clear hpk
        go_wp2
        go_ret
        exact ⟨by rw [firstIdx_some hnone HPK.out hlt]; rfl, rfl⟩
    · go_wp2
      go_ret
      obtain rfl : k = n := by omega
      exact ⟨by rw [firstIdx_none hnone]; rfl, rfl⟩
set_option maxHeartbeats 400000 in
theorem containsFuncQS (g : FuncId) (cap : Array Value) (hg : ∀ (args : Array Value) (w : World), (callFunc g args).run Tryz.prog w = .ok (.enter g args) w) (F : Nat → Prop) (A : Option Addr) (n c : Nat) (vs : List Value) (w : World) (hr : Rds F w A vs) (hn : vs.length = n) (hb : n ≤ 1000000000000) (p : Nat → Bool)
    (hp : ∀ i v, vs[i]? = some v → Calls Tryz.prog g (#[v] ++ cap) w fun e w' => e = .returned (.bool (p i)) ∧ w = w') :
    Calls Tryz.prog 139 #[.slice A n c, .func (.func g) #[] cap] w fun e w' => e = .returned (.bool (anyIdx p n)) ∧ w = w' := by
  have HC := indexFuncQS g cap hg F A n c vs w hr hn hb p hp
  have HC' := Lib.hid HC
  clear HC hp
  cases hany : anyIdx p n
  · have hz := Lib.hid (firstIdx_any_false hany)
    have HA := Lib.hid hany
    clear hany
    go_enter Tryz.func139, Tryz.ntmps139
    go_wp2_with fail
    refine HC'.out.mono ?_
    rintro e w' ⟨rfl, rfl⟩
    rw [hz.out]
    go_wp2
    go_ret
    exact ⟨by simp, rfl⟩
  · have hz := Lib.hid (firstIdx_any_true hany)
    have HA := Lib.hid hany
    clear hany
    go_enter Tryz.func139, Tryz.ntmps139
    go_wp2_with fail
    refine HC'.out.mono ?_
    rintro e w' ⟨rfl, rfl⟩
    obtain ⟨q, hq⟩ := hz.out
    rw [hq]
    go_wp2
    go_ret
    exact ⟨by simp, rfl⟩
set_option maxHeartbeats 400000 in
theorem indexFuncP (g : FuncId) (cap : Array Value) (hg : ∀ (args : Array Value) (w : World), (callFunc g args).run Tryz.prog w = .ok (.enter g args) w) (F : Nat → Prop) (A : Option Addr) (n c : Nat) (vs : List Value) (w : World) (hr : Rds F w A vs) (hn : vs.length = n) (hb : n ≤ 1000000000000) (p : Nat → Bool)
    (hp : ∀ wr, Below w.heap.size w wr → ∀ i v, vs[i]? = some v → Calls Tryz.prog g (#[v] ++ cap) wr fun e w' => e = .returned (.bool (p i)) ∧ Below wr.heap.size wr w') :
    Calls Tryz.prog 167 #[.slice A n c, .func (.func g) #[] cap] w fun e w' => e = .returned (.int .i64 (firstIdx p n)) ∧ Below w.heap.size w w' := by
  have HP := Lib.hid hp
  clear hp
  go_enter Tryz.func167, Tryz.ntmps167
  go_wp2
  go_loopw [5, 8] (fun _ i wr => ∃ k : Nat, k ≤ n ∧ i = .int .i64 k ∧ Below w.heap.size w wr ∧ Hid (∀ j, j < k → p j = false)) (fun _ i _ => n - (intOf i).toNat)
  case atStart => exact ⟨0, Nat.zero_le _, rfl, Below.refl _ _, fun j hj => absurd hj (by omega)⟩
  case round =>
    obtain ⟨k, hk, rfl, hbl, hnone⟩ := hrel
    by_cases hlt : k < n
    · obtain ⟨b, o, rfl, _, hl⟩ := hr.open (by intro h; subst h; simp at hn; omega)
      have hc := (hr.below hbl).at k vs[k] (by simp)
      go_wp2_with fail
      refine (HP.out _ hbl k vs[k] (by simp)).mono ?_
      rintro e w' ⟨rfl, hb1⟩
      cases hpk : p k
      · have HPK := Lib.hid hpk
        clear hpk
        go_wp2
        go_roundw
        case rel => exact ⟨k + 1, by omega, by go_num, hbl.trans (hb1.mono hbl.size), none_snoc hnone HPK.out⟩
        case measure => simp [intOf]; omega
      · have HPK := Lib.hid hpk
        clear hpk
        go_wp2
        go_ret
        exact ⟨by rw [firstIdx_some hnone HPK.out hlt]; rfl, below_then hbl hbl.size hb1⟩
    · go_wp2
      go_ret
      obtain rfl : k = n := by omega
      exact ⟨by rw [firstIdx_none hnone]; rfl, hbl⟩
set_option maxHeartbeats 400000 in
theorem containsFuncP (g : FuncId) (cap : Array Value) (hg : ∀ (args : Array Value) (w : World), (callFunc g args).run Tryz.prog w = .ok (.enter g args) w) (F : Nat → Prop) (A : Option Addr) (n c : Nat) (vs : List Value) (w : World) (hr : Rds F w A vs) (hn : vs.length = n) (hb : n ≤ 1000000000000) (p : Nat → Bool)
    (hp : ∀ wr, Below w.heap.size w wr → ∀ i v, vs[i]? = some v → Calls Tryz.prog g (#[v] ++ cap) wr fun e w' => e = .returned (.bool (p i)) ∧ Below wr.heap.size wr w') :
    Calls Tryz.prog 141 #[.slice A n c, .func (.func g) #[] cap] w fun e w' => e = .returned (.bool (anyIdx p n)) ∧ Below w.heap.size w w' := by
  have HC := indexFuncP g cap hg F A n c vs w hr hn hb p hp
  have HC' := Lib.hid HC
  clear HC hp
  cases hany : anyIdx p n
  · have hz := Lib.hid (firstIdx_any_false hany)
    have HA := Lib.hid hany
    clear hany
    go_enter Tryz.func141, Tryz.ntmps141
    go_wp2_with fail
    refine HC'.out.mono ?_
    rintro e w' ⟨rfl, hb1⟩
    rw [hz.out]
    go_wp2
    go_ret
    exact ⟨by simp, hb1⟩
  · have hz := Lib.hid (firstIdx_any_true hany)
    have HA := Lib.hid hany
    clear hany
    go_enter Tryz.func141, Tryz.ntmps141
    go_wp2_with fail
    refine HC'.out.mono ?_
    rintro e w' ⟨rfl, hb1⟩
    obtain ⟨q, hq⟩ := hz.out
    rw [hq]
    go_wp2
    go_ret
    exact ⟨by simp, hb1⟩
set_option maxHeartbeats 400000 in
theorem indexFuncQP (g : FuncId) (cap : Array Value) (hg : ∀ (args : Array Value) (w : World), (callFunc g args).run Tryz.prog w = .ok (.enter g args) w) (F : Nat → Prop) (A : Option Addr) (n c : Nat) (vs : List Value) (w : World) (hr : Rds F w A vs) (hn : vs.length = n) (hb : n ≤ 1000000000000) (p : Nat → Bool)
    (hp : ∀ i v, vs[i]? = some v → Calls Tryz.prog g (#[v] ++ cap) w fun e w' => e = .returned (.bool (p i)) ∧ w = w') :
    Calls Tryz.prog 167 #[.slice A n c, .func (.func g) #[] cap] w fun e w' => e = .returned (.int .i64 (firstIdx p n)) ∧ w = w' := by
  have HP := Lib.hid hp
  clear hp
  go_enter Tryz.func167, Tryz.ntmps167
  go_wp2
  go_loop [5, 8] (fun _ i => ∃ k : Nat, k ≤ n ∧ i = .int .i64 k ∧ Hid (∀ j, j < k → p j = false)) (fun _ i => n - (intOf i).toNat)
  case atStart => exact ⟨0, Nat.zero_le _, rfl, fun j hj => absurd hj (by omega)⟩
  case round =>
    obtain ⟨k, hk, rfl, hnone⟩ := hrel
    by_cases hlt : k < n
    · obtain ⟨b, o, rfl, _, hl⟩ := hr.open (by intro h; subst h; simp at hn; omega)
      have hc := hr.at k vs[k] (by simp)
      go_wp2_with fail
      refine (HP.out k vs[k] (by simp)).mono ?_
      rintro e w' ⟨rfl, rfl⟩
      cases hpk : p k
      · have HPK := Lib.hid hpk
        clear hpk
        go_wp2
        go_round
        case rel => exact ⟨k + 1, by omega, by go_num, none_snoc hnone HPK.out⟩
        case measure => simp [intOf]; omega
      · have HPK := Lib.hid hpk
        clear hpk
        go_wp2
        go_ret
        exact ⟨by rw [firstIdx_some hnone HPK.out hlt]; rfl, rfl⟩
    · go_wp2
      go_ret
      obtain rfl : k = n := by omega
      exact ⟨by rw [firstIdx_none hnone]; rfl, rfl⟩
set_option maxHeartbeats 400000 in
theorem containsFuncQP (g : FuncId) (cap : Array Value) (hg : ∀ (args : Array Value) (w : World), (callFunc g args).run Tryz.prog w = .ok (.enter g args) w) (F : Nat → Prop) (A : Option Addr) (n c : Nat) (vs : List Value) (w : World) (hr : Rds F w A vs) (hn : vs.length = n) (hb : n ≤ 1000000000000) (p : Nat → Bool)
    (hp : ∀ i v, vs[i]? = some v → Calls Tryz.prog g (#[v] ++ cap) w fun e w' => e = .returned (.bool (p i)) ∧ w = w') :
    Calls Tryz.prog 141 #[.slice A n c, .func (.func g) #[] cap] w fun e w' => e = .returned (.bool (anyIdx p n)) ∧ w = w' := by
  have HC := indexFuncQP g cap hg F A n c vs w hr hn hb p hp
  have HC' := Lib.hid HC
  clear HC hp
  cases hany : anyIdx p n
  · have hz := Lib.hid (firstIdx_any_false hany)
    have HA := Lib.hid hany
    clear hany
    go_enter Tryz.func141, Tryz.ntmps141
    go_wp2_with fail
    refine HC'.out.mono ?_
    rintro e w' ⟨rfl, rfl⟩
    rw [hz.out]
    go_wp2
    go_ret
    exact ⟨by simp, rfl⟩
  · have hz := Lib.hid (firstIdx_any_true hany)
    have HA := Lib.hid hany
    clear hany
    go_enter Tryz.func141, Tryz.ntmps141
    go_wp2_with fail
    refine HC'.out.mono ?_
    rintro e w' ⟨rfl, rfl⟩
    obtain ⟨q, hq⟩ := hz.out
    rw [hq]
    go_wp2
    go_ret
    exact ⟨by simp, rfl⟩
end Go.Proofs.YtekamdcojabgeaaGreatDoor
