/- Plain words on the first number that meets a test. The walks of slices.IndexFunc and slices.ContainsFunc over names and over parts. -/
import Derived.Test.YtemcijhpmpdebaaGreatDoorBase
namespace Go.Proofs.YtemcijhpmpdebaaGreatDoor
open Go.RowKit
def firstIdx (p : Nat → Bool) (n : Nat) : Int := match (List.range n).find? p with | some i => (i : Int) | none => -1
def anyIdx (p : Nat → Bool) (n : Nat) : Bool := (List.range n).any p
theorem none_snoc {p : Nat → Bool} {k : Nat} (h : Hid (∀ j, j < k → p j = false)) (hk : p k = false) : Hid (∀ j, j < k + 1 → p j = false) := by
  intro j hj
  rcases Nat.lt_or_ge j k with h' | h'
  · exact h j h'
  · obtain rfl : j = k := by omega
    exact hk
theorem find_range {p : Nat → Bool} {k : Nat} (h : ∀ j, j < k → p j = false) : (List.range k).find? p = none := by
  rw [List.find?_eq_none]
  intro x hx
  rw [h x (by simpa using hx)]
  simp
theorem firstIdx_some {p : Nat → Bool} {k n : Nat} (h : Hid (∀ j, j < k → p j = false)) (hk : p k = true) (hn : k < n) : firstIdx p n = k := by
  have e : List.range n = List.range k ++ (List.range (n - k)).map (k + ·) := by rw [← List.range_add]; congr 1; omega
  obtain ⟨m, hm⟩ : ∃ m, n - k = m + 1 := ⟨n - k - 1, by omega⟩
  rw [firstIdx, e, List.find?_append, find_range h, hm, List.range_succ_eq_map]
  simp [hk]
theorem firstIdx_none {p : Nat → Bool} {n : Nat} (h : Hid (∀ j, j < n → p j = false)) : firstIdx p n = -1 := by
  rw [firstIdx, find_range h]
theorem firstIdx_any_false {p : Nat → Bool} {n : Nat} (h : anyIdx p n = false) : firstIdx p n = -1 :=
  firstIdx_none (fun j hj => by
    unfold anyIdx at h
    rw [List.any_eq_false] at h
    simpa using h j (by simpa using hj))
theorem firstIdx_any_true {p : Nat → Bool} {n : Nat} (h : anyIdx p n = true) : ∃ q : Nat, firstIdx p n = q := by
  unfold anyIdx at h
  rw [List.any_eq_true] at h
  unfold firstIdx
  obtain ⟨x, hx, hp⟩ := h
  cases hf : (List.range n).find? p
  · rw [List.find?_eq_none] at hf
    exact absurd hp (by simpa using hf x hx)
  · exact ⟨_, rfl⟩
theorem anyIdx_list {α : Type} (l : List α) (q : α → Bool) (p : Nat → Bool) (h : ∀ i x, l[i]? = some x → p i = q x) : anyIdx p l.length = l.any q := by
  unfold anyIdx
  rw [Bool.eq_iff_iff, List.any_eq_true, List.any_eq_true]
  constructor
  · rintro ⟨i, hi, hp⟩
    have hi' : i < l.length := by simpa using hi
    exact ⟨l[i], List.getElem_mem hi', by rw [← h i l[i] (by simp [hi'])]; exact hp⟩
  · rintro ⟨x, hx, hq⟩
    obtain ⟨i, hi, rfl⟩ := List.getElem_of_mem hx
    exact ⟨i, by simpa using hi, by rw [h i l[i] (by simp [hi])]; exact hq⟩
end Go.Proofs.YtemcijhpmpdebaaGreatDoor
namespace Go.Proofs.YtemcijhpmpdebaaGreatDoor
open Go.RowKit
set_option maxHeartbeats 400000 in
theorem indexFuncS (g : FuncId) (cap : Array Value) (hg : ∀ (args : Array Value) (w : World), (callFunc g args).run Tryz.prog w = .ok (.enter g args) w) (F : Nat → Prop) (A : Option Addr) (n c : Nat) (vs : List Value) (w : World) (hr : Rds F w A vs) (hn : vs.length = n) (hb : n ≤ 1000000000000) (p : Nat → Bool)
    (hp : ∀ wr, Below w.heap.size w wr → ∀ i v, vs[i]? = some v → Calls Tryz.prog g (#[v] ++ cap) wr fun e w' => e = .returned (.bool (p i)) ∧ Below wr.heap.size wr w') :
    Calls Tryz.prog 145 #[.slice A n c, .func (.func g) #[] cap] w fun e w' => e = .returned (.int .i64 (firstIdx p n)) ∧ Below w.heap.size w w' := by
  have HP := Lib.hid hp
  clear hp
  go_enter Tryz.func145, Tryz.ntmps145
  go_wp2
  go_loopw [5, 8] (fun _ i wr => ∃ k : Nat, k ≤ n ∧ i = .int .i64 k ∧ Below w.heap.size w wr ∧ Hid (∀ j, j < k → p j = false)) (fun _ i _ => n - (intOf i).toNat)
  case atStart => exact ⟨0, Nat.zero_le _, rfl, Below.refl _ _, fun j hj => absurd hj (by omega)⟩
  case round =>
    obtain ⟨k, hk, rfl, hbl, hnone⟩ := hrel
    by_cases hlt : k < n
    · obtain ⟨b, o, rfl, _, hl⟩ := hr.open (by intro h; subst h; simp at hn; omega)
      have hc := (hr.below hbl).at k vs[k] (by simp)
      go_wp2_with fail
      refine (HP.out _ hbl k vs[k] (by simp)).mono ?_
      rintro e w' ⟨rfl, hb1⟩
      cases hpk : p k
      · have HPK := Lib.hid hpk
        clear hpk
        go_wp2
        go_roundw
        case rel => exact ⟨k + 1, by omega, by go_num, hbl.trans (hb1.mono hbl.size), none_snoc hnone HPK.out⟩
        case measure => simp [intOf]; omega
      · have HPK := Lib.hid hpk
        clear hpk
        go_wp2
        go_ret
        exact ⟨by rw [firstIdx_some hnone HPK.out hlt]; rfl, below_then hbl hbl.size hb1⟩
    · go_wp2
      go_ret
      obtain rfl : k = n := by omega
      exact ⟨by rw [firstIdx_none hnone]; rfl, hbl⟩
set_option maxHeartbeats 400000 in
theorem containsFuncS (g : FuncId) (cap : Array Value) (hg : ∀ (args : Array Value) (w : World), (callFunc g args).run Tryz.prog w = .ok (.enter g args) w) (F : Nat → Prop) (A : Option Addr) (n c : Nat) (vs : List Value) (w : World) (hr : Rds F w A vs) (hn : vs.length = n) (hb : n ≤ 1000000000000) (p : Nat → Bool)
    (hp : ∀ wr, Below w.heap.size w wr → ∀ i v, vs[i]? = some v → Calls Tryz.prog g (#[v] ++ cap) wr fun e w' => e = .returned (.bool (p i)) ∧ Below wr.heap.size wr w') :
    Calls Tryz.prog 137 #[.slice A n c, .func (.func g) #[] cap] w fun e w' => e = .returned (.bool (anyIdx p n)) ∧ Below w.heap.size w w' := by
  have HC := indexFuncS g cap hg F A n c vs w hr hn hb p hp
  have HC' := Lib.hid HC
  clear HC hp
  cases hany : anyIdx p n
  · have hz := Lib.hid (firstIdx_any_false hany)
    have HA := Lib.hid hany
    clear hany
    go_enter Tryz.func137, Tryz.ntmps137
    go_wp2_with fail
    refine HC'.out.mono ?_
    rintro e w' ⟨rfl, hb1⟩
    rw [hz.out]
    go_wp2
    go_ret
    exact ⟨by simp, hb1⟩
  · have hz := Lib.hid (firstIdx_any_true hany)
    have HA := Lib.hid hany
    clear hany
    go_enter Tryz.func137, Tryz.ntmps137
    go_wp2_with fail
    refine HC'.out.mono ?_
    rintro e w' ⟨rfl, hb1⟩
    obtain ⟨q, hq⟩ := hz.out
    rw [hq]
    go_wp2
    go_ret
    exact ⟨by simp, hb1⟩
set_option maxHeartbeats 400000 in
theorem indexFuncQS (g : FuncId) (cap : Array Value) (hg : ∀ (args : Array Value) (w : World), (callFunc g args).run Tryz.prog w = .ok (.enter g args) w) (F : Nat → Prop) (A : Option Addr) (n c : Nat) (vs : List Value) (w : World) (hr : Rds F w A vs) (hn : vs.length = n) (hb : n ≤ 1000000000000) (p : Nat → Bool)
    (hp : ∀ i v, vs[i]? = some v → Calls Tryz.prog g (#[v] ++ cap) w fun e w' => e = .returned (.bool (p i)) ∧ w = w') :
    Calls Tryz.prog 145 #[.slice A n c, .func (.func g) #[] cap] w fun e w' => e = .returned (.int .i64 (firstIdx p n)) ∧ w = w' := by
  have HP := Lib.hid hp
  clear hp
  go_enter Tryz.func145, Tryz.ntmps145
  go_wp2
  go_loop [5, 8] (fun _ i => ∃ k : Nat, k ≤ n ∧ i = .int .i64 k ∧ Hid (∀ j, j < k → p j = false)) (fun _ i => n - (intOf i).toNat)
  case atStart => exact ⟨0, Nat.zero_le _, rfl, fun j hj => absurd hj (by omega)⟩
  case round =>
    obtain ⟨k, hk, rfl, hnone⟩ := hrel
    by_cases hlt : k < n
    · obtain ⟨b, o, rfl, _, hl⟩ := hr.open (by intro h; subst h; simp at hn; omega)
      have hc := hr.at k vs[k] (by simp)
      go_wp2_with fail
      refine (HP.out k vs[k] (by simp)).mono ?_
      rintro e w' ⟨rfl, rfl⟩
      cases hpk : p k
      · have HPK := Lib.hid hpk
        clear hpk
        go_wp2
        go_round
        case rel => exact ⟨k + 1, by omega, by go_num, none_snoc hnone HPK.out⟩
        case measure => simp [intOf]; omega
      · have HPK := Lib.hid hpk
        clear hpk
        go_wp2
        go_ret
        exact ⟨by rw [firstIdx_some hnone HPK.out hlt]; rfl, rfl⟩
    · go_wp2
      go_ret
      obtain rfl : k = n := by omega
      exact ⟨by rw [firstIdx_none hnone]; rfl, rfl⟩
set_option maxHeartbeats 400000 in
theorem containsFuncQS (g : FuncId) (cap : Array Value) (hg : ∀ (args : Array Value) (w : World), (callFunc g args).run Tryz.prog w = .ok (.enter g args) w) (F : Nat → Prop) (A : Option Addr) (n c : Nat) (vs : List Value) (w : World) (hr : Rds F w A vs) (hn : vs.length = n) (hb : n ≤ 1000000000000) (p : Nat → Bool)
    (hp : ∀ i v, vs[i]? = some v → Calls Tryz.prog g (#[v] ++ cap) w fun e w' => e = .returned (.bool (p i)) ∧ w = w') :
    Calls Tryz.prog 137 #[.slice A n c, .func (.func g) #[] cap] w fun e w' => e = .returned (.bool (anyIdx p n)) ∧ w = w' := by
  have HC := indexFuncQS g cap hg F A n c vs w hr hn hb p hp
  have HC' := Lib.hid HC
  clear HC hp
  cases hany : anyIdx p n
  · have hz := Lib.hid (firstIdx_any_false hany)
    have HA := Lib.hid hany
    clear hany
    go_enter Tryz.func137, Tryz.ntmps137
    go_wp2_with fail
    refine HC'.out.mono ?_
    rintro e w' ⟨rfl, rfl⟩
    rw [hz.out]
    go_wp2
    go_ret
    exact ⟨by simp, rfl⟩
  · have hz := Lib.hid (firstIdx_any_true hany)
    have HA := Lib.hid hany
    clear hany
    go_enter Tryz.func137, Tryz.ntmps137
    go_wp2_with fail
    refine HC'.out.mono ?_
    rintro e w' ⟨rfl, rfl⟩
    obtain ⟨q, hq⟩ := hz.out
    rw [hq]
    go_wp2
    go_ret
    exact ⟨by simp, rfl⟩
set_option maxHeartbeats 400000 in
theorem indexFuncP (g : FuncId) (cap : Array Value) (hg : ∀ (args : Array Value) (w : World), (callFunc g args).run Tryz.prog w = .ok (.enter g args) w) (F : Nat → Prop) (A : Option Addr) (n c : Nat) (vs : List Value) (w : World) (hr : Rds F w A vs) (hn : vs.length = n) (hb : n ≤ 1000000000000) (p : Nat → Bool)
    (hp : ∀ wr, Below w.heap.size w wr → ∀ i v, vs[i]? = some v → Calls Tryz.prog g (#[v] ++ cap) wr fun e w' => e = .returned (.bool (p i)) ∧ Below wr.heap.size wr w') :
    Calls Tryz.prog 146 #[.slice A n c, .func (.func g) #[] cap] w fun e w' => e = .returned (.int .i64 (firstIdx p n)) ∧ Below w.heap.size w w' := by
  have HP := Lib.hid hp
  clear hp
  go_enter Tryz.func146, Tryz.ntmps146
  go_wp2
  go_loopw [5, 8] (fun _ i wr => ∃ k : Nat, k ≤ n ∧ i = .int .i64 k ∧ Below w.heap.size w wr ∧ Hid (∀ j, j < k → p j = false)) (fun _ i _ => n - (intOf i).toNat)
  case atStart => exact ⟨0, Nat.zero_le _, rfl, Below.refl _ _, fun j hj => absurd hj (by omega)⟩
  case round =>
    obtain ⟨k, hk, rfl, hbl, hnone⟩ := hrel
    by_cases hlt : k < n
    · obtain ⟨b, o, rfl, _, hl⟩ := hr.open (by intro h; subst h; simp at hn; omega)
      have hc := (hr.below hbl).at k vs[k] (by simp)
      go_wp2_with fail
      refine (HP.out _ hbl k vs[k] (by simp)).mono ?_
      rintro e w' ⟨rfl, hb1⟩
      cases hpk : p k
      · have HPK := Lib.hid hpk
        clear hpk
        go_wp2
        go_roundw
        case rel => exact ⟨k + 1, by omega, by go_num, hbl.trans (hb1.mono hbl.size), none_snoc hnone HPK.out⟩
        case measure => simp [intOf]; omega
      · have HPK := Lib.hid hpk
        clear hpk
        go_wp2
        go_ret
        exact ⟨by rw [firstIdx_some hnone HPK.out hlt]; rfl, below_then hbl hbl.size hb1⟩
    · go_wp2
      go_ret
      obtain rfl : k = n := by omega
      exact ⟨by rw [firstIdx_none hnone]; rfl, hbl⟩
set_option maxHeartbeats 400000 in
theorem containsFuncP (g : FuncId) (cap : Array Value) (hg : ∀ (args : Array Value) (w : World), (callFunc g args).run Tryz.prog w = .ok (.enter g args) w) (F : Nat → Prop) (A : Option Addr) (n c : Nat) (vs : List Value) (w : World) (hr : Rds F w A vs) (hn : vs.length = n) (hb : n ≤ 1000000000000) (p : Nat → Bool)
    (hp : ∀ wr, Below w.heap.size w wr → ∀ i v, vs[i]? = some v → Calls Tryz.prog g (#[v] ++ cap) wr fun e w' => e = .returned (.bool (p i)) ∧ Below wr.heap.size wr w') :
    Calls Tryz.prog 139 #[.slice A n c, .func (.func g) #[] cap] w fun e w' => e = .returned (.bool (anyIdx p n)) ∧ Below w.heap.size w w' := by
  have HC := indexFuncP g cap hg F A n c vs w hr hn hb p hp
  have HC' := Lib.hid HC
  clear HC hp
  cases hany : anyIdx p n
  · have hz := Lib.hid (firstIdx_any_false hany)
    have HA := Lib.hid hany
    clear hany
    go_enter Tryz.func139, Tryz.ntmps139
    go_wp2_with fail
    refine HC'.out.mono ?_
    rintro e w' ⟨rfl, hb1⟩
    rw [hz.out]
    go_wp2
    go_ret
    exact ⟨by simp, hb1⟩
  · have hz := Lib.hid (firstIdx_any_true hany)
    have HA := Lib.hid hany
    clear hany
    go_enter Tryz.func139, Tryz.ntmps139
    go_wp2_with fail
    refine HC'.out.mono ?_
    rintro e w' ⟨rfl, hb1⟩
    obtain ⟨q, hq⟩ := hz.out
    rw [hq]
    go_wp2
    go_ret
    exact ⟨by simp, hb1⟩
set_option maxHeartbeats 400000 in
theorem indexFuncQP (g : FuncId) (cap : Array Value) (hg : ∀ (args : Array Value) (w : World), (callFunc g args).run Tryz.prog w = .ok (.enter g args) w) (F : Nat → Prop) (A : Option Addr) (n c : Nat) (vs : List Value) (w : World) (hr : Rds F w A vs) (hn : vs.length = n) (hb : n ≤ 1000000000000) (p : Nat → Bool)
    (hp : ∀ i v, vs[i]? = some v → Calls Tryz.prog g (#[v] ++ cap) w fun e w' => e = .returned (.bool (p i)) ∧ w = w') :
    Calls Tryz.prog 146 #[.slice A n c, .func (.func g) #[] cap] w fun e w' => e = .returned (.int .i64 (firstIdx p n)) ∧ w = w' := by
  have HP := Lib.hid hp
  clear hp
  go_enter Tryz.func146, Tryz.ntmps146
  go_wp2
  go_loop [5, 8] (fun _ i => ∃ k : Nat, k ≤ n ∧ i = .int .i64 k ∧ Hid (∀ j, j < k → p j = false)) (fun _ i => n - (intOf i).toNat)
  case atStart => exact ⟨0, Nat.zero_le _, rfl, fun j hj => absurd hj (by omega)⟩
  case round =>
    obtain ⟨k, hk, rfl, hnone⟩ := hrel
    by_cases hlt : k < n
    · obtain ⟨b, o, rfl, _, hl⟩ := hr.open (by intro h; subst h; simp at hn; omega)
      have hc := hr.at k vs[k] (by simp)
      go_wp2_with fail
      refine (HP.out k vs[k] (by simp)).mono ?_
      rintro e w' ⟨rfl, rfl⟩
      cases hpk : p k
      · have HPK := Lib.hid hpk
        clear hpk
        go_wp2
        go_round
        case rel => exact ⟨k + 1, by omega, by go_num, none_snoc hnone HPK.out⟩
        case measure => simp [intOf]; omega
      · have HPK := Lib.hid hpk
        clear hpk
        go_wp2
        go_ret
        exact ⟨by rw [firstIdx_some hnone HPK.out hlt]; rfl, rfl⟩
    · go_wp2
      go_ret
      obtain rfl : k = n := by omega
      exact ⟨by rw [firstIdx_none hnone]; rfl, rfl⟩
set_option maxHeartbeats 400000 in
theorem containsFuncQP (g : FuncId) (cap : Array Value) (hg : ∀ (args : Array Value) (w : World), (callFunc g args).run Tryz.prog w = .ok (.enter g args) w) (F : Nat → Prop) (A : Option Addr) (n c : Nat) (vs : List Value) (w : World) (hr : Rds F w A vs) (hn : vs.length = n) (hb : n ≤ 1000000000000) (p : Nat → Bool)
    (hp : ∀ i v, vs[i]? = some v → Calls Tryz.prog g (#[v] ++ cap) w fun e w' => e = .returned (.bool (p i)) ∧ w = w') :
    Calls Tryz.prog 139 #[.slice A n c, .func (.func g) #[] cap] w fun e w' => e = .returned (.bool (anyIdx p n)) ∧ w = w' := by
  have HC := indexFuncQP g cap hg F A n c vs w hr hn hb p hp
  have HC' := Lib.hid HC
  clear HC hp
  cases hany : anyIdx p n
  · have hz := Lib.hid (firstIdx_any_false hany)
    have HA := Lib.hid hany
    clear hany
    go_enter Tryz.func139, Tryz.ntmps139
    go_wp2_with fail
    refine HC'.out.mono ?_
    rintro e w' ⟨rfl, rfl⟩
    rw [hz.out]
    go_wp2
    go_ret
    exact ⟨by simp, rfl⟩
  · have hz := Lib.hid (firstIdx_any_true hany)
    have HA := Lib.hid hany
    clear hany
    go_enter Tryz.func139, Tryz.ntmps139
    go_wp2_with fail
    refine HC'.out.mono ?_
    rintro e w' ⟨rfl, rfl⟩
    obtain ⟨q, hq⟩ := hz.out
    rw [hq]
    go_wp2
    go_ret
    exact ⟨by simp, rfl⟩
end Go.Proofs.YtemcijhpmpdebaaGreatDoor
