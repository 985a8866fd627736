/- The walk of l1Kids. -/
import Derived.Test.YtekamdcojabgeaaGreatDoorSpec1
import Derived.Test.YtekamdcojabgeaaGreatDoorVal3
import Derived.Deep.Onto
namespace Go.Proofs.YtekamdcojabgeaaGreatDoor
open Go.RowKit
def isKid (l : List Nd) (k i : Nat) : Bool := decide (k < i) && (match l[i]? with | some x => x.up == (k : Int) | none => false)
def kidsTo (l : List Nd) (k j : Nat) : List Nat := (List.range j).filter (isKid l k)
theorem kidsTo_len (l : List Nd) (k j : Nat) : (kidsTo l k j).length ≤ j := by
  have := List.length_filter_le (isKid l k) (List.range j)
  simpa [kidsTo] using this
theorem kidsTo_succ (l : List Nd) (k j : Nat) : kidsTo l k (j+1) = kidsTo l k j ++ (if isKid l k j then [j] else []) := by
  simp [kidsTo, List.range_succ, List.filter_append, List.filter_cons]
theorem kidsTo_low (l : List Nd) (k : Nat) : ∀ j, j ≤ k + 1 → kidsTo l k j = [] := by
  intro j hj
  rw [kidsTo, List.filter_eq_nil_iff]
  intro i hi
  have : i < j := by simpa using hi
  simp [isKid]
  omega
def intv (l : List Nat) : List Value := l.map fun (i : Nat) => Value.int .i64 (i : Int)
theorem infoInt : (Tryz.prog.info? 3).map (fun i => (i.zero, i.size, i.bytes)) = some (some (.int .i64 0), 1, 8) := by kernel_rfl
def KidsPost (l : List Nd) (k : Nat) (w : World) (e : Ending) (w' : World) : Prop :=
  Below w.heap.size w w' ∧ ∃ A c, e = .returned (.slice A (kidsTo l k l.length).length c) ∧ w'.ownsRow w.heap.size 3 1 (.slice A (kidsTo l k l.length).length c) (kidsTo l k l.length).length (intv (kidsTo l k l.length))
set_option maxRecDepth 100000 in
set_option maxHeartbeats 2000000 in
theorem sKids_any (l : List Nd) (hl : l.length ≤ 1000000000) (k : Nat) (hk : k < l.length) (F : Nat → Prop) (A : Option Addr) (c : Nat) (w : World) (hr : Rds F w A (ndCells l)) :
    Calls Tryz.prog 98 #[.agg #[.slice A l.length c], .int .i64 (k : Int)] w (KidsPost l k w) := by
  have HR := Lib.hid hr
  clear hr
  go_enter Tryz.func98, Tryz.ntmps98
  go_wp2
  go_loopw [5, 6] (fun v i wx => ∃ j : Nat, ∃ A1 c1, v = .slice A1 (kidsTo l k j).length c1 ∧ i = .int .i64 (j : Int) ∧ k + 1 ≤ j ∧ j ≤ l.length ∧ Below w.heap.size w wx ∧ wx.heap[w.heap.size]? = some (.cells #[.slice A l.length c] 31 (0, 0)) ∧ wx.ownsRow (w.heap.size + 1) 3 1 (.slice A1 (kidsTo l k j).length c1) (kidsTo l k j).length (intv (kidsTo l k j))) (fun _ i _ => l.length - (intOf i).toNat)
  case atStart =>
    refine ⟨k+1, none, 0, by rw [kidsTo_low l k _ (Nat.le_refl _)]; rfl, by go_num, by omega, by omega, (Below.refl _ _).alloc (Nat.le_refl _) _, heap_alloc_new _ _, ?_⟩
    rw [kidsTo_low l k _ (Nat.le_refl _)]
    exact World.ownsRow_nil _ _ _ _
  case round =>
    obtain ⟨j, A1, c1, rfl, rfl, hj1, hj2, hb, hbox, hown⟩ := hrel
    have kb := cell_of_block hbox 0
    simp at kb
    have HB := Lib.hid hb
    have HX := Lib.hid hbox
    have hlb := lt_of_block hbox
    have hle := kidsTo_len l k j
    clear hb hbox
    by_cases hlt : j < l.length
    · obtain ⟨b, o, x, rfl, hF, hbl, hx, g0, g1, g2, g3, g4⟩ := nd_at (HR.out.frame (Agree.of_below HB.out)) j hlt
      have hlt' : (j : Int) < (l.length : Int) := by omega
      have hs := kidsTo_succ l k j
      by_cases hu : x.up = (k : Int)
      · have hkid : isKid l k j = true := by simp [isKid, hx, hu]; omega
        rw [hkid, if_pos rfl] at hs
        have HS := Lib.hid hs
        rw [hu] at g4
        clear hs hkid hx hu
        have HO := Lib.hid hown
        clear hown
        go_wp2_with (at_builtin; refine append_one (w.heap.size + 1) rfl (.tmp 24) (.tmp 26) 74 3 (.int .i64 0) 1 8 rfl Tryz.underlying74 infoInt rfl (by decide) (by decide) _ _ _ [.int .i64 (j : Int)] rfl rfl rfl (by simp [Value.oneCell']) rfl HO.out (by omega) (by omega) ?_)
        intro A2 c2 w3 hc2 hown3 hg3 hat3
        have hlow : ∀ g, (Value.slice A1 (kidsTo l k j).length c1).ownBlock = some g → w.heap.size + 1 ≤ g := fun g hg => (own_base HO.out g hg).1
        have hb3 := below_own HB.out hg3 HO.out (Nat.le_succ _) (Nat.le_of_lt hlb)
        have hbox3 := block_agree HX.out (Agree.of_grown (F := fun b => b = w.heap.size) hg3 (fun b hb h => by have := hlow b h; omega)) rfl
        have HB3 := Lib.hid hb3
        have HX3 := Lib.hid hbox3
        have HO3 := Lib.hid hown3
        clear hb3 hbox3 hown3 hg3 hat3 hlow
        go_wp2
        go_roundw
        case rel =>
          have e : kidsTo l k (j+1) = kidsTo l k j ++ [j] := HS.out
          refine ⟨j+1, A2, c2, by rw [e]; simp, by go_num, by omega, by omega, HB3.out, HX3.out, ?_⟩
          have := HO3.out
          rw [e]
          simpa [intv] using this
        case measure => simp [intOf]; omega
      · have hkid : isKid l k j = false := by simp [isKid, hx, hu]
        rw [hkid] at hs
        have HS := Lib.hid hs
        have hu' : (x.up == (k : Int)) = false := by simpa using hu
        clear hs hkid hx hu
        go_wp2
        go_roundw
        case rel =>
          refine ⟨j+1, A1, c1, ?_, by go_num, by omega, by omega, HB.out, HX.out, ?_⟩
          · rw [HS.out]; simp
          · rw [HS.out]; simpa using hown
        case measure => simp [intOf]; omega
    · obtain rfl : j = l.length := by omega
      go_wp2
      go_ret
      exact ⟨HB.out, A1, c1, rfl, World.ownsRow.mono hown (by omega)⟩
end Go.Proofs.YtekamdcojabgeaaGreatDoor
