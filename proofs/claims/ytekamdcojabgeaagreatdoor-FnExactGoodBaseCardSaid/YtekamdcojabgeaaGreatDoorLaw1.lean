/- The walks of the laws' own functions on values: szNode.., toNode.., eqNode... -/
import Derived.Test.YtekamdcojabgeaaGreatDoorBase
import Derived.Laws.MakeOwn
import Derived.Laws.Entries
namespace Go.Proofs.YtekamdcojabgeaaGreatDoor
open Go.RowKit
theorem make_rowN {P : Program} (t e : TypeId) (z : Value) (size bytes : Nat) (ht : P.underlying t = some (.slice e)) (hi : (P.info? e).map (fun i => (i.zero, i.size, i.bytes)) = some (some z, size, bytes))
    (c : Nat) (hbytes : bytes * c ≤ 281474976710656) (h63 : c ≤ 9223372036854775807) (w : World) :
    (Instr.makeSlice t (.int .i64 (c : Int)) (.int .i64 (c : Int))).run P w = .ok (.slice (some ⟨w.heap.size, 0, none⟩) c c) (w.alloc (.cells (madeCells z.cells (c * size)) e)) := by
  obtain ⟨i, hi, hzz⟩ := Option.map_eq_some_iff.1 hi
  simp only [Prod.mk.injEq] at hzz
  obtain ⟨hz0, hz1, hz2⟩ := hzz
  have hb : (i.bytes : Int) * (c : Int) ≤ 281474976710656 := by
    have h : ((i.bytes * c : Nat) : Int) ≤ 281474976710656 := by rw [hz2]; omega
    rwa [Int.natCast_mul] at h
  have hr := run_make (P := P) w t e i z ht hi hz0 .i64 .i64 c c (by omega) (by omega) hb (by omega)
  simp only [Int.toNat_natCast] at hr
  rw [hr, hz1]
theorem info_size {P : Program} {t : TypeId} {z : Option Value} {s b : Nat} (h : (P.info? t).map (fun i => (i.zero, i.size, i.bytes)) = some (z, s, b)) : (P.info? t).map (·.size) = some s := by
  obtain ⟨i, hi, e⟩ := Option.map_eq_some_iff.1 h
  simp only [Prod.mk.injEq] at e
  rw [hi, Option.map_some, e.2.1]
theorem blk_skip {w : World} {b : Nat} {o : Obj} (a : Addr) (v : Value) (h : w.heap[b]? = some o) (ha : b ≠ a.block) : (w.setCell a v).heap[b]? = some o := (Below.heap_setCell w a v b ha).trans h
theorem blk_old {w : World} {b : Nat} {o o' : Obj} (h : w.heap[b]? = some o) : (w.alloc o').heap[b]? = some o := (heap_alloc_old w o' (lt_of_block h)).trans h
theorem blk_new {w : World} {b : Nat} (o : Obj) (h : b = w.heap.size) : (w.alloc o).heap[b]? = some o := by subst h; exact heap_alloc_new w o
/-- What lies in a block behind the steps of a walk. -/

theorem cells5 {w : World} {b : Nat} {v0 v1 v2 v3 v4 : Value} {T : TypeId} (h : w.heap[b]? = some (.cells #[v0, v1, v2, v3, v4] T (0, 0))) :
    w.cell? ⟨b, 0, none⟩ = some v0 ∧ w.cell? ⟨b, 1, none⟩ = some v1 ∧ w.cell? ⟨b, 2, none⟩ = some v2 ∧ w.cell? ⟨b, 3, none⟩ = some v3 ∧ w.cell? ⟨b, 4, none⟩ = some v4 := by
  simp [cell_of_block h]
theorem free5 {w : World} {b : Nat} {cs : Array Value} {T : TypeId} (h : w.heap[b]? = some (.cells cs T (0, 0))) :
    w.frozen? ⟨b, 0, none⟩ = false ∧ w.frozen? ⟨b, 1, none⟩ = false ∧ w.frozen? ⟨b, 2, none⟩ = false ∧ w.frozen? ⟨b, 3, none⟩ = false ∧ w.frozen? ⟨b, 4, none⟩ = false := by
  simp [free_of_block h]
/-! ### sizes -/
/-- All its texts are at most m long. -/
def Nd.small (m : Nat) (x : Nd) : Prop := x.text.size ≤ m ∧ x.name.size ≤ m
set_option maxHeartbeats 800000 in
theorem szNode_any (x : Nd) (n : Nat) (hn : n ≤ 1048576) (w : World) (h1 : x.text.size ≤ 9223372036854775807) (h2 : x.name.size ≤ 9223372036854775807) :
    Calls Tryz.prog 94 #[x.val, .int .i64 (n : Int)] w fun e w' => Below w.heap.size w w' ∧ ∃ r : Int, e = .returned (.int .i64 r) ∧ (r = -1 ∨ ∃ m : Nat, r = m ∧ m ≤ n ∧ x.small 1048576) := by
  unfold Nd.val
  have hb0 : ∀ o, Below w.heap.size w (w.alloc o) := fun o => (Below.refl _ _).alloc (Nat.le_refl _) _
  have e1 : wrap64 ((n : Int) - (x.text.size : Int)) = (n : Int) - (x.text.size : Int) := by unfold wrap64; omega
  by_cases c1 : x.text.size ≤ n
  · have e2 : wrap64 ((n : Int) - (x.text.size : Int) - (x.name.size : Int)) = (n : Int) - (x.text.size : Int) - (x.name.size : Int) := by unfold wrap64; omega
    by_cases c2 : x.text.size + x.name.size ≤ n
    · have d1 : decide ((n : Int) - (x.text.size : Int) < 0) = false := by simp; omega
      have d2 : decide ((n : Int) - (x.text.size : Int) - (x.name.size : Int) < 0) = false := by simp; omega
      go_enter Tryz.func94, Tryz.ntmps94
      go_wp2
      go_ret
      exact ⟨hb0 _, _, rfl, .inr ⟨n - x.text.size - x.name.size, by omega, by omega, by unfold Nd.small; omega⟩⟩
    · have d1 : decide ((n : Int) - (x.text.size : Int) < 0) = false := by simp; omega
      have d2 : decide ((n : Int) - (x.text.size : Int) - (x.name.size : Int) < 0) = true := by simp; omega
      go_enter Tryz.func94, Tryz.ntmps94
      go_wp2
      go_ret
      exact ⟨hb0 _, _, rfl, .inl rfl⟩
  · have d1 : decide ((n : Int) - (x.text.size : Int) < 0) = true := by simp; omega
    go_enter Tryz.func94, Tryz.ntmps94
    go_wp2
    go_ret
    exact ⟨hb0 _, _, rfl, .inl rfl⟩
def SzPost (l : List Nd) (n : Nat) (w : World) (e : Ending) (w' : World) : Prop :=
  Below w.heap.size w w' ∧ ∃ r : Int, e = .returned (.int .i64 r) ∧ (r = -1 ∨ ∃ m : Nat, r = m ∧ m ≤ n ∧ l.length ≤ n ∧ ∀ x ∈ l, x.small 1048576)
set_option maxHeartbeats 1600000 in
theorem szNodeS_any (l : List Nd) (hl : l.length ≤ 9223372036854775807) (hsz : ∀ x ∈ l, x.small 9223372036854775807) (F : Nat → Prop) (A : Option Addr) (c : Nat) (n : Nat) (hn : n ≤ 1048576) (w : World) (hr : Rds F w A (ndCells l)) :
    Calls Tryz.prog 65 #[.slice A l.length c, .int .i64 (n : Int)] w (SzPost l n w) := by
  have e1 : wrap64 ((n : Int) - (l.length : Int)) = (n : Int) - (l.length : Int) := by unfold wrap64; omega
  by_cases c1 : l.length ≤ n
  · have d1 : decide ((n : Int) - (l.length : Int) < 0) = false := by simp; omega
    have HR := Lib.hid hr
    have HS := Lib.hid hsz
    clear hr hsz
    go_enter Tryz.func65, Tryz.ntmps65
    go_wp2
    go_loopw [1, 5] (fun v i wx => ∃ k m : Nat, v = .int .i64 (m : Int) ∧ i = .int .i64 (k : Int) ∧ k ≤ l.length ∧ m ≤ n ∧ (∀ x ∈ l.take k, x.small 1048576) ∧ Below w.heap.size w wx) (fun _ i _ => l.length - (intOf i).toNat)
    case atStart => exact ⟨0, n - l.length, by go_num, rfl, Nat.zero_le _, by omega, fun x h => by simp at h, Below.refl _ _⟩
    case round =>
      obtain ⟨k, m, rfl, rfl, hk, hm, hall, hbx⟩ := hrel
      have HB := Lib.hid hbx
      have HA := Lib.hid hall
      clear hbx hall
      by_cases hlt : k < l.length
      · obtain ⟨b, o, x, rfl, hF, hbl, hx, g0, g1, g2, g3, g4⟩ := nd_at (HR.out.frame (Agree.of_below HB.out)) k hlt
        have hmem : x ∈ l := List.mem_of_getElem? hx
        have HX := Lib.hid hx
        clear hx
        have HC := Lib.hid (szNode_any x m (by omega) (by assumption) (HS.out x hmem).1 (HS.out x hmem).2)
        go_wp2_with fail
        refine HC.out.mono ?_
        rintro e w2 ⟨hb2, r, rfl, hr⟩
        have HB2 := Lib.hid (below_then HB.out HB.out.size hb2)
        rcases hr with rfl | ⟨m', rfl, hm', hs⟩
        · go_wp2
          go_ret
          exact ⟨HB2.out, _, rfl, .inl rfl⟩
        · have HSm := Lib.hid hs
          clear hs hb2
          go_wp2
          go_roundw
          case rel =>
            refine ⟨k+1, m', rfl, by go_num, by omega, by omega, fun y hy => ?_, HB2.out⟩
            rw [List.take_add_one, HX.out] at hy
            rcases List.mem_append.1 hy with hy | hy
            · exact HA.out y hy
            · obtain rfl : y = x := by simpa using hy
              exact HSm.out
          case measure => simp [intOf]; omega
      · go_wp2
        go_ret
        refine ⟨HB.out, _, rfl, .inr ⟨m, rfl, hm, c1, fun y hy => HA.out y ?_⟩⟩
        rw [List.take_of_length_le (by omega)]; exact hy
  · have d1 : decide ((n : Int) - (l.length : Int) < 0) = true := by simp; omega
    go_enter Tryz.func65, Tryz.ntmps65
    go_wp2
    go_ret
    exact ⟨Below.refl _ _, _, rfl, .inl rfl⟩
end Go.Proofs.YtekamdcojabgeaaGreatDoor
