/- The laws' own function that compares two values. -/
import Derived.Test.YteeppdobeeodiaaGreatDoorLaw4
import Derived.Laws.StructEq
import Derived.BigQuiet
import Derived.Deep.DeepCutAuto
import Derived.Deep.CutBlock
namespace Go.Proofs.YteeppdobeeodiaaGreatDoor
open Go.RowKit
theorem ba_same {a b : ByteArray} (h : a.toList = b.toList) : a = b := by
  rw [ByteArray.toList_eq, ByteArray.toList_eq] at h
  obtain ⟨⟨x⟩⟩ := a
  obtain ⟨⟨y⟩⟩ := b
  have e : x = y := h
  rw [e]
/-- Whether two nodes are one. -/
def ndEq (x y : Nd) : Bool := x.kind == y.kind && (x.num == y.num && (x.text.toList == y.text.toList && (x.name.toList == y.name.toList && x.up == y.up)))
theorem ndEq_iff (x y : Nd) : ndEq x y = true ↔ x = y := by
  unfold ndEq
  simp only [Bool.and_eq_true, beq_iff_eq]
  constructor
  · obtain ⟨k, n, t, m, u⟩ := x
    obtain ⟨k', n', t', m', u'⟩ := y
    rintro ⟨h1, h2, h3, h4, h5⟩
    obtain rfl := ba_same h3
    obtain rfl := ba_same h4
    simp only at h1 h2 h5
    rw [h1, h2, h5]
  · rintro rfl
    exact ⟨rfl, rfl, rfl, rfl, rfl⟩
set_option maxHeartbeats 4000000 in
theorem run_neq_node (x y : Nd) (W : World) :
    (binOp .neq 50 (.agg #[.int .i64 x.kind, .int .i64 x.num, .string x.text, .string x.name, .int .i64 x.up]) (.agg #[.int .i64 y.kind, .int .i64 y.num, .string y.text, .string y.name, .int .i64 y.up])).run Tryz.prog W = .ok (.bool (!ndEq x y)) W := by
  unfold ndEq
  go_simp
  by_cases h1 : x.kind = y.kind
  case neg => simp [h1]
  by_cases h2 : x.num = y.num
  case neg => simp [h1, h2]
  by_cases h3 : x.text.toList = y.text.toList
  case neg => simp [h1, h2, h3]
  by_cases h4 : x.name.toList = y.name.toList
  case neg => simp [h1, h2, h3, h4]
  by_cases h5 : x.up = y.up
  case neg => simp [h1, h2, h3, h4, h5]
  simp [h1, h2, h3, h4, h5]
theorem below_drawnN {B : Nat} {a w : World} (h : Below B a w) (n : Nat) : Below B a (w.drewN n) := h.trans ⟨rfl, rfl, rfl, Nat.le_refl _, fun _ _ => rfl⟩
theorem take_same {l m : List Nd} {i : Nat} {x : Nd} (h : l.take i = m.take i) (hx : l[i]? = some x) (hy : m[i]? = some x) : l.take (i + 1) = m.take (i + 1) := by
  rw [List.take_add_one, List.take_add_one, h, hx, hy]
set_option maxRecDepth 100000 in
set_option maxHeartbeats 4000000 in
theorem lawSame_any (l m : List Nd) (hl : l.length ≤ 1000000000) (_hm : m.length ≤ 1000000000) (F G : Nat → Prop) (A B : Option Addr) (c d : Nat) (w : World) (hr : Rds F w A (ndCells l)) (hs : Rds G w B (ndCells m)) :
    Calls Tryz.prog 8 #[.agg #[.slice A l.length c], .agg #[.slice B m.length d]] w fun e w' => (∃ b, e = .returned (.bool b) ∧ (b = true ↔ l = m)) ∧ Below w.heap.size w w' := by
  obtain ⟨w1, hw⟩ : ∃ w1, w1 = (w.alloc (.cells #[.slice A l.length c] 25 (0, 0))).alloc (.cells #[.slice B m.length d] 25 (0, 0)) := ⟨_, rfl⟩
  have hb1 : Below w.heap.size w w1 := by rw [hw]; exact ((Below.refl _ _).alloc (Nat.le_refl _) _).alloc (by simp) _
  have ka : w1.heap[w.heap.size]? = some (.cells #[.slice A l.length c] 25 (0, 0)) := by rw [hw]; (repeat (first | with_reducible assumption | (with_reducible refine blk_new _ ?_; (first | rfl | (simp; done) | (simp; omega))) | with_reducible apply block_setCell | (with_reducible refine blk_skip _ _ ?_ ?_; rotate_left; (first | (simp; done) | (simp; omega))) | with_reducible refine blk_old ?_))
  have kb : w1.heap[w.heap.size + 1]? = some (.cells #[.slice B m.length d] 25 (0, 0)) := by rw [hw]; (repeat (first | with_reducible assumption | (with_reducible refine blk_new _ ?_; (first | rfl | (simp; done) | (simp; omega))) | with_reducible apply block_setCell | (with_reducible refine blk_skip _ _ ?_ ?_; rotate_left; (first | (simp; done) | (simp; omega))) | with_reducible refine blk_old ?_))
  have HR := Lib.hid (fun W (hb : Below w.heap.size w W) => hr.frame (w1 := W) (Agree.of_below hb))
  have HS := Lib.hid (fun W (hb : Below w.heap.size w W) => hs.frame (w1 := W) (Agree.of_below hb))
  have HW := Lib.hid hw
  have HB1 := Lib.hid hb1
  have HKA := Lib.hid ka
  have HKB := Lib.hid kb
  have z0 := cell_of_block ka 0
  have y0 := cell_of_block kb 0
  simp at z0 y0
  clear hr hs hw hb1 ka kb
  go_enter Tryz.func8, Tryz.ntmps8
  by_cases hlen : l.length = m.length
  case neg =>
    have HN := Lib.hid (show ¬ l = m from fun e => hlen (by rw [e]))
    have hd : ((l.length : Int) == (m.length : Int)) = false := by simp; omega
    clear hlen
    go_wp2
    go_ret
    exact ⟨⟨false, rfl, fun h => (by cases h), fun h => absurd h HN.out⟩, by rw [← HW.out]; exact HB1.out⟩
  have HL := Lib.hid hlen
  have hlm := hlen.symm
  clear hlen
  rw [hlm] at y0 HKB HW
  rw [hlm]
  clear hlm
  go_upto_if 12 with fail
  rw [← HW.out]
  clear HW
  go_wp2
  go_loopw [16] (fun iv wx => ∃ i : Nat, iv = .int .i64 (i : Int) ∧ i ≤ l.length ∧ Hid (Below w1.heap.size w1 wx ∧ l.take i = m.take i)) (fun iv _ => l.length - (intOf iv).toNat)
  case atStart => exact ⟨0, rfl, Nat.zero_le _, Below.refl _ _, rfl⟩
  case round =>
    obtain ⟨i, rfl, hi, hinv⟩ := hrel
    have HI := Lib.hid (show Below w1.heap.size w1 wr ∧ l.take i = m.take i from hinv)
    have hbx := HI.out.1
    have HBX := Lib.hid (below_then HB1.out HB1.out.size hbx)
    have z0 := cell_of_block (block_below HKA.out hbx) 0
    have y0 := cell_of_block (block_below HKB.out hbx) 0
    simp at z0 y0
    clear hinv
    by_cases hlt : i < l.length
    · obtain ⟨b, o, x, rfl, hF, hbl, hx, g0, g1, g2, g3, g4⟩ := nd_at (HR.out wr HBX.out) i hlt
      obtain ⟨b2, o2, y, rfl, hF2, hbl2, hy, q0, q1, q2, q3, q4⟩ := nd_at (HS.out wr HBX.out) i (by have := HL.out; omega)
      have b1 : (i : Int) < (l.length : Int) := by omega
      have hne := fun W => run_neq_node x y W
      have HX := Lib.hid hx
      have HY := Lib.hid hy
      clear hx hy hF hF2 hbl hbl2
      cases hq : ndEq x y
      · rw [hq, Bool.not_false] at hne
        have HN := Lib.hid (show ¬ l = m from fun e => by
          subst e
          have e2 : x = y := by have h1 := HX.out; have h2 := HY.out; rw [h1] at h2; injection h2
          rw [(ndEq_iff x y).2 e2] at hq
          cases hq)
        clear hq
        go_wp2
        go_quiet (fail)
        go_wp2
        go_ret
        exact ⟨⟨false, rfl, fun h => (by cases h), fun h => absurd h HN.out⟩, below_drawnN HBX.out _⟩
      · have HST := Lib.hid (show l.take (i + 1) = m.take (i + 1) from take_same HI.out.2 HX.out (by rw [(ndEq_iff x y).1 hq]; exact HY.out))
        rw [hq, Bool.not_true] at hne
        clear hq
        go_wp2
        go_quiet (fail)
        go_wp2
        go_roundw
        case rel => exact ⟨i + 1, by go_num, by omega, below_drawnN hbx _, HST.out⟩
        case measure => simp [intOf]; omega
    · obtain rfl : i = l.length := by omega
      have HE := Lib.hid (show l = m from by
        have h := HI.out.2
        rw [List.take_of_length_le (Nat.le_refl _), List.take_of_length_le (by have := HL.out; omega)] at h
        exact h)
      go_wp2
      go_ret
      exact ⟨⟨true, rfl, fun _ => HE.out, fun _ => rfl⟩, HBX.out⟩
end Go.Proofs.YteeppdobeeodiaaGreatDoor
