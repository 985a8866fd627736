/- Groups as they begin, read; what the laws' eq.. tell of two of them. -/
import Derived.Test.YtemcijhpmpdebaaGreatDoorMk5
import Derived.BigQuiet
namespace Go.Proofs.YtemcijhpmpdebaaGreatDoor
open Go.RowKit
theorem zeros_get (z : List Value) (n k j : Nat) (hk : k < n) (hj : j < z.length) : (zeros z n)[k * z.length + j]? = z[j]? := by
  have h := flat_get (fun _ : Nat => z) z.length (fun _ => rfl) (List.range n) k k (by simp [hk]) j hj
  have e : (List.range n).flatMap (fun _ : Nat => z) = zeros z n := by
    unfold zeros
    rw [List.flatMap_def]
    congr 1
    apply List.ext_getElem <;> simp
  rwa [e] at h
theorem zeros_length (z : List Value) (n : Nat) : (zeros z n).length = n * z.length := by simp [zeros]
theorem bl_two (w : World) (a b : Obj) : Below w.heap.size w ((w.alloc a).alloc b) := ((Below.refl _ _).alloc (Nat.le_refl _) _).alloc (by simp) _
theorem below_dn2 {base : Nat} (w : World) (n : Nat) : Below base w (w.drewN n) := ⟨rfl, rfl, rfl, Nat.le_refl _, fun _ _ => rfl⟩
set_option maxRecDepth 100000 in
theorem eqInt0 (w : World) : Calls Tryz.prog 143 #[.slice none 0 0, .slice none 0 0] w fun e w' => e = .returned (.bool true) ∧ Below w.heap.size w w' := by
  go_enter Tryz.func143, Tryz.ntmps143
  go_wp2
  go_loopw [5] (fun iv wx => iv = .int .i64 0 ∧ wx = w) (fun _ _ => 0)
  case atStart => exact ⟨rfl, rfl⟩
  case round =>
    obtain ⟨rfl, rfl⟩ := hrel
    go_wp2
    go_ret
    exact ⟨rfl, Below.refl _ _⟩
set_option maxRecDepth 100000 in
theorem eqNote0 (w : World) : Calls Tryz.prog 116 #[.slice none 0 0, .slice none 0 0] w fun e w' => e = .returned (.bool true) ∧ Below w.heap.size w w' := by
  go_enter Tryz.func116, Tryz.ntmps116
  go_wp2
  go_loopw [5] (fun iv wx => iv = .int .i64 0 ∧ wx = w) (fun _ _ => 0)
  case atStart => exact ⟨rfl, rfl⟩
  case round =>
    obtain ⟨rfl, rfl⟩ := hrel
    go_wp2
    go_ret
    exact ⟨rfl, Below.refl _ _⟩
set_option maxRecDepth 100000 in
theorem eqVote0 (w : World) : Calls Tryz.prog 117 #[.slice none 0 0, .slice none 0 0] w fun e w' => e = .returned (.bool true) ∧ Below w.heap.size w w' := by
  go_enter Tryz.func117, Tryz.ntmps117
  go_wp2
  go_loopw [5] (fun iv wx => iv = .int .i64 0 ∧ wx = w) (fun _ _ => 0)
  case atStart => exact ⟨rfl, rfl⟩
  case round =>
    obtain ⟨rfl, rfl⟩ := hrel
    go_wp2
    go_ret
    exact ⟨rfl, Below.refl _ _⟩
set_option maxRecDepth 100000 in
theorem eqVoter0 (w : World) : Calls Tryz.prog 131 #[.agg #[.int .i64 0, .int .i64 0, .string ⟨#[]⟩], .agg #[.int .i64 0, .int .i64 0, .string ⟨#[]⟩]] w fun e w' => e = .returned (.bool true) ∧ Below w.heap.size w w' := by
  go_enter Tryz.func131, Tryz.ntmps131
  go_wp2
  go_ret
  exact ⟨rfl, bl_two _ _ _⟩
set_option maxRecDepth 100000 in
theorem eqAsker0 (w : World) : Calls Tryz.prog 132 #[.agg #[.int .i64 0, .int .i64 0, .string ⟨#[]⟩, .slice none 0 0, .int .i64 0, .string ⟨#[]⟩, .bool false], .agg #[.int .i64 0, .int .i64 0, .string ⟨#[]⟩, .slice none 0 0, .int .i64 0, .string ⟨#[]⟩, .bool false]] w fun e w' => e = .returned (.bool true) ∧ Below w.heap.size w w' := by
  have k0 : ((w.alloc (.cells #[.int .i64 0, .int .i64 0, .string ⟨#[]⟩, .slice none 0 0, .int .i64 0, .string ⟨#[]⟩, .bool false] 131 (0, 0))).alloc (.cells #[.int .i64 0, .int .i64 0, .string ⟨#[]⟩, .slice none 0 0, .int .i64 0, .string ⟨#[]⟩, .bool false] 131 (0, 0))).heap[w.heap.size]? = some (.cells #[.int .i64 0, .int .i64 0, .string ⟨#[]⟩, .slice none 0 0, .int .i64 0, .string ⟨#[]⟩, .bool false] 131 (0, 0)) := by (repeat (first | with_reducible assumption | (with_reducible refine blk_new _ ?_; (first | rfl | (simp; done) | (simp; omega))) | with_reducible apply block_setCell | (with_reducible refine blk_skip _ _ ?_ ?_; rotate_left; (first | (simp; done) | (simp; omega))) | with_reducible refine blk_old ?_))
  have k1 : ((w.alloc (.cells #[.int .i64 0, .int .i64 0, .string ⟨#[]⟩, .slice none 0 0, .int .i64 0, .string ⟨#[]⟩, .bool false] 131 (0, 0))).alloc (.cells #[.int .i64 0, .int .i64 0, .string ⟨#[]⟩, .slice none 0 0, .int .i64 0, .string ⟨#[]⟩, .bool false] 131 (0, 0))).heap[w.heap.size + 1]? = some (.cells #[.int .i64 0, .int .i64 0, .string ⟨#[]⟩, .slice none 0 0, .int .i64 0, .string ⟨#[]⟩, .bool false] 131 (0, 0)) := by (repeat (first | with_reducible assumption | (with_reducible refine blk_new _ ?_; (first | rfl | (simp; done) | (simp; omega))) | with_reducible apply block_setCell | (with_reducible refine blk_skip _ _ ?_ ?_; rotate_left; (first | (simp; done) | (simp; omega))) | with_reducible refine blk_old ?_))
  have HK0 := Lib.hid k0
  have HK1 := Lib.hid k1
  have HB0 := Lib.hid (bl_two w (.cells #[.int .i64 0, .int .i64 0, .string ⟨#[]⟩, .slice none 0 0, .int .i64 0, .string ⟨#[]⟩, .bool false] 131 (0, 0)) (.cells #[.int .i64 0, .int .i64 0, .string ⟨#[]⟩, .slice none 0 0, .int .i64 0, .string ⟨#[]⟩, .bool false] 131 (0, 0)))
  clear k0 k1
  go_enter Tryz.func132, Tryz.ntmps132
  go_wp2_with fail
  generalize ((w.alloc (.cells #[.int .i64 0, .int .i64 0, .string ⟨#[]⟩, .slice none 0 0, .int .i64 0, .string ⟨#[]⟩, .bool false] 131 (0, 0))).alloc (.cells #[.int .i64 0, .int .i64 0, .string ⟨#[]⟩, .slice none 0 0, .int .i64 0, .string ⟨#[]⟩, .bool false] 131 (0, 0))) = w1 at HK0 HK1 HB0 ⊢
  refine (eqInt0 w1).mono ?_
  rintro e w2 ⟨rfl, hb2⟩
  have HK2 := Lib.hid (block_below HK0.out hb2)
  have HK3 := Lib.hid (block_below HK1.out hb2)
  have HB2 := Lib.hid (below_then HB0.out HB0.out.size hb2)
  clear hb2
  have x0 := cell_of_block HK2.out 0
  have x1 := cell_of_block HK2.out 1
  have x2 := cell_of_block HK2.out 2
  have x3 := cell_of_block HK2.out 3
  have x4 := cell_of_block HK2.out 4
  have x5 := cell_of_block HK2.out 5
  have x6 := cell_of_block HK2.out 6
  simp at x0 x1 x2 x3 x4 x5 x6
  have y0 := cell_of_block HK3.out 0
  have y1 := cell_of_block HK3.out 1
  have y2 := cell_of_block HK3.out 2
  have y3 := cell_of_block HK3.out 3
  have y4 := cell_of_block HK3.out 4
  have y5 := cell_of_block HK3.out 5
  have y6 := cell_of_block HK3.out 6
  simp at y0 y1 y2 y3 y4 y5 y6
  go_wp2
  go_ret
  exact ⟨rfl, HB2.out⟩
set_option maxRecDepth 100000 in
set_option maxHeartbeats 1600000 in
theorem eqVoS0 (n : Nat) (hn : n ≤ 1000000) (F F2 : Nat → Prop) (A A2 : Option Addr) (c c2 : Nat) (w : World) (hr : Rds F w A (zeros zVo n)) (hr2 : Rds F2 w A2 (zeros zVo n)) :
    Calls Tryz.prog 114 #[.slice A n c, .slice A2 n c2] w fun e w' => e = .returned (.bool true) ∧ Below w.heap.size w w' := by
  have HR := Lib.hid hr
  have HR2 := Lib.hid hr2
  clear hr hr2
  go_enter Tryz.func114, Tryz.ntmps114
  go_wp2
  go_loopw [5] (fun i wx => ∃ k : Nat, i = .int .i64 (k : Int) ∧ k ≤ n ∧ Below w.heap.size w wx) (fun i _ => n - (intOf i).toNat)
  case atStart => exact ⟨0, rfl, Nat.zero_le _, Below.refl _ _⟩
  case round =>
    obtain ⟨k, rfl, hk, hbx⟩ := hrel
    have HB := Lib.hid hbx
    clear hbx
    by_cases hlt : k < n
    · have h1 := HR.out.frame (Agree.of_below HB.out)
      have h2 := HR2.out.frame (Agree.of_below HB.out)
      obtain ⟨b, o, rfl, _, _⟩ := h1.open (by intro h; have := congrArg List.length h; rw [zeros_length] at this; simp [zVo] at this; omega)
      obtain ⟨b2, o2, rfl, _, _⟩ := h2.open (by intro h; have := congrArg List.length h; rw [zeros_length] at this; simp [zVo] at this; omega)
      have g0 : wr.cell? ⟨b, o + k * 3, none⟩ = some (.int .i64 0) := by have h := h1.at (k * 3 + 0) _ ((zeros_get zVo n k 0 hlt (by decide)).trans rfl); simpa [← Nat.add_assoc] using h
      have q0 : wr.cell? ⟨b2, o2 + k * 3, none⟩ = some (.int .i64 0) := by have h := h2.at (k * 3 + 0) _ ((zeros_get zVo n k 0 hlt (by decide)).trans rfl); simpa [← Nat.add_assoc] using h
      have g1 : wr.cell? ⟨b, o + k * 3 + 1, none⟩ = some (.int .i64 0) := by have h := h1.at (k * 3 + 1) _ ((zeros_get zVo n k 1 hlt (by decide)).trans rfl); simpa [← Nat.add_assoc] using h
      have q1 : wr.cell? ⟨b2, o2 + k * 3 + 1, none⟩ = some (.int .i64 0) := by have h := h2.at (k * 3 + 1) _ ((zeros_get zVo n k 1 hlt (by decide)).trans rfl); simpa [← Nat.add_assoc] using h
      have g2 : wr.cell? ⟨b, o + k * 3 + 2, none⟩ = some (.string ⟨#[]⟩) := by have h := h1.at (k * 3 + 2) _ ((zeros_get zVo n k 2 hlt (by decide)).trans rfl); simpa [← Nat.add_assoc] using h
      have q2 : wr.cell? ⟨b2, o2 + k * 3 + 2, none⟩ = some (.string ⟨#[]⟩) := by have h := h2.at (k * 3 + 2) _ ((zeros_get zVo n k 2 hlt (by decide)).trans rfl); simpa [← Nat.add_assoc] using h
      clear h1 h2
      have b1 : (k : Int) < (n : Int) := by omega
      go_wp2
      go_still_tail 8, (by kernel_rfl)
      have HD := Lib.hid (show Below w.heap.size w wr.drew from HB.out.drew)
      change wpList _ _ _ _ _ wr.drew
      generalize wr.drew = w2 at HD ⊢
      go_wp2_with fail
      refine (eqVoter0 _).mono ?_
      rintro e w3 ⟨rfl, hb3⟩
      have HB3 := Lib.hid (below_then HD.out HD.out.size hb3)
      clear hb3
      go_wp2
      go_roundw
      case rel => exact ⟨k + 1, by go_num, by omega, HB3.out⟩
      case measure => simp [intOf]; omega
    · go_wp2
      go_ret
      exact ⟨rfl, HB.out⟩
set_option maxRecDepth 100000 in
set_option maxHeartbeats 1600000 in
theorem eqAsS0 (n : Nat) (hn : n ≤ 1000000) (F F2 : Nat → Prop) (A A2 : Option Addr) (c c2 : Nat) (w : World) (hr : Rds F w A (zeros zAs n)) (hr2 : Rds F2 w A2 (zeros zAs n)) :
    Calls Tryz.prog 115 #[.slice A n c, .slice A2 n c2] w fun e w' => e = .returned (.bool true) ∧ Below w.heap.size w w' := by
  have HR := Lib.hid hr
  have HR2 := Lib.hid hr2
  clear hr hr2
  go_enter Tryz.func115, Tryz.ntmps115
  go_wp2
  go_loopw [5] (fun i wx => ∃ k : Nat, i = .int .i64 (k : Int) ∧ k ≤ n ∧ Below w.heap.size w wx) (fun i _ => n - (intOf i).toNat)
  case atStart => exact ⟨0, rfl, Nat.zero_le _, Below.refl _ _⟩
  case round =>
    obtain ⟨k, rfl, hk, hbx⟩ := hrel
    have HB := Lib.hid hbx
    clear hbx
    by_cases hlt : k < n
    · have h1 := HR.out.frame (Agree.of_below HB.out)
      have h2 := HR2.out.frame (Agree.of_below HB.out)
      obtain ⟨b, o, rfl, _, _⟩ := h1.open (by intro h; have := congrArg List.length h; rw [zeros_length] at this; simp [zAs] at this; omega)
      obtain ⟨b2, o2, rfl, _, _⟩ := h2.open (by intro h; have := congrArg List.length h; rw [zeros_length] at this; simp [zAs] at this; omega)
      have g0 : wr.cell? ⟨b, o + k * 7, none⟩ = some (.int .i64 0) := by have h := h1.at (k * 7 + 0) _ ((zeros_get zAs n k 0 hlt (by decide)).trans rfl); simpa [← Nat.add_assoc] using h
      have q0 : wr.cell? ⟨b2, o2 + k * 7, none⟩ = some (.int .i64 0) := by have h := h2.at (k * 7 + 0) _ ((zeros_get zAs n k 0 hlt (by decide)).trans rfl); simpa [← Nat.add_assoc] using h
      have g1 : wr.cell? ⟨b, o + k * 7 + 1, none⟩ = some (.int .i64 0) := by have h := h1.at (k * 7 + 1) _ ((zeros_get zAs n k 1 hlt (by decide)).trans rfl); simpa [← Nat.add_assoc] using h
      have q1 : wr.cell? ⟨b2, o2 + k * 7 + 1, none⟩ = some (.int .i64 0) := by have h := h2.at (k * 7 + 1) _ ((zeros_get zAs n k 1 hlt (by decide)).trans rfl); simpa [← Nat.add_assoc] using h
      have g2 : wr.cell? ⟨b, o + k * 7 + 2, none⟩ = some (.string ⟨#[]⟩) := by have h := h1.at (k * 7 + 2) _ ((zeros_get zAs n k 2 hlt (by decide)).trans rfl); simpa [← Nat.add_assoc] using h
      have q2 : wr.cell? ⟨b2, o2 + k * 7 + 2, none⟩ = some (.string ⟨#[]⟩) := by have h := h2.at (k * 7 + 2) _ ((zeros_get zAs n k 2 hlt (by decide)).trans rfl); simpa [← Nat.add_assoc] using h
      have g3 : wr.cell? ⟨b, o + k * 7 + 3, none⟩ = some (.slice none 0 0) := by have h := h1.at (k * 7 + 3) _ ((zeros_get zAs n k 3 hlt (by decide)).trans rfl); simpa [← Nat.add_assoc] using h
      have q3 : wr.cell? ⟨b2, o2 + k * 7 + 3, none⟩ = some (.slice none 0 0) := by have h := h2.at (k * 7 + 3) _ ((zeros_get zAs n k 3 hlt (by decide)).trans rfl); simpa [← Nat.add_assoc] using h
      have g4 : wr.cell? ⟨b, o + k * 7 + 4, none⟩ = some (.int .i64 0) := by have h := h1.at (k * 7 + 4) _ ((zeros_get zAs n k 4 hlt (by decide)).trans rfl); simpa [← Nat.add_assoc] using h
      have q4 : wr.cell? ⟨b2, o2 + k * 7 + 4, none⟩ = some (.int .i64 0) := by have h := h2.at (k * 7 + 4) _ ((zeros_get zAs n k 4 hlt (by decide)).trans rfl); simpa [← Nat.add_assoc] using h
      have g5 : wr.cell? ⟨b, o + k * 7 + 5, none⟩ = some (.string ⟨#[]⟩) := by have h := h1.at (k * 7 + 5) _ ((zeros_get zAs n k 5 hlt (by decide)).trans rfl); simpa [← Nat.add_assoc] using h
      have q5 : wr.cell? ⟨b2, o2 + k * 7 + 5, none⟩ = some (.string ⟨#[]⟩) := by have h := h2.at (k * 7 + 5) _ ((zeros_get zAs n k 5 hlt (by decide)).trans rfl); simpa [← Nat.add_assoc] using h
      have g6 : wr.cell? ⟨b, o + k * 7 + 6, none⟩ = some (.bool false) := by have h := h1.at (k * 7 + 6) _ ((zeros_get zAs n k 6 hlt (by decide)).trans rfl); simpa [← Nat.add_assoc] using h
      have q6 : wr.cell? ⟨b2, o2 + k * 7 + 6, none⟩ = some (.bool false) := by have h := h2.at (k * 7 + 6) _ ((zeros_get zAs n k 6 hlt (by decide)).trans rfl); simpa [← Nat.add_assoc] using h
      clear h1 h2
      have b1 : (k : Int) < (n : Int) := by omega
      go_wp2
      go_still_tail 8, (by kernel_rfl)
      have HD := Lib.hid (show Below w.heap.size w wr.drew from HB.out.drew)
      change wpList _ _ _ _ _ wr.drew
      generalize wr.drew = w2 at HD ⊢
      go_wp2_with fail
      refine (eqAsker0 _).mono ?_
      rintro e w3 ⟨rfl, hb3⟩
      have HB3 := Lib.hid (below_then HD.out HD.out.size hb3)
      clear hb3
      go_wp2
      go_roundw
      case rel => exact ⟨k + 1, by go_num, by omega, HB3.out⟩
      case measure => simp [intOf]; omega
    · go_wp2
      go_ret
      exact ⟨rfl, HB.out⟩
set_option maxRecDepth 100000 in
set_option maxHeartbeats 1600000 in
theorem eqTxS0 (n : Nat) (hn : n ≤ 1000000) (F F2 : Nat → Prop) (A A2 : Option Addr) (c c2 : Nat) (w : World) (hr : Rds F w A (zeros zTx n)) (hr2 : Rds F2 w A2 (zeros zTx n)) :
    Calls Tryz.prog 91 #[.slice A n c, .slice A2 n c2] w fun e w' => e = .returned (.bool true) ∧ Below w.heap.size w w' := by
  have HR := Lib.hid hr
  have HR2 := Lib.hid hr2
  clear hr hr2
  go_enter Tryz.func91, Tryz.ntmps91
  go_wp2
  go_loopw [5] (fun i wx => ∃ k : Nat, i = .int .i64 (k : Int) ∧ k ≤ n ∧ Below w.heap.size w wx) (fun i _ => n - (intOf i).toNat)
  case atStart => exact ⟨0, rfl, Nat.zero_le _, Below.refl _ _⟩
  case round =>
    obtain ⟨k, rfl, hk, hbx⟩ := hrel
    have HB := Lib.hid hbx
    clear hbx
    by_cases hlt : k < n
    · have h1 := HR.out.frame (Agree.of_below HB.out)
      have h2 := HR2.out.frame (Agree.of_below HB.out)
      obtain ⟨b, o, rfl, _, _⟩ := h1.open (by intro h; have := congrArg List.length h; rw [zeros_length] at this; simp [zTx] at this; omega)
      obtain ⟨b2, o2, rfl, _, _⟩ := h2.open (by intro h; have := congrArg List.length h; rw [zeros_length] at this; simp [zTx] at this; omega)
      have g0 : wr.cell? ⟨b, o + k, none⟩ = some (.string ⟨#[]⟩) := by have h := h1.at (k * 1 + 0) _ ((zeros_get zTx n k 0 hlt (by decide)).trans rfl); simpa [← Nat.add_assoc] using h
      have q0 : wr.cell? ⟨b2, o2 + k, none⟩ = some (.string ⟨#[]⟩) := by have h := h2.at (k * 1 + 0) _ ((zeros_get zTx n k 0 hlt (by decide)).trans rfl); simpa [← Nat.add_assoc] using h
      clear h1 h2
      have b1 : (k : Int) < (n : Int) := by omega
      go_upto_region 6 with fail
      go_quiet (fail)
      go_wp2
      go_roundw
      case rel => exact ⟨k + 1, by go_num, by omega, HB.out.trans (below_dn2 _ _)⟩
      case measure => simp [intOf]; omega
    · go_wp2
      go_ret
      exact ⟨rfl, HB.out⟩
/-- A place as it begins, read. -/
def PlAt (F : Nat → Prop) (w : World) (n : Nat) (p : PlR) : Prop := Rds F w p.av (zeros zVo n) ∧ Rds F w p.ak (zeros zAs 3)
theorem PlAt.below {F : Nat → Prop} {w w1 : World} {n : Nat} {p : PlR} (h : PlAt F w n p) (hb : Below w.heap.size w w1) : PlAt F w1 n p := ⟨h.1.frame (Agree.of_below hb), h.2.frame (Agree.of_below hb)⟩
set_option maxRecDepth 100000 in
set_option maxHeartbeats 1600000 in
theorem eqPaxos0 (n : Nat) (hn : n ≤ 1000) (p q : PlR) (F F2 : Nat → Prop) (w : World) (hp : PlAt F w n p) (hq : PlAt F2 w n q) : Calls Tryz.prog 90 #[.agg #[.slice p.av n p.cv, .slice p.ak 3 p.ck, .slice none 0 0, .slice none 0 0], .agg #[.slice q.av n q.cv, .slice q.ak 3 q.ck, .slice none 0 0, .slice none 0 0]] w fun e w' => e = .returned (.bool true) ∧ Below w.heap.size w w' := by
  have k0 : ((w.alloc (.cells #[.slice p.av n p.cv, .slice p.ak 3 p.ck, .slice none 0 0, .slice none 0 0] 73 (0, 0))).alloc (.cells #[.slice q.av n q.cv, .slice q.ak 3 q.ck, .slice none 0 0, .slice none 0 0] 73 (0, 0))).heap[w.heap.size]? = some (.cells #[.slice p.av n p.cv, .slice p.ak 3 p.ck, .slice none 0 0, .slice none 0 0] 73 (0, 0)) := by (repeat (first | with_reducible assumption | (with_reducible refine blk_new _ ?_; (first | rfl | (simp; done) | (simp; omega))) | with_reducible apply block_setCell | (with_reducible refine blk_skip _ _ ?_ ?_; rotate_left; (first | (simp; done) | (simp; omega))) | with_reducible refine blk_old ?_))
  have k1 : ((w.alloc (.cells #[.slice p.av n p.cv, .slice p.ak 3 p.ck, .slice none 0 0, .slice none 0 0] 73 (0, 0))).alloc (.cells #[.slice q.av n q.cv, .slice q.ak 3 q.ck, .slice none 0 0, .slice none 0 0] 73 (0, 0))).heap[w.heap.size + 1]? = some (.cells #[.slice q.av n q.cv, .slice q.ak 3 q.ck, .slice none 0 0, .slice none 0 0] 73 (0, 0)) := by (repeat (first | with_reducible assumption | (with_reducible refine blk_new _ ?_; (first | rfl | (simp; done) | (simp; omega))) | with_reducible apply block_setCell | (with_reducible refine blk_skip _ _ ?_ ?_; rotate_left; (first | (simp; done) | (simp; omega))) | with_reducible refine blk_old ?_))
  have HK0 := Lib.hid k0
  have HK1 := Lib.hid k1
  have HB0 := Lib.hid (bl_two w (.cells #[.slice p.av n p.cv, .slice p.ak 3 p.ck, .slice none 0 0, .slice none 0 0] 73 (0, 0)) (.cells #[.slice q.av n q.cv, .slice q.ak 3 q.ck, .slice none 0 0, .slice none 0 0] 73 (0, 0)))
  clear k0 k1
  have HP := Lib.hid (hp.below HB0.out)
  have HQ := Lib.hid (hq.below HB0.out)
  clear hp hq
  go_enter Tryz.func90, Tryz.ntmps90
  go_wp2_with fail
  generalize ((w.alloc (.cells #[.slice p.av n p.cv, .slice p.ak 3 p.ck, .slice none 0 0, .slice none 0 0] 73 (0, 0))).alloc (.cells #[.slice q.av n q.cv, .slice q.ak 3 q.ck, .slice none 0 0, .slice none 0 0] 73 (0, 0))) = w1 at HK0 HK1 HB0 HP HQ ⊢
  have HP0 := HP
  have HQ0 := HQ
  refine (eqVoS0 n (by omega) F F2 p.av q.av p.cv q.cv _ HP0.out.1 HQ0.out.1).mono ?_
  rintro e w2 ⟨rfl, hb2⟩
  have HB2' := Lib.hid (below_then HB0.out HB0.out.size hb2)
  have HKA2 := Lib.hid (block_below HK0.out hb2)
  have HKB2 := Lib.hid (block_below HK1.out hb2)
  have HP1 := Lib.hid (HP0.out.below hb2)
  have HQ1 := Lib.hid (HQ0.out.below hb2)
  clear hb2 
  have x0 := cell_of_block HKA2.out 0
  have x1 := cell_of_block HKA2.out 1
  have x2 := cell_of_block HKA2.out 2
  have x3 := cell_of_block HKA2.out 3
  simp at x0 x1 x2 x3
  have y0 := cell_of_block HKB2.out 0
  have y1 := cell_of_block HKB2.out 1
  have y2 := cell_of_block HKB2.out 2
  have y3 := cell_of_block HKB2.out 3
  simp at y0 y1 y2 y3
  go_wp2_with fail
  refine (eqAsS0 3 (by omega) F F2 p.ak q.ak p.ck q.ck _ HP1.out.2 HQ1.out.2).mono ?_
  rintro e w3 ⟨rfl, hb3⟩
  have HB3' := Lib.hid (below_then HB2'.out HB2'.out.size hb3)
  have HKA3 := Lib.hid (block_below HKA2.out hb3)
  have HKB3 := Lib.hid (block_below HKB2.out hb3)
  have HP2 := Lib.hid (HP1.out.below hb3)
  have HQ2 := Lib.hid (HQ1.out.below hb3)
  clear hb3 x0 x1 x2 x3 y0 y1 y2 y3
  have x0 := cell_of_block HKA3.out 0
  have x1 := cell_of_block HKA3.out 1
  have x2 := cell_of_block HKA3.out 2
  have x3 := cell_of_block HKA3.out 3
  simp at x0 x1 x2 x3
  have y0 := cell_of_block HKB3.out 0
  have y1 := cell_of_block HKB3.out 1
  have y2 := cell_of_block HKB3.out 2
  have y3 := cell_of_block HKB3.out 3
  simp at y0 y1 y2 y3
  go_wp2_with fail
  refine (eqNote0 _).mono ?_
  rintro e w4 ⟨rfl, hb4⟩
  have HB4' := Lib.hid (below_then HB3'.out HB3'.out.size hb4)
  have HKA4 := Lib.hid (block_below HKA3.out hb4)
  have HKB4 := Lib.hid (block_below HKB3.out hb4)
  have HP3 := Lib.hid (HP2.out.below hb4)
  have HQ3 := Lib.hid (HQ2.out.below hb4)
  clear hb4 x0 x1 x2 x3 y0 y1 y2 y3
  have x0 := cell_of_block HKA4.out 0
  have x1 := cell_of_block HKA4.out 1
  have x2 := cell_of_block HKA4.out 2
  have x3 := cell_of_block HKA4.out 3
  simp at x0 x1 x2 x3
  have y0 := cell_of_block HKB4.out 0
  have y1 := cell_of_block HKB4.out 1
  have y2 := cell_of_block HKB4.out 2
  have y3 := cell_of_block HKB4.out 3
  simp at y0 y1 y2 y3
  go_wp2_with fail
  refine (eqVote0 _).mono ?_
  rintro e w5 ⟨rfl, hb5⟩
  have HB5' := Lib.hid (below_then HB4'.out HB4'.out.size hb5)
  have HKA5 := Lib.hid (block_below HKA4.out hb5)
  have HKB5 := Lib.hid (block_below HKB4.out hb5)
  have HP4 := Lib.hid (HP3.out.below hb5)
  have HQ4 := Lib.hid (HQ3.out.below hb5)
  clear hb5 x0 x1 x2 x3 y0 y1 y2 y3
  go_wp2
  go_ret
  exact ⟨rfl, HB5'.out⟩
set_option maxRecDepth 100000 in
set_option maxHeartbeats 1600000 in
theorem eqPlace0 (n : Nat) (hn : n ≤ 1000) (p q : PlR) (F F2 : Nat → Prop) (w : World) (hp : PlAt F w n p) (hq : PlAt F2 w n q) : Calls Tryz.prog 66 #[.agg #[.slice p.av n p.cv, .slice p.ak 3 p.ck, .slice none 0 0, .slice none 0 0], .agg #[.slice q.av n q.cv, .slice q.ak 3 q.ck, .slice none 0 0, .slice none 0 0]] w fun e w' => e = .returned (.bool true) ∧ Below w.heap.size w w' := by
  have k0 : ((w.alloc (.cells #[.slice p.av n p.cv, .slice p.ak 3 p.ck, .slice none 0 0, .slice none 0 0] 77 (0, 0))).alloc (.cells #[.slice q.av n q.cv, .slice q.ak 3 q.ck, .slice none 0 0, .slice none 0 0] 77 (0, 0))).heap[w.heap.size]? = some (.cells #[.slice p.av n p.cv, .slice p.ak 3 p.ck, .slice none 0 0, .slice none 0 0] 77 (0, 0)) := by (repeat (first | with_reducible assumption | (with_reducible refine blk_new _ ?_; (first | rfl | (simp; done) | (simp; omega))) | with_reducible apply block_setCell | (with_reducible refine blk_skip _ _ ?_ ?_; rotate_left; (first | (simp; done) | (simp; omega))) | with_reducible refine blk_old ?_))
  have k1 : ((w.alloc (.cells #[.slice p.av n p.cv, .slice p.ak 3 p.ck, .slice none 0 0, .slice none 0 0] 77 (0, 0))).alloc (.cells #[.slice q.av n q.cv, .slice q.ak 3 q.ck, .slice none 0 0, .slice none 0 0] 77 (0, 0))).heap[w.heap.size + 1]? = some (.cells #[.slice q.av n q.cv, .slice q.ak 3 q.ck, .slice none 0 0, .slice none 0 0] 77 (0, 0)) := by (repeat (first | with_reducible assumption | (with_reducible refine blk_new _ ?_; (first | rfl | (simp; done) | (simp; omega))) | with_reducible apply block_setCell | (with_reducible refine blk_skip _ _ ?_ ?_; rotate_left; (first | (simp; done) | (simp; omega))) | with_reducible refine blk_old ?_))
  have HK0 := Lib.hid k0
  have HK1 := Lib.hid k1
  have HB0 := Lib.hid (bl_two w (.cells #[.slice p.av n p.cv, .slice p.ak 3 p.ck, .slice none 0 0, .slice none 0 0] 77 (0, 0)) (.cells #[.slice q.av n q.cv, .slice q.ak 3 q.ck, .slice none 0 0, .slice none 0 0] 77 (0, 0)))
  clear k0 k1
  have HC := Lib.hid (eqPaxos0 n hn p q F F2 _ (hp.below HB0.out) (hq.below HB0.out))
  clear hp hq
  go_enter Tryz.func66, Tryz.ntmps66
  go_wp2_with fail
  refine HC.out.mono ?_
  rintro e w2 ⟨rfl, hb2⟩
  have HB2 := Lib.hid (below_then HB0.out HB0.out.size hb2)
  clear hb2 HC HK0 HK1 HB0
  go_wp2
  go_ret
  exact ⟨rfl, HB2.out⟩
set_option maxRecDepth 100000 in
set_option maxHeartbeats 1600000 in
theorem eqPlS0 (n : Nat) (hn : n ≤ 1000) (ps qs : List PlR) (hl : ps.length ≤ 1000) (hpq : qs.length = ps.length) (F F2 : Nat → Prop) (A A2 : Option Addr) (c c2 : Nat) (w : World) (hr : Rds F w A (ps.flatMap (plCells n))) (hr2 : Rds F2 w A2 (qs.flatMap (plCells n))) (ha : ∀ p ∈ ps, PlAt F w n p) (hb : ∀ q ∈ qs, PlAt F2 w n q) :
    Calls Tryz.prog 41 #[.slice A ps.length c, .slice A2 ps.length c2] w fun e w' => e = .returned (.bool true) ∧ Below w.heap.size w w' := by
  have HPS := Lib.hid ha
  have HQS := Lib.hid hb
  clear ha hb
  have HR := Lib.hid hr
  have HR2 := Lib.hid hr2
  clear hr hr2
  go_enter Tryz.func41, Tryz.ntmps41
  go_wp2
  go_loopw [5] (fun i wx => ∃ k : Nat, i = .int .i64 (k : Int) ∧ k ≤ ps.length ∧ Below w.heap.size w wx) (fun i _ => ps.length - (intOf i).toNat)
  case atStart => exact ⟨0, rfl, Nat.zero_le _, Below.refl _ _⟩
  case round =>
    obtain ⟨k, rfl, hk, hbx⟩ := hrel
    have HB := Lib.hid hbx
    clear hbx
    by_cases hlt : k < ps.length
    · have h1 := HR.out.frame (Agree.of_below HB.out)
      have h2 := HR2.out.frame (Agree.of_below HB.out)
      have hp : ps[k]? = some ps[k] := by simp [hlt]
      have hq : qs[k]? = some (qs[k]'(by omega)) := by simp [hpq, hlt]
      generalize ps[k] = p at hp
      generalize (qs[k]'(by omega)) = q at hq
      have HPA := Lib.hid (HPS.out p (List.mem_of_getElem? hp))
      have HQA := Lib.hid (HQS.out q (List.mem_of_getElem? hq))
      obtain ⟨b, o, rfl, _, _⟩ := h1.open (by intro h; have := congrArg List.length h; rw [plCells_length] at this; simp at this; omega)
      obtain ⟨b2, o2, rfl, _, _⟩ := h2.open (by intro h; have := congrArg List.length h; rw [plCells_length] at this; simp at this; omega)
      have g0 : wr.cell? ⟨b, o + k * 4, none⟩ = some (.slice p.av n p.cv) := by have h := h1.at (k * 4 + 0) _ ((flat_get (plCells n) 4 (fun _ => rfl) ps k p hp 0 (by decide)).trans rfl); simpa [← Nat.add_assoc] using h
      have q0 : wr.cell? ⟨b2, o2 + k * 4, none⟩ = some (.slice q.av n q.cv) := by have h := h2.at (k * 4 + 0) _ ((flat_get (plCells n) 4 (fun _ => rfl) qs k q hq 0 (by decide)).trans rfl); simpa [← Nat.add_assoc] using h
      have g1 : wr.cell? ⟨b, o + k * 4 + 1, none⟩ = some (.slice p.ak 3 p.ck) := by have h := h1.at (k * 4 + 1) _ ((flat_get (plCells n) 4 (fun _ => rfl) ps k p hp 1 (by decide)).trans rfl); simpa [← Nat.add_assoc] using h
      have q1 : wr.cell? ⟨b2, o2 + k * 4 + 1, none⟩ = some (.slice q.ak 3 q.ck) := by have h := h2.at (k * 4 + 1) _ ((flat_get (plCells n) 4 (fun _ => rfl) qs k q hq 1 (by decide)).trans rfl); simpa [← Nat.add_assoc] using h
      have g2 : wr.cell? ⟨b, o + k * 4 + 2, none⟩ = some (.slice none 0 0) := by have h := h1.at (k * 4 + 2) _ ((flat_get (plCells n) 4 (fun _ => rfl) ps k p hp 2 (by decide)).trans rfl); simpa [← Nat.add_assoc] using h
      have q2 : wr.cell? ⟨b2, o2 + k * 4 + 2, none⟩ = some (.slice none 0 0) := by have h := h2.at (k * 4 + 2) _ ((flat_get (plCells n) 4 (fun _ => rfl) qs k q hq 2 (by decide)).trans rfl); simpa [← Nat.add_assoc] using h
      have g3 : wr.cell? ⟨b, o + k * 4 + 3, none⟩ = some (.slice none 0 0) := by have h := h1.at (k * 4 + 3) _ ((flat_get (plCells n) 4 (fun _ => rfl) ps k p hp 3 (by decide)).trans rfl); simpa [← Nat.add_assoc] using h
      have q3 : wr.cell? ⟨b2, o2 + k * 4 + 3, none⟩ = some (.slice none 0 0) := by have h := h2.at (k * 4 + 3) _ ((flat_get (plCells n) 4 (fun _ => rfl) qs k q hq 3 (by decide)).trans rfl); simpa [← Nat.add_assoc] using h
      clear h1 h2
      have b1 : (k : Int) < (ps.length : Int) := by omega
      go_wp2
      go_still_tail 8, (by kernel_rfl)
      have HD := Lib.hid (show Below w.heap.size w wr.drew from HB.out.drew)
      change wpList _ _ _ _ _ wr.drew
      generalize wr.drew = w2 at HD ⊢
      go_wp2_with fail
      refine (eqPlace0 n hn p q F F2 _ (HPA.out.below HD.out) (HQA.out.below HD.out)).mono ?_
      rintro e w3 ⟨rfl, hb3⟩
      have HB3 := Lib.hid (below_then HD.out HD.out.size hb3)
      clear hb3
      go_wp2
      go_roundw
      case rel => exact ⟨k + 1, by go_num, by omega, HB3.out⟩
      case measure => simp [intOf]; omega
    · go_wp2
      go_ret
      exact ⟨rfl, HB.out⟩
theorem rpCells_length (l : List RpR) : (l.flatMap rpCells).length = l.length * 7 := flat_len rpCells 7 (fun _ => rfl) l
set_option maxRecDepth 100000 in
theorem eqBase0 (w : World) : Calls Tryz.prog 9 #[.agg #[.int .i64 0, .slice none 0 0, .slice none 0 0], .agg #[.int .i64 0, .slice none 0 0, .slice none 0 0]] w fun e w' => e = .returned (.bool true) ∧ Below w.heap.size w w' :=
  eqBase_any ⟨0, [], []⟩ ⟨by simp, by simp, fun d hd => by cases hd⟩ (fun _ => True) (fun _ => True) (fun _ => True) (fun _ => True) none none none none 0 0 0 0 w ⟨[], rfl, Rds.nil _ _ _, fun r hr => by cases hr⟩ (Rds.nil _ _ _) ⟨[], rfl, Rds.nil _ _ _, fun r hr => by cases hr⟩ (Rds.nil _ _ _)
set_option maxRecDepth 100000 in
set_option maxHeartbeats 1600000 in
theorem eqReplica0 (p q : RpR) (F F2 : Nat → Prop) (w : World) (hp : Rds F w p.adr (zeros zTx 12)) (hq : Rds F2 w q.adr (zeros zTx 12)) : Calls Tryz.prog 67 #[.agg #[.slice p.adr 12 p.cap, .int .i64 0, .slice none 0 0, .slice none 0 0, .int .i64 0, .slice none 0 0, .slice none 0 0], .agg #[.slice q.adr 12 q.cap, .int .i64 0, .slice none 0 0, .slice none 0 0, .int .i64 0, .slice none 0 0, .slice none 0 0]] w fun e w' => e = .returned (.bool true) ∧ Below w.heap.size w w' := by
  have k0 : ((w.alloc (.cells #[.slice p.adr 12 p.cap, .int .i64 0, .slice none 0 0, .slice none 0 0, .int .i64 0, .slice none 0 0, .slice none 0 0] 80 (0, 0))).alloc (.cells #[.slice q.adr 12 q.cap, .int .i64 0, .slice none 0 0, .slice none 0 0, .int .i64 0, .slice none 0 0, .slice none 0 0] 80 (0, 0))).heap[w.heap.size]? = some (.cells #[.slice p.adr 12 p.cap, .int .i64 0, .slice none 0 0, .slice none 0 0, .int .i64 0, .slice none 0 0, .slice none 0 0] 80 (0, 0)) := by (repeat (first | with_reducible assumption | (with_reducible refine blk_new _ ?_; (first | rfl | (simp; done) | (simp; omega))) | with_reducible apply block_setCell | (with_reducible refine blk_skip _ _ ?_ ?_; rotate_left; (first | (simp; done) | (simp; omega))) | with_reducible refine blk_old ?_))
  have k1 : ((w.alloc (.cells #[.slice p.adr 12 p.cap, .int .i64 0, .slice none 0 0, .slice none 0 0, .int .i64 0, .slice none 0 0, .slice none 0 0] 80 (0, 0))).alloc (.cells #[.slice q.adr 12 q.cap, .int .i64 0, .slice none 0 0, .slice none 0 0, .int .i64 0, .slice none 0 0, .slice none 0 0] 80 (0, 0))).heap[w.heap.size + 1]? = some (.cells #[.slice q.adr 12 q.cap, .int .i64 0, .slice none 0 0, .slice none 0 0, .int .i64 0, .slice none 0 0, .slice none 0 0] 80 (0, 0)) := by (repeat (first | with_reducible assumption | (with_reducible refine blk_new _ ?_; (first | rfl | (simp; done) | (simp; omega))) | with_reducible apply block_setCell | (with_reducible refine blk_skip _ _ ?_ ?_; rotate_left; (first | (simp; done) | (simp; omega))) | with_reducible refine blk_old ?_))
  have HK0 := Lib.hid k0
  have HK1 := Lib.hid k1
  have HB0 := Lib.hid (bl_two w (.cells #[.slice p.adr 12 p.cap, .int .i64 0, .slice none 0 0, .slice none 0 0, .int .i64 0, .slice none 0 0, .slice none 0 0] 80 (0, 0)) (.cells #[.slice q.adr 12 q.cap, .int .i64 0, .slice none 0 0, .slice none 0 0, .int .i64 0, .slice none 0 0, .slice none 0 0] 80 (0, 0)))
  clear k0 k1
  have HC := Lib.hid (eqTxS0 12 (by omega) F F2 p.adr q.adr p.cap q.cap _ (hp.frame (Agree.of_below HB0.out)) (hq.frame (Agree.of_below HB0.out)))
  clear hp hq
  go_enter Tryz.func67, Tryz.ntmps67
  go_wp2_with fail
  generalize ((w.alloc (.cells #[.slice p.adr 12 p.cap, .int .i64 0, .slice none 0 0, .slice none 0 0, .int .i64 0, .slice none 0 0, .slice none 0 0] 80 (0, 0))).alloc (.cells #[.slice q.adr 12 q.cap, .int .i64 0, .slice none 0 0, .slice none 0 0, .int .i64 0, .slice none 0 0, .slice none 0 0] 80 (0, 0))) = w1 at HK0 HK1 HB0 HC ⊢
  refine (HC.out).mono ?_
  rintro e w2 ⟨rfl, hb2⟩
  have HB2' := Lib.hid (below_then HB0.out HB0.out.size hb2)
  have HKA2 := Lib.hid (block_below HK0.out hb2)
  have HKB2 := Lib.hid (block_below HK1.out hb2)
  clear hb2 
  have x0 := cell_of_block HKA2.out 0
  have x1 := cell_of_block HKA2.out 1
  have x2 := cell_of_block HKA2.out 2
  have x3 := cell_of_block HKA2.out 3
  have x4 := cell_of_block HKA2.out 4
  have x5 := cell_of_block HKA2.out 5
  have x6 := cell_of_block HKA2.out 6
  simp at x0 x1 x2 x3 x4 x5 x6
  have y0 := cell_of_block HKB2.out 0
  have y1 := cell_of_block HKB2.out 1
  have y2 := cell_of_block HKB2.out 2
  have y3 := cell_of_block HKB2.out 3
  have y4 := cell_of_block HKB2.out 4
  have y5 := cell_of_block HKB2.out 5
  have y6 := cell_of_block HKB2.out 6
  simp at y0 y1 y2 y3 y4 y5 y6
  go_wp2_with fail
  refine (eqBase0 _).mono ?_
  rintro e w3 ⟨rfl, hb3⟩
  have HB3' := Lib.hid (below_then HB2'.out HB2'.out.size hb3)
  have HKA3 := Lib.hid (block_below HKA2.out hb3)
  have HKB3 := Lib.hid (block_below HKB2.out hb3)
  clear hb3 x0 x1 x2 x3 x4 x5 x6 y0 y1 y2 y3 y4 y5 y6
  have x0 := cell_of_block HKA3.out 0
  have x1 := cell_of_block HKA3.out 1
  have x2 := cell_of_block HKA3.out 2
  have x3 := cell_of_block HKA3.out 3
  have x4 := cell_of_block HKA3.out 4
  have x5 := cell_of_block HKA3.out 5
  have x6 := cell_of_block HKA3.out 6
  simp at x0 x1 x2 x3 x4 x5 x6
  have y0 := cell_of_block HKB3.out 0
  have y1 := cell_of_block HKB3.out 1
  have y2 := cell_of_block HKB3.out 2
  have y3 := cell_of_block HKB3.out 3
  have y4 := cell_of_block HKB3.out 4
  have y5 := cell_of_block HKB3.out 5
  have y6 := cell_of_block HKB3.out 6
  simp at y0 y1 y2 y3 y4 y5 y6
  go_wp2_with fail
  refine (eqBase0 _).mono ?_
  rintro e w4 ⟨rfl, hb4⟩
  have HB4' := Lib.hid (below_then HB3'.out HB3'.out.size hb4)
  have HKA4 := Lib.hid (block_below HKA3.out hb4)
  have HKB4 := Lib.hid (block_below HKB3.out hb4)
  clear hb4 x0 x1 x2 x3 x4 x5 x6 y0 y1 y2 y3 y4 y5 y6
  go_wp2
  go_ret
  exact ⟨rfl, HB4'.out⟩
set_option maxRecDepth 100000 in
set_option maxHeartbeats 1600000 in
theorem eqRpS0 (ps qs : List RpR) (hl : ps.length ≤ 1000) (hpq : qs.length = ps.length) (F F2 : Nat → Prop) (A A2 : Option Addr) (c c2 : Nat) (w : World) (hr : Rds F w A (ps.flatMap rpCells)) (hr2 : Rds F2 w A2 (qs.flatMap rpCells)) (ha : ∀ p ∈ ps, Rds F w p.adr (zeros zTx 12)) (hb : ∀ q ∈ qs, Rds F2 w q.adr (zeros zTx 12)) :
    Calls Tryz.prog 42 #[.slice A ps.length c, .slice A2 ps.length c2] w fun e w' => e = .returned (.bool true) ∧ Below w.heap.size w w' := by
  have HPS := Lib.hid ha
  have HQS := Lib.hid hb
  clear ha hb
  have HR := Lib.hid hr
  have HR2 := Lib.hid hr2
  clear hr hr2
  go_enter Tryz.func42, Tryz.ntmps42
  go_wp2
  go_loopw [5] (fun i wx => ∃ k : Nat, i = .int .i64 (k : Int) ∧ k ≤ ps.length ∧ Below w.heap.size w wx) (fun i _ => ps.length - (intOf i).toNat)
  case atStart => exact ⟨0, rfl, Nat.zero_le _, Below.refl _ _⟩
  case round =>
    obtain ⟨k, rfl, hk, hbx⟩ := hrel
    have HB := Lib.hid hbx
    clear hbx
    by_cases hlt : k < ps.length
    · have h1 := HR.out.frame (Agree.of_below HB.out)
      have h2 := HR2.out.frame (Agree.of_below HB.out)
      have hp : ps[k]? = some ps[k] := by simp [hlt]
      have hq : qs[k]? = some (qs[k]'(by omega)) := by simp [hpq, hlt]
      generalize ps[k] = p at hp
      generalize (qs[k]'(by omega)) = q at hq
      have HPA := Lib.hid (HPS.out p (List.mem_of_getElem? hp))
      have HQA := Lib.hid (HQS.out q (List.mem_of_getElem? hq))
      obtain ⟨b, o, rfl, _, _⟩ := h1.open (by intro h; have := congrArg List.length h; rw [rpCells_length] at this; simp at this; omega)
      obtain ⟨b2, o2, rfl, _, _⟩ := h2.open (by intro h; have := congrArg List.length h; rw [rpCells_length] at this; simp at this; omega)
      have g0 : wr.cell? ⟨b, o + k * 7, none⟩ = some (.slice p.adr 12 p.cap) := by have h := h1.at (k * 7 + 0) _ ((flat_get rpCells 7 (fun _ => rfl) ps k p hp 0 (by decide)).trans rfl); simpa [← Nat.add_assoc] using h
      have q0 : wr.cell? ⟨b2, o2 + k * 7, none⟩ = some (.slice q.adr 12 q.cap) := by have h := h2.at (k * 7 + 0) _ ((flat_get rpCells 7 (fun _ => rfl) qs k q hq 0 (by decide)).trans rfl); simpa [← Nat.add_assoc] using h
      have g1 : wr.cell? ⟨b, o + k * 7 + 1, none⟩ = some (.int .i64 0) := by have h := h1.at (k * 7 + 1) _ ((flat_get rpCells 7 (fun _ => rfl) ps k p hp 1 (by decide)).trans rfl); simpa [← Nat.add_assoc] using h
      have q1 : wr.cell? ⟨b2, o2 + k * 7 + 1, none⟩ = some (.int .i64 0) := by have h := h2.at (k * 7 + 1) _ ((flat_get rpCells 7 (fun _ => rfl) qs k q hq 1 (by decide)).trans rfl); simpa [← Nat.add_assoc] using h
      have g2 : wr.cell? ⟨b, o + k * 7 + 2, none⟩ = some (.slice none 0 0) := by have h := h1.at (k * 7 + 2) _ ((flat_get rpCells 7 (fun _ => rfl) ps k p hp 2 (by decide)).trans rfl); simpa [← Nat.add_assoc] using h
      have q2 : wr.cell? ⟨b2, o2 + k * 7 + 2, none⟩ = some (.slice none 0 0) := by have h := h2.at (k * 7 + 2) _ ((flat_get rpCells 7 (fun _ => rfl) qs k q hq 2 (by decide)).trans rfl); simpa [← Nat.add_assoc] using h
      have g3 : wr.cell? ⟨b, o + k * 7 + 3, none⟩ = some (.slice none 0 0) := by have h := h1.at (k * 7 + 3) _ ((flat_get rpCells 7 (fun _ => rfl) ps k p hp 3 (by decide)).trans rfl); simpa [← Nat.add_assoc] using h
      have q3 : wr.cell? ⟨b2, o2 + k * 7 + 3, none⟩ = some (.slice none 0 0) := by have h := h2.at (k * 7 + 3) _ ((flat_get rpCells 7 (fun _ => rfl) qs k q hq 3 (by decide)).trans rfl); simpa [← Nat.add_assoc] using h
      have g4 : wr.cell? ⟨b, o + k * 7 + 4, none⟩ = some (.int .i64 0) := by have h := h1.at (k * 7 + 4) _ ((flat_get rpCells 7 (fun _ => rfl) ps k p hp 4 (by decide)).trans rfl); simpa [← Nat.add_assoc] using h
      have q4 : wr.cell? ⟨b2, o2 + k * 7 + 4, none⟩ = some (.int .i64 0) := by have h := h2.at (k * 7 + 4) _ ((flat_get rpCells 7 (fun _ => rfl) qs k q hq 4 (by decide)).trans rfl); simpa [← Nat.add_assoc] using h
      have g5 : wr.cell? ⟨b, o + k * 7 + 5, none⟩ = some (.slice none 0 0) := by have h := h1.at (k * 7 + 5) _ ((flat_get rpCells 7 (fun _ => rfl) ps k p hp 5 (by decide)).trans rfl); simpa [← Nat.add_assoc] using h
      have q5 : wr.cell? ⟨b2, o2 + k * 7 + 5, none⟩ = some (.slice none 0 0) := by have h := h2.at (k * 7 + 5) _ ((flat_get rpCells 7 (fun _ => rfl) qs k q hq 5 (by decide)).trans rfl); simpa [← Nat.add_assoc] using h
      have g6 : wr.cell? ⟨b, o + k * 7 + 6, none⟩ = some (.slice none 0 0) := by have h := h1.at (k * 7 + 6) _ ((flat_get rpCells 7 (fun _ => rfl) ps k p hp 6 (by decide)).trans rfl); simpa [← Nat.add_assoc] using h
      have q6 : wr.cell? ⟨b2, o2 + k * 7 + 6, none⟩ = some (.slice none 0 0) := by have h := h2.at (k * 7 + 6) _ ((flat_get rpCells 7 (fun _ => rfl) qs k q hq 6 (by decide)).trans rfl); simpa [← Nat.add_assoc] using h
      clear h1 h2
      have b1 : (k : Int) < (ps.length : Int) := by omega
      go_wp2
      go_still_tail 8, (by kernel_rfl)
      have HD := Lib.hid (show Below w.heap.size w wr.drew from HB.out.drew)
      change wpList _ _ _ _ _ wr.drew
      generalize wr.drew = w2 at HD ⊢
      go_wp2_with fail
      refine (eqReplica0 p q F F2 _ (HPA.out.frame (Agree.of_below HD.out)) (HQA.out.frame (Agree.of_below HD.out))).mono ?_
      rintro e w3 ⟨rfl, hb3⟩
      have HB3 := Lib.hid (below_then HD.out HD.out.size hb3)
      clear hb3
      go_wp2
      go_roundw
      case rel => exact ⟨k + 1, by go_num, by omega, HB3.out⟩
      case measure => simp [intOf]; omega
    · go_wp2
      go_ret
      exact ⟨rfl, HB.out⟩
/-- A group as it begins, read. -/
structure GrAt (F : Nat → Prop) (w : World) (A1 A2 A3 : Option Addr) (ds : List OpD) (n : Nat) (ps : List PlR) (rs : List RpR) : Prop where
  ops : OpAt F w A1 ds
  pl : Rds F w A2 (ps.flatMap (plCells n))
  pls : ∀ p ∈ ps, PlAt F w n p
  rp : Rds F w A3 (rs.flatMap rpCells)
  rps : ∀ r ∈ rs, Rds F w r.adr (zeros zTx 12)
theorem GrAt.frame {F : Nat → Prop} {w w1 : World} {A1 A2 A3 : Option Addr} {ds : List OpD} {n : Nat} {ps : List PlR} {rs : List RpR} (h : GrAt F w A1 A2 A3 ds n ps rs) (ha : Agree F w w1) : GrAt F w1 A1 A2 A3 ds n ps rs :=
  ⟨h.ops.frame ha, h.pl.frame ha, fun p hp => ⟨(h.pls p hp).1.frame ha, (h.pls p hp).2.frame ha⟩, h.rp.frame ha, fun r hr => (h.rps r hr).frame ha⟩
theorem GrAt.mono {F G : Nat → Prop} {w : World} {A1 A2 A3 : Option Addr} {ds : List OpD} {n : Nat} {ps : List PlR} {rs : List RpR} (h : GrAt F w A1 A2 A3 ds n ps rs) (hG : ∀ b, F b → b < w.heap.size → G b) : GrAt G w A1 A2 A3 ds n ps rs :=
  ⟨h.ops.mono hG, h.pl.mono hG, fun p hp => ⟨(h.pls p hp).1.mono hG, (h.pls p hp).2.mono hG⟩, h.rp.mono hG, fun r hr => (h.rps r hr).mono hG⟩
theorem GrF.at {F : Nat → Prop} {w : World} {A1 A2 A3 : Option Addr} {os : List OpR} {n : Nat} {ps : List PlR} {rs : List RpR} (h : GrF F w A1 A2 A3 os n ps rs) (hc : ∀ r ∈ os, r.d.doc.length ≤ r.cap) : GrAt F w A1 A2 A3 (os.map OpR.d) n ps rs :=
  ⟨⟨os, rfl, h.ops.top.1, fun r hr => ⟨hc r hr, (h.ops.docs.own (r.adr, ndCells r.d.doc) (List.mem_map.2 ⟨r, hr, rfl⟩)).1⟩⟩, h.pls.top.1, fun p hp => ⟨(h.pls.vs.own (p.av, zeros zVo n) (List.mem_map.2 ⟨p, hp, rfl⟩)).1, (h.pls.ks.own (p.ak, zeros zAs 3) (List.mem_map.2 ⟨p, hp, rfl⟩)).1⟩, h.rps.top.1, fun r hr => (h.rps.ks.own (r.adr, zeros zTx 12) (List.mem_map.2 ⟨r, hr, rfl⟩)).1⟩
set_option maxRecDepth 100000 in
set_option maxHeartbeats 1600000 in
theorem eqGroup_any (ds : List OpD) (hl : ds.length ≤ 1000000000) (hd : ∀ d ∈ ds, d.doc.length ≤ 1000000000) (n : Nat) (hn : n ≤ 1000) (ps qs : List PlR) (hpl : ps.length ≤ 1000) (hpq : qs.length = ps.length) (rs ss : List RpR) (hrl : rs.length ≤ 1000) (hrs : ss.length = rs.length) (F F2 : Nat → Prop) (Ax1 Ax2 Ax3 Ay1 Ay2 Ay3 : Option Addr) (cx1 cx2 cx3 cy1 cy2 cy3 : Nat) (w : World) (hp : GrAt F w Ax1 Ax2 Ax3 ds n ps rs) (hq : GrAt F2 w Ay1 Ay2 Ay3 ds n qs ss) :
    Calls Tryz.prog 16 #[.agg #[.slice Ax1 ds.length cx1, .slice Ax2 ps.length cx2, .slice Ax3 rs.length cx3], .agg #[.slice Ay1 ds.length cy1, .slice Ay2 ps.length cy2, .slice Ay3 rs.length cy3]] w fun e w' => e = .returned (.bool true) ∧ Below w.heap.size w w' := by
  have k0 : ((w.alloc (.cells #[.slice Ax1 ds.length cx1, .slice Ax2 ps.length cx2, .slice Ax3 rs.length cx3] 40 (0, 0))).alloc (.cells #[.slice Ay1 ds.length cy1, .slice Ay2 ps.length cy2, .slice Ay3 rs.length cy3] 40 (0, 0))).heap[w.heap.size]? = some (.cells #[.slice Ax1 ds.length cx1, .slice Ax2 ps.length cx2, .slice Ax3 rs.length cx3] 40 (0, 0)) := by (repeat (first | with_reducible assumption | (with_reducible refine blk_new _ ?_; (first | rfl | (simp; done) | (simp; omega))) | with_reducible apply block_setCell | (with_reducible refine blk_skip _ _ ?_ ?_; rotate_left; (first | (simp; done) | (simp; omega))) | with_reducible refine blk_old ?_))
  have k1 : ((w.alloc (.cells #[.slice Ax1 ds.length cx1, .slice Ax2 ps.length cx2, .slice Ax3 rs.length cx3] 40 (0, 0))).alloc (.cells #[.slice Ay1 ds.length cy1, .slice Ay2 ps.length cy2, .slice Ay3 rs.length cy3] 40 (0, 0))).heap[w.heap.size + 1]? = some (.cells #[.slice Ay1 ds.length cy1, .slice Ay2 ps.length cy2, .slice Ay3 rs.length cy3] 40 (0, 0)) := by (repeat (first | with_reducible assumption | (with_reducible refine blk_new _ ?_; (first | rfl | (simp; done) | (simp; omega))) | with_reducible apply block_setCell | (with_reducible refine blk_skip _ _ ?_ ?_; rotate_left; (first | (simp; done) | (simp; omega))) | with_reducible refine blk_old ?_))
  have HK0 := Lib.hid k0
  have HK1 := Lib.hid k1
  have HB0 := Lib.hid (bl_two w (.cells #[.slice Ax1 ds.length cx1, .slice Ax2 ps.length cx2, .slice Ax3 rs.length cx3] 40 (0, 0)) (.cells #[.slice Ay1 ds.length cy1, .slice Ay2 ps.length cy2, .slice Ay3 rs.length cy3] 40 (0, 0)))
  clear k0 k1
  have HP0 := Lib.hid (hp.frame (Agree.of_below HB0.out))
  have HQ0 := Lib.hid (hq.frame (Agree.of_below HB0.out))
  clear hp hq
  go_enter Tryz.func16, Tryz.ntmps16
  go_wp2_with fail
  generalize ((w.alloc (.cells #[.slice Ax1 ds.length cx1, .slice Ax2 ps.length cx2, .slice Ax3 rs.length cx3] 40 (0, 0))).alloc (.cells #[.slice Ay1 ds.length cy1, .slice Ay2 ps.length cy2, .slice Ay3 rs.length cy3] 40 (0, 0))) = w1 at HK0 HK1 HB0 HP0 HQ0 ⊢
  refine (eqOpS_any ds hl hd F F2 Ax1 Ay1 cx1 cy1 _ HP0.out.ops HQ0.out.ops).mono ?_
  rintro e w2 ⟨rfl, hb2⟩
  have HB2' := Lib.hid (below_then HB0.out HB0.out.size hb2)
  have HKA2 := Lib.hid (block_below HK0.out hb2)
  have HKB2 := Lib.hid (block_below HK1.out hb2)
  have HP1 := Lib.hid (HP0.out.frame (Agree.of_below hb2))
  have HQ1 := Lib.hid (HQ0.out.frame (Agree.of_below hb2))
  clear hb2 
  have x0 := cell_of_block HKA2.out 0
  have x1 := cell_of_block HKA2.out 1
  have x2 := cell_of_block HKA2.out 2
  simp at x0 x1 x2
  have y0 := cell_of_block HKB2.out 0
  have y1 := cell_of_block HKB2.out 1
  have y2 := cell_of_block HKB2.out 2
  simp at y0 y1 y2
  go_wp2_with fail
  refine (eqPlS0 n hn ps qs hpl hpq F F2 Ax2 Ay2 cx2 cy2 _ HP1.out.pl HQ1.out.pl HP1.out.pls HQ1.out.pls).mono ?_
  rintro e w3 ⟨rfl, hb3⟩
  have HB3' := Lib.hid (below_then HB2'.out HB2'.out.size hb3)
  have HKA3 := Lib.hid (block_below HKA2.out hb3)
  have HKB3 := Lib.hid (block_below HKB2.out hb3)
  have HP2 := Lib.hid (HP1.out.frame (Agree.of_below hb3))
  have HQ2 := Lib.hid (HQ1.out.frame (Agree.of_below hb3))
  clear hb3 x0 x1 x2 y0 y1 y2
  have x0 := cell_of_block HKA3.out 0
  have x1 := cell_of_block HKA3.out 1
  have x2 := cell_of_block HKA3.out 2
  simp at x0 x1 x2
  have y0 := cell_of_block HKB3.out 0
  have y1 := cell_of_block HKB3.out 1
  have y2 := cell_of_block HKB3.out 2
  simp at y0 y1 y2
  go_wp2_with fail
  refine (eqRpS0 rs ss hrl hrs F F2 Ax3 Ay3 cx3 cy3 _ HP2.out.rp HQ2.out.rp HP2.out.rps HQ2.out.rps).mono ?_
  rintro e w4 ⟨rfl, hb4⟩
  have HB4' := Lib.hid (below_then HB3'.out HB3'.out.size hb4)
  have HKA4 := Lib.hid (block_below HKA3.out hb4)
  have HKB4 := Lib.hid (block_below HKB3.out hb4)
  have HP3 := Lib.hid (HP2.out.frame (Agree.of_below hb4))
  have HQ3 := Lib.hid (HQ2.out.frame (Agree.of_below hb4))
  clear hb4 x0 x1 x2 y0 y1 y2
  go_wp2
  go_ret
  exact ⟨rfl, HB4'.out⟩
end Go.Proofs.YtemcijhpmpdebaaGreatDoor
