/- The reference's DiffOf. -/
import Derived.Test.YteeppdobeeodiaaGreatDoorSp15
import Derived.Test.YteeppdobeeodiaaGreatDoorSp9
import Derived.Test.YteeppdobeeodiaaGreatDoorDf7
namespace Go.Proofs.YteeppdobeeodiaaGreatDoor
open Go.RowKit
set_option maxRecDepth 100000 in
set_option maxHeartbeats 16000000 in
theorem sDiffOf_any (lp lq : List Nd) (hp : lp.length ≤ 1000000000) (hq : lq.length ≤ 1000000000) (hsp : SzNd lp) (hsq : SzNd lq) (F : Nat → Prop) (A1 A2 : Option Addr) (c1 c2 : Nat) (w : World) (hr1 : Rds F w A1 (ndCells lp)) (hr2 : Rds F w A2 (ndCells lq)) :
    Calls Tryz.prog 17 #[.agg #[.slice A1 lp.length c1], .agg #[.slice A2 lq.length c2]] w (TwoPost diffOp lp lq w) := by
  have HG1 := Lib.hid (fun W (hb : Below w.heap.size w W) => sGoodValue_any lp hp hsp F A1 c1 W (hr1.frame (Agree.of_below hb)))
  have HG2 := Lib.hid (fun W (hb : Below w.heap.size w W) => sGoodValue_any lq hq hsq F A2 c2 W (hr2.frame (Agree.of_below hb)))
  have HR1 := Lib.hid (fun W (hb : Below w.heap.size w W) => hr1.frame (w1 := W) (Agree.of_below hb))
  have HR2 := Lib.hid (fun W (hb : Below w.heap.size w W) => hr2.frame (w1 := W) (Agree.of_below hb))
  clear hr1 hr2 hsp hsq
  obtain ⟨w1, hw⟩ : ∃ w1, w1 = ((w.alloc (.cells #[.slice A1 lp.length c1] 25 (0, 0))).alloc (.cells #[.slice A2 lq.length c2] 25 (0, 0))).alloc (.cells #[.slice none 0 0] 25 (0, 0)) := ⟨_, rfl⟩
  have hb1 : Below w.heap.size w w1 := by rw [hw]; exact (((Below.refl _ _).alloc (Nat.le_refl _) _).alloc (by simp) _).alloc (by simp <;> omega) _
  have kp : w1.heap[w.heap.size]? = some (.cells #[.slice A1 lp.length c1] 25 (0, 0)) := by rw [hw]; (repeat (first | with_reducible assumption | (with_reducible refine blk_new _ ?_; (first | rfl | (simp; done) | (simp; omega))) | with_reducible apply block_setCell | (with_reducible refine blk_skip _ _ ?_ ?_; rotate_left; (first | (simp; done) | (simp; omega))) | with_reducible refine blk_old ?_))
  have kq : w1.heap[w.heap.size + 1]? = some (.cells #[.slice A2 lq.length c2] 25 (0, 0)) := by rw [hw]; (repeat (first | with_reducible assumption | (with_reducible refine blk_new _ ?_; (first | rfl | (simp; done) | (simp; omega))) | with_reducible apply block_setCell | (with_reducible refine blk_skip _ _ ?_ ?_; rotate_left; (first | (simp; done) | (simp; omega))) | with_reducible refine blk_old ?_))
  have kr : w1.heap[w.heap.size + 1 + 1]? = some (.cells #[.slice none 0 0] 25 (0, 0)) := by rw [hw]; (repeat (first | with_reducible assumption | (with_reducible refine blk_new _ ?_; (first | rfl | (simp; done) | (simp; omega))) | with_reducible apply block_setCell | (with_reducible refine blk_skip _ _ ?_ ?_; rotate_left; (first | (simp; done) | (simp; omega))) | with_reducible refine blk_old ?_))
  have hs1 : w1.heap.size = w.heap.size + 3 := by rw [hw]; simp
  have HW := Lib.hid hw
  have HB1 := Lib.hid hb1
  have HKP := Lib.hid kp
  have HKQ := Lib.hid kq
  have HKR := Lib.hid kr
  clear hw hb1 kp kq kr
  have hle : w.heap.size ≤ (⟨w.heap.size + 1 + 1, 0, none⟩ : Addr).block := by show w.heap.size ≤ w.heap.size + 1 + 1; omega
  have HNONE := Lib.hid (fun (h : (∀ t, ¬ IsGood lp t) ∨ ∀ t, ¬ IsGood lq t) (wx : World) (hb : Below w.heap.size w wx) (u : Value) => show TwoPost diffOp lp lq w (.returned (.tuple #[.agg #[.slice none 0 0], .bool false])) (wx.setCell ⟨w.heap.size + 1 + 1, 0, none⟩ u) from
      ⟨[], _, false, rfl, two_none h, NdOwn.nil (hb.setCell (p := ⟨w.heap.size + 1 + 1, 0, none⟩) hle _)⟩)
  clear hle
  go_enter Tryz.func17, Tryz.ntmps17
  go_wp2_with fail
  rw [← HW.out]
  clear HW
  refine (HG1.out w1 HB1.out).mono ?_
  rintro e w2 ⟨hb2, g1, rfl, hg1⟩
  have HB2 := Lib.hid (below_then HB1.out HB1.out.size hb2)
  have HKP2 := Lib.hid (block_below HKP.out hb2)
  have HKQ2 := Lib.hid (block_below HKQ.out hb2)
  have HKR2 := Lib.hid (block_below HKR.out hb2)
  clear hb2 HKP HKQ HKR HB1
  cases g1
  · have r0 := cell_of_block HKR2.out 0
    have f0 := free_of_block HKR2.out 0
    simp at r0
    have HG1F := Lib.hid (show ∀ t, ¬ IsGood lp t from fun t h => by have := hg1.2 ⟨t, h⟩; cases this)
    clear hg1
    go_wp2
    refine bodyPost_ret (results_row_one rfl _ _ (w.heap.size + 1 + 1) _ _ _ _ rfl (block_setCell HKR2.out _ _) Tryz.underlying25 rfl ((info_size infoValue).trans (by simp))) rfl ?_
    exact HNONE.out (.inl HG1F.out) _ HB2.out _
  · obtain ⟨tp, htp⟩ := hg1.1 rfl
    have HTP := Lib.hid htp
    clear hg1 htp
    have xq := cell_of_block HKQ2.out 0
    simp at xq
    go_wp2_with fail
    refine (HG2.out w2 HB2.out).mono ?_
    rintro e w3 ⟨hb3, g2, rfl, hg2⟩
    have HB3 := Lib.hid (below_then HB2.out HB2.out.size hb3)
    have HKP3 := Lib.hid (block_below HKP2.out hb3)
    have HKQ3 := Lib.hid (block_below HKQ2.out hb3)
    have HKR3 := Lib.hid (block_below HKR2.out hb3)
    clear hb3 HKP2 HKQ2 HKR2 HB2 xq HG1 HG2
    cases g2
    · have r0 := cell_of_block HKR3.out 0
      have f0 := free_of_block HKR3.out 0
      simp at r0
      have HG2F := Lib.hid (show ∀ t, ¬ IsGood lq t from fun t h => by have := hg2.2 ⟨t, h⟩; cases this)
      clear hg2
      go_wp2
      refine bodyPost_ret (results_row_one rfl _ _ (w.heap.size + 1 + 1) _ _ _ _ rfl (block_setCell HKR3.out _ _) Tryz.underlying25 rfl ((info_size infoValue).trans (by simp))) rfl ?_
      exact HNONE.out (.inr HG2F.out) _ HB3.out _
    · obtain ⟨tq, htq⟩ := hg2.1 rfl
      have HTQ := Lib.hid htq
      clear hg2 htq
      have hs3 := HB3.out.size
      obtain ⟨np1, np2⟩ := HTP.out.count
      obtain ⟨nq1, nq2⟩ := HTQ.out.count
      have HT1 := Lib.hid (fun W (hb : Below w3.heap.size w3 W) => LtPost.shape hb (sTree_any tp HTP.out.2.1 lp (by omega) 0 (Sub.of_flat HTP.out.1) F A1 c1 W (HR1.out W (below_then HB3.out hs3 hb))))
      have HT2 := Lib.hid (fun W (hb : Below w3.heap.size w3 W) => LtPost.shape hb (sTree_any tq HTQ.out.2.1 lq (by omega) 0 (Sub.of_flat HTQ.out.1) F A2 c2 W (HR2.out W (below_then HB3.out hs3 hb))))
      obtain ⟨hzo, hzc⟩ := diff_ok tp tq HTP.out.2.1 HTQ.out.2.1
      have hz3 : tp.count * (tq.count + 1) ≤ 80 * 81 := Nat.mul_le_mul np2 (by omega)
      have HT3 := Lib.hid (fun W (F : Nat → Prop) (pc qc : List Value) (h1 : LtAt F W pc tp) (h2 : LtAt F W qc tq) => sDiff_any tp HTP.out.2.1 np2 tq F pc qc W HTQ.out.2.1 nq2 h1 h2)
      have HT4 := Lib.hid (fun W (F : Nat → Prop) (cs : List Value) (h : LtAt F W cs (Tree.diff tp tq)) => sTell_any (Tree.diff tp tq) hzo (by omega) F cs W h)
      have hnq : tq.count ≤ 1000000 := by omega
      have HNQ := Lib.hid hnq
      have HNO := Lib.hid (fun (hc : tq.isClean = false) (wx : World) (hb : Below w.heap.size w wx) (u : Value) => show TwoPost diffOp lp lq w (.returned (.tuple #[.agg #[.slice none 0 0], .bool false])) (wx.setCell ⟨w.heap.size + 1 + 1, 0, none⟩ u) from
        ⟨[], _, false, rfl, told_res HTP.out HTQ.out (by unfold diffOp; rw [if_neg (by rw [hc]; decide)]; exact .inr ⟨rfl, rfl, rfl⟩), NdOwn.nil (hb.setCell (p := ⟨w.heap.size + 1 + 1, 0, none⟩) (by show w.heap.size ≤ w.heap.size + 1 + 1; omega) _)⟩)
      have hrq := cell_of_block HKQ3.out 0
      simp at hrq
      clear np1 np2 nq1 nq2 hzo hzc hz3 hnq
      go_wp2_with fail
      refine (HT2.out w3 (Below.refl _ _)).mono ?_
      rintro e w4 ⟨X1, x1, X2, x2, rfl, hb2, hx4, a2, ha2, hl2⟩
      have HB34 := Lib.hid hx4
      have hx4s := hx4.size
      clear hb2 hx4 hrq
      by_cases hk : tq.kind = 7
      · rw [hk] at hl2 ⊢
        have HCL := Lib.hid (fun (W : World) (h : LtAt (fun b => a2 ≤ b ∧ b < w4.heap.size) W [.int .i64 7, .int .i64 tq.num, .string tq.text, .slice X1 tq.names.length x1, .slice X2 tq.kids.length x2] tq) => sClean_any tq HNQ.out _ _ W h)
        have hbA := (Below.refl w4.heap.size w4).alloc (Nat.le_refl _) (.cells #[.int .i64 7, .int .i64 tq.num, .string tq.text, .slice X1 tq.names.length x1, .slice X2 tq.kids.length x2] 44 (0, 0))
        have HBA := Lib.hid hbA
        have HLA := Lib.hid (hl2.below hbA)
        have HKA := Lib.hid (heap_alloc_new w4 (.cells #[.int .i64 7, .int .i64 tq.num, .string tq.text, .slice X1 tq.names.length x1, .slice X2 tq.kids.length x2] 44 (0, 0)))
        clear hl2 hbA hk
        go_wp2_with fail
        generalize w4.alloc (.cells #[.int .i64 7, .int .i64 tq.num, .string tq.text, .slice X1 tq.names.length x1, .slice X2 tq.kids.length x2] 44 (0, 0)) = w5 at HBA HLA HKA ⊢
        refine (HCL.out w5 HLA.out).mono ?_
        rintro e wy ⟨rfl, hb6⟩
        have HBY := Lib.hid (below_then (below_then HB34.out HB34.out.size HBA.out) (Nat.le_trans hx4s HBA.out.size) hb6)
        have HXY := Lib.hid (block_below HKA.out hb6)
        have HLY := Lib.hid (HLA.out.below hb6)
        have HKPY := Lib.hid (block_below HKP3.out HBY.out)
        have HKRY := Lib.hid (block_below HKR3.out HBY.out)
        clear hb6 HCL
        cases hc : tq.isClean
        · have HC := Lib.hid hc
          clear hc
          have r0 := cell_of_block HKRY.out 0
          have f0 := free_of_block HKRY.out 0
          simp at r0
          go_wp2
          refine bodyPost_ret (results_row_one rfl _ _ (w.heap.size + 1 + 1) _ _ _ _ rfl (block_setCell HKRY.out _ _) Tryz.underlying25 rfl ((info_size infoValue).trans (by simp))) rfl ?_
          exact HNO.out HC.out _ (below_then HB3.out hs3 HBY.out) _
        · have HYES := Lib.hid hc
          clear hc
          have HOP := Lib.hid (show diffOp tp tq = some (Tree.diff tp tq) from by unfold diffOp; rw [if_pos HYES.out])
          have HDRW := Lib.hid (show Below wy.heap.size wy wy.drew from (Below.refl _ _).drew)
          have hsy := HBY.out.size
          have HKEEP := Lib.hid (fun (W : World) (hb : Below wy.heap.size wy W) => show W.cell? ⟨w.heap.size, 0, none⟩ = some (.slice A1 lp.length c1) ∧ W.cell? ⟨w4.heap.size, 0, none⟩ = some (.int .i64 7) ∧ W.cell? ⟨w4.heap.size, 1, none⟩ = some (.int .i64 tq.num) ∧ W.cell? ⟨w4.heap.size, 2, none⟩ = some (.string tq.text) ∧ W.cell? ⟨w4.heap.size, 3, none⟩ = some (.slice X1 tq.names.length x1) ∧ W.cell? ⟨w4.heap.size, 4, none⟩ = some (.slice X2 tq.kids.length x2) from
            ⟨cell_of_block ((hb.block _ (lt_of_block HKPY.out)).trans HKPY.out) 0, cell_of_block (block_below HXY.out hb) 0, cell_of_block (block_below HXY.out hb) 1, cell_of_block (block_below HXY.out hb) 2, cell_of_block (block_below HXY.out hb) 3, cell_of_block (block_below HXY.out hb) 4⟩)
          go_wp2
          refine till_region 7 (fun W => W.cell? ⟨w.heap.size, 0, none⟩ = some (.slice A1 lp.length c1) ∧ W.cell? ⟨w4.heap.size, 0, none⟩ = some (.int .i64 7) ∧ W.cell? ⟨w4.heap.size, 1, none⟩ = some (.int .i64 tq.num) ∧ W.cell? ⟨w4.heap.size, 2, none⟩ = some (.string tq.text) ∧ W.cell? ⟨w4.heap.size, 3, none⟩ = some (.slice X1 tq.names.length x1) ∧ W.cell? ⟨w4.heap.size, 4, none⟩ = some (.slice X2 tq.kids.length x2)) (by kernel_rfl) ?_ (fun hHeld => ?_)
          · exact HKEEP.out _ HDRW.out
          (refine Till.load (i := 0) (u := ?_) rfl (by kernel_rfl) (by kernel_rfl) (by kernel_rfl) (by kernel_rfl) (by kernel_rfl) (fun _ _ _ h => h) (Or.inl ⟨by rfl, ?_⟩) hHeld ?_; rotate_left 1; (focus (intro w hSw; (try dsimp only at hSw); go_split_ands; go_simp; try (with_reducible rfl))); change Till _ _ _ _ _ _ _ _ (Act.put _ (some 27) _) _; simp only [Act.put, List.setIfInBounds_toArray, List.set_cons_zero, List.set_cons_succ])
          (refine Till.load (i := 2) (u := ?_) rfl (by kernel_rfl) (by kernel_rfl) (by kernel_rfl) (by kernel_rfl) (by kernel_rfl) (fun _ _ _ h => h) (Or.inl ⟨by rfl, ?_⟩) hHeld ?_; rotate_left 1; (focus (intro w hSw; (try dsimp only at hSw); go_split_ands; go_simp; try (with_reducible rfl))); change Till _ _ _ _ _ _ _ _ (Act.put _ (some 29) _) _; simp only [Act.put, List.setIfInBounds_toArray, List.set_cons_zero, List.set_cons_succ])
          (refine Till.one (i := 1) (by kernel_rfl) rfl (fun K hK => ?_))
          go_simp
          refine (HT1.out _ (below_then HBY.out hsy HDRW.out)).mono ?_
          rintro e w7 ⟨Y1, y1, Y2, y2, rfl, hb7, hx7, a1, ha1, hl1⟩
          have HB7 := Lib.hid (below_then HDRW.out (Nat.le_refl _) hb7)
          have HL7 := Lib.hid hl1
          have HA1 := Lib.hid ha1
          clear hb7 hx7 hl1 ha1
          go_simp
          refine hK.out _ _ (HKEEP.out _ HB7.out) (fun hHeld => ?_)
          clear hK K
          (refine Till.one (i := 3) (by kernel_rfl) rfl (fun K hK => ?_))
          go_simp
          refine (HT3.out w7 (F2 a1 w7.heap.size a2 w4.heap.size) _ _ (HL7.out.frame (Agree.refl _ _) (fun k h _ => Or.inl h)) (HLY.out.frame (Agree.of_below HB7.out) (fun k h _ => Or.inr h))).mono ?_
          rintro e w8 ⟨cs8, rfl, hb8, hz8⟩
          obtain ⟨G1, g1, G2, g2, rs8, e8, _⟩ := hz8.open
          subst e8
          have HB8 := Lib.hid (below_then HB7.out HB7.out.size hb8)
          have HZ8 := Lib.hid hz8
          clear hb8 hz8
          go_simp
          refine hK.out _ _ (HKEEP.out _ HB8.out) (fun hHeld => ?_)
          clear hK K
          (refine Till.one (i := 4) (by kernel_rfl) rfl (fun K hK => ?_))
          go_simp
          refine (HT4.out w8 _ _ HZ8.out).mono ?_
          rintro e w9 ⟨l, u, f, rfl, htold, hown⟩
          obtain ⟨A7, c7, rfl⟩ := hown.shape
          have HB9 := Lib.hid (below_then HB8.out HB8.out.size hown.1)
          have HO9 := Lib.hid hown
          have HTD := Lib.hid (show Told (diffOp tp tq) l f from by rw [HOP.out]; exact htold)
          have HK9 := Lib.hid (block_below HKRY.out HB9.out)
          clear hown htold
          go_simp
          refine hK.out _ _ (HKEEP.out _ HB9.out) (fun hHeld => ?_)
          clear hK K
          (refine Till.pure (i := 5) (u := ?_) rfl (by kernel_rfl) (by kernel_rfl) (by kernel_rfl) (by decide) (fun _ _ _ h => h) (Or.inl ⟨by rfl, ?_⟩) (fun _ => hHeld) ?_; rotate_left 1; (focus (intro w _; go_simp; try (with_reducible rfl))); change Till _ _ _ _ _ _ _ _ (Act.put _ (some 32) _) _; simp only [Act.put, List.setIfInBounds_toArray, List.set_cons_zero, List.set_cons_succ])
          (refine Till.pure (i := 6) (u := ?_) rfl (by kernel_rfl) (by kernel_rfl) (by kernel_rfl) (by decide) (fun _ _ _ h => h) (Or.inl ⟨by rfl, ?_⟩) (fun _ => hHeld) ?_; rotate_left 1; (focus (intro w _; go_simp; try (with_reducible rfl))); change Till _ _ _ _ _ _ _ _ (Act.put _ (some 33) _) _; simp only [Act.put, List.setIfInBounds_toArray, List.set_cons_zero, List.set_cons_succ])
          have r9 := cell_of_block HK9.out 0
          have f9 := free_of_block HK9.out 0
          simp at r9
          (refine Till.last (by kernel_rfl) rfl (by kernel_rfl) (fun K hK => ?_))
          go_simp
          refine hK.out _ _ ?_
          clear hK K
          (refine wpAny_take (i := 8) (v := ?_) rfl (by kernel_rfl) (by kernel_rfl) (by kernel_rfl) (fun _ _ _ h => h) (Or.inl ⟨rfl, ?_⟩) ?_; rotate_left 1; (focus (intro w; go_simp; try (with_reducible rfl))); change wpAny _ _ _ _ _ _ (Act.put _ (some 5) _) _; simp only [Act.put, List.setIfInBounds_toArray, List.set_cons_zero, List.set_cons_succ])
          refine wpAny_done (by kernel_rfl) ?_ _
          go_wp2
          refine bodyPost_ret (results_row_one rfl _ _ (w.heap.size + 1 + 1) _ _ _ _ rfl (block_setCell HK9.out _ _) Tryz.underlying25 rfl ((info_size infoValue).trans (by simp))) rfl ?_
          have hgb : w.heap.size + 1 + 1 < w8.heap.size := Nat.lt_of_lt_of_le (lt_of_block HKRY.out) HB8.out.size
          have hle9 : w.heap.size + 1 + 1 + 1 ≤ w8.heap.size := hgb
          exact ⟨l, _, f, rfl, told_res HTP.out HTQ.out HTD.out, NdOwn.cell (below_then HB3.out hs3 (below_then HBY.out hsy HB8.out)) HO9.out (by omega) hgb _⟩
      · have HYES := Lib.hid (show tq.isClean = true by rw [Tree.isClean_eq, if_neg hk])
        have hbA := (Below.refl w4.heap.size w4).alloc (Nat.le_refl _) (.cells #[.int .i64 tq.kind, .int .i64 tq.num, .string tq.text, .slice X1 tq.names.length x1, .slice X2 tq.kids.length x2] 44 (0, 0))
        have HBY := Lib.hid (below_then HB34.out HB34.out.size hbA)
        have HLY := Lib.hid (hl2.below hbA)
        have HXY := Lib.hid (heap_alloc_new w4 (.cells #[.int .i64 tq.kind, .int .i64 tq.num, .string tq.text, .slice X1 tq.names.length x1, .slice X2 tq.kids.length x2] 44 (0, 0)))
        have HKPY := Lib.hid (block_below HKP3.out HBY.out)
        have HKRY := Lib.hid (block_below HKR3.out HBY.out)
        have hkb : (tq.kind == 7) = false := by simpa using hk
        clear hl2 hbA hk
        go_upto_if 25 with fail
        generalize w4.alloc (.cells #[.int .i64 tq.kind, .int .i64 tq.num, .string tq.text, .slice X1 tq.names.length x1, .slice X2 tq.kids.length x2] 44 (0, 0)) = wy at HBY HLY HXY HKPY HKRY ⊢
        have HOP := Lib.hid (show diffOp tp tq = some (Tree.diff tp tq) from by unfold diffOp; rw [if_pos HYES.out])
        have HDRW := Lib.hid (show Below wy.heap.size wy wy.drew from (Below.refl _ _).drew)
        have hsy := HBY.out.size
        have HKEEP := Lib.hid (fun (W : World) (hb : Below wy.heap.size wy W) => show W.cell? ⟨w.heap.size, 0, none⟩ = some (.slice A1 lp.length c1) ∧ W.cell? ⟨w4.heap.size, 0, none⟩ = some (.int .i64 tq.kind) ∧ W.cell? ⟨w4.heap.size, 1, none⟩ = some (.int .i64 tq.num) ∧ W.cell? ⟨w4.heap.size, 2, none⟩ = some (.string tq.text) ∧ W.cell? ⟨w4.heap.size, 3, none⟩ = some (.slice X1 tq.names.length x1) ∧ W.cell? ⟨w4.heap.size, 4, none⟩ = some (.slice X2 tq.kids.length x2) from
          ⟨cell_of_block ((hb.block _ (lt_of_block HKPY.out)).trans HKPY.out) 0, cell_of_block (block_below HXY.out hb) 0, cell_of_block (block_below HXY.out hb) 1, cell_of_block (block_below HXY.out hb) 2, cell_of_block (block_below HXY.out hb) 3, cell_of_block (block_below HXY.out hb) 4⟩)
        go_wp2
        refine till_region 7 (fun W => W.cell? ⟨w.heap.size, 0, none⟩ = some (.slice A1 lp.length c1) ∧ W.cell? ⟨w4.heap.size, 0, none⟩ = some (.int .i64 tq.kind) ∧ W.cell? ⟨w4.heap.size, 1, none⟩ = some (.int .i64 tq.num) ∧ W.cell? ⟨w4.heap.size, 2, none⟩ = some (.string tq.text) ∧ W.cell? ⟨w4.heap.size, 3, none⟩ = some (.slice X1 tq.names.length x1) ∧ W.cell? ⟨w4.heap.size, 4, none⟩ = some (.slice X2 tq.kids.length x2)) (by kernel_rfl) ?_ (fun hHeld => ?_)
        · exact HKEEP.out _ HDRW.out
        (refine Till.load (i := 0) (u := ?_) rfl (by kernel_rfl) (by kernel_rfl) (by kernel_rfl) (by kernel_rfl) (by kernel_rfl) (fun _ _ _ h => h) (Or.inl ⟨by rfl, ?_⟩) hHeld ?_; rotate_left 1; (focus (intro w hSw; (try dsimp only at hSw); go_split_ands; go_simp; try (with_reducible rfl))); change Till _ _ _ _ _ _ _ _ (Act.put _ (some 27) _) _; simp only [Act.put, List.setIfInBounds_toArray, List.set_cons_zero, List.set_cons_succ])
        (refine Till.load (i := 2) (u := ?_) rfl (by kernel_rfl) (by kernel_rfl) (by kernel_rfl) (by kernel_rfl) (by kernel_rfl) (fun _ _ _ h => h) (Or.inl ⟨by rfl, ?_⟩) hHeld ?_; rotate_left 1; (focus (intro w hSw; (try dsimp only at hSw); go_split_ands; go_simp; try (with_reducible rfl))); change Till _ _ _ _ _ _ _ _ (Act.put _ (some 29) _) _; simp only [Act.put, List.setIfInBounds_toArray, List.set_cons_zero, List.set_cons_succ])
        (refine Till.one (i := 1) (by kernel_rfl) rfl (fun K hK => ?_))
        go_simp
        refine (HT1.out _ (below_then HBY.out hsy HDRW.out)).mono ?_
        rintro e w7 ⟨Y1, y1, Y2, y2, rfl, hb7, hx7, a1, ha1, hl1⟩
        have HB7 := Lib.hid (below_then HDRW.out (Nat.le_refl _) hb7)
        have HL7 := Lib.hid hl1
        have HA1 := Lib.hid ha1
        clear hb7 hx7 hl1 ha1
        go_simp
        refine hK.out _ _ (HKEEP.out _ HB7.out) (fun hHeld => ?_)
        clear hK K
        (refine Till.one (i := 3) (by kernel_rfl) rfl (fun K hK => ?_))
        go_simp
        refine (HT3.out w7 (F2 a1 w7.heap.size a2 w4.heap.size) _ _ (HL7.out.frame (Agree.refl _ _) (fun k h _ => Or.inl h)) (HLY.out.frame (Agree.of_below HB7.out) (fun k h _ => Or.inr h))).mono ?_
        rintro e w8 ⟨cs8, rfl, hb8, hz8⟩
        obtain ⟨G1, g1, G2, g2, rs8, e8, _⟩ := hz8.open
        subst e8
        have HB8 := Lib.hid (below_then HB7.out HB7.out.size hb8)
        have HZ8 := Lib.hid hz8
        clear hb8 hz8
        go_simp
        refine hK.out _ _ (HKEEP.out _ HB8.out) (fun hHeld => ?_)
        clear hK K
        (refine Till.one (i := 4) (by kernel_rfl) rfl (fun K hK => ?_))
        go_simp
        refine (HT4.out w8 _ _ HZ8.out).mono ?_
        rintro e w9 ⟨l, u, f, rfl, htold, hown⟩
        obtain ⟨A7, c7, rfl⟩ := hown.shape
        have HB9 := Lib.hid (below_then HB8.out HB8.out.size hown.1)
        have HO9 := Lib.hid hown
        have HTD := Lib.hid (show Told (diffOp tp tq) l f from by rw [HOP.out]; exact htold)
        have HK9 := Lib.hid (block_below HKRY.out HB9.out)
        clear hown htold
        go_simp
        refine hK.out _ _ (HKEEP.out _ HB9.out) (fun hHeld => ?_)
        clear hK K
        (refine Till.pure (i := 5) (u := ?_) rfl (by kernel_rfl) (by kernel_rfl) (by kernel_rfl) (by decide) (fun _ _ _ h => h) (Or.inl ⟨by rfl, ?_⟩) (fun _ => hHeld) ?_; rotate_left 1; (focus (intro w _; go_simp; try (with_reducible rfl))); change Till _ _ _ _ _ _ _ _ (Act.put _ (some 32) _) _; simp only [Act.put, List.setIfInBounds_toArray, List.set_cons_zero, List.set_cons_succ])
        (refine Till.pure (i := 6) (u := ?_) rfl (by kernel_rfl) (by kernel_rfl) (by kernel_rfl) (by decide) (fun _ _ _ h => h) (Or.inl ⟨by rfl, ?_⟩) (fun _ => hHeld) ?_; rotate_left 1; (focus (intro w _; go_simp; try (with_reducible rfl))); change Till _ _ _ _ _ _ _ _ (Act.put _ (some 33) _) _; simp only [Act.put, List.setIfInBounds_toArray, List.set_cons_zero, List.set_cons_succ])
        have r9 := cell_of_block HK9.out 0
        have f9 := free_of_block HK9.out 0
        simp at r9
        (refine Till.last (by kernel_rfl) rfl (by kernel_rfl) (fun K hK => ?_))
        go_simp
        refine hK.out _ _ ?_
        clear hK K
        (refine wpAny_take (i := 8) (v := ?_) rfl (by kernel_rfl) (by kernel_rfl) (by kernel_rfl) (fun _ _ _ h => h) (Or.inl ⟨rfl, ?_⟩) ?_; rotate_left 1; (focus (intro w; go_simp; try (with_reducible rfl))); change wpAny _ _ _ _ _ _ (Act.put _ (some 5) _) _; simp only [Act.put, List.setIfInBounds_toArray, List.set_cons_zero, List.set_cons_succ])
        refine wpAny_done (by kernel_rfl) ?_ _
        go_wp2
        refine bodyPost_ret (results_row_one rfl _ _ (w.heap.size + 1 + 1) _ _ _ _ rfl (block_setCell HK9.out _ _) Tryz.underlying25 rfl ((info_size infoValue).trans (by simp))) rfl ?_
        have hgb : w.heap.size + 1 + 1 < w8.heap.size := Nat.lt_of_lt_of_le (lt_of_block HKRY.out) HB8.out.size
        have hle9 : w.heap.size + 1 + 1 + 1 ≤ w8.heap.size := hgb
        exact ⟨l, _, f, rfl, told_res HTP.out HTQ.out HTD.out, NdOwn.cell (below_then HB3.out hs3 (below_then HBY.out hsy HB8.out)) HO9.out (by omega) hgb _⟩
end Go.Proofs.YteeppdobeeodiaaGreatDoor
