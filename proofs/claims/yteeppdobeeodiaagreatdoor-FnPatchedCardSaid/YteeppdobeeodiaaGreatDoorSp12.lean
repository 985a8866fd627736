/- The reference's ApplyPatch. -/
import Derived.Test.YteeppdobeeodiaaGreatDoorSp11
import Derived.Test.YteeppdobeeodiaaGreatDoorSp9
import Derived.Test.YteeppdobeeodiaaGreatDoorAp5
namespace Go.Proofs.YteeppdobeeodiaaGreatDoor
open Go.RowKit
set_option maxRecDepth 100000 in
set_option maxHeartbeats 16000000 in
theorem sApplyPatch_any (lp lq : List Nd) (hp : lp.length ≤ 1000000000) (hq : lq.length ≤ 1000000000) (hsp : SzNd lp) (hsq : SzNd lq) (F : Nat → Prop) (A1 A2 : Option Addr) (c1 c2 : Nat) (w : World) (hr1 : Rds F w A1 (ndCells lp)) (hr2 : Rds F w A2 (ndCells lq)) :
    Calls Tryz.prog 19 #[.agg #[.slice A1 lp.length c1], .agg #[.slice A2 lq.length c2]] w (TwoPost patchOp lp lq w) := by
  have HG1 := Lib.hid (fun W (hb : Below w.heap.size w W) => sGoodValue_any lp hp hsp F A1 c1 W (hr1.frame (Agree.of_below hb)))
  have HG2 := Lib.hid (fun W (hb : Below w.heap.size w W) => sGoodValue_any lq hq hsq F A2 c2 W (hr2.frame (Agree.of_below hb)))
  have HR1 := Lib.hid (fun W (hb : Below w.heap.size w W) => hr1.frame (w1 := W) (Agree.of_below hb))
  have HR2 := Lib.hid (fun W (hb : Below w.heap.size w W) => hr2.frame (w1 := W) (Agree.of_below hb))
  clear hr1 hr2 hsp hsq
  obtain ⟨w1, hw⟩ : ∃ w1, w1 = ((w.alloc (.cells #[.slice A1 lp.length c1] 25 (0, 0))).alloc (.cells #[.slice A2 lq.length c2] 25 (0, 0))).alloc (.cells #[.slice none 0 0] 25 (0, 0)) := ⟨_, rfl⟩
  have hb1 : Below w.heap.size w w1 := by rw [hw]; exact (((Below.refl _ _).alloc (Nat.le_refl _) _).alloc (by simp) _).alloc (by simp <;> omega) _
  have kp : w1.heap[w.heap.size]? = some (.cells #[.slice A1 lp.length c1] 25 (0, 0)) := by rw [hw]; (repeat (first | with_reducible assumption | (with_reducible refine blk_new _ ?_; (first | rfl | (simp; done) | (simp; omega))) | with_reducible apply block_setCell | (with_reducible refine blk_skip _ _ ?_ ?_; rotate_left; (first | (simp; done) | (simp; omega))) | with_reducible refine blk_old ?_))
  have kq : w1.heap[w.heap.size + 1]? = some (.cells #[.slice A2 lq.length c2] 25 (0, 0)) := by rw [hw]; (repeat (first | with_reducible assumption | (with_reducible refine blk_new _ ?_; (first | rfl | (simp; done) | (simp; omega))) | with_reducible apply block_setCell | (with_reducible refine blk_skip _ _ ?_ ?_; rotate_left; (first | (simp; done) | (simp; omega))) | with_reducible refine blk_old ?_))
  have kr : w1.heap[w.heap.size + 1 + 1]? = some (.cells #[.slice none 0 0] 25 (0, 0)) := by rw [hw]; (repeat (first | with_reducible assumption | (with_reducible refine blk_new _ ?_; (first | rfl | (simp; done) | (simp; omega))) | with_reducible apply block_setCell | (with_reducible refine blk_skip _ _ ?_ ?_; rotate_left; (first | (simp; done) | (simp; omega))) | with_reducible refine blk_old ?_))
  have hs1 : w1.heap.size = w.heap.size + 3 := by rw [hw]; simp
  have HW := Lib.hid hw
  have HB1 := Lib.hid hb1
  have HKP := Lib.hid kp
  have HKQ := Lib.hid kq
  have HKR := Lib.hid kr
  clear hw hb1 kp kq kr
  have hle : w.heap.size ≤ (⟨w.heap.size + 1 + 1, 0, none⟩ : Addr).block := by show w.heap.size ≤ w.heap.size + 1 + 1; omega
  have HNONE := Lib.hid (fun (h : (∀ t, ¬ IsGood lp t) ∨ ∀ t, ¬ IsGood lq t) (wx : World) (hb : Below w.heap.size w wx) (u : Value) => show TwoPost patchOp lp lq w (.returned (.tuple #[.agg #[.slice none 0 0], .bool false])) (wx.setCell ⟨w.heap.size + 1 + 1, 0, none⟩ u) from
      ⟨[], _, false, rfl, two_none h, NdOwn.nil (hb.setCell (p := ⟨w.heap.size + 1 + 1, 0, none⟩) hle _)⟩)
  clear hle
  go_enter Tryz.func19, Tryz.ntmps19
  go_wp2_with fail
  rw [← HW.out]
  clear HW
  refine (HG1.out w1 HB1.out).mono ?_
  rintro e w2 ⟨hb2, g1, rfl, hg1⟩
  have HB2 := Lib.hid (below_then HB1.out HB1.out.size hb2)
  have HKP2 := Lib.hid (block_below HKP.out hb2)
  have HKQ2 := Lib.hid (block_below HKQ.out hb2)
  have HKR2 := Lib.hid (block_below HKR.out hb2)
  clear hb2 HKP HKQ HKR HB1
  cases g1
  · have r0 := cell_of_block HKR2.out 0
    have f0 := free_of_block HKR2.out 0
    simp at r0
    have HG1F := Lib.hid (show ∀ t, ¬ IsGood lp t from fun t h => by have := hg1.2 ⟨t, h⟩; cases this)
    clear hg1
    go_wp2
    refine bodyPost_ret (results_row_one rfl _ _ (w.heap.size + 1 + 1) _ _ _ _ rfl (block_setCell HKR2.out _ _) Tryz.underlying25 rfl ((info_size infoValue).trans (by simp))) rfl ?_
    exact HNONE.out (.inl HG1F.out) _ HB2.out _
  · obtain ⟨tp, htp⟩ := hg1.1 rfl
    have HTP := Lib.hid htp
    clear hg1 htp
    have xq := cell_of_block HKQ2.out 0
    simp at xq
    go_wp2_with fail
    refine (HG2.out w2 HB2.out).mono ?_
    rintro e w3 ⟨hb3, g2, rfl, hg2⟩
    have HB3 := Lib.hid (below_then HB2.out HB2.out.size hb3)
    have HKP3 := Lib.hid (block_below HKP2.out hb3)
    have HKQ3 := Lib.hid (block_below HKQ2.out hb3)
    have HKR3 := Lib.hid (block_below HKR2.out hb3)
    clear hb3 HKP2 HKQ2 HKR2 HB2 xq HG1 HG2
    cases g2
    · have r0 := cell_of_block HKR3.out 0
      have f0 := free_of_block HKR3.out 0
      simp at r0
      have HG2F := Lib.hid (show ∀ t, ¬ IsGood lq t from fun t h => by have := hg2.2 ⟨t, h⟩; cases this)
      clear hg2
      go_wp2
      refine bodyPost_ret (results_row_one rfl _ _ (w.heap.size + 1 + 1) _ _ _ _ rfl (block_setCell HKR3.out _ _) Tryz.underlying25 rfl ((info_size infoValue).trans (by simp))) rfl ?_
      exact HNONE.out (.inr HG2F.out) _ HB3.out _
    · obtain ⟨tq, htq⟩ := hg2.1 rfl
      have HTQ := Lib.hid htq
      clear hg2 htq
      have hs3 := HB3.out.size
      obtain ⟨np1, np2⟩ := HTP.out.count
      obtain ⟨nq1, nq2⟩ := HTQ.out.count
      have HT1 := Lib.hid (fun W (hb : Below w3.heap.size w3 W) => LtPost.shape hb (sTree_any tp HTP.out.2.1 lp (by omega) 0 (Sub.of_flat HTP.out.1) F A1 c1 W (HR1.out W (below_then HB3.out hs3 hb))))
      have HT2 := Lib.hid (fun W (hb : Below w3.heap.size w3 W) => LtPost.shape hb (sTree_any tq HTQ.out.2.1 lq (by omega) 0 (Sub.of_flat HTQ.out.1) F A2 c2 W (HR2.out W (below_then HB3.out hs3 hb))))
      obtain ⟨hzo, hzc⟩ := patch_ok tq tp HTP.out.2.1 HTQ.out.2.1
      have HT3 := Lib.hid (fun W (_hb : Below w3.heap.size w3 W) (F : Nat → Prop) (pc qc : List Value) (h1 : LtAt F W pc tp) (h2 : LtAt F W qc tq) => sApply_any tq HTQ.out.2.1 tp F pc qc W HTP.out.2.1 (by omega) h1 h2)
      have HT4 := Lib.hid (fun W (F : Nat → Prop) (cs : List Value) (h : LtAt F W cs (Tree.patch tp tq)) => sTell_any (Tree.patch tp tq) hzo (by omega) F cs W h)
      have HKEEP := Lib.hid (fun W (hb : Below w3.heap.size w3 W) => show W.cell? ⟨w.heap.size, 0, none⟩ = some (.slice A1 lp.length c1) ∧ W.cell? ⟨w.heap.size + 1, 0, none⟩ = some (.slice A2 lq.length c2) from
        ⟨cell_of_block ((hb.block _ (lt_of_block HKP3.out)).trans HKP3.out) 0, cell_of_block ((hb.block _ (lt_of_block HKQ3.out)).trans HKQ3.out) 0⟩)
      clear np1 np2 nq1 nq2 hzo hzc
      have r0 := cell_of_block HKR3.out 0
      have f0 := free_of_block HKR3.out 0
      simp at r0
      have HFIN := Lib.hid (fun (W : World) (hb : Below w3.heap.size w3 W) => block_below HKR3.out hb)
      have HDR := Lib.hid (show Below w3.heap.size w3 w3.drew from (Below.refl _ _).drew)
      have HKEEP2 := Lib.hid (fun (W : World) (u : Value) (hb : Below w3.heap.size w3 W) => show (W.setCell ⟨w.heap.size + 1 + 1, 0, none⟩ u).cell? ⟨w.heap.size, 0, none⟩ = some (.slice A1 lp.length c1) ∧ (W.setCell ⟨w.heap.size + 1 + 1, 0, none⟩ u).cell? ⟨w.heap.size + 1, 0, none⟩ = some (.slice A2 lq.length c2) from
        ⟨(World.cell?_of_block (a := ⟨w.heap.size, 0, none⟩) (Below.heap_setCell _ _ _ _ (by show w.heap.size ≠ w.heap.size + 1 + 1; omega))).trans (HKEEP.out W hb).1, (World.cell?_of_block (a := ⟨w.heap.size + 1, 0, none⟩) (Below.heap_setCell _ _ _ _ (by show w.heap.size + 1 ≠ w.heap.size + 1 + 1; omega))).trans (HKEEP.out W hb).2⟩)
      go_wp2
      go_region_held3 (fun W => W.cell? ⟨w.heap.size, 0, none⟩ = some (.slice A1 lp.length c1) ∧ W.cell? ⟨w.heap.size + 1, 0, none⟩ = some (.slice A2 lq.length c2))
        (first | exact HKEEP2.out _ _ hx7 | exact HKEEP.out _ hx7 | exact HKEEP.out _ hx6 | exact HKEEP.out _ hx5 | exact HKEEP.out _ hx4 | exact HKEEP.out _ HDR.out)
        (first
          | (go_at_call 26; refine (HT4.out w6 _ _ hz6).mono ?_; rintro e w7 ⟨l, u, f, rfl, htold, hown⟩; obtain ⟨A7, c7, rfl⟩ := hown.shape; have hx7 : Below w3.heap.size w3 w7 := below_then hx6 hx6.size hown.1; have r7 := cell_of_block (HFIN.out _ hx7) 0; have g7 := free_of_block (HFIN.out _ hx7) 0; simp at r7)
          | (go_at_call 37; refine (HT3.out w5 hx5 (F2 a1 w4.heap.size a2 w5.heap.size) _ _ (hl1.frame (Agree.of_below hb2) (fun k h _ => Or.inl h)) (hl2.frame (Agree.refl _ _) (fun k h _ => Or.inr h))).mono ?_; rintro e w6 ⟨cs6, rfl, hb6, hz6⟩; obtain ⟨G1, g1, G2, g2, rs6, e6, _⟩ := hz6.open; subst e6; have hx6 : Below w3.heap.size w3 w6 := below_then hx5 hx5.size hb6)
          | (go_at_call 25; have hx4' := hx4; refine (HT2.out w4 hx4).mono ?_; rintro e w5 ⟨X1, x1, X2, x2, rfl, hb2, hx5, a2, ha2, hl2⟩)
          | (go_at_call 25; refine (HT1.out _ HDR.out).mono ?_; rintro e w4 ⟨Y1, y1, Y2, y2, rfl, hb1, hx4, a1, ha1, hl1⟩))
      have HB7 := Lib.hid (below_then HB3.out hs3 hx6)
      have HK7 := Lib.hid (HFIN.out _ hx7)
      have HO7 := Lib.hid hown
      have HTD := Lib.hid htold
      have hgb : w.heap.size + 1 + 1 < w6.heap.size := Nat.lt_of_lt_of_le (lt_of_block HKR3.out) hx6.size
      clear hown htold hx7 hx6 hx5 hx4 hb1 hb2 hb6 hl1 hl2 hz6
      go_wp2
      refine bodyPost_ret (results_row_one rfl _ _ (w.heap.size + 1 + 1) _ _ _ _ rfl (block_setCell HK7.out _ _) Tryz.underlying25 rfl ((info_size infoValue).trans (by simp))) rfl ?_
      exact ⟨l, _, f, rfl, told_res HTP.out HTQ.out HTD.out, NdOwn.cell HB7.out HO7.out (by omega) hgb _⟩
end Go.Proofs.YteeppdobeeodiaaGreatDoor
