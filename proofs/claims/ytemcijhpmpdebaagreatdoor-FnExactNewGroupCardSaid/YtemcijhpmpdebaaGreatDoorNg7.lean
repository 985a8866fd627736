/- The walk of the reference's NewGroup. -/
import Derived.Test.YtemcijhpmpdebaaGreatDoorNg6
namespace Go.Proofs.YtemcijhpmpdebaaGreatDoor
open Go.RowKit
set_option maxRecDepth 100000 in
set_option maxHeartbeats 16000000 in
theorem sNewGroup_any (ds : List OpD) (hl : ds.length ≤ 100000000) (hsz : SzD ds) (z : Int) (F : Nat → Prop) (A : Option Addr) (c : Nat) (w : World) (hr : OpAt F w A ds) :
    Calls Tryz.prog 14 #[.slice A ds.length c, .int .i64 z] w (SNgP ds z w) := by
  have HR := Lib.hid (show OpAt (fun k => k < w.heap.size) w A ds from hr.mono (fun b _ h => h))
  have HSZ := Lib.hid hsz
  obtain ⟨w1, hw1⟩ : ∃ W, W = ((w.alloc (.cells #[.slice none 0 0, .slice none 0 0, .slice none 0 0] 40 (0, 0))).alloc (.cells #[.slice none 0 0, .slice none 0 0, .slice none 0 0] 40 (0, 0))) := ⟨_, rfl⟩
  have HB1 := Lib.hid (show Below w.heap.size w w1 from by rw [hw1]; exact bl_two _ _ _)
  have hs1 : w1.heap.size = w.heap.size + 1 + 1 := by rw [hw1]; simp
  have HK1 := Lib.hid (show w1.heap[w.heap.size]? = some (.cells #[.slice none 0 0, .slice none 0 0, .slice none 0 0] 40 (0, 0)) from by rw [hw1]; (repeat (first | with_reducible assumption | (with_reducible refine blk_new _ ?_; (first | rfl | (simp; done) | (simp; omega))) | with_reducible apply block_setCell | (with_reducible refine blk_skip _ _ ?_ ?_; rotate_left; (first | (simp; done) | (simp; omega))) | with_reducible refine blk_old ?_)))
  have HK2 := Lib.hid (show w1.heap[w.heap.size + 1]? = some (.cells #[.slice none 0 0, .slice none 0 0, .slice none 0 0] 40 (0, 0)) from by rw [hw1]; (repeat (first | with_reducible assumption | (with_reducible refine blk_new _ ?_; (first | rfl | (simp; done) | (simp; omega))) | with_reducible apply block_setCell | (with_reducible refine blk_skip _ _ ?_ ?_; rotate_left; (first | (simp; done) | (simp; omega))) | with_reducible refine blk_old ?_)))
  have HW1 := Lib.hid hw1.symm
  have hle : w.heap.size ≤ w.heap.size := Nat.le_refl _
  clear hr hsz hw1
  go_enter Tryz.func14, Tryz.ntmps14
  go_upto_region 2 with fail
  rw [HW1.out]
  clear HW1
  have HI0 := Lib.hid (show OpI w.heap.size w1.heap.size (w.heap.size + 1) (.slice none 0 0) (.slice none 0 0) ds 0 [] none 0 w1 w1 from
    ⟨by simp, fun r hr => (by cases hr), HK2.out, World.ownsRow_nil _ _ _ _, Fam.zero _ _ _, Agree.refl _ _, Below.refl _ _, by omega, Nat.le_refl _, by omega⟩)
  go_wp2_with fail
  go_loopw [16] (fun iv wx => ∃ (i : Nat) (os : List OpR) (A1 : Option Addr) (c1 : Nat), iv = .int .i64 (i : Int) ∧ i ≤ ds.length ∧ Hid (OpI w.heap.size w1.heap.size (w.heap.size + 1) (.slice none 0 0) (.slice none 0 0) ds i os A1 c1 w1 wx) ∧ Hid (∀ d ∈ ds.take i, fineD d)) (fun iv _ => ds.length - (intOf iv).toNat)
  case atStart => exact ⟨0, [], none, 0, rfl, Nat.zero_le _, HI0, Lib.hid (fun d hd => by simp at hd)⟩
  case round =>
    obtain ⟨i, os, A1, c1, rfl, hi, HI, HFA⟩ := hrel
    have HBX := Lib.hid (HB1.out.trans HI.out.bel)
    have hsx : w1.heap.size ≤ wr.heap.size := HI.out.sz
    have HKW := Lib.hid (show wr.heap[w.heap.size]? = some (.cells #[.slice none 0 0, .slice none 0 0, .slice none 0 0] 40 (0, 0)) from (HI.out.agr.block w.heap.size ⟨by omega, by omega⟩ (by omega)).trans HK1.out)
    clear HI0
    by_cases hlt : i < ds.length
    · obtain ⟨b, o, r, rfl, hF, hbl, hx, g0, g1, g2, g3, g4, hcp, hrr⟩ := op_at (HR.out.frame (Agree.of_below HBX.out)) i hlt
      have hmem : r.d ∈ ds := List.mem_of_getElem? hx
      have HX := Lib.hid hx
      have hb5 : Below wr.heap.size wr (wr.alloc (.cells #[.int .i64 r.d.o.kind, .int .i64 r.d.o.id, .slice r.adr r.d.doc.length r.cap, .int .i64 r.d.o.session, .int .i64 r.d.o.no] 57 (0, 0))) := (Below.refl _ _).alloc (Nat.le_refl _) _
      have hgo := sGoodOp_any r.d.o r.d.doc (HSZ.out r.d hmem).1 (HSZ.out r.d hmem).2 _ r.adr r.cap (wr.alloc (.cells #[.int .i64 r.d.o.kind, .int .i64 r.d.o.id, .slice r.adr r.d.doc.length r.cap, .int .i64 r.d.o.session, .int .i64 r.d.o.no] 57 (0, 0))) (hrr.frame (Agree.of_below hb5))
      unfold OpV.val at hgo
      have HGO := Lib.hid hgo
      have HOP := Lib.hid (heap_alloc_new wr (.cells #[.int .i64 r.d.o.kind, .int .i64 r.d.o.id, .slice r.adr r.d.doc.length r.cap, .int .i64 r.d.o.session, .int .i64 r.d.o.no] 57 (0, 0)))
      have HB5 := Lib.hid hb5
      have HRR := Lib.hid hrr
      have sz5 : (wr.alloc (.cells #[.int .i64 r.d.o.kind, .int .i64 r.d.o.id, .slice r.adr r.d.doc.length r.cap, .int .i64 r.d.o.session, .int .i64 r.d.o.no] 57 (0, 0))).heap.size = wr.heap.size + 1 := by simp
      have HSZ5 := Lib.hid sz5
      clear hx hrr hb5 sz5 hgo
      go_wp2_with fail
      refine HGO.out.mono ?_
      rintro e w4 hg4
      obtain ⟨hb4, rg, rfl, hrg⟩ := gop_fine hg4
      have hb14 : Below wr.heap.size wr w4 := below_then HB5.out HB5.out.size hb4
      have HB14 := Lib.hid hb14
      have k4 := block_below HOP.out hb4
      have HK4 := Lib.hid k4
      have hs4 : wr.heap.size < w4.heap.size := lt_of_block k4
      have HKX := Lib.hid (block_below HKW.out hb14)
      have HBY := Lib.hid (below_then HBX.out HBX.out.size hb14)
      have HRG := Lib.hid hrg
      have HCL := Lib.hid (sOwnVal_any r.d.doc (HSZ.out r.d hmem).1 _ r.adr r.cap w4 (HRR.out.frame (Agree.of_below hb14)))
      clear hg4 hb4 hb14 k4 hrg HGO HOP HB5 HRR g0 g1 g2 g3 g4
      cases rg
      · obtain ⟨x0, x1, x2⟩ := cells3 HKX.out
        have f0 := free_of_block HKX.out 0
        have f1 := free_of_block HKX.out 1
        have f2 := free_of_block HKX.out 2
        go_wp2
        refine bodyPost_ret (results_two rfl _ _ w.heap.size _ _ _ _ rfl (block_setCell (block_setCell (block_setCell HKX.out _ _) _ _) _ _) Tryz.underlying40 rfl ((info_size infoGroup).trans (by simp))) rfl ?_
        refine ⟨((HBY.out.setCell (p := ⟨w.heap.size, 0, none⟩) hle _).setCell (p := ⟨w.heap.size, 1, none⟩) hle _).setCell (p := ⟨w.heap.size, 2, none⟩) hle _, .inl ⟨fun h => ?_, rfl⟩⟩
        have h2 := HRG.out
        simp at h2
        exact h2 (h.2.2 r.d hmem)
      have HFD : Hid (fineD r.d) := Lib.hid (by have h := HRG.out; simpa using h)
      have z2 := cell_of_block HK4.out 2
      simp at z2
      go_wp2_with fail
      refine HCL.out.mono ?_
      rintro e w5 ⟨v, rfl, hb6, A5, c5, rfl, hc5, hr5, ho5⟩
      have k5 := block_below HK4.out hb6
      have HK5 := Lib.hid k5
      have hb56 : Below wr.heap.size wr w5 := below_then HB14.out HB14.out.size hb6
      have HB56 := Lib.hid hb56
      have hs56 : wr.heap.size < w5.heap.size := lt_of_block k5
      have HN5 := Lib.hid (show Own (fun b => wr.heap.size + 1 ≤ b) w5 100 A5 (ndCells r.d.doc) from (Own.of_own ho5).mono (fun b hb _ => by have h : w4.heap.size ≤ b := hb; omega))
      clear hb6 hr5 ho5 hb56 HCL z2
      obtain ⟨z2, e2⟩ : w5.cell? ⟨wr.heap.size, 2, none⟩ = some (.slice r.adr r.d.doc.length r.cap) ∧ w5.frozen? ⟨wr.heap.size, 2, none⟩ = false := ⟨cell_of_block k5 2, free_of_block k5 2⟩
      clear k5
      go_upto_region 8 with fail
      have hk6 := block_setCell HK5.out 2 (.slice A5 r.d.doc.length c5)
      have hb6 := HB56.out.setCell (p := ⟨wr.heap.size, 2, none⟩) (Nat.le_refl _) (.slice A5 r.d.doc.length c5)
      have hn6 := HN5.out.frame (Agree.of_setCell (F := fun b => wr.heap.size + 1 ≤ b) w5 ⟨wr.heap.size, 2, none⟩ (.slice A5 r.d.doc.length c5) (fun b hb e => by have h1 : wr.heap.size + 1 ≤ b := hb; have h2 : b = wr.heap.size := e; omega))
      generalize w5.setCell ⟨wr.heap.size, 2, none⟩ (.slice A5 r.d.doc.length c5) = w6 at hk6 hb6 hn6 ⊢
      have hi6 := HI.out.below hb6
      have HI6 := Lib.hid hi6
      have hs6 : wr.heap.size < w6.heap.size := lt_of_block hk6
      have HB6 := Lib.hid hb6
      have HN6 := Lib.hid hn6
      have z0 := cell_of_block hk6 0
      have z1 := cell_of_block hk6 1
      have z2 := cell_of_block hk6 2
      have z3 := cell_of_block hk6 3
      have z4 := cell_of_block hk6 4
      simp at z0 z1 z2 z3 z4
      obtain ⟨y0, y1, y2⟩ := cells3 hi6.grp
      have HV := Lib.hid (heap_alloc_new w6 (.cells #[.int .i64 r.d.o.kind, .int .i64 r.d.o.id, .slice A5 r.d.doc.length c5, .int .i64 r.d.o.session, .int .i64 r.d.o.no] 57 (0, 0)))
      have hbA : Below w6.heap.size w6 (w6.alloc (.cells #[.int .i64 r.d.o.kind, .int .i64 r.d.o.id, .slice A5 r.d.doc.length c5, .int .i64 r.d.o.session, .int .i64 r.d.o.no] 57 (0, 0))) := (Below.refl _ _).alloc (Nat.le_refl _) _
      have HBA := Lib.hid hbA
      have HGR := Lib.hid (fun (W : World) (hg : (w6.alloc (.cells #[.int .i64 r.d.o.kind, .int .i64 r.d.o.id, .slice A5 r.d.doc.length c5, .int .i64 r.d.o.session, .int .i64 r.d.o.no] 57 (0, 0))).grownBy W (Value.slice A1 i c1).ownBlock) => show W.heap[w.heap.size + 1]? = some (.cells #[.slice A1 i c1, .slice none 0 0, .slice none 0 0] 40 (0, 0)) from
        (hg.block (w.heap.size + 1) (by have := HBA.out.size; omega) (fun e => by have := (own_base HI6.out.row (w.heap.size + 1) e.symm).1; omega)).trans (block_below HI6.out.grp HBA.out))
      clear hk6 hb6 hn6 hi6 HK5 HB56 HN5 hbA hs56
      go_wp2_with (at_builtin; refine append_rows w1.heap.size rfl (.tmp 29) (.tmp 31) 30 57 _ 5 56 rfl Tryz.underlying30 infoOp rfl (by decide) (.slice A1 i c1) i (opCells os) rfl (HI6.out.row.alloc _) (some ⟨w6.heap.size, 0, none⟩) 1 1 [.int .i64 r.d.o.kind, .int .i64 r.d.o.id, .slice A5 r.d.doc.length c5, .int .i64 r.d.o.session, .int .i64 r.d.o.no] rfl rfl (rds_blk HV.out) (by intro v hv; simp at hv; rcases hv with rfl | rfl | rfl | rfl | rfl <;> rfl) (by simp only [maxLen]; omega) (by omega) (by simp; omega) ?_; intro A7 c7 w7 hc7 ho7 hg7 hat7; have hgr := HGR.out w7 hg7; obtain ⟨x0, x1, x2⟩ := cells3 hgr; have f0 := free_of_block hgr 0; have HG7 := Lib.hid hg7; have HO7 := Lib.hid ho7; clear hc7 ho7 hg7 hat7 hgr)
      go_roundw
      case rel =>
        refine ⟨i + 1, os ++ [⟨r.d, A5, c5⟩], A7, c7, by go_num, by omega, Lib.hid (HI.out.step (below_then HB6.out HB6.out.size HBA.out) ((HN6.out.frame (Agree.of_below HBA.out)).mono (fun b hb _ => by have h : wr.heap.size + 1 ≤ b := hb; omega)) HX.out hc5 HG7.out HO7.out), Lib.hid (fun d hd => ?_)⟩
        rw [List.take_add_one, HX.out, Option.toList_some] at hd
        rcases List.mem_append.1 hd with hd | hd
        · exact HFA.out d hd
        · simp at hd
          subst hd
          exact HFD.out
      case measure => simp [intOf]; omega
    · obtain rfl : i = ds.length := by omega
      have HFN : Hid (∀ d ∈ ds, fineD d) := Lib.hid (by have h := HFA.out; rwa [List.take_length] at h)
      obtain ⟨w5, hw5⟩ : ∃ w5, w5 = wr := ⟨_, rfl⟩
      subst hw5
      obtain ⟨x0, x1, x2⟩ := cells3 HKW.out
      have f0 := free_of_block HKW.out 0
      have f1 := free_of_block HKW.out 1
      have f2 := free_of_block HKW.out 2
      go_upto_region 10 with fail
      cases c0 : decide ((1 : Int) ≤ (ds.length : Int)) && decide ((ds.length : Int) ≤ 9)
      · have C0 := Lib.hid c0
        go_wp2_with (go_at_call 33; refine (sIn_any _ _ _ _).mono ?_; rintro e w' ⟨rfl, rfl⟩)
        refine bodyPost_ret (results_two rfl _ _ w.heap.size _ _ _ _ rfl (block_setCell (block_setCell (block_setCell HKW.out _ _) _ _) _ _) Tryz.underlying40 rfl ((info_size infoGroup).trans (by simp))) rfl ?_
        refine ⟨((HBX.out.setCell (p := ⟨w.heap.size, 0, none⟩) hle _).setCell (p := ⟨w.heap.size, 1, none⟩) hle _).setCell (p := ⟨w.heap.size, 2, none⟩) hle _, .inl ⟨fun h => ?_, rfl⟩⟩
        have h1 := h.1
        have h2 := C0.out
        simp only [Bool.and_eq_false_iff, decide_eq_false_iff_not] at h2
        omega
      have C0 : Hid (1 ≤ ds.length ∧ ds.length ≤ 9) := Lib.hid (by simp only [Bool.and_eq_true, decide_eq_true_eq] at c0; omega)
      cases c1z : decide ((1 : Int) ≤ z) && decide (z ≤ 5)
      · have C1 := Lib.hid c1z
        go_wp2_with (go_at_call 33; refine (sIn_any _ _ _ _).mono ?_; rintro e w' ⟨rfl, rfl⟩)
        refine bodyPost_ret (results_two rfl _ _ w.heap.size _ _ _ _ rfl (block_setCell (block_setCell (block_setCell HKW.out _ _) _ _) _ _) Tryz.underlying40 rfl ((info_size infoGroup).trans (by simp))) rfl ?_
        refine ⟨((HBX.out.setCell (p := ⟨w.heap.size, 0, none⟩) hle _).setCell (p := ⟨w.heap.size, 1, none⟩) hle _).setCell (p := ⟨w.heap.size, 2, none⟩) hle _, .inl ⟨fun h => ?_, rfl⟩⟩
        have h1 := h.2.1
        have h2 := C1.out
        simp only [Bool.and_eq_false_iff, decide_eq_false_iff_not] at h2
        omega
      have C1 : Hid (1 ≤ z ∧ z ≤ 5) := Lib.hid (by simpa using c1z)
      have HOK := Lib.hid (show OkG ds z from ⟨C0.out, C1.out, HFN.out⟩)
      obtain ⟨n, rfl⟩ : ∃ n : Nat, z = n := ⟨z.toNat, by have := C1.out; omega⟩
      have hn5 : 1 ≤ n ∧ n ≤ 5 := by have := C1.out; omega
      go_upto_region 12 with (go_at_call 33; refine (sIn_any _ _ _ _).mono ?_; rintro e w' ⟨rfl, rfl⟩)
      clear c0 c1z x0 x1 x2 f0 f1 f2
      have HP0 := Lib.hid (show RowI 77 4 (plCells n) (subP n) w.heap.size w5.heap.size (w.heap.size + 1) 1 #[.slice A1 ds.length c1, .slice none 0 0, .slice none 0 0] 0 [] none 0 w5 w5 from ⟨rfl, HI.out.grp, World.ownsRow_nil _ _ _ _, fun a ha => (by cases ha), Agree.refl _ _, Below.refl _ _, by omega, Nat.le_refl _, by omega⟩)
      have h5s : w.heap.size + 1 < w5.heap.size := by omega
      go_wp2_with fail
      go_loopw [9] (fun iv wx => ∃ (i : Nat) (ps : List PlR) (A2 : Option Addr) (c2 : Nat), iv = .int .i64 (i : Int) ∧ i ≤ 12 ∧ Hid (RowI 77 4 (plCells n) (subP n) w.heap.size w5.heap.size (w.heap.size + 1) 1 #[.slice A1 ds.length c1, .slice none 0 0, .slice none 0 0] i ps A2 c2 w5 wx)) (fun iv _ => 12 - (intOf iv).toNat)
      case atStart => exact ⟨0, [], none, 0, rfl, Nat.zero_le _, HP0⟩
      case round =>
        obtain ⟨i, ps, A2, c2, rfl, hi, HP⟩ := hrel
        have hsz := HP.out.sz
        clear HP0
        by_cases hlt : i < 12
        · go_wp2_with fail
          refine (sNewPaxos_any n hn5 wr).mono ?_
          rintro e w6 ⟨p, rfl, hb6, hv6, ha6⟩
          have HB6 := Lib.hid hb6
          have HV6 := Lib.hid hv6
          have HA6 := Lib.hid ha6
          have hs6 := hb6.size
          clear hb6 hv6 ha6
          go_upto_region 16 with fail
          have hk7 := heap_alloc_new w6 (.cells #[.slice p.av n p.cv, .slice p.ak 3 p.ck, .slice none 0 0, .slice none 0 0] 73 (0, 0))
          have hb7 : Below w6.heap.size w6 (w6.alloc (.cells #[.slice p.av n p.cv, .slice p.ak 3 p.ck, .slice none 0 0, .slice none 0 0] 73 (0, 0))) := (Below.refl _ _).alloc (Nat.le_refl _) _
          generalize w6.alloc (.cells #[.slice p.av n p.cv, .slice p.ak 3 p.ck, .slice none 0 0, .slice none 0 0] 73 (0, 0)) = w7 at hk7 hb7 ⊢
          have hb17 : Below wr.heap.size wr w7 := below_then HB6.out HB6.out.size hb7
          have hp7 := HP.out.below hb17
          have HP7 := Lib.hid hp7
          have HB17 := Lib.hid hb17
          have HV7 := Lib.hid (HV6.out.frame (Agree.of_below hb7))
          have HA7 := Lib.hid (HA6.out.frame (Agree.of_below hb7))
          have hs7 : w6.heap.size < w7.heap.size := lt_of_block hk7
          have z0 := cell_of_block hk7 0
          have z1 := cell_of_block hk7 1
          have z2 := cell_of_block hk7 2
          have z3 := cell_of_block hk7 3
          simp at z0 z1 z2 z3
          have hg7 : w7.heap[w.heap.size + 1]? = some (.cells #[.slice A1 ds.length c1, .slice A2 i c2, .slice none 0 0] 40 (0, 0)) := hp7.grp
          obtain ⟨y0, y1, y2⟩ := cells3 hg7
          have HG7 := Lib.hid hg7
          have HV := Lib.hid (heap_alloc_new w7 (.cells #[.slice p.av n p.cv, .slice p.ak 3 p.ck, .slice none 0 0, .slice none 0 0] 77 (0, 0)))
          have hbA : Below w7.heap.size w7 (w7.alloc (.cells #[.slice p.av n p.cv, .slice p.ak 3 p.ck, .slice none 0 0, .slice none 0 0] 77 (0, 0))) := (Below.refl _ _).alloc (Nat.le_refl _) _
          have HBA := Lib.hid hbA
          have HGR := Lib.hid (fun (W : World) (hg : (w7.alloc (.cells #[.slice p.av n p.cv, .slice p.ak 3 p.ck, .slice none 0 0, .slice none 0 0] 77 (0, 0))).grownBy W (Value.slice A2 i c2).ownBlock) => show W.heap[w.heap.size + 1]? = some (.cells #[.slice A1 ds.length c1, .slice A2 i c2, .slice none 0 0] 40 (0, 0)) from
            (hg.block (w.heap.size + 1) (by have := HBA.out.size; omega) (fun e => by have := (own_base HP7.out.row (w.heap.size + 1) e.symm).1; omega)).trans (block_below HG7.out HBA.out))
          clear hk7 hb7 hb17 hp7 hg7 hbA HB6 HV6 HA6
          go_wp2_with (at_builtin; refine append_rows w5.heap.size rfl (.tmp 55) (.tmp 58) 37 77 _ 4 96 rfl Tryz.underlying37 infoPlace rfl (by decide) (.slice A2 i c2) i (ps.flatMap (plCells n)) rfl (HP7.out.row.alloc _) (some ⟨w7.heap.size, 0, none⟩) 1 1 [.slice p.av n p.cv, .slice p.ak 3 p.ck, .slice none 0 0, .slice none 0 0] rfl rfl (rds_blk HV.out) (by intro v hv; simp at hv; rcases hv with rfl | rfl | rfl | rfl <;> rfl) (by simp only [maxLen]; omega) (by omega) (by simp; omega) ?_; intro A8 c8 w8 hc8 ho8 hg8 hat8; have hgr := HGR.out w8 hg8; obtain ⟨x0, x1, x2⟩ := cells3 hgr; have f1 := free_of_block hgr 1; have HG8 := Lib.hid hg8; have HO8 := Lib.hid ho8; clear hc8 ho8 hg8 hat8 hgr)
          go_roundw
          case rel =>
            refine ⟨i + 1, ps ++ [p], A8, c8, by go_num, by omega, Lib.hid (HP.out.step (a := p) (below_then HB17.out HB17.out.size HBA.out) (fun t ht => ?_) HG8.out HO8.out)⟩
            simp [subP] at ht
            rcases ht with rfl | rfl
            · exact ⟨by show (128 : TypeId) ≠ 77; decide, (HV7.out.frame (Agree.of_below HBA.out)).mono (fun b hb _ => by have h : wr.heap.size ≤ b := hb; omega)⟩
            · exact ⟨by show (131 : TypeId) ≠ 77; decide, (HA7.out.frame (Agree.of_below HBA.out)).mono (fun b hb _ => by have h : wr.heap.size ≤ b := hb; omega)⟩
          case measure => simp [intOf]; omega
        · obtain rfl : i = 12 := by omega
          rw [show ((12 : Nat) : Int) = 12 from rfl]
          obtain ⟨w8, hw8⟩ : ∃ w8, w8 = wr := ⟨_, rfl⟩
          subst hw8
          have HKZ := Lib.hid (show w8.heap[w.heap.size]? = some (.cells #[.slice none 0 0, .slice none 0 0, .slice none 0 0] 40 (0, 0)) from (HP.out.agr.block w.heap.size ⟨by omega, by omega⟩ (by omega)).trans HKW.out)
          have HR0 := Lib.hid (show RowI 80 7 rpCells subR w.heap.size w8.heap.size (w.heap.size + 1) 2 #[.slice A1 ds.length c1, .slice A2 12 c2, .slice none 0 0] 0 [] none 0 w8 w8 from ⟨rfl, HP.out.grp, World.ownsRow_nil _ _ _ _, fun a ha => (by cases ha), Agree.refl _ _, Below.refl _ _, by omega, Nat.le_refl _, by omega⟩)
          have hm3 := make_rowN (P := Tryz.prog) 78 9 _ 1 16 Tryz.underlying78 infoText 12 (by omega) (by omega)
          have hz3 : madeCells (Value.cells (.string ⟨#[]⟩)) (12 * 1) = (zeros zTx 12).toArray := made_zeros zTx 12
          rw [hz3, show ((12 : Nat) : Int) = 12 from rfl] at hm3
          clear hz3
          go_wp2_with fail
          go_loopw [12] (fun iv wx => ∃ (i : Nat) (rs : List RpR) (A3 : Option Addr) (c3 : Nat), iv = .int .i64 (i : Int) ∧ i ≤ n ∧ Hid (RowI 80 7 rpCells subR w.heap.size w8.heap.size (w.heap.size + 1) 2 #[.slice A1 ds.length c1, .slice A2 12 c2, .slice none 0 0] i rs A3 c3 w8 wx)) (fun iv _ => n - (intOf iv).toNat)
          case atStart => exact ⟨0, [], none, 0, rfl, Nat.zero_le _, HR0⟩
          case round =>
            obtain ⟨i, rs, A3, c3, rfl, hi, HRP⟩ := hrel
            have hsz2 := HRP.out.sz
            clear HR0
            by_cases hlt : i < n
            · have hg9 : wr.heap[w.heap.size + 1]? = some (.cells #[.slice A1 ds.length c1, .slice A2 12 c2, .slice A3 i c3] 40 (0, 0)) := HRP.out.grp
              obtain ⟨y0, y1, y2⟩ := cells3 hg9
              have HG9 := Lib.hid hg9
              clear hg9
              have hba : Below wr.heap.size wr ((wr.alloc (.cells (zeros zTx 12).toArray 9 (0, 0))).alloc (.cells #[.slice (some ⟨wr.heap.size, 0, none⟩) 12 12, .int .i64 0, .slice none 0 0, .slice none 0 0, .int .i64 0, .slice none 0 0, .slice none 0 0] 80 (0, 0))).drew := (bl_two wr (.cells (zeros zTx 12).toArray 9 (0, 0)) (.cells #[.slice (some ⟨wr.heap.size, 0, none⟩) 12 12, .int .i64 0, .slice none 0 0, .slice none 0 0, .int .i64 0, .slice none 0 0, .slice none 0 0] 80 (0, 0))).drew
              have e0 : ((wr.alloc (.cells (zeros zTx 12).toArray 9 (0, 0))).alloc (.cells #[.slice (some ⟨wr.heap.size, 0, none⟩) 12 12, .int .i64 0, .slice none 0 0, .slice none 0 0, .int .i64 0, .slice none 0 0, .slice none 0 0] 80 (0, 0))).heap[wr.heap.size]? = some (.cells (zeros zTx 12).toArray 9 (0, 0)) := by (repeat (first | with_reducible assumption | (with_reducible refine blk_new _ ?_; (first | rfl | (simp; done) | (simp; omega))) | with_reducible apply block_setCell | (with_reducible refine blk_skip _ _ ?_ ?_; rotate_left; (first | (simp; done) | (simp; omega))) | with_reducible refine blk_old ?_))
              have e1 : ((wr.alloc (.cells (zeros zTx 12).toArray 9 (0, 0))).alloc (.cells #[.slice (some ⟨wr.heap.size, 0, none⟩) 12 12, .int .i64 0, .slice none 0 0, .slice none 0 0, .int .i64 0, .slice none 0 0, .slice none 0 0] 80 (0, 0))).heap[wr.heap.size + 1]? = some (.cells #[.slice (some ⟨wr.heap.size, 0, none⟩) 12 12, .int .i64 0, .slice none 0 0, .slice none 0 0, .int .i64 0, .slice none 0 0, .slice none 0 0] 80 (0, 0)) := by (repeat (first | with_reducible assumption | (with_reducible refine blk_new _ ?_; (first | rfl | (simp; done) | (simp; omega))) | with_reducible apply block_setCell | (with_reducible refine blk_skip _ _ ?_ ?_; rotate_left; (first | (simp; done) | (simp; omega))) | with_reducible refine blk_old ?_))
              have hs1a : ((wr.alloc (.cells (zeros zTx 12).toArray 9 (0, 0))).alloc (.cells #[.slice (some ⟨wr.heap.size, 0, none⟩) 12 12, .int .i64 0, .slice none 0 0, .slice none 0 0, .int .i64 0, .slice none 0 0, .slice none 0 0] 80 (0, 0))).heap.size = wr.heap.size + 1 + 1 := by simp
              have HBA := Lib.hid hba
              have HOA := Lib.hid (own_below HRP.out.row hba)
              have HRD := Lib.hid (rds_blk (w := ((wr.alloc (.cells (zeros zTx 12).toArray 9 (0, 0))).alloc (.cells #[.slice (some ⟨wr.heap.size, 0, none⟩) 12 12, .int .i64 0, .slice none 0 0, .slice none 0 0, .int .i64 0, .slice none 0 0, .slice none 0 0] 80 (0, 0))).drew) e1)
              have HST := Lib.hid ((own_blk (w := ((wr.alloc (.cells (zeros zTx 12).toArray 9 (0, 0))).alloc (.cells #[.slice (some ⟨wr.heap.size, 0, none⟩) 12 12, .int .i64 0, .slice none 0 0, .slice none 0 0, .int .i64 0, .slice none 0 0, .slice none 0 0] 80 (0, 0))).drew) e0).mono (G := fun b => wr.heap.size ≤ b) (fun b hb _ => by have h : b = wr.heap.size := hb; omega))
              have HSA := Lib.hid (show w8.heap.size ≤ ((wr.alloc (.cells (zeros zTx 12).toArray 9 (0, 0))).alloc (.cells #[.slice (some ⟨wr.heap.size, 0, none⟩) 12 12, .int .i64 0, .slice none 0 0, .slice none 0 0, .int .i64 0, .slice none 0 0, .slice none 0 0] 80 (0, 0))).drew.heap.size from by show w8.heap.size ≤ ((wr.alloc (.cells (zeros zTx 12).toArray 9 (0, 0))).alloc (.cells #[.slice (some ⟨wr.heap.size, 0, none⟩) 12 12, .int .i64 0, .slice none 0 0, .slice none 0 0, .int .i64 0, .slice none 0 0, .slice none 0 0] 80 (0, 0))).heap.size; omega)
              have HGA := Lib.hid (fun (W : World) (hg : ((wr.alloc (.cells (zeros zTx 12).toArray 9 (0, 0))).alloc (.cells #[.slice (some ⟨wr.heap.size, 0, none⟩) 12 12, .int .i64 0, .slice none 0 0, .slice none 0 0, .int .i64 0, .slice none 0 0, .slice none 0 0] 80 (0, 0))).drew.grownBy W (Value.slice A3 i c3).ownBlock) => show W.heap[w.heap.size + 1]? = some (.cells #[.slice A1 ds.length c1, .slice A2 12 c2, .slice A3 i c3] 40 (0, 0)) from
                (hg.block (w.heap.size + 1) (by show w.heap.size + 1 < ((wr.alloc (.cells (zeros zTx 12).toArray 9 (0, 0))).alloc (.cells #[.slice (some ⟨wr.heap.size, 0, none⟩) 12 12, .int .i64 0, .slice none 0 0, .slice none 0 0, .int .i64 0, .slice none 0 0, .slice none 0 0] 80 (0, 0))).heap.size; omega) (fun e => by have := (own_base HRP.out.row (w.heap.size + 1) e.symm).1; omega)).trans (block_below HG9.out HBA.out))
              clear hba e0 e1 hs1a
              have hgl : w.heap.size + 1 < wr.heap.size := by omega
              obtain ⟨kq0, kq1, kq2⟩ := cells3 (block_below HG9.out (bl_two wr (.cells (zeros zTx 12).toArray 9 (0, 0)) (.cells #[.slice (some ⟨wr.heap.size, 0, none⟩) 12 12, .int .i64 0, .slice none 0 0, .slice none 0 0, .int .i64 0, .slice none 0 0, .slice none 0 0] 80 (0, 0))))
              go_upto_region 20 with fail
              go_region_law (refine step_rows2 w8.heap.size rfl (.tmp 67) (.tmp 70) 38 80 _ 7 136 rfl Tryz.underlying38 infoReplica rfl (by decide) (.slice A3 i c3) i (rs.flatMap rpCells) rfl HOA.out (some ⟨wr.heap.size + 1, 0, none⟩) 1 1 [.slice (some ⟨wr.heap.size, 0, none⟩) 12 12, .int .i64 0, .slice none 0 0, .slice none 0 0, .int .i64 0, .slice none 0 0, .slice none 0 0] rfl rfl HRD.out (by intro v hv; simp at hv; rcases hv with rfl | rfl | rfl | rfl | rfl | rfl <;> rfl) (by simp only [maxLen]; omega) (by omega) HSA.out ?_; intro A9 c9 w9 hc9 ho9 hg9; have hgr := HGA.out w9 hg9; obtain ⟨x0, x1, x2⟩ := cells3 hgr; have f2 := free_of_block hgr 2; have HG10 := Lib.hid hg9; have HO10 := Lib.hid ho9; clear hc9 ho9 hg9 hgr)
              all_goals
                clear y0 y1 y2 kq0 kq1 kq2
                go_wp2
                go_roundw
                case rel =>
                  refine ⟨i + 1, rs ++ [⟨some ⟨wr.heap.size, 0, none⟩, 12⟩], A9, c9, by go_num, by omega, Lib.hid (HRP.out.step (a := (⟨some ⟨wr.heap.size, 0, none⟩, 12⟩ : RpR)) HBA.out (fun t ht => ?_) HG10.out HO10.out)⟩
                  simp [subR] at ht
                  subst ht
                  exact ⟨by show (9 : TypeId) ≠ 80; decide, HST.out.mono (fun b hb _ => by have h : wr.heap.size ≤ b := hb; omega)⟩
                case measure => simp [intOf]; omega
            · obtain rfl : i = n := by omega
              have HKQ := Lib.hid (show wr.heap[w.heap.size]? = some (.cells #[.slice none 0 0, .slice none 0 0, .slice none 0 0] 40 (0, 0)) from (HRP.out.agr.block w.heap.size ⟨by omega, by omega⟩ (by omega)).trans HKZ.out)
              have hg9 : wr.heap[w.heap.size + 1]? = some (.cells #[.slice A1 ds.length c1, .slice A2 12 c2, .slice A3 i c3] 40 (0, 0)) := HRP.out.grp
              obtain ⟨y0, y1, y2⟩ := cells3 hg9
              obtain ⟨x0, x1, x2⟩ := cells3 HKQ.out
              have f0 := free_of_block HKQ.out 0
              have f1 := free_of_block HKQ.out 1
              have f2 := free_of_block HKQ.out 2
              clear hg9 hm3
              go_wp2
              refine bodyPost_ret (results_two rfl _ _ w.heap.size _ _ _ _ rfl (block_setCell (block_setCell (block_setCell HKQ.out _ _) _ _) _ _) Tryz.underlying40 rfl ((info_size infoGroup).trans (by simp))) rfl ?_
              have hbF : Below w.heap.size w wr := (HBX.out.trans HP.out.bel).trans HRP.out.bel
              refine ⟨((hbF.setCell (p := ⟨w.heap.size, 0, none⟩) hle _).setCell (p := ⟨w.heap.size, 1, none⟩) hle _).setCell (p := ⟨w.heap.size, 2, none⟩) hle _, .inr ⟨HOK.out, ps, rs, A1, A2, A3, c1, c2, c3, HP.out.len, ?_, ?_, ?_⟩⟩
              · rw [HRP.out.len]; simp
              · rw [HP.out.len, HRP.out.len]; rfl
              · have hne : ∀ b, w.heap.size + 1 + 1 ≤ b → b ≠ w.heap.size := fun b h => by omega
                have hag : ∀ (v0 v1 v2 : Value), Agree (fun b => w.heap.size + 1 + 1 ≤ b) wr (((wr.setCell ⟨w.heap.size, 0, none⟩ v0).setCell ⟨w.heap.size, 1, none⟩ v1).setCell ⟨w.heap.size, 2, none⟩ v2) := fun v0 v1 v2 => (((Agree.refl _ _).set hne _ _).set hne _ _).set hne _ _
                have hm1 : ∀ b, (w.heap.size + 1 + 1 ≤ b ∧ b < w5.heap.size) → (b < w5.heap.size ∧ b ≠ w.heap.size + 1) := fun b h => by omega
                have hm2 : ∀ b, (w.heap.size + 1 + 1 ≤ b ∧ b < w8.heap.size) → (b < w8.heap.size ∧ b ≠ w.heap.size + 1) := fun b h => by omega
                have hs58 : w5.heap.size ≤ w8.heap.size := HP.out.sz
                have ag1 : Agree (fun b => w.heap.size + 1 + 1 ≤ b ∧ b < w5.heap.size) w5 wr := (HP.out.agr.mono (fun b hb _ => hm1 b hb)).trans (HRP.out.agr.mono (fun b hb _ => hm2 b ⟨hb.1, by have := hb.2; omega⟩))
                have ag2 : Agree (fun b => w.heap.size + 1 + 1 ≤ b ∧ b < w8.heap.size) w8 wr := HRP.out.agr.mono (fun b hb _ => hm2 b hb)
                have hops : OpAt (fun b => w.heap.size + 1 + 1 ≤ b) wr A1 ds := by
                  have h : OpAt (fun b => w.heap.size + 1 + 1 ≤ b ∧ b < w5.heap.size) w5 A1 ds := ⟨os, by rw [HI.out.map, List.take_length], (Rds.of_own HI.out.row).mono (fun b hb hl => by have h : w1.heap.size ≤ b := hb; omega), fun r hr => ⟨HI.out.cap r hr, ((HI.out.docs.own (r.adr, ndCells r.d.doc) (List.mem_map.2 ⟨r, hr, rfl⟩)).1).mono (fun b hb hl => by have h : w1.heap.size ≤ b := hb; omega)⟩⟩
                  exact (h.frame ag1).mono (fun b hb _ => hb.1)
                have hgat : GrAt (fun b => w.heap.size + 1 + 1 ≤ b) wr A1 A2 A3 ds i ps rs :=
                  ⟨hops, (((Rds.of_own HP.out.row).mono (G := fun b => w.heap.size + 1 + 1 ≤ b ∧ b < w8.heap.size) (fun b hb hl => by have h : w5.heap.size ≤ b := hb; omega)).frame ag2).mono (fun b hb _ => hb.1),
                    fun p hp => ⟨(((HP.out.sub p hp (128, p.av, zeros zVo i) (by simp [subP])).2.1.mono (G := fun b => w.heap.size + 1 + 1 ≤ b ∧ b < w8.heap.size) (fun b hb hl => by have h : w5.heap.size ≤ b := hb; omega)).frame ag2).mono (fun b hb _ => hb.1), (((HP.out.sub p hp (131, p.ak, zeros zAs 3) (by simp [subP])).2.1.mono (G := fun b => w.heap.size + 1 + 1 ≤ b ∧ b < w8.heap.size) (fun b hb hl => by have h : w5.heap.size ≤ b := hb; omega)).frame ag2).mono (fun b hb _ => hb.1)⟩,
                    (Rds.of_own HRP.out.row).mono (fun b hb hl => by have h : w8.heap.size ≤ b := hb; omega),
                    fun r hr => (HRP.out.sub r hr (9, r.adr, zeros zTx 12) (by simp [subR])).2.1.mono (fun b hb hl => by have h : w8.heap.size ≤ b := hb; omega)⟩
                have e : ((i : Int)).toNat = i := by simp
                rw [e]
                exact (hgat.frame (hag _ _ _)).mono (fun b hb _ => by have h : w.heap.size + 1 + 1 ≤ b := hb; omega)
end Go.Proofs.YtemcijhpmpdebaaGreatDoor
