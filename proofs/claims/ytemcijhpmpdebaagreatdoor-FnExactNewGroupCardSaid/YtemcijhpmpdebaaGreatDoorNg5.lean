/- The program's NewGroup. -/
import Derived.Test.YtemcijhpmpdebaaGreatDoorNg4
import Derived.Test.YtemcijhpmpdebaaGreatDoorClone
import Derived.Deep.CutRange
namespace Go.Proofs.YtemcijhpmpdebaaGreatDoor
open Go.RowKit
theorem agree_drew2 {F : Nat → Prop} {w w1 : World} (h : Below w.drew.heap.size w.drew w1) : Agree F w w1 := ⟨h.size, fun b _ hb => h.block b hb⟩
theorem alloc3d_0 (w : World) (a b c : Obj) : (((w.alloc a).alloc b).alloc c).drew.heap[w.heap.size]? = some a := alloc3_0 w a b c
theorem alloc3d_1 (w : World) (a b c : Obj) : (((w.alloc a).alloc b).alloc c).drew.heap[w.heap.size + 1]? = some b := alloc3_1 w a b c
theorem alloc3d_2 (w : World) (a b c : Obj) : (((w.alloc a).alloc b).alloc c).drew.heap[w.heap.size + 1 + 1]? = some c := alloc3_2 w a b c
theorem ngr_of {L g n bp br : Nat} {W : World} (hg : W.heap[g]? = some (.cells #[.slice none 0 0, .slice (some ⟨bp, 0, none⟩) 12 12, .slice (some ⟨br, 0, none⟩) n n] 40 (0, 0))) (hp : W.heap[bp]? = some (.cells (zeros zPl 12).toArray 77 (0, 0))) (hr : W.heap[br]? = some (.cells (zeros zRp n).toArray 80 (0, 0))) (h1 : L ≤ g ∧ L ≤ bp ∧ L ≤ br ∧ bp ≠ g ∧ br ≠ g) : ∃ AP AR, NgR L g n AP AR W :=
  ⟨_, _, hg, (own_blk hp).mono (fun b hb _ => by have h : b = bp := hb; omega), (own_blk hr).mono (fun b hb _ => by have h : b = br := hb; omega), h1.1⟩
set_option maxRecDepth 100000 in
set_option maxHeartbeats 16000000 in
theorem newGroup_any (ds : List OpD) (hl : ds.length ≤ 1000000000) (hsz : SzD ds) (z : Int) (F : Nat → Prop) (A : Option Addr) (c : Nat) (w : World) (hr : OpAt F w A ds) (htab : Tabs w.heap.size w) :
    Calls Tryz.prog 15 #[.slice A ds.length c, .int .i64 z] w (NgP ds z w) := by
  have HR := Lib.hid (show OpAt (fun k => k < w.heap.size) w A ds from hr.mono (fun b _ h => h))
  have HSZ := Lib.hid hsz
  have HB1 := Lib.hid (show Below w.heap.size w (w.alloc (.cells #[.slice none 0 0, .slice none 0 0, .slice none 0 0] 40 (0, 0))) from (Below.refl _ _).alloc (Nat.le_refl _) _)
  have HK1 := Lib.hid (heap_alloc_new w (.cells #[.slice none 0 0, .slice none 0 0, .slice none 0 0] 40 (0, 0)))
  have HT := Lib.hid ((htab.below HB1.out).mono HB1.out.size)
  clear hr hsz htab
  go_enter Tryz.func15, Tryz.ntmps15
  go_upto_region 1 with fail
  generalize w.alloc (.cells #[.slice none 0 0, .slice none 0 0, .slice none 0 0] 40 (0, 0)) = w1 at HB1 HK1 HT ⊢
  have hs1 : w.heap.size < w1.heap.size := lt_of_block HK1.out
  have hle : w.heap.size ≤ w.heap.size := Nat.le_refl _
  obtain ⟨x0, x1, x2⟩ := cells3 HK1.out
  have f0 := free_of_block HK1.out 0
  have f1 := free_of_block HK1.out 1
  have f2 := free_of_block HK1.out 2
  cases c0 : decide ((1 : Int) ≤ (ds.length : Int)) && decide ((ds.length : Int) ≤ 9)
  · have C0 := Lib.hid c0
    go_wp2_with (go_at_call 35; refine (within_any _ _ _ _).mono ?_; rintro e w' ⟨rfl, rfl⟩)
    refine bodyPost_ret (results_two rfl _ _ w.heap.size _ _ _ _ rfl (block_setCell (block_setCell (block_setCell HK1.out _ _) _ _) _ _) Tryz.underlying40 rfl ((info_size infoGroup).trans (by simp))) rfl ?_
    refine ⟨((HB1.out.setCell (p := ⟨w.heap.size, 0, none⟩) hle _).setCell (p := ⟨w.heap.size, 1, none⟩) hle _).setCell (p := ⟨w.heap.size, 2, none⟩) hle _, .inl ⟨fun h => ?_, rfl⟩⟩
    have h1 := h.1
    have h2 := C0.out
    simp only [Bool.and_eq_false_iff, decide_eq_false_iff_not] at h2
    omega
  have C0 : Hid (1 ≤ ds.length ∧ ds.length ≤ 9) := Lib.hid (by simp only [Bool.and_eq_true, decide_eq_true_eq] at c0; omega)
  cases c1 : decide ((1 : Int) ≤ z) && decide (z ≤ 5)
  · have C1 := Lib.hid c1
    go_wp2_with (go_at_call 35; refine (within_any _ _ _ _).mono ?_; rintro e w' ⟨rfl, rfl⟩)
    refine bodyPost_ret (results_two rfl _ _ w.heap.size _ _ _ _ rfl (block_setCell (block_setCell (block_setCell HK1.out _ _) _ _) _ _) Tryz.underlying40 rfl ((info_size infoGroup).trans (by simp))) rfl ?_
    refine ⟨((HB1.out.setCell (p := ⟨w.heap.size, 0, none⟩) hle _).setCell (p := ⟨w.heap.size, 1, none⟩) hle _).setCell (p := ⟨w.heap.size, 2, none⟩) hle _, .inl ⟨fun h => ?_, rfl⟩⟩
    have h1 := h.2.1
    have h2 := C1.out
    simp only [Bool.and_eq_false_iff, decide_eq_false_iff_not] at h2
    omega
  have C1 : Hid (1 ≤ z ∧ z ≤ 5) := Lib.hid (by simpa using c1)
  have HCB := Lib.hid (containsBad_any ds hl HSZ.out _ A c w1 (HR.out.frame (Agree.of_below HB1.out)) HT.out)
  go_wp2_with (go_at_call 35; refine (within_any _ _ _ _).mono ?_; rintro e w' ⟨rfl, rfl⟩)
  refine HCB.out.mono ?_
  rintro e w3 ⟨gb, rfl, hb3, hgb⟩
  have HGB := Lib.hid hgb
  have HB3 := Lib.hid (below_then HB1.out HB1.out.size hb3)
  have HK3 := Lib.hid (block_below HK1.out hb3)
  have hs3 : w.heap.size < w3.heap.size := by have := hb3.size; omega
  clear hb3 hgb x0 x1 x2 f0 f1 f2 HCB HT HB1 HK1 hs1
  cases gb
  case true =>
    obtain ⟨x0, x1, x2⟩ := cells3 HK3.out
    have f0 := free_of_block HK3.out 0
    have f1 := free_of_block HK3.out 1
    have f2 := free_of_block HK3.out 2
    go_wp2
    refine bodyPost_ret (results_two rfl _ _ w.heap.size _ _ _ _ rfl (block_setCell (block_setCell (block_setCell HK3.out _ _) _ _) _ _) Tryz.underlying40 rfl ((info_size infoGroup).trans (by simp))) rfl ?_
    refine ⟨((HB3.out.setCell (p := ⟨w.heap.size, 0, none⟩) hle _).setCell (p := ⟨w.heap.size, 1, none⟩) hle _).setCell (p := ⟨w.heap.size, 2, none⟩) hle _, .inl ⟨fun h => ?_, rfl⟩⟩
    have h2 := HGB.out
    simp at h2
    obtain ⟨d, hd, h3⟩ := h2
    exact h3 (h.2.2 d hd)
  have HFN : Hid (∀ d ∈ ds, fineD d) := Lib.hid (by have h := HGB.out; simpa using h)
  have HOK := Lib.hid (show OkG ds z from ⟨C0.out, C1.out, HFN.out⟩)
  obtain ⟨n, rfl⟩ : ∃ n : Nat, z = n := ⟨z.toNat, by have := C1.out; omega⟩
  have hn5 : 1 ≤ n ∧ n ≤ 5 := by have := C1.out; omega
  have hd9 : ds.length ≤ 9 := C0.out.2
  clear c0 c1 HGB
  have hm1 := make_rowN (P := Tryz.prog) 37 77 _ 4 96 Tryz.underlying37 infoPlace 12 (by omega) (by omega)
  have hz1 : madeCells (Value.cells (.agg #[.slice none 0 0, .slice none 0 0, .slice none 0 0, .slice none 0 0])) (12 * 4) = (zeros zPl 12).toArray := made_zeros zPl 12
  rw [hz1, show ((12 : Nat) : Int) = 12 from rfl] at hm1
  have hm2 := make_rowN (P := Tryz.prog) 38 80 _ 7 136 Tryz.underlying38 infoReplica n (by omega) (by omega)
  have hz2 : madeCells (Value.cells (.agg #[.slice none 0 0, .int .i64 0, .slice none 0 0, .slice none 0 0, .int .i64 0, .slice none 0 0, .slice none 0 0])) (n * 7) = (zeros zRp n).toArray := made_zeros zRp n
  rw [hz2] at hm2
  clear hz1 hz2
  go_upto_region 3 with fail
  go_cut [6] from 25 to 28 (fun v wx => ∃ g, v = .pointer (some ⟨g, 0, none⟩) ∧ Below w3.heap.size w3 wx ∧ ∃ AP AR, NgR w3.heap.size g n AP AR wx)
  case first =>
    go_region
    all_goals
      go_wp2_with fail
      go_meet
      refine ⟨_, rfl, (bl_three _ _ _ _).drew, ngr_of (by first | exact alloc3d_0 _ _ _ _ | exact alloc3d_1 _ _ _ _ | exact alloc3d_2 _ _ _ _) (by first | exact alloc3d_0 _ _ _ _ | exact alloc3d_1 _ _ _ _ | exact alloc3d_2 _ _ _ _) (by first | exact alloc3d_0 _ _ _ _ | exact alloc3d_1 _ _ _ _ | exact alloc3d_2 _ _ _ _) (by omega)⟩
  case rest =>
    obtain ⟨g, rfl, hbc, AP, AR, hng⟩ := hcut
    have HNG := Lib.hid hng
    have HBC := Lib.hid (below_then HB3.out HB3.out.size hbc)
    have HKC := Lib.hid (block_below HK3.out hbc)
    have hgc : g < wc.heap.size := lt_of_block hng.grp
    have hgl : w3.heap.size ≤ g := hng.lo
    have hsc : w3.heap.size ≤ wc.heap.size := hbc.size
    clear hng hbc HK3 HB3 hm1 hm2
    have HI0 := Lib.hid (show OpI w.heap.size wc.heap.size g (.slice AP 12 12) (.slice AR n n) ds 0 [] none 0 wc wc from
      ⟨by simp, fun r hr => (by cases hr), HNG.out.grp, World.ownsRow_nil _ _ _ _, Fam.zero _ _ _, Agree.refl _ _, Below.refl _ _, hgc, Nat.le_refl _, by omega⟩)
    go_wp2_with fail
    go_loopw [31] (fun iv wx => ∃ (i : Nat) (os : List OpR) (A1 : Option Addr) (c1 : Nat), iv = .int .i64 (i : Int) ∧ i ≤ ds.length ∧ Hid (OpI w.heap.size wc.heap.size g (.slice AP 12 12) (.slice AR n n) ds i os A1 c1 wc wx)) (fun iv _ => ds.length - (intOf iv).toNat)
    case atStart => exact ⟨0, [], none, 0, rfl, Nat.zero_le _, HI0⟩
    case round =>
      obtain ⟨i, os, A1, c1, rfl, hi, HI⟩ := hrel
      have HBX := Lib.hid (HBC.out.trans HI.out.bel)
      have hsx : wc.heap.size ≤ wr.heap.size := HI.out.sz
      clear HI0
      by_cases hlt : i < ds.length
      · obtain ⟨b, o, r, rfl, hF, hbl, hx, g0, g1, g2, g3, g4, hcp, hrr⟩ := op_at (HR.out.frame (Agree.of_below HBX.out)) i hlt
        have hmem : r.d ∈ ds := List.mem_of_getElem? hx
        have HX := Lib.hid hx
        have hb5 : Below wr.heap.size wr (wr.alloc (.cells #[.int .i64 r.d.o.kind, .int .i64 r.d.o.id, .slice r.adr r.d.doc.length r.cap, .int .i64 r.d.o.session, .int .i64 r.d.o.no] 57 (0, 0))) := (Below.refl _ _).alloc (Nat.le_refl _) _
        have HCL := Lib.hid (cloneVal_any r.d.doc (HSZ.out r.d hmem).1 _ r.adr r.cap (wr.alloc (.cells #[.int .i64 r.d.o.kind, .int .i64 r.d.o.id, .slice r.adr r.d.doc.length r.cap, .int .i64 r.d.o.session, .int .i64 r.d.o.no] 57 (0, 0))) (hrr.frame (Agree.of_below hb5)))
        have HOP := Lib.hid (heap_alloc_new wr (.cells #[.int .i64 r.d.o.kind, .int .i64 r.d.o.id, .slice r.adr r.d.doc.length r.cap, .int .i64 r.d.o.session, .int .i64 r.d.o.no] 57 (0, 0)))
        have HB5 := Lib.hid hb5
        have sz5 : (wr.alloc (.cells #[.int .i64 r.d.o.kind, .int .i64 r.d.o.id, .slice r.adr r.d.doc.length r.cap, .int .i64 r.d.o.session, .int .i64 r.d.o.no] 57 (0, 0))).heap.size = wr.heap.size + 1 := by simp
        have HSZ5 := Lib.hid sz5
        clear hx hrr hb5 sz5
        go_wp2_with fail
        refine HCL.out.mono ?_
        rintro e w5 ⟨v, rfl, hb6, A5, c5, rfl, hc5, hr5, ho5⟩
        have k5 := block_below HOP.out hb6
        have HK5 := Lib.hid k5
        have hb56 : Below wr.heap.size wr w5 := below_then HB5.out HB5.out.size hb6
        have HB56 := Lib.hid hb56
        have hs56 : wr.heap.size < w5.heap.size := lt_of_block k5
        obtain ⟨z2, e2⟩ : w5.cell? ⟨wr.heap.size, 2, none⟩ = some (.slice r.adr r.d.doc.length r.cap) ∧ w5.frozen? ⟨wr.heap.size, 2, none⟩ = false := ⟨cell_of_block k5 2, free_of_block k5 2⟩
        have HN5 := Lib.hid (show Own (fun b => wr.heap.size + 1 ≤ b) w5 100 A5 (ndCells r.d.doc) from (Own.of_own ho5).mono (fun b hb _ => by have h : (wr.alloc (.cells #[.int .i64 r.d.o.kind, .int .i64 r.d.o.id, .slice r.adr r.d.doc.length r.cap, .int .i64 r.d.o.session, .int .i64 r.d.o.no] 57 (0, 0))).heap.size ≤ b := hb; have := HSZ5.out; omega))
        clear hb6 hr5 ho5 k5 hb56 HCL HOP HB5 HSZ5 g0 g1 g2 g3 g4
        go_upto_region 8 with fail
        have hk6 := block_setCell HK5.out 2 (.slice A5 r.d.doc.length c5)
        have hb6 := HB56.out.setCell (p := ⟨wr.heap.size, 2, none⟩) (Nat.le_refl _) (.slice A5 r.d.doc.length c5)
        have hn6 := HN5.out.frame (Agree.of_setCell (F := fun b => wr.heap.size + 1 ≤ b) w5 ⟨wr.heap.size, 2, none⟩ (.slice A5 r.d.doc.length c5) (fun b hb e => by have h1 : wr.heap.size + 1 ≤ b := hb; have h2 : b = wr.heap.size := e; omega))
        generalize w5.setCell ⟨wr.heap.size, 2, none⟩ (.slice A5 r.d.doc.length c5) = w6 at hk6 hb6 hn6 ⊢
        have hi6 := HI.out.below hb6
        have HI6 := Lib.hid hi6
        have hs6 : wr.heap.size < w6.heap.size := lt_of_block hk6
        have HB6 := Lib.hid hb6
        have HN6 := Lib.hid hn6
        have z0 := cell_of_block hk6 0
        have z1 := cell_of_block hk6 1
        have z2 := cell_of_block hk6 2
        have z3 := cell_of_block hk6 3
        have z4 := cell_of_block hk6 4
        simp at z0 z1 z2 z3 z4
        obtain ⟨y0, y1, y2⟩ := cells3 hi6.grp
        have HV := Lib.hid (heap_alloc_new w6 (.cells #[.int .i64 r.d.o.kind, .int .i64 r.d.o.id, .slice A5 r.d.doc.length c5, .int .i64 r.d.o.session, .int .i64 r.d.o.no] 57 (0, 0)))
        have hbA : Below w6.heap.size w6 (w6.alloc (.cells #[.int .i64 r.d.o.kind, .int .i64 r.d.o.id, .slice A5 r.d.doc.length c5, .int .i64 r.d.o.session, .int .i64 r.d.o.no] 57 (0, 0))) := (Below.refl _ _).alloc (Nat.le_refl _) _
        have HBA := Lib.hid hbA
        have HGR := Lib.hid (fun (W : World) (hg : (w6.alloc (.cells #[.int .i64 r.d.o.kind, .int .i64 r.d.o.id, .slice A5 r.d.doc.length c5, .int .i64 r.d.o.session, .int .i64 r.d.o.no] 57 (0, 0))).grownBy W (Value.slice A1 i c1).ownBlock) => show W.heap[g]? = some (.cells #[.slice A1 i c1, .slice AP 12 12, .slice AR n n] 40 (0, 0)) from
          (hg.block g (by have := HBA.out.size; omega) (fun e => by have := (own_base HI6.out.row g e.symm).1; omega)).trans (block_below HI6.out.grp HBA.out))
        clear hk6 hb6 hn6 hi6 HK5 HB56 HN5 hbA hs56
        go_wp2_with (at_builtin; refine append_rows wc.heap.size rfl (.tmp 40) (.tmp 42) 30 57 _ 5 56 rfl Tryz.underlying30 infoOp rfl (by decide) (.slice A1 i c1) i (opCells os) rfl (HI6.out.row.alloc _) (some ⟨w6.heap.size, 0, none⟩) 1 1 [.int .i64 r.d.o.kind, .int .i64 r.d.o.id, .slice A5 r.d.doc.length c5, .int .i64 r.d.o.session, .int .i64 r.d.o.no] rfl rfl (rds_blk HV.out) (by intro v hv; simp at hv; rcases hv with rfl | rfl | rfl | rfl | rfl <;> rfl) (by simp only [maxLen]; omega) (by omega) (by simp; omega) ?_; intro A7 c7 w7 hc7 ho7 hg7 hat7; have hgr := HGR.out w7 hg7; obtain ⟨x0, x1, x2⟩ := cells3 hgr; have f0 := free_of_block hgr 0; have HG7 := Lib.hid hg7; have HO7 := Lib.hid ho7; clear hc7 ho7 hg7 hat7 hgr)
        go_roundw
        case rel => exact ⟨i + 1, os ++ [⟨r.d, A5, c5⟩], A7, c7, by go_num, by omega, Lib.hid (HI.out.step (below_then HB6.out HB6.out.size HBA.out) ((HN6.out.frame (Agree.of_below HBA.out)).mono (fun b hb _ => by have h : wr.heap.size + 1 ≤ b := hb; omega)) HX.out hc5 HG7.out HO7.out)⟩
        case measure => simp [intOf]; omega
      · obtain rfl : i = ds.length := by omega
        have hp1 : Own (fun b => w.heap.size + 1 ≤ b) wr 77 AP (zeros zPl 12) := ((HNG.out.pls.mono (F := fun b => w3.heap.size ≤ b ∧ b ≠ g) (G := fun b => (b < wc.heap.size ∧ b ≠ g) ∧ w.heap.size + 1 ≤ b) (fun b hb hl => ⟨⟨hl, hb.2⟩, by have := hb.1; omega⟩)).frame (HI.out.agr.mono (fun b hb _ => hb.1))).mono (fun b hb _ => hb.2)
        have hq1 : Own (fun b => w.heap.size + 1 ≤ b) wr 80 AR (zeros zRp n) := ((HNG.out.rps.mono (F := fun b => w3.heap.size ≤ b ∧ b ≠ g) (G := fun b => (b < wc.heap.size ∧ b ≠ g) ∧ w.heap.size + 1 ≤ b) (fun b hb hl => ⟨⟨hl, hb.2⟩, by have := hb.1; omega⟩)).frame (HI.out.agr.mono (fun b hb _ => hb.1))).mono (fun b hb _ => hb.2)
        have hk1 : wr.heap[w.heap.size]? = some (.cells #[.slice none 0 0, .slice none 0 0, .slice none 0 0] 40 (0, 0)) := (HI.out.agr.block w.heap.size ⟨by omega, by omega⟩ (by omega)).trans HKC.out
        obtain ⟨w5, hw5⟩ : ∃ w5, w5 = wr := ⟨_, rfl⟩
        subst hw5
        have HQ1 := Lib.hid hq1
        have HKR := Lib.hid hk1
        have hg5 : g < w5.heap.size := by omega
        have hl5 : w.heap.size < w5.heap.size := by omega
        have HP0 := Lib.hid (show PlI (w.heap.size + 1) w5.heap.size n AP 0 [] w5 w5 from ⟨rfl, by simpa using hp1, Fam.zero _ _ _, Fam.zero _ _ _, Wrote.refl _ _ _, Nat.le_refl _⟩)
        obtain ⟨y0, y1, y2⟩ := cells3 HI.out.grp
        clear hp1 hq1 hk1 HNG HKC
        go_wp2_with fail
        go_loopw [49] (fun iv wx => ∃ (i : Nat) (ps : List PlR), iv = .int .i64 (i : Int) ∧ i ≤ 12 ∧ Hid (PlI (w.heap.size + 1) w5.heap.size n AP i ps w5 wx)) (fun iv _ => 12 - (intOf iv).toNat)
        case atStart => exact ⟨0, [], rfl, Nat.zero_le _, HP0⟩
        case round =>
          obtain ⟨i, ps, rfl, hi, HP⟩ := hrel
          have hgr := HP.out.wr.other HI.out.grp (by decide)
          have HGR := Lib.hid hgr
          have hsz := HP.out.sz
          clear HP0 y0 y1 y2
          by_cases hlt : i < 12
          · have hP : (ps.flatMap (plCells n)).length = i * 4 := by rw [plCells_length, HP.out.len]
            have ho := HP.out.top
            rw [show 12 - i = (12 - i - 1) + 1 by omega, zeros_succ] at ho
            obtain ⟨gp, op, rfl, _⟩ := own_ptr ho (by simp [zPl])
            generalize hPe : ps.flatMap (plCells n) = P at ho hP
            generalize hRe : zeros zPl (12 - i - 1) = R at ho
            have HPE := Lib.hid hPe
            have HRE := Lib.hid hRe
            have HPL := Lib.hid hP
            have HO := Lib.hid ho
            obtain ⟨y0, y1, y2⟩ := cells3 hgr
            obtain ⟨q0, e0⟩ := own_cell ho hP 0 (.slice none 0 0) rfl (op + i * 4) (by omega)
            obtain ⟨q1, e1⟩ := own_cell ho hP 1 (.slice none 0 0) rfl (op + i * 4 + 1) (by omega)
            obtain ⟨q2, e2⟩ := own_cell ho hP 2 (.slice none 0 0) rfl (op + i * 4 + 2) (by omega)
            obtain ⟨q3, e3⟩ := own_cell ho hP 3 (.slice none 0 0) rfl (op + i * 4 + 3) (by omega)
            clear ho hP hPe hRe hgr
            go_upto_region 13 with fail
            go_region_with (go_at_call 40; refine (newPaxos_any n hn5 _).mono ?_; rintro e w6 ⟨p, rfl, hb6, hv6, ha6⟩; have ha := agree_drew2 (F := fun _ => True) hb6; obtain ⟨y0', y1', y2'⟩ := cells3 (block_agree HGR.out ha trivial); have ho6 := HO.out.frame (agree_drew2 hb6); obtain ⟨q0', e0'⟩ := own_cell ho6 HPL.out 0 (.slice none 0 0) rfl (op + i * 4) (by omega); obtain ⟨q1', e1'⟩ := own_cell ho6 HPL.out 1 (.slice none 0 0) rfl (op + i * 4 + 1) (by omega); obtain ⟨q2', e2'⟩ := own_cell ho6 HPL.out 2 (.slice none 0 0) rfl (op + i * 4 + 2) (by omega); obtain ⟨q3', e3'⟩ := own_cell ho6 HPL.out 3 (.slice none 0 0) rfl (op + i * 4 + 3) (by omega))
            all_goals
              have hb6' : Below wr.heap.size wr w6 := below_then (Below.refl _ _).drew (Nat.le_refl _) hb6
              have HP6 := Lib.hid (HP.out.step hlt (by omega) hb6' (hv6.mono (fun b hb _ => hb)) (ha6.mono (fun b hb _ => hb)))
              clear hb6 hb6' hv6 ha6 ha ho6 y0 y1 y2 q0 e0 q1 e1 q2 e2 q3 e3 y0' y1' y2' q0' e0' q1' e1' q2' e2' q3' e3'
              generalize (((w6.setCell ⟨gp, op + i * 4, none⟩ (.slice p.av n p.cv)).setCell ⟨gp, op + i * 4 + 1, none⟩ (.slice p.ak 3 p.ck)).setCell ⟨gp, op + i * 4 + 2, none⟩ (.slice none 0 0)).setCell ⟨gp, op + i * 4 + 3, none⟩ (.slice none 0 0) = w7 at HP6 ⊢
              go_wp2
              go_roundw
              case rel => exact ⟨i + 1, ps ++ [p], by go_num, by omega, HP6⟩
              case measure => simp [intOf]; omega
          · obtain rfl : i = 12 := by omega
            have hq2 := own_other HQ1.out HP.out.wr (by decide)
            have hkr2 := HP.out.wr.other HKR.out (by decide)
            obtain ⟨w8, hw8⟩ : ∃ w8, w8 = wr := ⟨_, rfl⟩
            subst hw8
            have HKR8 := Lib.hid hkr2
            have HR0 := Lib.hid (show RpI (w.heap.size + 1) w8.heap.size n AR 0 [] w8 w8 from ⟨rfl, by simpa using hq2, Fam.zero _ _ _, Wrote.refl _ _ _, Nat.le_refl _⟩)
            obtain ⟨y0, y1, y2⟩ := cells3 hgr
            clear hq2 hkr2 hgr HKR HQ1
            have hm3 := make_rowN (P := Tryz.prog) 78 9 _ 1 16 Tryz.underlying78 infoText 12 (by omega) (by omega)
            have hz3 : madeCells (Value.cells (.string ⟨#[]⟩)) (12 * 1) = (zeros zTx 12).toArray := made_zeros zTx 12
            rw [hz3, show ((12 : Nat) : Int) = 12 from rfl] at hm3
            clear hz3
            go_wp2_with fail
            go_loopw [66] (fun iv wx => ∃ (i : Nat) (rs : List RpR), iv = .int .i64 (i : Int) ∧ i ≤ n ∧ Hid (RpI (w.heap.size + 1) w8.heap.size n AR i rs w8 wx)) (fun iv _ => n - (intOf iv).toNat)
            case atStart => exact ⟨0, [], rfl, Nat.zero_le _, HR0⟩
            case round =>
              obtain ⟨i, rs, rfl, hi, HRI⟩ := hrel
              have hgr := HRI.out.wr.other HGR.out (by decide)
              have hsz := HRI.out.sz
              clear HR0 y0 y1 y2
              obtain ⟨y0, y1, y2⟩ := cells3 hgr
              by_cases hlt : i < n
              · have hP : (rs.flatMap rpCells).length = i * 7 := by rw [rpCells_length, HRI.out.len]
                have ho := HRI.out.top
                rw [show n - i = (n - i - 1) + 1 by omega, zeros_succ] at ho
                obtain ⟨gq, oq, rfl, _⟩ := own_ptr ho (by simp [zRp])
                obtain ⟨q0, e0⟩ := own_cell ho hP 0 (.slice none 0 0) rfl (oq + i * 7) (by omega)
                have hgq : gq < wr.heap.size := by
                  obtain ⟨b, o, e, _, hl, _⟩ := ho.1 (by simp [zRp])
                  injection e with e
                  injection e with e1 e2
                  omega
                have hgg : g < wr.heap.size := lt_of_block hgr
                clear ho hP hgr
                go_upto_region 18 with fail
                go_region
                all_goals
                  have hbW : Below wr.heap.size (wr.setCell ⟨gq, oq + i * 7, none⟩ (.slice (some ⟨wr.heap.size, 0, none⟩) 12 12)) ((wr.setCell ⟨gq, oq + i * 7, none⟩ (.slice (some ⟨wr.heap.size, 0, none⟩) 12 12)).alloc (.cells (zeros zTx 12).toArray 9 (0, 0))).drew := ((Below.refl _ _).alloc (by simp) _).drew
                  have hvW : Own (fun b => wr.heap.size ≤ b) ((wr.setCell ⟨gq, oq + i * 7, none⟩ (.slice (some ⟨wr.heap.size, 0, none⟩) 12 12)).alloc (.cells (zeros zTx 12).toArray 9 (0, 0))).drew 9 (some ⟨wr.heap.size, 0, none⟩) (zeros zTx 12) := by
                    have e : (wr.setCell ⟨gq, oq + i * 7, none⟩ (.slice (some ⟨wr.heap.size, 0, none⟩) 12 12)).heap.size = wr.heap.size := by simp
                    have h := heap_alloc_new (wr.setCell ⟨gq, oq + i * 7, none⟩ (.slice (some ⟨wr.heap.size, 0, none⟩) 12 12)) (.cells (zeros zTx 12).toArray 9 (0, 0))
                    rw [e] at h
                    exact (own_blk (w := ((wr.setCell ⟨gq, oq + i * 7, none⟩ (.slice (some ⟨wr.heap.size, 0, none⟩) 12 12)).alloc (.cells (zeros zTx 12).toArray 9 (0, 0))).drew) h).mono (fun b hb _ => by have h : b = wr.heap.size := hb; omega)
                  have HR2 := Lib.hid (HRI.out.step (r := ⟨some ⟨wr.heap.size, 0, none⟩, 12⟩) hlt hbW hvW)
                  clear hbW hvW y0 y1 y2 q0 e0
                  generalize ((wr.setCell ⟨gq, oq + i * 7, none⟩ (.slice (some ⟨wr.heap.size, 0, none⟩) 12 12)).alloc (.cells (zeros zTx 12).toArray 9 (0, 0))).drew = w9 at HR2 ⊢
                  go_wp2
                  go_roundw
                  case rel => exact ⟨i + 1, rs ++ [⟨some ⟨wr.heap.size, 0, none⟩, 12⟩], by go_num, by omega, HR2⟩
                  case measure => simp [intOf]; omega
              · obtain rfl : i = n := by omega
                have hkf := HRI.out.wr.other HKR8.out (by decide)
                have HKF := Lib.hid hkf
                have f0 := free_of_block hkf 0
                have f1 := free_of_block hkf 1
                have f2 := free_of_block hkf 2
                obtain ⟨x0, x1, x2⟩ := cells3 hkf
                clear hgr hkf hm3
                go_wp2
                refine bodyPost_ret (results_two rfl _ _ w.heap.size _ _ _ _ rfl (block_setCell (block_setCell (block_setCell HKF.out _ _) _ _) _ _) Tryz.underlying40 rfl ((info_size infoGroup).trans (by simp))) rfl ?_
                have hosl : os.length = ds.length := by rw [← List.length_map (f := OpR.d), HI.out.map, List.take_length]
                have hbF : Below w.heap.size w wr := ((HBX.out.trans (HP.out.wr.bel w.heap.size (by omega) (fun b hb => by omega))).trans (HRI.out.wr.bel w.heap.size (by omega) (fun b hb => by omega)))
                have hne : ∀ b, w.heap.size + 1 ≤ b → b ≠ w.heap.size := fun b h => by omega
                have hag : ∀ (v0 v1 v2 : Value), Agree (fun b => w.heap.size + 1 ≤ b) wr (((wr.setCell ⟨w.heap.size, 0, none⟩ v0).setCell ⟨w.heap.size, 1, none⟩ v1).setCell ⟨w.heap.size, 2, none⟩ v2) := fun v0 v1 v2 => (((Agree.refl _ _).set hne _ _).set hne _ _).set hne _ _
                refine ⟨((hbF.setCell (p := ⟨w.heap.size, 0, none⟩) hle _).setCell (p := ⟨w.heap.size, 1, none⟩) hle _).setCell (p := ⟨w.heap.size, 2, none⟩) hle _, .inr ⟨HOK.out, os, ps, rs, A1, AP, AR, c1, 12, i, ?_, HI.out.cap, HP.out.len, ?_, ?_, ?_⟩⟩
                · rw [HI.out.map, List.take_length]
                · rw [HRI.out.len]; simp
                · rw [hosl, HP.out.len, HRI.out.len]; rfl
                · have ht := HP.out.top
                  have hu := HRI.out.top
                  rw [Nat.sub_self] at ht hu
                  have ht' : Own (fun b => w.heap.size + 1 ≤ b) w8 77 AP (ps.flatMap (plCells i)) := by simpa [zeros] using ht
                  have hu' : Own (fun b => w.heap.size + 1 ≤ b) wr 80 AR (rs.flatMap rpCells) := by simpa [zeros] using hu
                  have hgf : GrF (fun b => w.heap.size + 1 ≤ b) wr A1 AP AR os i ps rs :=
                    ⟨⟨(own_other (own_other (Own.of_own HI.out.row) HP.out.wr (by decide)) HRI.out.wr (by decide)).mono (fun b hb _ => by have h : wc.heap.size ≤ b := hb; omega), ((HI.out.docs.other HP.out.wr (by decide)).other HRI.out.wr (by decide)).mono (fun b hb _ => by have h : wc.heap.size ≤ b := hb; omega)⟩,
                      ⟨own_other ht' HRI.out.wr (by decide), (HP.out.vs.other HRI.out.wr (by decide)).mono (fun b hb _ => by have h : w5.heap.size ≤ b := hb; omega), (HP.out.ks.other HRI.out.wr (by decide)).mono (fun b hb _ => by have h : w5.heap.size ≤ b := hb; omega)⟩,
                      ⟨hu', HRI.out.ks.mono (fun b hb _ => by have h : w8.heap.size ≤ b := hb; omega)⟩⟩
                  exact (hgf.frame (hag _ _ _)).mono (fun b hb _ => by have h : w.heap.size + 1 ≤ b := hb; omega)
end Go.Proofs.YtemcijhpmpdebaaGreatDoor
