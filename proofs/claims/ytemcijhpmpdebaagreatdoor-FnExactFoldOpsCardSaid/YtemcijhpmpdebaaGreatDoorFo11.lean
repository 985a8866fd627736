/- The reference's ReplayOps and FoldOps at the empty base. -/
import Derived.Test.YtemcijhpmpdebaaGreatDoorFo10
namespace Go.Proofs.YtemcijhpmpdebaaGreatDoor
open Go.RowKit
/-- What the reference's FoldOps leaves. -/
def SFoldP (ds : List OpD) (w : World) (e : Ending) (w' : World) : Prop :=
  ∃ (r : Bool) (q : BsV) (rs : List StR) (A1 : Option Addr) (c1 : Nat) (A2 : Option Addr) (c2 : Nat), e = .returned (.tuple #[.agg #[.int .i64 q.applied, .slice A1 rs.length c1, .slice A2 q.sess.length c2], .bool r]) ∧ Below w.heap.size w w' ∧ FoldRes ds r q ∧ SBs (fun k => w.heap.size ≤ k) w' A1 c1 A2 c2 rs q
theorem sFoldP_no {ds : List OpD} {w w' : World} (h : ¬ (ds.length ≤ 60 ∧ ∀ d ∈ ds, goodD d)) (hb : Below w.heap.size w w') : SFoldP ds w (.returned (.tuple #[.agg #[.int .i64 0, .slice none 0 0, .slice none 0 0], .bool false])) w' :=
  ⟨false, ⟨0, [], []⟩, [], none, 0, none, 0, rfl, hb, .no h, sbs_zero _ _⟩
set_option maxRecDepth 100000 in
set_option maxHeartbeats 16000000 in
theorem sReplay_any (ds : List OpD) (hl : ds.length ≤ 1000000000) (hsz : ∀ d ∈ ds, d.doc.length ≤ 1000000000 ∧ ∀ x ∈ d.doc, x.text.size ≤ 9223372036854775807 ∧ x.name.size ≤ 9223372036854775807) (F : Nat → Prop) (A : Option Addr) (c : Nat) (w : World) (hr : OpAt F w A ds) :
    Calls Tryz.prog 20 #[.agg #[.int .i64 0, .slice none 0 0, .slice none 0 0], .int .i64 0, .slice A ds.length c] w (SFoldP ds w) := by
  have HR := Lib.hid (show OpAt (fun k => k < w.heap.size) w A ds from hr.mono (fun b _ h => h))
  have HSZ := Lib.hid hsz
  obtain ⟨w1, hw1⟩ : ∃ w1, w1 = (w.alloc (.cells #[.int .i64 0, .slice none 0 0, .slice none 0 0] 27 (0, 0))).alloc (.cells #[.int .i64 0, .slice none 0 0, .slice none 0 0] 27 (0, 0)) := ⟨_, rfl⟩
  have HB1 := Lib.hid (show Below w.heap.size w w1 from by rw [hw1]; exact bl_alloc (bl_alloc (Below.refl _ _)))
  have hs1 : w1.heap.size = w.heap.size + 1 + 1 := by rw [hw1]; simp
  have HK0 := Lib.hid (show w1.heap[w.heap.size]? = some (.cells #[.int .i64 0, .slice none 0 0, .slice none 0 0] 27 (0, 0)) from by rw [hw1]; (repeat (first | with_reducible assumption | (with_reducible refine blk_new _ ?_; (first | rfl | (simp; done) | (simp; omega))) | with_reducible apply block_setCell | (with_reducible refine blk_skip _ _ ?_ ?_; rotate_left; (first | (simp; done) | (simp; omega))) | with_reducible refine blk_old ?_)))
  have HK1 := Lib.hid (show w1.heap[w.heap.size + 1]? = some (.cells #[.int .i64 0, .slice none 0 0, .slice none 0 0] 27 (0, 0)) from by rw [hw1]; (repeat (first | with_reducible assumption | (with_reducible refine blk_new _ ?_; (first | rfl | (simp; done) | (simp; omega))) | with_reducible apply block_setCell | (with_reducible refine blk_skip _ _ ?_ ?_; rotate_left; (first | (simp; done) | (simp; omega))) | with_reducible refine blk_old ?_)))
  have HW1 := Lib.hid hw1.symm
  have hsp : w.heap.size ≤ w.heap.size + 1 := by omega
  clear hr hsz hw1
  go_enter Tryz.func20, Tryz.ntmps20
  go_upto_block 0 with fail
  rw [HW1.out]
  clear HW1
  obtain ⟨x0, x1, x2⟩ := cells3 HK0.out
  have HGB := Lib.hid (sGoodBase0 w1)
  by_cases h60 : ds.length ≤ 60
  · have d60 : decide (60 < (ds.length : Int)) = false := by simp; omega
    go_wp2_with fail
    refine HGB.out.mono ?_
    rintro e w2 ⟨rfl, hb2⟩
    have HB2 := Lib.hid (below_then HB1.out HB1.out.size hb2)
    have HC0 := Lib.hid (block_below HK0.out hb2)
    have HC1 := Lib.hid (block_below HK1.out hb2)
    have hs2 := hb2.size
    have HOW := Lib.hid (sOwn0 w2)
    clear hb2 x0 x1 x2 HK0 HK1 HGB HB1
    obtain ⟨x0, x1, x2⟩ := cells3 HC0.out
    go_wp2_with fail
    refine HOW.out.mono ?_
    rintro e w3 ⟨rs0, A0, c0, A20, c20, rfl, hb3, hsb3⟩
    have HB3 := Lib.hid (below_then HB2.out HB2.out.size hb3)
    have HD0 := Lib.hid (block_below HC0.out hb3)
    have HD1 := Lib.hid (block_below HC1.out hb3)
    have hs3 := hb3.size
    have HSB := Lib.hid (show SBs (fun k => w.heap.size + 1 + 1 ≤ k) w3 A0 c0 A20 c20 rs0 ⟨0, [], []⟩ from hsb3.mono (fun k hk _ => by rcases hk with h | h <;> (have h' : w2.heap.size ≤ k := h; omega)))
    have f0 := free_of_block HD0.out 0
    have f1 := free_of_block HD0.out 1
    have f2 := free_of_block HD0.out 2
    clear hb3 hsb3 x0 x1 x2 HC0 HC1 HOW HB2
    obtain ⟨x0, x1, x2⟩ := cells3 HD0.out
    go_upto_region 4 with fail
    have n0 : ∀ j, w.heap.size + 1 + 1 ≤ j → j ≠ w.heap.size := fun j h => by omega
    have HB4 := Lib.hid (((HB3.out.setCell (p := ⟨w.heap.size, 0, none⟩) (Nat.le_refl _) (.int .i64 0)).setCell (p := ⟨w.heap.size, 1, none⟩) (Nat.le_refl _) (.slice A0 rs0.length c0)).setCell (p := ⟨w.heap.size, 2, none⟩) (Nat.le_refl _) (.slice A20 0 c20))
    have HE0 := Lib.hid (block_setCell (block_setCell (block_setCell HD0.out 0 (.int .i64 0)) 1 (.slice A0 rs0.length c0)) 2 (.slice A20 0 c20))
    have HE1 := Lib.hid (show (((w3.setCell ⟨w.heap.size, 0, none⟩ (.int .i64 0)).setCell ⟨w.heap.size, 1, none⟩ (.slice A0 rs0.length c0)).setCell ⟨w.heap.size, 2, none⟩ (.slice A20 0 c20)).heap[w.heap.size + 1]? = some (.cells #[.int .i64 0, .slice none 0 0, .slice none 0 0] 27 (0, 0)) from
      (Below.heap_setCell _ ⟨w.heap.size, 2, none⟩ _ _ (show w.heap.size + 1 ≠ w.heap.size by omega)).trans ((Below.heap_setCell _ ⟨w.heap.size, 1, none⟩ _ _ (show w.heap.size + 1 ≠ w.heap.size by omega)).trans ((Below.heap_setCell _ ⟨w.heap.size, 0, none⟩ _ _ (show w.heap.size + 1 ≠ w.heap.size by omega)).trans HD1.out)))
    have HSB4 := Lib.hid (HSB.out.frame ((((Agree.refl _ _).set n0 0 (.int .i64 0)).set n0 1 (.slice A0 rs0.length c0)).set n0 2 (.slice A20 0 c20)))
    have hs4 : w.heap.size + 1 + 1 ≤ (((w3.setCell ⟨w.heap.size, 0, none⟩ (.int .i64 0)).setCell ⟨w.heap.size, 1, none⟩ (.slice A0 rs0.length c0)).setCell ⟨w.heap.size, 2, none⟩ (.slice A20 0 c20)).heap.size := by simp; omega
    generalize ((w3.setCell ⟨w.heap.size, 0, none⟩ (.int .i64 0)).setCell ⟨w.heap.size, 1, none⟩ (.slice A0 rs0.length c0)).setCell ⟨w.heap.size, 2, none⟩ (.slice A20 0 c20) = w4 at HB4 HE0 HE1 HSB4 hs4 ⊢
    clear HB3 HD0 HD1 HSB f0 f1 f2 x0 x1 x2 hs3 hs2 hs1
    go_wp2_with fail
    go_loopw [25] (fun iv wx => ∃ (i : Nat) (rs : List StR) (A1 : Option Addr) (c1 : Nat) (A2 : Option Addr) (c2 : Nat), iv = .int .i64 (i : Int) ∧ i ≤ ds.length ∧ Hid (∀ d ∈ ds.take i, goodD d) ∧ Hid (wx.heap[w.heap.size]? = some (.cells #[.int .i64 (i : Int), .slice A1 rs.length c1, .slice A2 (foldB (ds.take i)).sess.length c2] 27 (0, 0))) ∧ Hid (wx.heap[w.heap.size + 1]? = some (.cells #[.int .i64 0, .slice none 0 0, .slice none 0 0] 27 (0, 0))) ∧ Hid (SBs (fun k => w.heap.size + 1 + 1 ≤ k) wx A1 c1 A2 c2 rs (foldB (ds.take i))) ∧ Hid (Below w.heap.size w wx) ∧ w.heap.size + 1 + 1 ≤ wx.heap.size) (fun iv _ => ds.length - (intOf iv).toNat)
    case atStart => exact ⟨0, rs0, A0, c0, A20, c20, rfl, Nat.zero_le _, Lib.hid (fun d hd => by simp at hd), HE0, HE1, HSB4, HB4, hs4⟩
    case round =>
      obtain ⟨i, rs, A1, c1, A2, c2, rfl, hi, HAL, HBK, HRB, HSB, HBX, hsx⟩ := hrel
      have hwi : IntKind.i64.wrap (i : Int) = (i : Int) := by rw [IntKind.wrap_i64]; omega
      obtain ⟨x0, x1, x2⟩ := cells3 HBK.out
      clear HE0 HE1 HSB4 HB4 hs4
      by_cases hlt : i < ds.length
      · obtain ⟨b, o, r, rfl, hF, hbl, hx, g0, g1, g2, g3, g4, hcp, hrr⟩ := op_at (HR.out.frame (Agree.of_below HBX.out)) i hlt
        have hmem : r.d ∈ ds := List.mem_of_getElem? hx
        have HX := Lib.hid hx
        have hok := foldOK i hi HAL.out
        have hb5 : Below wr.heap.size wr (wr.alloc (.cells #[.int .i64 r.d.o.kind, .int .i64 r.d.o.id, .slice r.adr r.d.doc.length r.cap, .int .i64 r.d.o.session, .int .i64 r.d.o.no] 57 (0, 0))) := bl_alloc (Below.refl _ _)
        have hca := sAt_any (fun k => w.heap.size + 1 + 1 ≤ k ∧ k < wr.heap.size) i (foldB (ds.take i)) rs A1 c1 A2 c2 r.d r.adr r.cap _ ((HSB.out.mono (fun k hk hl => ⟨hk, hl⟩)).below hb5) hok (by omega) (HSZ.out r.d hmem).1 (HSZ.out r.d hmem).2 ((hrr.below hb5).mono (fun k hk _ => by have h : k < w.heap.size := hk; have := hb5.size; omega)) (fun k hk => by have := hb5.size; omega)
        unfold OpV.val at hca
        have HCA := Lib.hid hca
        have HOK := Lib.hid hok
        have HB5 := Lib.hid hb5
        have HOP := Lib.hid (heap_alloc_new wr (.cells #[.int .i64 r.d.o.kind, .int .i64 r.d.o.id, .slice r.adr r.d.doc.length r.cap, .int .i64 r.d.o.session, .int .i64 r.d.o.no] 57 (0, 0)))
        clear x0 x1 x2
        obtain ⟨x0, x1, x2⟩ := cells3 (block_below HBK.out hb5)
        clear hx hrr hca hok hb5
        go_wp2_with fail
        refine HCA.out.mono ?_
        rintro e w6 ⟨rg, q, rs', A1', c1', A2', c2', hr1, hq, rfl, hb6, hsb6⟩
        have hb16 : Below wr.heap.size wr w6 := below_then HB5.out HB5.out.size hb6
        have HB16 := Lib.hid hb16
        have hs6 : wr.heap.size ≤ w6.heap.size := hb16.size
        have HR1 := Lib.hid hr1
        have HSB6 := Lib.hid (show SBs (fun k => w.heap.size + 1 + 1 ≤ k) w6 A1' c1' A2' c2' rs' q from hsb6.mono (fun k hk _ => by rcases hk with h | h; exact h.1; (have h' : (wr.alloc (.cells #[.int .i64 r.d.o.kind, .int .i64 r.d.o.id, .slice r.adr r.d.doc.length r.cap, .int .i64 r.d.o.session, .int .i64 r.d.o.no] 57 (0, 0))).heap.size ≤ k := h; have := HB5.out.size; omega)))
        have HQ := Lib.hid hq
        have HBK6 := Lib.hid (block_below HBK.out hb16)
        have HRB6 := Lib.hid (block_below HRB.out hb16)
        have HBX6 := Lib.hid (below_then HBX.out HBX.out.size hb16)
        clear hb6 hb16 hsb6 hr1 hq HCA g0 g1 g2 g3 g4 x0 x1 x2 HBK HRB HOP
        have f0 := free_of_block HBK6.out 0
        have f1 := free_of_block HBK6.out 1
        have f2 := free_of_block HBK6.out 2
        have g0 := free_of_block HRB6.out 0
        have g1 := free_of_block HRB6.out 1
        have g2 := free_of_block HRB6.out 2
        obtain ⟨x0, x1, x2⟩ := cells3 HBK6.out
        obtain ⟨y0, y1, y2⟩ := cells3 HRB6.out
        have hlw0 : w.heap.size < w6.heap.size := by omega
        have hlw1 : w.heap.size + 1 < w6.heap.size := by omega
        cases rg
        · go_wp2
          refine bodyPost_ret (results_cell_row2 rfl _ _ (w.heap.size + 1) _ _ _ _ rfl (block_below (block_setCell (block_setCell (block_setCell HRB6.out _ _) _ _) _ _) (bl_alloc (Below.refl _ _))) Tryz.underlying27 rfl ((info_size infoBase).trans (by simp))) rfl ?_
          refine sFoldP_no (fun h => ?_) ?_
          · have := h.2 _ hmem
            rw [← HR1.out] at this
            cases this
          · exact bl_alloc (((HBX6.out.setCell (p := ⟨w.heap.size + 1, 0, none⟩) hsp _).setCell (p := ⟨w.heap.size + 1, 1, none⟩) hsp _).setCell (p := ⟨w.heap.size + 1, 2, none⟩) hsp _)
        · go_wp2
          go_roundw
          case rel =>
            have hgd : goodD r.d := by simpa using HR1.out
            have hq : q = stepV (foldB (ds.take i)) r.d.o r.d.doc := by simpa using HQ.out
            have hfs : q = foldB (ds.take (i + 1)) := by rw [hq, foldB_snoc HX.out]
            have hal : ∀ d ∈ ds.take (i + 1), goodD d := (take_each HX.out).2 ⟨HAL.out, hgd⟩
            have happ := (foldOK (i + 1) (by omega) hal).app
            subst hfs
            rw [happ]
            have n0 : ∀ j, w.heap.size + 1 + 1 ≤ j → j ≠ w.heap.size := fun j h => by omega
            refine ⟨i + 1, rs', A1', c1', A2', c2', rfl, by omega, Lib.hid hal, Lib.hid (block_below (block_setCell (block_setCell (block_setCell HBK6.out _ _) _ _) _ _) (bl_alloc (Below.refl _ _))), Lib.hid (block_below ((Below.heap_setCell _ ⟨w.heap.size, 2, none⟩ _ _ (show w.heap.size + 1 ≠ w.heap.size by omega)).trans ((Below.heap_setCell _ ⟨w.heap.size, 1, none⟩ _ _ (show w.heap.size + 1 ≠ w.heap.size by omega)).trans ((Below.heap_setCell _ ⟨w.heap.size, 0, none⟩ _ _ (show w.heap.size + 1 ≠ w.heap.size by omega)).trans HRB6.out))) (bl_alloc (Below.refl _ _))), Lib.hid ((HSB6.out.frame ((((Agree.refl _ _).set n0 _ _).set n0 _ _).set n0 _ _)).below (bl_alloc (Below.refl _ _))), Lib.hid (bl_alloc (((HBX6.out.setCell (p := ⟨w.heap.size, 0, none⟩) (Nat.le_refl _) _).setCell (p := ⟨w.heap.size, 1, none⟩) (Nat.le_refl _) _).setCell (p := ⟨w.heap.size, 2, none⟩) (Nat.le_refl _) _)), by simp; omega⟩
          case measure => simp [intOf]; omega
      · obtain rfl : i = ds.length := by omega
        have hal := HAL.out
        rw [List.take_length] at hal
        have hsb := HSB.out
        rw [List.take_length] at hsb
        have hbk := HBK.out
        rw [List.take_length] at hbk
        have HFA := Lib.hid (show ∀ d ∈ ds, goodD d from hal)
        have HSB' := Lib.hid hsb
        have happ := (foldOK ds.length (Nat.le_refl _) HAL.out).app
        rw [List.take_length] at happ
        have HAPP := Lib.hid happ
        clear hal hsb x0 x1 x2 happ
        obtain ⟨x0, x1, x2⟩ := cells3 hbk
        have g0 := free_of_block HRB.out 0
        have g1 := free_of_block HRB.out 1
        have g2 := free_of_block HRB.out 2
        obtain ⟨y0, y1, y2⟩ := cells3 HRB.out
        clear hbk HSB HBK
        go_wp2
        refine bodyPost_ret (results_cell_row2 rfl _ _ (w.heap.size + 1) _ _ _ _ rfl (block_setCell (block_setCell (block_setCell HRB.out _ _) _ _) _ _) Tryz.underlying27 rfl ((info_size infoBase).trans (by simp))) rfl ?_
        have n1 : ∀ j, w.heap.size + 1 + 1 ≤ j → j ≠ w.heap.size + 1 := fun j h => by omega
        refine ⟨true, foldB ds, rs, A1, c1, A2, c2, by rw [HAPP.out]; rfl, ((HBX.out.setCell (p := ⟨w.heap.size + 1, 0, none⟩) hsp _).setCell (p := ⟨w.heap.size + 1, 1, none⟩) hsp _).setCell (p := ⟨w.heap.size + 1, 2, none⟩) hsp _, .yes ⟨h60, HFA.out⟩, (HSB'.out.frame ((((Agree.refl _ _).set n1 _ _).set n1 _ _).set n1 _ _)).mono (fun k hk _ => by have h : w.heap.size + 1 + 1 ≤ k := hk; omega)⟩
  · have d60 : decide (60 < (ds.length : Int)) = true := by simp; omega
    go_wp2_with fail
    refine HGB.out.mono ?_
    rintro e w2 ⟨rfl, hb2⟩
    have HB2 := Lib.hid (below_then HB1.out HB1.out.size hb2)
    have HC1 := Lib.hid (block_below HK1.out hb2)
    have g0 := free_of_block HC1.out 0
    have g1 := free_of_block HC1.out 1
    have g2 := free_of_block HC1.out 2
    clear hb2 x0 x1 x2 HGB HB1
    obtain ⟨y0, y1, y2⟩ := cells3 HC1.out
    go_wp2
    refine bodyPost_ret (results_cell_row2 rfl _ _ (w.heap.size + 1) _ _ _ _ rfl (block_setCell (block_setCell (block_setCell HC1.out _ _) _ _) _ _) Tryz.underlying27 rfl ((info_size infoBase).trans (by simp))) rfl ?_
    exact sFoldP_no (fun h => h60 h.1) (((HB2.out.setCell (p := ⟨w.heap.size + 1, 0, none⟩) hsp _).setCell (p := ⟨w.heap.size + 1, 1, none⟩) hsp _).setCell (p := ⟨w.heap.size + 1, 2, none⟩) hsp _)
set_option maxRecDepth 100000 in
set_option maxHeartbeats 4000000 in
theorem sFoldOps_any (ds : List OpD) (hl : ds.length ≤ 1000000000) (hsz : ∀ d ∈ ds, d.doc.length ≤ 1000000000 ∧ ∀ x ∈ d.doc, x.text.size ≤ 9223372036854775807 ∧ x.name.size ≤ 9223372036854775807) (F : Nat → Prop) (A : Option Addr) (c : Nat) (w : World) (hr : OpAt F w A ds) :
    Calls Tryz.prog 6 #[.slice A ds.length c] w (SFoldP ds w) := by
  have HB1 := Lib.hid (show Below w.heap.size w (w.alloc (.cells #[.int .i64 0, .slice none 0 0, .slice none 0 0] 27 (0, 0))) from bl_alloc (Below.refl _ _))
  have HK0 := Lib.hid (heap_alloc_new w (.cells #[.int .i64 0, .slice none 0 0, .slice none 0 0] 27 (0, 0)))
  have HRP := Lib.hid (sReplay_any ds hl hsz F A c (w.alloc (.cells #[.int .i64 0, .slice none 0 0, .slice none 0 0] 27 (0, 0))) (hr.frame (Agree.of_below HB1.out)))
  clear hr hsz
  go_enter Tryz.func6, Tryz.ntmps6
  go_wp2_with fail
  generalize w.alloc (.cells #[.int .i64 0, .slice none 0 0, .slice none 0 0] 27 (0, 0)) = w1 at HB1 HK0 HRP ⊢
  refine HRP.out.mono ?_
  rintro e w2 ⟨r, q, rs, A1, c1, A2, c2, rfl, hb2, hres, hsb⟩
  have k2 := block_below HK0.out hb2
  have f0 := free_of_block k2 0
  have f1 := free_of_block k2 1
  have f2 := free_of_block k2 2
  obtain ⟨y0, y1, y2⟩ := cells3 k2
  have HK2 := Lib.hid k2
  have HB2 := Lib.hid (below_then HB1.out HB1.out.size hb2)
  have HRS := Lib.hid hres
  have HSB := Lib.hid hsb
  have hs1 := HB1.out.size
  have hlw : w.heap.size < w1.heap.size := lt_of_block HK0.out
  clear hb2 hres hsb k2
  go_wp2
  refine bodyPost_ret (results_cell_row2 rfl _ _ w.heap.size _ _ _ _ rfl (block_setCell (block_setCell (block_setCell HK2.out _ _) _ _) _ _) Tryz.underlying27 rfl ((info_size infoBase).trans (by simp))) rfl ?_
  have hne2 : ∀ b, w1.heap.size ≤ b → b ≠ w.heap.size := fun b h => by omega
  have hs0 : w.heap.size ≤ w.heap.size := Nat.le_refl _
  exact ⟨r, q, rs, A1, c1, A2, c2, rfl, ((HB2.out.setCell (p := ⟨w.heap.size, 0, none⟩) hs0 _).setCell (p := ⟨w.heap.size, 1, none⟩) hs0 _).setCell (p := ⟨w.heap.size, 2, none⟩) hs0 _, HRS.out, (HSB.out.frame ((((Agree.refl _ _).set hne2 _ _).set hne2 _ _).set hne2 _ _)).mono (fun b hb _ => by have h : w1.heap.size ≤ b := hb; show w.heap.size ≤ b; omega)⟩
end Go.Proofs.YtemcijhpmpdebaaGreatDoor
