/- The reference's ReplayOps and FoldOps at the empty base. -/
import Derived.Test.YtemcijhpmpdebaaGreatDoorFo9
namespace Go.Proofs.YtemcijhpmpdebaaGreatDoor
open Go.RowKit
set_option maxRecDepth 100000 in
set_option maxHeartbeats 4000000 in
theorem sGoodBase0 (w : World) : Calls Tryz.prog 49 #[.agg #[.int .i64 0, .slice none 0 0, .slice none 0 0]] w (fun e w' => e = .returned (.bool true) ∧ Below w.heap.size w w') := by
  have k0 := heap_alloc_new w (.cells #[.int .i64 0, .slice none 0 0, .slice none 0 0] 27 (0, 0))
  have HB0 := Lib.hid (show Below w.heap.size w (w.alloc (.cells #[.int .i64 0, .slice none 0 0, .slice none 0 0] 27 (0, 0))) from bl_alloc (Below.refl _ _))
  have HK0 := Lib.hid k0
  clear k0
  go_enter Tryz.func49, Tryz.ntmps49
  go_wp2
  generalize w.alloc (.cells #[.int .i64 0, .slice none 0 0, .slice none 0 0] 27 (0, 0)) = w1 at HB0 HK0 ⊢
  go_loopw [10] (fun iv wx => iv = .int .i64 0 ∧ wx = w1) (fun _ _ => 0)
  case atStart => exact ⟨rfl, rfl⟩
  case round =>
    obtain ⟨rfl, rfl⟩ := hrel
    obtain ⟨x0, x1, x2⟩ := cells3 HK0.out
    go_wp2
    go_loopw [45] (fun iv wx => iv = .int .i64 0 ∧ wx = wr) (fun _ _ => 0)
    case atStart => exact ⟨rfl, rfl⟩
    case round =>
      obtain ⟨rfl, rfl⟩ := hrel
      go_wp2_with (go_at_call 33; refine (sIn_any _ _ _ _).mono ?_; rintro e w' ⟨rfl, rfl⟩)
      go_ret
      exact ⟨rfl, HB0.out⟩
set_option maxRecDepth 100000 in
set_option maxHeartbeats 4000000 in
theorem sOwn0 (w : World) : Calls Tryz.prog 50 #[.agg #[.int .i64 0, .slice none 0 0, .slice none 0 0]] w (SApP (fun k => w.heap.size ≤ k) ⟨0, [], []⟩ w) := by
  have hs2 : ((w.alloc (.cells #[.int .i64 0, .slice none 0 0, .slice none 0 0] 27 (0, 0))).alloc (.cells #[.int .i64 0, .slice none 0 0, .slice none 0 0] 27 (0, 0))).heap.size = w.heap.size + 1 + 1 := by simp
  have HB2 := Lib.hid (show Below w.heap.size w ((w.alloc (.cells #[.int .i64 0, .slice none 0 0, .slice none 0 0] 27 (0, 0))).alloc (.cells #[.int .i64 0, .slice none 0 0, .slice none 0 0] 27 (0, 0))) from bl_alloc (bl_alloc (Below.refl _ _)))
  have HK0 := Lib.hid (show ((w.alloc (.cells #[.int .i64 0, .slice none 0 0, .slice none 0 0] 27 (0, 0))).alloc (.cells #[.int .i64 0, .slice none 0 0, .slice none 0 0] 27 (0, 0))).heap[w.heap.size]? = some (.cells #[.int .i64 0, .slice none 0 0, .slice none 0 0] 27 (0, 0)) from by (repeat (first | with_reducible assumption | (with_reducible refine blk_new _ ?_; (first | rfl | (simp; done) | (simp; omega))) | with_reducible apply block_setCell | (with_reducible refine blk_skip _ _ ?_ ?_; rotate_left; (first | (simp; done) | (simp; omega))) | with_reducible refine blk_old ?_)))
  have HK1 := Lib.hid (show ((w.alloc (.cells #[.int .i64 0, .slice none 0 0, .slice none 0 0] 27 (0, 0))).alloc (.cells #[.int .i64 0, .slice none 0 0, .slice none 0 0] 27 (0, 0))).heap[w.heap.size + 1]? = some (.cells #[.int .i64 0, .slice none 0 0, .slice none 0 0] 27 (0, 0)) from by (repeat (first | with_reducible assumption | (with_reducible refine blk_new _ ?_; (first | rfl | (simp; done) | (simp; omega))) | with_reducible apply block_setCell | (with_reducible refine blk_skip _ _ ?_ ?_; rotate_left; (first | (simp; done) | (simp; omega))) | with_reducible refine blk_old ?_)))
  go_enter Tryz.func50, Tryz.ntmps50
  go_upto_block 0 with fail
  generalize (w.alloc (.cells #[.int .i64 0, .slice none 0 0, .slice none 0 0] 27 (0, 0))).alloc (.cells #[.int .i64 0, .slice none 0 0, .slice none 0 0] 27 (0, 0)) = w1 at HB2 HK0 HK1 hs2 ⊢
  obtain ⟨x0, x1, x2⟩ := cells3 HK0.out
  go_wp2_with fail
  go_loopw [3, 9] (fun sv iv wx => sv = .slice none 0 0 ∧ iv = .int .i64 0 ∧ wx = w1) (fun _ _ _ => 0)
  case atStart => exact ⟨rfl, rfl, rfl⟩
  case round =>
    obtain ⟨rfl, rfl, rfl⟩ := hrel
    have f1 := free_of_block HK0.out 1
    have HK3 := Lib.hid (block_setCell HK0.out 1 (.slice none 0 0))
    have HK4 := Lib.hid (show (wr.setCell ⟨w.heap.size, 1, none⟩ (.slice none 0 0)).heap[w.heap.size + 1]? = some (.cells #[.int .i64 0, .slice none 0 0, .slice none 0 0] 27 (0, 0)) from (Below.heap_setCell wr ⟨w.heap.size, 1, none⟩ _ _ (show w.heap.size + 1 ≠ w.heap.size by omega)).trans HK1.out)
    have HB3 := Lib.hid (HB2.out.setCell (p := ⟨w.heap.size, 1, none⟩) (Nat.le_refl _) (.slice none 0 0))
    go_upto_region 8 with fail
    generalize hw2 : wr.setCell ⟨w.heap.size, 1, none⟩ (.slice none 0 0) = w2 at HK3 HK4 HB3 ⊢
    have HS3 := Lib.hid (show w2.heap.size = w.heap.size + 1 + 1 from by rw [← hw2, ← hs2]; simp)
    clear hw2 x0 x1 x2 f1 HK0 HK1 HB2 hs2
    have HOWN := Lib.hid (show (w2.alloc (.cells #[] 97 (0, 0))).ownsRow w2.heap.size 97 3 (.slice (some ⟨w2.heap.size, 0, none⟩) 0 0) 0 [] from own_empty w2 97 3)
    have HBA := Lib.hid (show Below w2.heap.size w2 (w2.alloc (.cells #[] 97 (0, 0))) from bl_alloc (Below.refl _ _))
    obtain ⟨x0, x1, x2⟩ := cells3 (block_below HK3.out HBA.out)
    go_wp2_with (at_builtin; refine append_rows w2.heap.size rfl (.tmp 25) (.tmp 27) 25 97 _ 3 24 rfl Tryz.underlying25 infoSession rfl (by decide) (.slice (some ⟨w2.heap.size, 0, none⟩) 0 0) 0 [] rfl HOWN.out none 0 0 [] rfl rfl (Rds.nil (fun _ => True) _ _) (by intro v hv; cases hv) (by simp only [maxLen]; omega) (by omega) (by simp) ?_; intro A2 c2 w5 hc5 ho5 hg5 hat5; have hb5 : Below w2.heap.size w2 w5 := HBA.out.grown hg5 HBA.out.size (fun j hj => (own_base HOWN.out j hj).1); have HB5 := Lib.hid hb5; have HO5 := Lib.hid ho5; have k5 := block_below HK3.out hb5; have HK5 := Lib.hid k5; have HR5 := Lib.hid (block_below HK4.out hb5); obtain ⟨y0, y1, y2⟩ := cells3 k5; have g2 := free_of_block k5 2; obtain ⟨z0, z1, z2⟩ := cells3 HR5.out; have h0 := free_of_block HR5.out 0; have h1 := free_of_block HR5.out 1; have h2 := free_of_block HR5.out 2; clear hb5 ho5 hg5 hat5 k5)
    have hs3 := HS3.out
    have hkz : ∀ v, (w5.setCell ⟨w.heap.size, 2, none⟩ v).heap[w.heap.size + 1]? = some (.cells #[.int .i64 0, .slice none 0 0, .slice none 0 0] 27 (0, 0)) := fun v => (Below.heap_setCell w5 ⟨w.heap.size, 2, none⟩ v _ (show w.heap.size + 1 ≠ w.heap.size by omega)).trans HR5.out
    refine bodyPost_ret (results_cell_row rfl _ _ (w.heap.size + 1) _ _ _ _ rfl (block_setCell (block_setCell (block_setCell (hkz _) _ _) _ _) _ _) Tryz.underlying27 rfl ((info_size infoBase).trans (by simp))) rfl ?_
    have hs1 : w.heap.size ≤ w.heap.size + 1 := by omega
    have hb : Below w.heap.size w w5 := HB3.out.trans (HB5.out.mono (by omega))
    exact ⟨[], none, 0, A2, c2, rfl, (((hb.setCell (p := ⟨w.heap.size, 2, none⟩) (Nat.le_refl _) _).setCell (p := ⟨w.heap.size + 1, 0, none⟩) hs1 _).setCell (p := ⟨w.heap.size + 1, 1, none⟩) hs1 _).setCell (p := ⟨w.heap.size + 1, 2, none⟩) hs1 _, rfl, SAt.zero _ _ _ _, Nat.zero_le _, Rds.nil _ _ _⟩
def SAtP (G : Nat → Prop) (b : BsV) (d : OpD) (w : World) (e : Ending) (w' : World) : Prop :=
  ∃ (r : Bool) (q : BsV) (rs : List StR) (A1 : Option Addr) (c1 : Nat) (A2 : Option Addr) (c2 : Nat), (r = true ↔ goodD d) ∧ q = (if r = true then stepV b d.o d.doc else ⟨0, [], []⟩) ∧ e = .returned (.tuple #[.agg #[.int .i64 q.applied, .slice A1 rs.length c1, .slice A2 q.sess.length c2], .bool r]) ∧ Below w.heap.size w w' ∧ SBs (fun k => G k ∨ w.heap.size ≤ k) w' A1 c1 A2 c2 rs q
theorem sbs_zero (G : Nat → Prop) (w : World) : SBs G w none 0 none 0 [] ⟨0, [], []⟩ := ⟨rfl, SAt.zero _ _ _ _, Nat.zero_le _, Rds.nil _ _ _⟩
set_option maxRecDepth 100000 in
set_option maxHeartbeats 8000000 in
theorem sAt_any (G : Nat → Prop) (n : Nat) (b : BsV) (rs : List StR) (A1 : Option Addr) (c1 : Nat) (A2 : Option Addr) (c2 : Nat) (d : OpD) (OA : Option Addr) (oc : Nat) (w : World) (h : SBs G w A1 c1 A2 c2 rs b) (hf : FoldOK n b) (hn : n < 60)
    (hdl : d.doc.length ≤ 1000000000) (hsz : ∀ x ∈ d.doc, x.text.size ≤ 9223372036854775807 ∧ x.name.size ≤ 9223372036854775807) (hdr : Rds (fun k => k < w.heap.size) w OA (ndCells d.doc)) (hG : ∀ k, G k → k < w.heap.size) :
    Calls Tryz.prog 51 #[.agg #[.int .i64 n, .slice A1 rs.length c1, .slice A2 b.sess.length c2], .int .i64 n, d.o.val OA d.doc.length oc] w (SAtP G b d w) := by
  have HF := Lib.hid hf
  have HS := Lib.hid h
  have HDR := Lib.hid hdr
  have HGG := Lib.hid hG
  have HSZ := Lib.hid hsz
  obtain ⟨W3, hW3⟩ : ∃ W3, W3 = ((w.alloc (.cells #[.int .i64 n, .slice A1 rs.length c1, .slice A2 b.sess.length c2] 27 (0, 0))).alloc (.cells #[.int .i64 d.o.kind, .int .i64 d.o.id, .slice OA d.doc.length oc, .int .i64 d.o.session, .int .i64 d.o.no] 57 (0, 0))).alloc (.cells #[.int .i64 0, .slice none 0 0, .slice none 0 0] 27 (0, 0)) := ⟨_, rfl⟩
  have HK0 := Lib.hid (show W3.heap[w.heap.size]? = some (.cells #[.int .i64 n, .slice A1 rs.length c1, .slice A2 b.sess.length c2] 27 (0, 0)) from by rw [hW3]; (repeat (first | with_reducible assumption | (with_reducible refine blk_new _ ?_; (first | rfl | (simp; done) | (simp; omega))) | with_reducible apply block_setCell | (with_reducible refine blk_skip _ _ ?_ ?_; rotate_left; (first | (simp; done) | (simp; omega))) | with_reducible refine blk_old ?_)))
  have HK1 := Lib.hid (show W3.heap[w.heap.size + 1]? = some (.cells #[.int .i64 d.o.kind, .int .i64 d.o.id, .slice OA d.doc.length oc, .int .i64 d.o.session, .int .i64 d.o.no] 57 (0, 0)) from by rw [hW3]; (repeat (first | with_reducible assumption | (with_reducible refine blk_new _ ?_; (first | rfl | (simp; done) | (simp; omega))) | with_reducible apply block_setCell | (with_reducible refine blk_skip _ _ ?_ ?_; rotate_left; (first | (simp; done) | (simp; omega))) | with_reducible refine blk_old ?_)))
  have HK2 := Lib.hid (show W3.heap[w.heap.size + 1 + 1]? = some (.cells #[.int .i64 0, .slice none 0 0, .slice none 0 0] 27 (0, 0)) from by rw [hW3]; (repeat (first | with_reducible assumption | (with_reducible refine blk_new _ ?_; (first | rfl | (simp; done) | (simp; omega))) | with_reducible apply block_setCell | (with_reducible refine blk_skip _ _ ?_ ?_; rotate_left; (first | (simp; done) | (simp; omega))) | with_reducible refine blk_old ?_)))
  have HB3 := Lib.hid (show Below w.heap.size w W3 from by rw [hW3]; exact bl_alloc (bl_alloc (bl_alloc (Below.refl _ _))))
  have hs3 : W3.heap.size = w.heap.size + 1 + 1 + 1 := by rw [hW3]; simp
  have HW3 := Lib.hid hW3.symm
  clear h hf hdr hG hsz hW3
  unfold OpV.val
  go_enter Tryz.func51, Tryz.ntmps51
  go_upto_block 0 with fail
  rw [HW3.out]
  clear HW3
  obtain ⟨x0, x1, x2⟩ := cells3 HK0.out
  have z0 := cell_of_block HK1.out 0
  have z1 := cell_of_block HK1.out 1
  have z2 := cell_of_block HK1.out 2
  have z3 := cell_of_block HK1.out 3
  have z4 := cell_of_block HK1.out 4
  simp at z0 z1 z2 z3 z4
  have hg := sGoodOp_any d.o d.doc hdl HSZ.out _ OA oc W3 (HDR.out.below HB3.out)
  unfold OpV.val at hg
  have HGO := Lib.hid hg
  clear hg
  go_wp2_with fail
  refine HGO.out.mono ?_
  rintro e w4 hg4
  obtain ⟨hb4, r, rfl, hr⟩ := gop_good hg4
  have HR := Lib.hid hr
  have HB4 := Lib.hid (below_then HB3.out HB3.out.size hb4)
  have HC0 := Lib.hid (block_below HK0.out hb4)
  have HC1 := Lib.hid (block_below HK1.out hb4)
  have HC2 := Lib.hid (block_below HK2.out hb4)
  have hs4 := hb4.size
  clear hb4 hr hg4 HGO x0 x1 x2 z0 z1 z2 z3 z4 HK0 HK1 HK2 HB3
  obtain ⟨x0, x1, x2⟩ := cells3 HC0.out
  have z0 := cell_of_block HC1.out 0
  have z1 := cell_of_block HC1.out 1
  have z2 := cell_of_block HC1.out 2
  have z3 := cell_of_block HC1.out 3
  have z4 := cell_of_block HC1.out 4
  simp at z0 z1 z2 z3 z4
  have f0 := free_of_block HC2.out 0
  have f1 := free_of_block HC2.out 1
  have f2 := free_of_block HC2.out 2
  obtain ⟨y0, y1, y2⟩ := cells3 HC2.out
  have hs2 : w.heap.size ≤ w.heap.size + 1 + 1 := by omega
  cases r
  · go_wp2
    refine bodyPost_ret (results_cell_row2 rfl _ _ (w.heap.size + 1 + 1) _ _ _ _ rfl (block_setCell (block_setCell (block_setCell HC2.out _ _) _ _) _ _) Tryz.underlying27 rfl ((info_size infoBase).trans (by simp))) rfl ?_
    exact ⟨false, ⟨0, [], []⟩, [], none, 0, none, 0, HR.out, rfl, rfl, ((HB4.out.setCell (p := ⟨w.heap.size + 1 + 1, 0, none⟩) hs2 _).setCell (p := ⟨w.heap.size + 1 + 1, 1, none⟩) hs2 _).setCell (p := ⟨w.heap.size + 1 + 1, 2, none⟩) hs2 _, sbs_zero _ _⟩
  · have dn0 : decide ((n : Int) < 0) = false := by simp
    have dn60 : ((n : Int) == 60) = false := by simp; omega
    have hgd := HR.out.1 rfl
    obtain ⟨q1, q2, _⟩ := goodD_in hgd
    have hca := sApply_any G n b rs A1 c1 A2 c2 d.o d.doc OA oc w4 (HS.out.below HB4.out) HF.out hn q1 q2 hdl ((HDR.out.below HB4.out).mono (fun k hk _ => by have h : k < w.heap.size := hk; omega)) (fun k hk => by have := HGG.out k hk; omega)
    unfold OpV.val at hca
    have HCA := Lib.hid hca
    clear hca hgd q1 q2
    go_wp2_with fail
    refine HCA.out.mono ?_
    rintro e w5 ⟨rs', A1', c1', A2', c2', rfl, hb5, hs5⟩
    have HS5 := Lib.hid hs5
    have HB5 := Lib.hid hb5
    have HD2 := Lib.hid (block_below HC2.out hb5)
    have g0 := free_of_block HD2.out 0
    have g1 := free_of_block HD2.out 1
    have g2 := free_of_block HD2.out 2
    clear hs5 hb5 f0 f1 f2 y0 y1 y2 HCA x0 x1 x2 z0 z1 z2 z3 z4
    obtain ⟨y0, y1, y2⟩ := cells3 HD2.out
    go_wp2
    refine bodyPost_ret (results_cell_row2 rfl _ _ (w.heap.size + 1 + 1) _ _ _ _ rfl (block_setCell (block_setCell (block_setCell HD2.out _ _) _ _) _ _) Tryz.underlying27 rfl ((info_size infoBase).trans (by simp))) rfl ?_
    have hb : Below w.heap.size w w5 := HB4.out.trans (HB5.out.mono (by omega))
    have n2 : ∀ j, (G j ∨ w4.heap.size ≤ j) → j ≠ w.heap.size + 1 + 1 := fun j h => by rcases h with h | h; (have := HGG.out j h; omega); omega
    exact ⟨true, stepV b d.o d.doc, rs', A1', c1', A2', c2', by simpa using HR.out, rfl, rfl, ((hb.setCell (p := ⟨w.heap.size + 1 + 1, 0, none⟩) hs2 _).setCell (p := ⟨w.heap.size + 1 + 1, 1, none⟩) hs2 _).setCell (p := ⟨w.heap.size + 1 + 1, 2, none⟩) hs2 _, (HS5.out.frame ((((Agree.refl _ _).set n2 _ _).set n2 _ _).set n2 _ _)).mono (fun j h _ => h.imp id (fun h => by omega))⟩
end Go.Proofs.YtemcijhpmpdebaaGreatDoor
