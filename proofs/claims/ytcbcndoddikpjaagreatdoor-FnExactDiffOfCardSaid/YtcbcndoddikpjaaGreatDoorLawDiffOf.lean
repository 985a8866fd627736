/- The walk of the law of DiffOf. -/
import Derived.Test.YtcbcndoddikpjaaGreatDoorSp16
import Derived.Test.YtcbcndoddikpjaaGreatDoorTw
namespace Go.Proofs.YtcbcndoddikpjaaGreatDoor
open Go.RowKit
set_option maxRecDepth 100000 in
set_option maxHeartbeats 16000000 in
theorem lawDiffOf_any (lp : List Nd) (hlp : lp.length ≤ 9223372036854775807) (hsp : ∀ x ∈ lp, x.small 9223372036854775807) (F1 : Nat → Prop) (A1 : Option Addr) (c1 : Nat) (_hc1 : lp.length ≤ c1) (lq : List Nd) (hlq : lq.length ≤ 9223372036854775807) (hsq : ∀ x ∈ lq, x.small 9223372036854775807) (F2 : Nat → Prop) (A2 : Option Addr) (c2 : Nat) (_hc2 : lq.length ≤ c2) (w : World) (hr1 : Rds F1 w A1 (ndCells lp)) (hr2 : Rds F2 w A2 (ndCells lq)) (htab : Tabs w.heap.size w) :
    Calls Tryz.prog 5 #[.agg #[.slice A1 lp.length c1], .agg #[.slice A2 lq.length c2]] w fun e w' => e = .returned (.bool true) ∧ Below w.heap.size w w' := by
  have HR1 := Lib.hid (fun W (hb : Below w.heap.size w W) => hr1.frame (w1 := W) (Agree.of_below hb))
  have HR2 := Lib.hid (fun W (hb : Below w.heap.size w W) => hr2.frame (w1 := W) (Agree.of_below hb))
  have HT := Lib.hid (fun W (hb : Below w.heap.size w W) => (htab.below hb).mono hb.size)
  clear hr1 hr2 htab
  obtain ⟨w1, hw⟩ : ∃ w1, w1 = (w.alloc (.cells #[.slice A1 lp.length c1] 24 (0, 0))).alloc (.cells #[.slice A2 lq.length c2] 24 (0, 0)) := ⟨_, rfl⟩
  have hb1 : Below w.heap.size w w1 := by rw [hw]; exact ((Below.refl _ _).alloc (Nat.le_refl _) _).alloc (by simp) _
  have kp : w1.heap[w.heap.size]? = some (.cells #[.slice A1 lp.length c1] 24 (0, 0)) := by rw [hw]; (repeat (first | with_reducible assumption | (with_reducible refine blk_new _ ?_; (first | rfl | (simp; done) | (simp; omega))) | with_reducible apply block_setCell | (with_reducible refine blk_skip _ _ ?_ ?_; rotate_left; (first | (simp; done) | (simp; omega))) | with_reducible refine blk_old ?_))
  have kq : w1.heap[w.heap.size + 1]? = some (.cells #[.slice A2 lq.length c2] 24 (0, 0)) := by rw [hw]; (repeat (first | with_reducible assumption | (with_reducible refine blk_new _ ?_; (first | rfl | (simp; done) | (simp; omega))) | with_reducible apply block_setCell | (with_reducible refine blk_skip _ _ ?_ ?_; rotate_left; (first | (simp; done) | (simp; omega))) | with_reducible refine blk_old ?_))
  have HW := Lib.hid hw
  have HB1 := Lib.hid hb1
  have HKP := Lib.hid kp
  have HKQ := Lib.hid kq
  have HS1 := Lib.hid (szValue_any lp hlp hsp F1 A1 c1 1048576 (by omega) w1 (HR1.out _ hb1))
  have x0 : w1.cell? ⟨w.heap.size, 0, none⟩ = some (.slice A1 lp.length c1) := cell_of_block kp 0
  have HSQ := Lib.hid (And.intro hlq hsq)
  clear hw hb1 kp kq hsp hsq
  go_enter Tryz.func5, Tryz.ntmps5
  go_wp2_with fail
  rw [← HW.out]
  clear HW
  refine HS1.out.mono ?_
  rintro e w2 ⟨hb2, r, rfl, hr⟩
  have HB2 := Lib.hid (below_then HB1.out HB1.out.size hb2)
  have HKP2 := Lib.hid (block_below HKP.out hb2)
  have HKQ2 := Lib.hid (block_below HKQ.out hb2)
  clear hb2 x0 HS1
  rcases hr with rfl | ⟨m, rfl, hm, hm2, hsp⟩
  · go_wp2
    go_ret
    exact ⟨rfl, HB2.out⟩
  have HSP := Lib.hid hsp
  have x1 : w2.cell? ⟨w.heap.size + 1, 0, none⟩ = some (.slice A2 lq.length c2) := cell_of_block HKQ2.out 0
  have hm0 : ¬ ((m : Int) < 0) := by omega
  have HS2 := Lib.hid (szValue_any lq HSQ.out.1 HSQ.out.2 F2 A2 c2 m (by omega) w2 (HR2.out _ HB2.out))
  clear hsp
  go_wp2_with fail
  refine HS2.out.mono ?_
  rintro e w3 ⟨hb3, r, rfl, hr⟩
  have HW3 := Lib.hid (below_then HB2.out HB2.out.size hb3)
  have HKP3 := Lib.hid (block_below HKP2.out hb3)
  have HKQ3 := Lib.hid (block_below HKQ2.out hb3)
  clear hb3 x1 HS2
  rcases hr with rfl | ⟨m2, rfl, hm3, hm4, hsq⟩
  · go_wp2
    go_ret
    exact ⟨rfl, HW3.out⟩
  have HSP2 := Lib.hid (show SzNd lp from fun x hx => by have h := HSP.out x hx; unfold Nd.small at h; omega)
  have HSQ2 := Lib.hid (show SzNd lq from fun x hx => by have h := hsq x hx; unfold Nd.small at h; omega)
  have hlp2 : lp.length ≤ 1000000000 := by omega
  have hlq2 : lq.length ≤ 1000000000 := by omega
  have HLEN := Lib.hid (And.intro hlp2 hlq2)
  have hm5 : ¬ ((m2 : Int) < 0) := by omega
  have HT1 := Lib.hid (fun W (hb : Below w.heap.size w W) => toValue_w lp hlp2 F1 A1 c1 W (HR1.out _ hb))
  have HT2 := Lib.hid (fun W (hb : Below w.heap.size w W) => toValue_w lq hlq2 F2 A2 c2 W (HR2.out _ hb))
  have HSPEC := Lib.hid (fun W (_hb : Below w.heap.size w W) (B3 B4 : Option Addr) (h1 : ∃ F, Rds F W B3 (ndCells lp)) (h2 : ∃ F, Rds F W B4 (ndCells lq)) => sDiffOf_any lp lq hlp2 hlq2 HSP2.out HSQ2.out (fun _ => True) B3 B4 lp.length lq.length W (Rds.any h1) (Rds.any h2))
  have HIMPL := Lib.hid (fun W (hb : Below w.heap.size w W) (B3 B4 : Option Addr) (h1 : ∃ F, Rds F W B3 (ndCells lp)) (h2 : ∃ F, Rds F W B4 (ndCells lq)) => diffOf_any lp lq hlp2 hlq2 HSP2.out HSQ2.out (fun _ => True) B3 B4 lp.length lq.length (Nat.le_refl _) (Nat.le_refl _) W (Rds.any h1) (Rds.any h2) (HT.out _ hb))
  have HKEEP := Lib.hid (fun W (hb : Below w3.heap.size w3 W) => show W.cell? ⟨w.heap.size, 0, none⟩ = some (.slice A1 lp.length c1) ∧ W.cell? ⟨w.heap.size + 1, 0, none⟩ = some (.slice A2 lq.length c2) from ⟨cell_of_block (block_below HKP3.out hb) 0, cell_of_block (block_below HKQ3.out hb) 0⟩)
  clear hsq
  go_upto_region 8 with fail

  go_cut [6, 7] (fun x y wx => TCut diffOp lp lq w3 x y wx)
  case first =>
    have HD0 := Lib.hid (show Below w3.heap.size w3 w3.drew from (Below.refl _ _).drew)
    have HD1 := Lib.hid (fun o => show Below w3.heap.size w3 (w3.drew.alloc o) from (Below.refl _ _).drew.alloc (Nat.le_refl _) o)
    have HD5 := Lib.hid (fun o => show Below w3.heap.size w3 (w3.alloc o).drew from ((Below.refl _ _).alloc (Nat.le_refl _) o).drew)
    have HD3 := Lib.hid (fun (W : World) (o : Obj) (W' : World) (hb : Below (W.alloc o).heap.size (W.alloc o) W') => show W'.heap[W.heap.size]? = some o from (hb.block _ (by simp)).trans (heap_alloc_new W o))
    have HD6 := Lib.hid (fun (W : World) (o : Obj) (W' : World) (hb : Below (W.alloc o).drew.heap.size (W.alloc o).drew W') => show W'.heap[W.heap.size]? = some o from (hb.block _ (by show W.heap.size < (W.alloc o).heap.size; simp)).trans (heap_alloc_new W o))
    have HD2 := Lib.hid (fun (W : World) (o : Obj) => show Below W.heap.size W (W.alloc o) from (Below.refl _ _).alloc (Nat.le_refl _) o)
    have HD4 := Lib.hid (fun (W : World) (o : Obj) (W' : World) (hb : Below (W.alloc o).heap.size (W.alloc o) W') => show Below W.heap.size W W' from below_then ((Below.refl _ _).alloc (Nat.le_refl _) o) (by simp) hb)
    go_region_held3 (fun W => W.cell? ⟨w.heap.size, 0, none⟩ = some (.slice A1 lp.length c1) ∧ W.cell? ⟨w.heap.size + 1, 0, none⟩ = some (.slice A2 lq.length c2))
      (exact HKEEP.out _ (by with_reducible first | exact hx3.setCell (p := ⟨_, 0, none⟩) hx2.size _ | exact hx3.setCell (p := ⟨_, 0, none⟩) hx1.size _ | exact hx3.setCell (p := ⟨_, 0, none⟩) (Nat.le_refl _) _ | exact hx3 | exact hx3.alloc hx3.size _ | exact hx2 | exact hx2.alloc hx2.size _ | exact hx1 | exact hx1.alloc hx1.size _ | exact HD0.out | exact HD1.out _ | exact HD5.out _))
      (first
        | (go_at_call 15; refine (HSPEC.out _ (below_then HW3.out HW3.out.size (by with_reducible first | exact hx3 | exact hx3.alloc hx3.size _ | exact hx2 | exact hx2.alloc hx2.size _ | exact hx1 | exact hx1.alloc hx1.size _ | exact HD0.out | exact HD1.out _ | exact HD5.out _)) B3 B4 (by with_reducible first | exact ⟨_, hr4r.below hb24⟩ | exact ⟨_, (hr4r.below hb24).below (HD2.out _ _)⟩) (by with_reducible first | exact ⟨_, hr5r⟩ | exact ⟨_, hr5r.below (HD2.out _ _)⟩)).mono ?_; rintro e w6 ⟨l, v, f, rfl, hres, hown⟩; obtain ⟨hb3, Aw, cw, rfl, hcw, hrw, how⟩ := hown; have hx3 : Below w3.heap.size w3 w6 := (by with_reducible first | exact below_then hx2 hx2.size hb3 | exact below_then (hx2.alloc hx2.size _) (hx2.alloc hx2.size _).size hb3); (first | (have hz6 := (hb3.block _ (lt_of_block hz5)).trans hz5; have z0 := cell_of_block hz6 0; have f0 := free_of_block hz6 0; simp at z0) | (have hz6 := HD3.out _ _ _ hb3; have z0 := cell_of_block hz6 0; have f0 := free_of_block hz6 0; simp at z0) | skip))
        | (go_at_call 8; have hx1' := hx1; refine (HT2.out _ (below_then HW3.out HW3.out.size (by with_reducible first | exact hx3 | exact hx3.alloc hx3.size _ | exact hx2 | exact hx2.alloc hx2.size _ | exact hx1 | exact hx1.alloc hx1.size _ | exact HD0.out | exact HD1.out _ | exact HD5.out _))).mono ?_; rintro e w5 ⟨hb2, B4, rfl, hr5⟩; have hr5r := hr5.1; have hb24 : Below w4.heap.size w4 w5 := (by with_reducible first | exact hb2 | exact HD4.out _ _ _ hb2); have hx2 : Below w3.heap.size w3 w5 := below_then hx1 hx1.size hb24; (first | have hz5 := (hb2.block _ (lt_of_block hz4)).trans hz4 | have hz5 := HD3.out _ _ _ hb2 | skip))
        | (go_at_call 8; refine (HT1.out _ (below_then HW3.out HW3.out.size (by with_reducible first | exact hx3 | exact hx3.alloc hx3.size _ | exact hx2 | exact hx2.alloc hx2.size _ | exact hx1 | exact hx1.alloc hx1.size _ | exact HD0.out | exact HD1.out _ | exact HD5.out _))).mono ?_; rintro e w4 ⟨hb1, B3, rfl, hr4⟩; have hr4r := hr4.1; have hx1 : Below w3.heap.size w3 w4 := (by with_reducible first | exact below_then HD0.out (Nat.le_refl _) hb1 | exact below_then (HD1.out _) (HD1.out _).size hb1 | exact below_then (HD5.out _) (HD5.out _).size hb1); (first | have hz4 := HD3.out _ _ _ hb1 | have hz4 := HD6.out _ _ _ hb1 | skip)))
    all_goals
      go_wp2
      go_meet
      have s1 := hx1.size
      have s2 := hx2.size
      have s3 := hb24.size
      have s4 := hb3.size
      first
        | (have hh := tw_early (cw := cw) (g := w5.heap.size) hz6 hx3 s2 hres hrw (by simp); exact hh)
        | (have hh := tw_early (cw := cw) (g := w4.heap.size) hz6 hx3 s1 hres hrw (by have h5 := hb2.size; simp at h5; omega); exact hh)
        | (have hh := tw_early (cw := cw) (g := w3.heap.size) hz6 hx3 (Nat.le_refl _) hres hrw (by have h : (w3.alloc (.cells #[.slice none 0 0] 28 (0, 0))).heap.size ≤ w4.heap.size := hb1.size; simp at h; omega); exact hh)
        | (have hh := tw_late (cw := cw) hx3 hres hrw; exact hh)

  case rest =>
    obtain ⟨iw, Aw, cw, l, f, rfl, rfl, hres, hiw, hkw, hrw, hbc⟩ := hcut
    have HRES := Lib.hid hres
    have hll := hres.len
    have HBC := Lib.hid (below_then HW3.out HW3.out.size hbc)
    have HKPC := Lib.hid (block_below HKP3.out hbc)
    have HKQC := Lib.hid (block_below HKQ3.out hbc)
    have HKW := Lib.hid hkw
    have HRW := Lib.hid (hrw.mono (G := fun b => b < wc.heap.size) (fun b _ h => h))
    have y0 : wc.cell? ⟨w.heap.size, 0, none⟩ = some (.slice A1 lp.length c1) := cell_of_block HKPC.out 0
    have sw := HW3.out.size
    have sc := hbc.size
    clear hres hkw hrw hbc HKEEP HSPEC
    go_wp2_with fail
    refine (HT1.out wc HBC.out).mono ?_
    rintro e w4 ⟨hb4, Ax, rfl, hrx⟩
    have b45 : Below wc.heap.size wc (w4.alloc (.cells #[.slice Ax lp.length lp.length] 28 (0, 0))) := hb4.alloc hb4.size _
    have s4 := hb4.size
    have s5 : (w4.alloc (.cells #[.slice Ax lp.length lp.length] 28 (0, 0))).heap.size = w4.heap.size + 1 := by simp
    have HB5 := Lib.hid (below_then HBC.out HBC.out.size b45)
    have HKP5 := Lib.hid (block_below HKPC.out b45)
    have HKQ5 := Lib.hid (block_below HKQC.out b45)
    have HKW5 := Lib.hid (block_below HKW.out b45)
    have HRW5 := Lib.hid (HRW.out.frame (Agree.of_below b45))
    have HKX5 := Lib.hid (heap_alloc_new w4 (.cells #[.slice Ax lp.length lp.length] 28 (0, 0)))
    have HRX5 := Lib.hid ((hrx.frame (Agree.of_below ((Below.refl _ _).alloc (Nat.le_refl _) _))).mono (F := fun b => wc.heap.size ≤ b) (w := w4.alloc (.cells #[.slice Ax lp.length lp.length] 28 (0, 0))) (G := fun b => wc.heap.size ≤ b ∧ b < (w4.alloc (.cells #[.slice Ax lp.length lp.length] 28 (0, 0))).heap.size) (fun b h h' => ⟨h, h'⟩))
    have y1 : (w4.alloc (.cells #[.slice Ax lp.length lp.length] 28 (0, 0))).cell? ⟨w.heap.size + 1, 0, none⟩ = some (.slice A2 lq.length c2) := cell_of_block HKQ5.out 0
    clear hb4 hrx b45 y0 HKPC HKQC HKW HRW
    go_wp2_with fail
    generalize w4.alloc (.cells #[.slice Ax lp.length lp.length] 28 (0, 0)) = w5 at HB5 HKP5 HKQ5 HKW5 HRW5 HKX5 HRX5 s5 y1 ⊢
    refine (HT2.out w5 HB5.out).mono ?_
    rintro e w6 ⟨hb6, Ay, rfl, hry⟩
    have b67 : Below w5.heap.size w5 (w6.alloc (.cells #[.slice Ay lq.length lq.length] 28 (0, 0))) := hb6.alloc hb6.size _
    have s6 := hb6.size
    have s7 : (w6.alloc (.cells #[.slice Ay lq.length lq.length] 28 (0, 0))).heap.size = w6.heap.size + 1 := by simp
    have HB7 := Lib.hid (below_then HB5.out HB5.out.size b67)
    have HKP7 := Lib.hid (block_below HKP5.out b67)
    have HKQ7 := Lib.hid (block_below HKQ5.out b67)
    have HKW7 := Lib.hid (block_below HKW5.out b67)
    have HRW7 := Lib.hid (HRW5.out.frame (Agree.of_below b67))
    have HKX7 := Lib.hid (block_below HKX5.out b67)
    have HRX7 := Lib.hid (HRX5.out.frame (Agree.of_below b67))
    have HKY7 := Lib.hid (heap_alloc_new w6 (.cells #[.slice Ay lq.length lq.length] 28 (0, 0)))
    have HRY7 := Lib.hid ((hry.frame (Agree.of_below ((Below.refl _ _).alloc (Nat.le_refl _) _))).mono (F := fun b => w5.heap.size ≤ b) (w := w6.alloc (.cells #[.slice Ay lq.length lq.length] 28 (0, 0))) (G := fun b => w5.heap.size ≤ b ∧ b < (w6.alloc (.cells #[.slice Ay lq.length lq.length] 28 (0, 0))).heap.size) (fun b h h' => ⟨h, h'⟩))
    have y0 : (w6.alloc (.cells #[.slice Ay lq.length lq.length] 28 (0, 0))).cell? ⟨w4.heap.size, 0, none⟩ = some (.slice Ax lp.length lp.length) := cell_of_block HKX7.out 0
    have y2 : (w6.alloc (.cells #[.slice Ay lq.length lq.length] 28 (0, 0))).cell? ⟨w6.heap.size, 0, none⟩ = some (.slice Ay lq.length lq.length) := cell_of_block HKY7.out 0
    clear hb6 hry b67 y1 HKP5 HKQ5 HKW5 HRW5 HKX5 HRX5
    go_wp2_with fail
    generalize w6.alloc (.cells #[.slice Ay lq.length lq.length] 28 (0, 0)) = w7 at HB7 HKP7 HKQ7 HKW7 HRW7 HKX7 HRX7 HKY7 HRY7 s7 y0 y2 ⊢
    refine (HIMPL.out w7 HB7.out Ax Ay ⟨_, HRX7.out.1⟩ ⟨_, HRY7.out.1⟩).mono ?_
    rintro e w8 ⟨l', v', f', rfl, hres', hown'⟩
    obtain ⟨rfl, rfl⟩ := HRES.out.one hres'
    obtain ⟨hb8, Ag, cg, rfl, hcg, hrg, hog⟩ := hown'
    have s8 := hb8.size
    have b79 : Below w7.heap.size w7 (w8.alloc (.cells #[.slice Ag l.length cg] 28 (0, 0))) := hb8.alloc hb8.size _
    have M9 := Lib.hid (show TwM l lp lq l w.heap.size wc.heap.size w5.heap.size w7.heap.size iw w4.heap.size w6.heap.size w8.heap.size Aw Ax Ay Ag cw lp.length lq.length cg (.slice A1 lp.length c1) (.slice A2 lq.length c2) w  (w8.alloc (.cells #[.slice Ag l.length cg] 28 (0, 0))) from
      ⟨block_below HKP7.out b79, block_below HKQ7.out b79, block_below HKW7.out b79, block_below HKX7.out b79, block_below HKY7.out b79, heap_alloc_new _ _, HRW7.out.frame (Agree.of_below b79), HRX7.out.frame (Agree.of_below b79), HRY7.out.frame (Agree.of_below b79), (Own.of_own hog).frame (Agree.of_below ((Below.refl _ _).alloc (Nat.le_refl _) _)), below_then HB7.out HB7.out.size b79⟩)
    have zw : (w8.alloc (.cells #[.slice Ag l.length cg] 28 (0, 0))).cell? ⟨iw, 0, none⟩ = some (.slice Aw l.length cw) := cell_of_block M9.out.kw 0
    have zg : (w8.alloc (.cells #[.slice Ag l.length cg] 28 (0, 0))).cell? ⟨w8.heap.size, 0, none⟩ = some (.slice Ag l.length cg) := cell_of_block M9.out.kg 0
    have c0 : w.heap.size ≤ wc.heap.size := by omega
    have c1' : wc.heap.size ≤ w5.heap.size := by omega
    have c2' : w5.heap.size ≤ w7.heap.size := by omega
    have HC := Lib.hid (And.intro c0 (And.intro c1' c2'))
    clear hb8 hcg hrg hog b79 hres' y0 y2 HKP7 HKQ7 HKW7 HRW7 HKX7 HRX7 HKY7 HRY7 s4 s5 s6 s7 s8 c0 c1' c2' sw sc hiw
    go_wp2_with fail
    generalize w8.alloc (.cells #[.slice Ag l.length cg] 28 (0, 0)) = w9 at M9 zw zg ⊢
    refine (eqValue_any l l (by omega) rfl _ _ Ag Aw cg cw w9 M9.out.rg.1 M9.out.rw).mono ?_
    rintro e w10 ⟨rfl, hb10⟩
    have M10 := Lib.hid (M9.out.below hb10)
    clear hb10 zw zg M9

    have y0 : w10.cell? ⟨w4.heap.size, 0, none⟩ = some (.slice Ax lp.length lp.length) := cell_of_block M10.out.kx 0
    have y1 : w10.cell? ⟨w.heap.size, 0, none⟩ = some (.slice A1 lp.length c1) := cell_of_block M10.out.ka 0
    have HYx := Lib.hid (fun (W : World) (hq : Below w10.heap.size w10 W) => show W.cell? ⟨w4.heap.size, 0, none⟩ = some (.slice Ax lp.length lp.length) ∧ W.cell? ⟨w.heap.size, 0, none⟩ = some (.slice A1 lp.length c1) from ⟨cell_of_block (M10.out.below hq).kx 0, cell_of_block (M10.out.below hq).ka 0⟩)
    go_wp2
    go_region_held3 (fun W => W.cell? ⟨w4.heap.size, 0, none⟩ = some (.slice Ax lp.length lp.length) ∧ W.cell? ⟨w.heap.size, 0, none⟩ = some (.slice A1 lp.length c1))
      (first | exact ⟨y0, y1⟩ | exact HYx.out _ hq1 | exact HYx.out _ hq2)
      (first
        | (go_at_call 8; refine (HT1.out w10.drew M10.out.bel.drew).mono ?_; rintro e wa ⟨hba, B5, rfl, hr5⟩; have hq1 := tw_drew hba; have hr5r := hr5.1)
        | (go_at_call 10; refine (eqValue_any lp lp HLEN.out.1 rfl _ _ Ax B5 lp.length lp.length wa ((M10.out.below hq1).rx.1) hr5r).mono ?_; rintro e w11 ⟨rfl, hbe⟩; have hq2 : Below w10.heap.size w10 w11 := below_then hq1 hq1.size hbe))
    have M11 := Lib.hid (M10.out.below hq2)
    clear y0 y1 hq1 hq2 hba hbe hr5 hr5r

    have y0 : w11.cell? ⟨w6.heap.size, 0, none⟩ = some (.slice Ay lq.length lq.length) := cell_of_block M11.out.ky 0
    have y1 : w11.cell? ⟨w.heap.size + 1, 0, none⟩ = some (.slice A2 lq.length c2) := cell_of_block M11.out.kb 0
    have HYy := Lib.hid (fun (W : World) (hq : Below w11.heap.size w11 W) => show W.cell? ⟨w6.heap.size, 0, none⟩ = some (.slice Ay lq.length lq.length) ∧ W.cell? ⟨w.heap.size + 1, 0, none⟩ = some (.slice A2 lq.length c2) from ⟨cell_of_block (M11.out.below hq).ky 0, cell_of_block (M11.out.below hq).kb 0⟩)
    go_wp2
    go_region_held3 (fun W => W.cell? ⟨w6.heap.size, 0, none⟩ = some (.slice Ay lq.length lq.length) ∧ W.cell? ⟨w.heap.size + 1, 0, none⟩ = some (.slice A2 lq.length c2))
      (first | exact ⟨y0, y1⟩ | exact HYy.out _ hq1 | exact HYy.out _ hq2)
      (first
        | (go_at_call 8; refine (HT2.out w11.drew M11.out.bel.drew).mono ?_; rintro e wa ⟨hba, B5, rfl, hr5⟩; have hq1 := tw_drew hba; have hr5r := hr5.1)
        | (go_at_call 10; refine (eqValue_any lq lq HLEN.out.2 rfl _ _ Ay B5 lq.length lq.length wa ((M11.out.below hq1).ry.1) hr5r).mono ?_; rintro e w12 ⟨rfl, hbe⟩; have hq2 : Below w11.heap.size w11 w12 := below_then hq1 hq1.size hbe))
    have M12 := Lib.hid (M11.out.below hq2)
    clear y0 y1 hq1 hq2 hba hbe hr5 hr5r

    have zx : w12.cell? ⟨w4.heap.size, 0, none⟩ = some (.slice Ax lp.length lp.length) := cell_of_block M12.out.kx 0
    go_wp2_with fail
    refine (markValue_any lp.length 1 lp.length (by omega) (by omega) _ Ax w12 (by have h := M12.out.rx.2; rwa [ndCells_length] at h)).mono ?_
    rintro e w13 ⟨rfl, ho13, hw13⟩
    obtain ⟨q1, hq1⟩ : ∃ q : Nat, q = 1 + 5 * lp.length := ⟨_, rfl⟩
    have hq1b : q1 ≤ 6000000 := by omega
    rw [← hq1]
    have M13 := Lib.hid (M12.out.mx hw13 (by simp [mkRow]) ho13 HC.out.1 HC.out.2.1 HC.out.2.2)
    have zy : w13.cell? ⟨w6.heap.size, 0, none⟩ = some (.slice Ay lq.length lq.length) := cell_of_block M13.out.ky 0
    clear hw13 ho13 hq1 zx M12
    go_wp2_with fail
    refine (markValue_any lq.length q1 lq.length (by omega) (by omega) _ Ay w13 (by have h := M13.out.ry.2; rwa [ndCells_length] at h)).mono ?_
    rintro e w14 ⟨rfl, ho14, hw14⟩
    obtain ⟨q2, hq2⟩ : ∃ q : Nat, q = q1 + 5 * lq.length := ⟨_, rfl⟩
    have hq2n : ¬ ((q2 : Int) < 0) := by omega
    rw [← hq2]
    have M14 := Lib.hid (M13.out.my hw14 (by simp [mkRow]) ho14 HC.out.1 HC.out.2.1 HC.out.2.2)
    have zw : w14.cell? ⟨iw, 0, none⟩ = some (.slice Aw l.length cw) := cell_of_block M14.out.kw 0
    have zg : w14.cell? ⟨w8.heap.size, 0, none⟩ = some (.slice Ag l.length cg) := cell_of_block M14.out.kg 0
    clear hw14 ho14 hq2 zy M13 hq1b
    go_wp2_with fail
    refine (eqValue_any l l (by omega) rfl _ _ Ag Aw cg cw w14 M14.out.rg.1 M14.out.rw).mono ?_
    rintro e w15 ⟨rfl, hb15⟩
    have M15 := Lib.hid (M14.out.below hb15)
    have zg : w15.cell? ⟨w8.heap.size, 0, none⟩ = some (.slice Ag l.length cg) := cell_of_block M15.out.kg 0
    clear hb15 zw M14
    go_wp2_with fail
    refine (markValue_any l.length 1 cg (by omega) (by omega) _ Ag w15 (by have h := M15.out.rg.2; rwa [ndCells_length] at h)).mono ?_
    rintro e w16 ⟨rfl, ho16, hw16⟩
    obtain ⟨q3, hq3⟩ : ∃ q : Nat, q = 1 + 5 * l.length := ⟨_, rfl⟩
    have hq3n : ¬ ((q3 : Int) < 0) := by omega
    have HQ3 := Lib.hid hq3
    rw [← hq3]
    have M16 := Lib.hid (M15.out.mg hw16 (by simp [mkRow]) ho16 HC.out.1 HC.out.2.1 HC.out.2.2)
    have hml : (mkRow 1 l.length).length = l.length := by simp [mkRow]
    have zg : w16.cell? ⟨w8.heap.size, 0, none⟩ = some (.slice Ag l.length cg) := by have h := cell_of_block M16.out.kg 0; rw [hml] at h; exact h
    have HML := Lib.hid hml
    clear hw16 ho16 hq3 M15 hml
    go_wp2_with fail
    refine (heldValue_any l.length 1 cg (by omega) (by omega) _ Ag w16 M16.out.rg.1).mono ?_
    rintro e w17 ⟨rfl, hb17⟩
    rw [← HQ3.out]
    have M17 := Lib.hid (M16.out.below hb17)
    have HW17 := Lib.hid M17.out.bel
    have HKEEP2 := Lib.hid (fun W (hb : Below w17.heap.size w17 W) => show W.cell? ⟨w.heap.size, 0, none⟩ = some (.slice A1 lp.length c1) ∧ W.cell? ⟨w.heap.size + 1, 0, none⟩ = some (.slice A2 lq.length c2) from ⟨cell_of_block (block_below M17.out.ka hb) 0, cell_of_block (block_below M17.out.kb hb) 0⟩)
    clear hb17 zg M16
    go_upto_region 31 with fail

    go_cut [15, 16] (fun x y wx => TCut diffOp lp lq w17 x y wx)
    case first =>
      have HD0 := Lib.hid (show Below w17.heap.size w17 w17.drew from (Below.refl _ _).drew)
      have HD1 := Lib.hid (fun o => show Below w17.heap.size w17 (w17.drew.alloc o) from (Below.refl _ _).drew.alloc (Nat.le_refl _) o)
      have HD5 := Lib.hid (fun o => show Below w17.heap.size w17 (w17.alloc o).drew from ((Below.refl _ _).alloc (Nat.le_refl _) o).drew)
      have HD3 := Lib.hid (fun (W : World) (o : Obj) (W' : World) (hb : Below (W.alloc o).heap.size (W.alloc o) W') => show W'.heap[W.heap.size]? = some o from (hb.block _ (by simp)).trans (heap_alloc_new W o))
      have HD6 := Lib.hid (fun (W : World) (o : Obj) (W' : World) (hb : Below (W.alloc o).drew.heap.size (W.alloc o).drew W') => show W'.heap[W.heap.size]? = some o from (hb.block _ (by show W.heap.size < (W.alloc o).heap.size; simp)).trans (heap_alloc_new W o))
      have HD2 := Lib.hid (fun (W : World) (o : Obj) => show Below W.heap.size W (W.alloc o) from (Below.refl _ _).alloc (Nat.le_refl _) o)
      have HD4 := Lib.hid (fun (W : World) (o : Obj) (W' : World) (hb : Below (W.alloc o).heap.size (W.alloc o) W') => show Below W.heap.size W W' from below_then ((Below.refl _ _).alloc (Nat.le_refl _) o) (by simp) hb)
      go_region_held3 (fun W => W.cell? ⟨w.heap.size, 0, none⟩ = some (.slice A1 lp.length c1) ∧ W.cell? ⟨w.heap.size + 1, 0, none⟩ = some (.slice A2 lq.length c2))
        (exact HKEEP2.out _ (by with_reducible first | exact hx3.setCell (p := ⟨_, 0, none⟩) hx2.size _ | exact hx3.setCell (p := ⟨_, 0, none⟩) hx1.size _ | exact hx3.setCell (p := ⟨_, 0, none⟩) (Nat.le_refl _) _ | exact hx3 | exact hx3.alloc hx3.size _ | exact hx2 | exact hx2.alloc hx2.size _ | exact hx1 | exact hx1.alloc hx1.size _ | exact HD0.out | exact HD1.out _ | exact HD5.out _))
        (first
          | (go_at_call 16; refine (HIMPL.out _ (below_then HW17.out HW17.out.size (by with_reducible first | exact hx3 | exact hx3.alloc hx3.size _ | exact hx2 | exact hx2.alloc hx2.size _ | exact hx1 | exact hx1.alloc hx1.size _ | exact HD0.out | exact HD1.out _ | exact HD5.out _)) B3 B4 (by with_reducible first | exact ⟨_, hr4r.below hb24⟩ | exact ⟨_, (hr4r.below hb24).below (HD2.out _ _)⟩) (by with_reducible first | exact ⟨_, hr5r⟩ | exact ⟨_, hr5r.below (HD2.out _ _)⟩)).mono ?_; rintro e w6 ⟨l, v, f, rfl, hres, hown⟩; obtain ⟨hb3, Aw, cw, rfl, hcw, hrw, how⟩ := hown; have hx3 : Below w17.heap.size w17 w6 := (by with_reducible first | exact below_then hx2 hx2.size hb3 | exact below_then (hx2.alloc hx2.size _) (hx2.alloc hx2.size _).size hb3); (first | (have hz6 := (hb3.block _ (lt_of_block hz5)).trans hz5; have z0 := cell_of_block hz6 0; have f0 := free_of_block hz6 0; simp at z0) | (have hz6 := HD3.out _ _ _ hb3; have z0 := cell_of_block hz6 0; have f0 := free_of_block hz6 0; simp at z0) | skip))
          | (go_at_call 8; have hx1' := hx1; refine (HT2.out _ (below_then HW17.out HW17.out.size (by with_reducible first | exact hx3 | exact hx3.alloc hx3.size _ | exact hx2 | exact hx2.alloc hx2.size _ | exact hx1 | exact hx1.alloc hx1.size _ | exact HD0.out | exact HD1.out _ | exact HD5.out _))).mono ?_; rintro e w5 ⟨hb2, B4, rfl, hr5⟩; have hr5r := hr5.1; have hb24 : Below w4.heap.size w4 w5 := (by with_reducible first | exact hb2 | exact HD4.out _ _ _ hb2); have hx2 : Below w17.heap.size w17 w5 := below_then hx1 hx1.size hb24; (first | have hz5 := (hb2.block _ (lt_of_block hz4)).trans hz4 | have hz5 := HD3.out _ _ _ hb2 | skip))
          | (go_at_call 8; refine (HT1.out _ (below_then HW17.out HW17.out.size (by with_reducible first | exact hx3 | exact hx3.alloc hx3.size _ | exact hx2 | exact hx2.alloc hx2.size _ | exact hx1 | exact hx1.alloc hx1.size _ | exact HD0.out | exact HD1.out _ | exact HD5.out _))).mono ?_; rintro e w4 ⟨hb1, B3, rfl, hr4⟩; have hr4r := hr4.1; have hx1 : Below w17.heap.size w17 w4 := (by with_reducible first | exact below_then HD0.out (Nat.le_refl _) hb1 | exact below_then (HD1.out _) (HD1.out _).size hb1 | exact below_then (HD5.out _) (HD5.out _).size hb1); (first | have hz4 := HD3.out _ _ _ hb1 | have hz4 := HD6.out _ _ _ hb1 | skip)))
      all_goals
        go_wp2
        go_meet
        have s1 := hx1.size
        have s2 := hx2.size
        have s3 := hb24.size
        have s4 := hb3.size
        first
          | (have hh := tw_early (cw := cw) (g := w5.heap.size) hz6 hx3 s2 hres hrw (by simp); exact hh)
          | (have hh := tw_early (cw := cw) (g := w4.heap.size) hz6 hx3 s1 hres hrw (by have h5 := hb2.size; simp at h5; omega); exact hh)
          | (have hh := tw_early (cw := cw) (g := w17.heap.size) hz6 hx3 (Nat.le_refl _) hres hrw (by have h : (w17.alloc (.cells #[.slice none 0 0] 28 (0, 0))).heap.size ≤ w4.heap.size := hb1.size; simp at h; omega); exact hh)
          | (have hh := tw_late (cw := cw) hx3 hres hrw; exact hh)

    case rest =>
      obtain ⟨ih, Ah, ch, l', f', rfl, rfl, hres', hih, hkh, hrh, hbh⟩ := hcut
      obtain ⟨rfl, rfl⟩ := HRES.out.one hres'
      rename_i wz
      have M18 := Lib.hid (M17.out.below hbh)
      have zh := cell_of_block hkh 0
      have HRH := Lib.hid hrh
      have zw := cell_of_block M18.out.kw 0
      simp at zh zw
      clear hres' hkh hrh hbh M17
      go_wp2_with fail
      refine (eqValue_any l l (by omega) rfl _ _ Ah Aw ch cw _ HRH.out M18.out.rw).mono ?_
      rintro e w19 ⟨rfl, hb19⟩
      have M19 := Lib.hid (M18.out.below hb19)
      have zg : w19.cell? ⟨w8.heap.size, 0, none⟩ = some (.slice Ag l.length cg) := by have h := cell_of_block M19.out.kg 0; rw [HML.out] at h; exact h
      clear hb19 zh zw M18 HRH
      go_wp2_with fail
      refine (heldValue_any l.length 1 cg (by omega) (by omega) _ Ag w19 M19.out.rg.1).mono ?_
      rintro e w20 ⟨rfl, hb20⟩
      rw [← HQ3.out]
      have HB20 := Lib.hid (M19.out.below hb20).bel
      clear hb20 M19
      go_wp2
      go_ret
      exact ⟨rfl, HB20.out⟩
end Go.Proofs.YtcbcndoddikpjaaGreatDoor
