/- The draw of the law of patches: DrawDiffOf. -/
import Derived.Test.YteeppdobeeodiaaGreatDoorDr9
import Derived.Test.YteeppdobeeodiaaGreatDoorSp18
namespace Go.Proofs.YteeppdobeeodiaaGreatDoor
open Go.RowKit
theorem co_small {l l' : List Nd} {f : Bool} (h : CoRes l l' f) : SmallL l' := by
  rcases h with ⟨_, t, hg, rfl⟩ | ⟨_, rfl, _⟩
  · obtain ⟨hco, hcc⟩ := clean_ok t hg.2.1
    obtain ⟨n1, n2⟩ := hg.count
    have hl := Tree.flat_length t.clean emptyB (-1) 0
    exact ⟨by omega, fun x hx => flat_sz t.clean hco emptyB (-1) 0 (Nat.zero_le _) x hx⟩
  · exact ⟨by simp, fun x hx => by cases hx⟩
theorem SmallL.sz {L : List Nd} (h : SmallL L) : SzNd L := fun x hx => by
  have := h.2 x hx
  omega
theorem dd_cells {w wz : World} {u0 v0 : Value} (k1 : wz.heap[w.heap.size]? = some (.cells #[u0] 25 (0, 0))) (k2 : wz.heap[w.heap.size + 1]? = some (.cells #[v0] 25 (0, 0))) (u v : Value) :
    (((wz.setCell ⟨w.heap.size, 0, none⟩ u).setCell ⟨w.heap.size + 1, 0, none⟩ v).drew).heap[w.heap.size]? = some (.cells #[u] 25 (0, 0)) ∧ (((wz.setCell ⟨w.heap.size, 0, none⟩ u).setCell ⟨w.heap.size + 1, 0, none⟩ v).drew).heap[w.heap.size + 1]? = some (.cells #[v] 25 (0, 0)) := by
  have hne : w.heap.size + 1 ≠ w.heap.size := by omega
  have hk2 := block_agree k2 (Agree.of_setCell (F := fun b => b ≠ w.heap.size) wz ⟨w.heap.size, 0, none⟩ u (fun _ h => h)) hne
  have h3 := block_agree (block_setCell k1 0 u) (Agree.of_setCell (F := fun b => b ≠ w.heap.size + 1) _ ⟨w.heap.size + 1, 0, none⟩ v (fun _ h => h)) (show w.heap.size ≠ w.heap.size + 1 by omega)
  exact ⟨h3, block_setCell hk2 0 v⟩
theorem RowOf.other {L : List Nd} {base g : Nat} {v : Value} {w : World} {cs : Array Value} (h : RowOf L base v w) (hk : w.heap[g]? = some (.cells cs 25 (0, 0))) (u : Value) : RowOf L base v (w.setCell ⟨g, 0, none⟩ u) := by
  obtain ⟨A, c, rfl, hc, ho⟩ := h
  have hn := own_not_at ho hk (by decide)
  exact ⟨A, c, rfl, hc, own_agree ho (Agree.of_setCell (F := fun b => b ≠ g) _ _ _ (fun _ h => h)) (fun k hk e => hn k hk e.symm)⟩
theorem dd_post {w wz : World} {L1 L2 : List Nd} {A1 A2 : Option Addr} {c1 c2 b1 b2 : Nat} (s1 : SmallL L1) (s2 : SmallL L2) (r1 : RowOf L1 b1 (.slice A1 L1.length c1) wz) (r2 : RowOf L2 b2 (.slice A2 L2.length c2) wz) (h1 : w.heap.size + 1 < b1) (h2 : w.heap.size + 1 < b2) (hb : Below w.heap.size w wz) :
    DrawTwo w (.returned (.tuple #[.agg #[.slice A1 L1.length c1], .agg #[.slice A2 L2.length c2]])) (((wz.setCell ⟨w.heap.size, 0, none⟩ (.slice A1 L1.length c1)).setCell ⟨w.heap.size + 1, 0, none⟩ (.slice A2 L2.length c2)).drew) :=
  ⟨L1, _, L2, _, rfl, s1, s2, (((r1.set (by omega) _).set (by omega) _).below (Below.refl _ _).drew).weaken (by omega), (((r2.set (by omega) _).set (by omega) _).below (Below.refl _ _).drew).weaken (by omega), ((hb.setCell (p := ⟨w.heap.size, 0, none⟩) (Nat.le_refl _) _).setCell (p := ⟨w.heap.size + 1, 0, none⟩) (by show w.heap.size ≤ w.heap.size + 1; omega) _).drew⟩
set_option maxRecDepth 100000 in
set_option maxHeartbeats 4000000 in
theorem drawDiff_any (F : Nat → Prop) (A : Option Addr) (c : Nat) (l : List Int) (w : World) (hr : Rds F w A (u8s l)) (hc : l.length ≤ c) (hl : l.length ≤ 9223372036854775807) (hb : ∀ x ∈ l, 0 ≤ x ∧ x ≤ 255) :
    Calls Tryz.prog 15 #[.slice A l.length c] w (DrawTwo w) := by
  obtain ⟨w2, hw2⟩ : ∃ w2, w2 = (w.alloc (.cells #[.slice none 0 0] 25 (0, 0))).alloc (.cells #[.slice none 0 0] 25 (0, 0)) := ⟨_, rfl⟩
  have hs2 : w2.heap.size = w.heap.size + 2 := by rw [hw2]; simp
  have hb2 : Below w.heap.size w w2 := by rw [hw2]; exact ((Below.refl _ _).alloc (Nat.le_refl _) _).alloc (by simp) _
  have h1 : w2.heap[w.heap.size]? = some (.cells #[.slice none 0 0] 25 (0, 0)) := by rw [hw2]; (repeat (first | with_reducible assumption | (with_reducible refine blk_new _ ?_; (first | rfl | (simp; done) | (simp; omega))) | with_reducible apply block_setCell | (with_reducible refine blk_skip _ _ ?_ ?_; rotate_left; (first | (simp; done) | (simp; omega))) | with_reducible refine blk_old ?_))
  have h2 : w2.heap[w.heap.size + 1]? = some (.cells #[.slice none 0 0] 25 (0, 0)) := by rw [hw2]; (repeat (first | with_reducible assumption | (with_reducible refine blk_new _ ?_; (first | rfl | (simp; done) | (simp; omega))) | with_reducible apply block_setCell | (with_reducible refine blk_skip _ _ ?_ ?_; rotate_left; (first | (simp; done) | (simp; omega))) | with_reducible refine blk_old ?_))
  have hbk := (Below.refl w2.heap.size w2).alloc (Nat.le_refl _) (.cells #[.slice A l.length c, .int .i64 0, .int .u64 0] 54 (0, 0))
  have hcur := cur_new (hr.frame (Agree.of_below hb2)) hc hl hb
  have HM0 := Lib.hid (Moved.refl hcur)
  have HK1 := Lib.hid (block_below h1 hbk)
  have HK2 := Lib.hid (block_below h2 hbk)
  have HB3 := Lib.hid (below_then hb2 hb2.size hbk)
  have HW := Lib.hid hw2
  have HV1 := Lib.hid (mapV_q HM0.out (by omega))
  have hs3 : (w2.alloc (.cells #[.slice A l.length c, .int .i64 0, .int .u64 0] 54 (0, 0))).heap.size = w.heap.size + 3 := by simp [hs2]
  clear hr hw2 hb2 h1 h2 hbk hcur hb
  go_enter Tryz.func15, Tryz.ntmps15
  go_wp2_with fail
  rw [← HW.out]
  rw [show w.heap.size + 1 + 1 = w2.heap.size by omega]
  generalize w2.alloc (.cells #[.slice A l.length c, .int .i64 0, .int .u64 0] 54 (0, 0)) = w3 at HM0 HK1 HK2 HB3 HV1 hs3 ⊢
  clear HW
  generalize w2.heap.size = k at *
  have hk1 : w.heap.size + 1 < k := by omega
  have hk3 : k < w3.heap.size := by omega
  clear hs2 hs3
  refine HV1.out.mono ?_
  rintro e w4 ⟨⟨L1, v1, rfl, hsm1, hr1⟩, hm, hag⟩
  obtain ⟨A6, c6, rfl, _⟩ := id hr1
  have hbA := (Below.refl w4.heap.size w4).alloc (Nat.le_refl _) (.cells #[.slice A6 L1.length c6] 25 (0, 0))
  have HKA := Lib.hid (heap_alloc_new w4 (.cells #[.slice A6 L1.length c6] 25 (0, 0)))
  have HK1b := Lib.hid (block_below (block_agree HK1.out hag (show w.heap.size ≠ k by omega)) hbA)
  have HK2b := Lib.hid (block_below (block_agree HK2.out hag (show w.heap.size + 1 ≠ k by omega)) hbA)
  have HM5 := Lib.hid (hm.below hbA)
  have HR1 := Lib.hid (hr1.below hbA)
  have HS1 := Lib.hid hsm1
  have HV2 := Lib.hid (mapV_q HM5.out (by omega))
  have hs34 := hm.size
  have hga : k < w4.heap.size := by have := hag.size; omega
  clear hm hag hr1 hsm1 HV1 HK1 HK2 hbA
  go_wp2_with fail
  generalize w4.alloc (.cells #[.slice A6 L1.length c6] 25 (0, 0)) = w5 at HKA HK1b HK2b HM5 HR1 HV2 ⊢
  have hga5 : w4.heap.size < w5.heap.size := lt_of_block HKA.out
  generalize w4.heap.size = ga at *
  refine HV2.out.mono ?_
  rintro e w6 ⟨⟨L2, v2, rfl, hsm2, hr2⟩, hm, hag⟩
  obtain ⟨A7, c7, rfl, _⟩ := id hr2
  have hbB := (Below.refl w6.heap.size w6).alloc (Nat.le_refl _) (.cells #[.slice A7 L2.length c7] 25 (0, 0))
  have HKB := Lib.hid (heap_alloc_new w6 (.cells #[.slice A7 L2.length c7] 25 (0, 0)))
  have HK1c := Lib.hid (block_below (block_agree HK1b.out hag (show w.heap.size ≠ k by omega)) hbB)
  have HK2c := Lib.hid (block_below (block_agree HK2b.out hag (show w.heap.size + 1 ≠ k by omega)) hbB)
  have HKAc := Lib.hid (block_below (block_agree HKA.out hag (show ga ≠ k by omega)) hbB)
  have HM7 := Lib.hid (hm.below hbB)
  have HR1c := Lib.hid ((HR1.out.kept hag (by omega)).below hbB)
  have HR2 := Lib.hid (hr2.below hbB)
  have HS2 := Lib.hid hsm2
  have hs56 := hag.size
  have HCO := Lib.hid (show Calls Tryz.prog 14 #[.agg #[.slice A7 L2.length c7]] (w6.alloc (.cells #[.slice A7 L2.length c7] 25 (0, 0))) (CoPost L2 (w6.alloc (.cells #[.slice A7 L2.length c7] 25 (0, 0)))) from by
    obtain ⟨A', c', e', _, hrd⟩ := HR2.out.rds
    injection e' with e1 e2 e3
    subst e1 e3
    exact sCleanOfV_any L2 (by have := hsm2.1; omega) hsm2.sz _ _ _ _ hrd)
  clear hm hag hr2 hsm2 HV2 HK1b HK2b HKA HR1 HM5 hbB
  go_wp2_with fail
  generalize w6.alloc (.cells #[.slice A7 L2.length c7] 25 (0, 0)) = w7 at HKB HK1c HK2c HKAc HM7 HR1c HR2 HCO ⊢
  have hgb5 : ga < w6.heap.size := by omega
  have hgb7 : w6.heap.size < w7.heap.size := lt_of_block HKB.out
  obtain ⟨gb, hgb⟩ : ∃ gb, gb = w6.heap.size := ⟨_, rfl⟩
  rw [← hgb] at HKB hgb5 hgb7 hs56 ⊢
  clear hgb
  refine HCO.out.mono ?_
  rintro e w8 ⟨L3, v3, f, rfl, hco, hown⟩
  obtain ⟨A8, c8, rfl⟩ := hown.shape
  have HS3 := Lib.hid (co_small hco)
  have hbX := (Below.refl w8.heap.size w8).alloc (Nat.le_refl _) (.cells #[.slice A8 L3.length c8] 25 (0, 0))
  have HKX := Lib.hid (heap_alloc_new w8 (.cells #[.slice A8 L3.length c8] 25 (0, 0)))
  have hb79 := below_then hown.1 hown.1.size hbX
  have HK1d := Lib.hid (block_below HK1c.out hb79)
  have HK2d := Lib.hid (block_below HK2c.out hb79)
  have HKAd := Lib.hid (block_below HKAc.out hb79)
  have HKBd := Lib.hid (block_below HKB.out hb79)
  have HM9 := Lib.hid (HM7.out.below hb79)
  have HR1d := Lib.hid (HR1c.out.below hb79)
  have HR2d := Lib.hid (HR2.out.below hb79)
  have HR3d := Lib.hid (hown.rowOf.below hbX)
  have hs78 := hown.1.size
  clear hco hown hbX hb79 HCO HK1c HK2c HKAc HKB HM7 HR1c HR2
  cases f
  · generalize hw9 : w8.alloc (.cells #[.slice A8 L3.length c8] 25 (0, 0)) = w9 at HKX HK1d HK2d HKAd HKBd HM9 HR1d HR2d HR3d
    have a0 := cell_of_block HKAd.out 0
    have b0 := cell_of_block HKBd.out 0
    have f1 := free_of_block HK1d.out 0
    have f2 := free_of_block HK2d.out 0
    have x1 := cell_of_block HK1d.out 0
    have x2 := cell_of_block HK2d.out 0
    simp at a0 b0 x1 x2
    have HF := Lib.hid (dd_cells HK1d.out HK2d.out)
    have HP := Lib.hid (dd_post HS1.out HS2.out HR1d.out HR2d.out (by omega) (by omega) (HB3.out.trans (HM9.out.1.mono (by omega))))
    go_wp2
    clear hw9
    go_region
    go_wp2
    refine bodyPost_ret (results_row_two rfl _ _ w.heap.size (w.heap.size + 1) _ _ _ _ _ rfl rfl (HF.out _ _).1 (HF.out _ _).2 Tryz.underlying25 rfl ((info_size infoValue).trans (by simp)) ((info_size infoValue).trans (by simp))) rfl ?_
    exact HP.out
  · have HONE := Lib.hid (one_q 4 (by omega) (by omega) HM9.out (by omega))
    have hgx : gb < w8.heap.size := by omega
    have hgx9 : w8.heap.size < (w8.alloc (.cells #[.slice A8 L3.length c8] 25 (0, 0))).heap.size := lt_of_block HKX.out
    go_wp2_with fail
    generalize w8.alloc (.cells #[.slice A8 L3.length c8] 25 (0, 0)) = w9 at HKX HK1d HK2d HKAd HKBd HM9 HR1d HR2d HR3d HONE hgx9 ⊢
    obtain ⟨gx, hgxe⟩ : ∃ gx, gx = w8.heap.size := ⟨_, rfl⟩
    rw [← hgxe] at HKX hgx hgx9 hs78 ⊢
    clear hgxe
    refine HONE.out.mono ?_
    rintro e w10 ⟨⟨b, rfl⟩, hm, hag⟩
    have HK1e := Lib.hid (block_agree HK1d.out hag (show w.heap.size ≠ k by omega))
    have HK2e := Lib.hid (block_agree HK2d.out hag (show w.heap.size + 1 ≠ k by omega))
    have HKAe := Lib.hid (block_agree HKAd.out hag (show ga ≠ k by omega))
    have HKBe := Lib.hid (block_agree HKBd.out hag (show gb ≠ k by omega))
    have HKXe := Lib.hid (block_agree HKX.out hag (show gx ≠ k by omega))
    have HR1e := Lib.hid (HR1d.out.kept hag (by omega))
    have HR2e := Lib.hid (HR2d.out.kept hag (by omega))
    have HR3e := Lib.hid (HR3d.out.kept hag (by omega))
    have HBe := Lib.hid (HB3.out.trans (hm.1.mono (show w.heap.size ≤ k by omega)))
    have hs9 := hag.size
    clear hm hag HONE HK1d HK2d HKAd HKBd HKX HR1d HR2d HR3d HM9 HM0 HB3
    cases b
    · have hkx := cell_of_block HKXe.out 0
      have b0 := cell_of_block HKBe.out 0
      have fb := free_of_block HKBe.out 0
      simp at hkx b0
      have hk1 := block_agree HK1e.out (Agree.of_setCell (F := fun b => b ≠ gb) w10 ⟨gb, 0, none⟩ (.slice A8 L3.length c8) (fun _ h => h)) (show w.heap.size ≠ gb by omega)
      have hk2 := block_agree HK2e.out (Agree.of_setCell (F := fun b => b ≠ gb) w10 ⟨gb, 0, none⟩ (.slice A8 L3.length c8) (fun _ h => h)) (show w.heap.size + 1 ≠ gb by omega)
      have hka := block_agree HKAe.out (Agree.of_setCell (F := fun b => b ≠ gb) w10 ⟨gb, 0, none⟩ (.slice A8 L3.length c8) (fun _ h => h)) (show ga ≠ gb by omega)
      have hkb := block_setCell HKBe.out 0 (.slice A8 L3.length c8)
      have HF := Lib.hid (dd_cells hk1 hk2)
      have HP := Lib.hid (dd_post HS1.out HS3.out (HR1e.out.other HKBe.out (.slice A8 L3.length c8)) (HR3e.out.other HKBe.out (.slice A8 L3.length c8)) (by omega) (by omega) (HBe.out.setCell (p := ⟨gb, 0, none⟩) (by show w.heap.size ≤ gb; omega) _))
      have a0 := cell_of_block hka 0
      have b1 := cell_of_block hkb 0
      have f1 := free_of_block hk1 0
      have f2 := free_of_block hk2 0
      have x1 := cell_of_block hk1 0
      have x2 := cell_of_block hk2 0
      simp at a0 b1 f1 f2 x1 x2
      clear hk1 hk2 hka hkb
      go_wp2
      go_region
      go_wp2
      refine bodyPost_ret (results_row_two rfl _ _ w.heap.size (w.heap.size + 1) _ _ _ _ _ rfl rfl (HF.out _ _).1 (HF.out _ _).2 Tryz.underlying25 rfl ((info_size infoValue).trans (by simp)) ((info_size infoValue).trans (by simp))) rfl ?_
      exact HP.out
    · have a0 := cell_of_block HKAe.out 0
      have b0 := cell_of_block HKBe.out 0
      have f1 := free_of_block HK1e.out 0
      have f2 := free_of_block HK2e.out 0
      have x1 := cell_of_block HK1e.out 0
      have x2 := cell_of_block HK2e.out 0
      simp at a0 b0 x1 x2
      have HF := Lib.hid (dd_cells HK1e.out HK2e.out)
      have HP := Lib.hid (dd_post HS1.out HS2.out HR1e.out HR2e.out (by omega) (by omega) HBe.out)
      go_wp2
      go_region
      go_wp2
      refine bodyPost_ret (results_row_two rfl _ _ w.heap.size (w.heap.size + 1) _ _ _ _ _ rfl rfl (HF.out _ _).1 (HF.out _ _).2 Tryz.underlying25 rfl ((info_size infoValue).trans (by simp)) ((info_size infoValue).trans (by simp))) rfl ?_
      exact HP.out
end Go.Proofs.YteeppdobeeodiaaGreatDoor
