/- The walk of the law of GoodOp. -/
import Derived.Test.YtekamdcojabgeaaGreatDoorGoodOp
import Derived.Deep.RegionWith
namespace Go.Proofs.YtekamdcojabgeaaGreatDoor
open Go.RowKit
theorem agree_drew {F : Nat → Prop} {w w1 : World} (h : Below w.drew.heap.size w.drew w1) : Agree F w w1 := ⟨h.size, fun b _ hb => h.block b hb⟩
set_option maxHeartbeats 1000000 in
theorem lawGoodOp_any (p : OpV) (l : List Nd) (hl : l.length ≤ 9223372036854775807) (hsz : ∀ x ∈ l, x.small 9223372036854775807) (F : Nat → Prop) (A : Option Addr) (c : Nat) (_hc : l.length ≤ c) (w : World) (hr : Rds F w A (ndCells l)) (htab : Tabs w.heap.size w) :
    Calls Tryz.prog 3 #[p.val A l.length c] w fun e w' => e = .returned (.bool true) ∧ Below w.heap.size w w' := by
  have hb0 : ∀ o1, Below w.heap.size w (w.alloc o1) := fun o1 => (Below.refl _ _).alloc (Nat.le_refl _) _
  have HB0 := Lib.hid (hb0 (.cells #[.int .i64 p.kind, .int .i64 p.id, .slice A l.length c, .int .i64 p.session, .int .i64 p.no] 26 (0, 0)))
  have k0 : (w.alloc (.cells #[.int .i64 p.kind, .int .i64 p.id, .slice A l.length c, .int .i64 p.session, .int .i64 p.no] 26 (0, 0))).heap[w.heap.size]? = some (.cells #[.int .i64 p.kind, .int .i64 p.id, .slice A l.length c, .int .i64 p.session, .int .i64 p.no] 26 (0, 0)) := heap_alloc_new _ _
  have HR := Lib.hid hr
  have HT := Lib.hid htab
  clear hr htab hb0
  unfold OpV.val
  go_enter Tryz.func3, Tryz.ntmps3
  go_wp2_with fail
  generalize w.alloc (.cells #[.int .i64 p.kind, .int .i64 p.id, .slice A l.length c, .int .i64 p.session, .int .i64 p.no] 26 (0, 0)) = w1 at HB0 k0 ⊢
  refine (szOp_any p l hl hsz F A c 1048576 (by omega) w1 (HR.out.frame (Agree.of_below HB0.out))).mono ?_
  rintro e w2 ⟨hb2, r, rfl, hr⟩
  have HB2 := Lib.hid (below_then HB0.out HB0.out.size hb2)
  have HK2 := Lib.hid (block_below k0 hb2)
  obtain ⟨x0, x1, x2, x3, x4⟩ := cells5 HK2.out
  clear k0 hb2
  rcases hr with rfl | ⟨m, rfl, hm, hlm, hsm⟩
  · go_wp2
    go_ret
    exact ⟨rfl, HB2.out⟩
  · have hl2 : l.length ≤ 1000000000 := by omega
    have hs2 : ∀ x ∈ l, x.text.size ≤ 9223372036854775807 ∧ x.name.size ≤ 9223372036854775807 := fun x hx => by have := hsm x hx; unfold Nd.small at this; omega
    have HS := Lib.hid hs2
    clear hsm hs2 hsz
    have HTO := Lib.hid (fun W (hb : Below w.heap.size w W) => toOp_any p l hl2 F A c W (HR.out.frame (Agree.of_below hb)))
    go_wp2_with fail
    refine (HTO.out _ HB2.out).mono ?_
    rintro e w3 ⟨hb3, A3, rfl, hr3⟩
    have HB3 := Lib.hid (below_then HB2.out HB2.out.size hb3)
    have HK3 := Lib.hid (block_below HK2.out hb3)
    have HG := Lib.hid (sGoodOp_any p l (by omega) HS.out _ A3 l.length w3 hr3)
    clear hb3 hr3 x0 x1 x2 x3 x4
    unfold OpV.val
    go_wp2_with fail
    refine HG.out.mono ?_
    rintro e w4 ⟨hb4, g, rfl, hg⟩
    have HB4 := Lib.hid (below_then HB3.out HB3.out.size hb4)
    have HK4 := Lib.hid (block_below HK3.out hb4)
    have HG1 := Lib.hid hg
    obtain ⟨x0, x1, x2, x3, x4⟩ := cells5 HK4.out
    clear hb4 hg
    go_wp2_with fail
    refine (HTO.out _ HB4.out).mono ?_
    rintro e w5 ⟨hb5, A5, rfl, hr5⟩
    have HB5 := Lib.hid (below_then HB4.out HB4.out.size hb5)
    have HK5 := Lib.hid (block_below HK4.out hb5)
    have HR5 := Lib.hid hr5
    clear hb5 hr5 x0 x1 x2 x3 x4
    have k6 := heap_alloc_new w5 (.cells #[.int .i64 p.kind, .int .i64 p.id, .slice A5 l.length l.length, .int .i64 p.session, .int .i64 p.no] 33 (0, 0))
    have b6 : Below w5.heap.size w5 (w5.alloc (.cells #[.int .i64 p.kind, .int .i64 p.id, .slice A5 l.length l.length, .int .i64 p.session, .int .i64 p.no] 33 (0, 0))) := (Below.refl _ _).alloc (Nat.le_refl _) _
    have HK6 := Lib.hid k6
    have B6 := Lib.hid b6
    clear k6 b6
    unfold OpV.val
    go_wp2_with fail
    generalize w5.alloc (.cells #[.int .i64 p.kind, .int .i64 p.id, .slice A5 l.length l.length, .int .i64 p.session, .int .i64 p.no] 33 (0, 0)) = w6 at HK6 B6 ⊢
    have HB6 := Lib.hid (below_then HB5.out HB5.out.size B6.out)
    have HR6 := Lib.hid (HR5.out.frame (Agree.of_below B6.out))
    refine (goodOp_any p l hl2 HS.out _ A5 l.length (Nat.le_refl _) w6 HR6.out ((HT.out.below HB6.out).mono HB6.out.size)).mono ?_
    rintro e w7 ⟨hb7, g', rfl, hg'⟩
    obtain rfl := HG1.out.eq hg'
    have HB7 := Lib.hid (below_then HB6.out HB6.out.size hb7)
    have HK7 := Lib.hid (block_below HK6.out hb7)
    have HK70 := Lib.hid (block_below (block_below HK5.out B6.out) hb7)
    have HR7 := Lib.hid (HR6.out.frame (Agree.of_below hb7))
    obtain ⟨x0, x1, x2, x3, x4⟩ := cells5 HK70.out
    obtain ⟨y0, y1, y2, y3, y4⟩ := cells5 HK7.out
    clear hb7 hg'
    go_wp2
    go_region_with (first
      | (go_at_call 11
         refine (HTO.out _ (by exact HB7.out.drew)).mono ?_
         rintro e w8 ⟨hb8, A8, rfl, hr8⟩
         obtain ⟨z0, z1, z2, z3, z4⟩ := cells5 ((hb8.block _ (lt_of_block HK7.out)).trans HK7.out))
      | (go_at_call 13
         refine (eqOp_any p l hl2 _ _ A5 A8 l.length l.length w8 (HR7.out.frame (agree_drew hb8)) hr8).mono ?_
         rintro e w9 ⟨rfl, hb9⟩))
    all_goals
      go_wp2
      go_ret
      exact ⟨rfl, below_then (below_then HB7.out.drew HB7.out.size hb8) (Nat.le_trans HB7.out.size hb8.size) hb9⟩
end Go.Proofs.YtekamdcojabgeaaGreatDoor
