/- The walk of the law of GoodBase. -/
import Derived.Test.YtekamdcojabgeaaGreatDoorBsG3
import Derived.Test.YtekamdcojabgeaaGreatDoorBs4
import Derived.Test.YtekamdcojabgeaaGreatDoorLawOp
namespace Go.Proofs.YtekamdcojabgeaaGreatDoor
open Go.RowKit
theorem BsV.fits.mono {m n : Nat} {b : BsV} (h : b.fits m) (hmn : m ≤ n) : b.fits n := by
  obtain ⟨h1, h2, h3⟩ := h
  refine ⟨by omega, by omega, fun d hd => ⟨by have := (h3 d hd).1; omega, fun x hx => ?_⟩⟩
  have := (h3 d hd).2 x hx
  unfold Nd.small at this ⊢
  omega
theorem bgp_eq {b : BsV} {r r' : Bool} (h : r = true ↔ BsGood b) (h' : r' = true ↔ BsGood b) : r = r' := by
  rw [Bool.eq_iff_iff, h, h']
set_option maxRecDepth 100000 in
set_option maxHeartbeats 2000000 in
theorem lawGoodBase_any (b : BsV) (hf : b.fits 9223372036854775807) (F : Nat → Prop) (A1 A2 : Option Addr) (c1 c2 : Nat) (w : World) (hr1 : StAt F w A1 b.docs) (hr2 : Rds F w A2 (ssCells b.sess)) (htab : Tabs w.heap.size w) :
    Calls Tryz.prog 5 #[b.val A1 c1 A2 c2] w fun e w' => e = .returned (.bool true) ∧ Below w.heap.size w w' := by
  have hb0 : Below w.heap.size w (w.alloc (.cells #[.int .i64 b.applied, .slice A1 b.docs.length c1, .slice A2 b.sess.length c2] 42 (0, 0))) := (Below.refl _ _).alloc (Nat.le_refl _) _
  have k0 := heap_alloc_new w (.cells #[.int .i64 b.applied, .slice A1 b.docs.length c1, .slice A2 b.sess.length c2] 42 (0, 0))
  have HB0 := Lib.hid hb0
  have HR1 := Lib.hid (fun W (hb : Below w.heap.size w W) => hr1.frame (Agree.of_below hb))
  have HR2 := Lib.hid (fun W (hb : Below w.heap.size w W) => hr2.frame (Agree.of_below hb))
  have HT := Lib.hid (fun W (hb : Below w.heap.size w W) => (htab.below hb).mono hb.size)
  clear hr1 hr2 htab hb0
  unfold BsV.val
  go_enter Tryz.func5, Tryz.ntmps5
  go_wp2_with fail
  generalize w.alloc (.cells #[.int .i64 b.applied, .slice A1 b.docs.length c1, .slice A2 b.sess.length c2] 42 (0, 0)) = w1 at HB0 k0 ⊢
  refine (szBase_any b hf F A1 A2 c1 c2 w1 (HR1.out _ HB0.out)).mono ?_
  rintro e w2 ⟨hb2, r, rfl, hr⟩
  have HB2 := Lib.hid (below_then HB0.out HB0.out.size hb2)
  have HK2 := Lib.hid (block_below k0 hb2)
  obtain ⟨x0, x1, x2⟩ := cells3 HK2.out
  clear k0 hb2
  rcases hr with rfl | ⟨m, rfl, hfm⟩
  · go_wp2
    go_ret
    exact ⟨rfl, HB2.out⟩
  · have hf2 : b.fits 1000000000 := hfm.mono (by omega)
    have HF := Lib.hid hf2
    clear hfm hf2 hf
    have HTO := Lib.hid (fun W (hb : Below w.heap.size w W) => toBase_any b HF.out F A1 A2 c1 c2 W (HR1.out _ hb) (HR2.out _ hb))
    go_wp2_with fail
    refine (HTO.out _ HB2.out).mono ?_
    rintro e w3 ⟨hb3, A3, B3, rfl, hs3, ht3⟩
    have HB3 := Lib.hid (below_then HB2.out HB2.out.size hb3)
    have HK3 := Lib.hid (block_below HK2.out hb3)
    have HG := Lib.hid (sGoodBase_any b HF.out _ A3 B3 b.docs.length b.sess.length w3 hs3 ht3)
    clear hb3 hs3 ht3 x0 x1 x2
    unfold BsV.val
    go_wp2_with fail
    refine HG.out.mono ?_
    rintro e w4 ⟨hb4, g, rfl, hg⟩
    have HB4 := Lib.hid (below_then HB3.out HB3.out.size hb4)
    have HK4 := Lib.hid (block_below HK3.out hb4)
    have HG1 := Lib.hid hg
    obtain ⟨x0, x1, x2⟩ := cells3 HK4.out
    clear hb4 hg
    go_wp2_with fail
    refine (HTO.out _ HB4.out).mono ?_
    rintro e w5 ⟨hb5, A5, B5, rfl, hs5, ht5⟩
    have HB5 := Lib.hid (below_then HB4.out HB4.out.size hb5)
    have HK5 := Lib.hid (block_below HK4.out hb5)
    have HS5 := Lib.hid hs5
    have HT5 := Lib.hid ht5
    clear hb5 hs5 ht5 x0 x1 x2
    have k6 := heap_alloc_new w5 (.cells #[.int .i64 b.applied, .slice A5 b.docs.length b.docs.length, .slice B5 b.sess.length b.sess.length] 48 (0, 0))
    have b6 : Below w5.heap.size w5 (w5.alloc (.cells #[.int .i64 b.applied, .slice A5 b.docs.length b.docs.length, .slice B5 b.sess.length b.sess.length] 48 (0, 0))) := (Below.refl _ _).alloc (Nat.le_refl _) _
    have HK6 := Lib.hid k6
    have B6 := Lib.hid b6
    clear k6 b6
    unfold BsV.val
    go_wp2_with fail
    generalize w5.alloc (.cells #[.int .i64 b.applied, .slice A5 b.docs.length b.docs.length, .slice B5 b.sess.length b.sess.length] 48 (0, 0)) = w6 at HK6 B6 ⊢
    have HB6 := Lib.hid (below_then HB5.out HB5.out.size B6.out)
    have HS6 := Lib.hid (HS5.out.frame (Agree.of_below B6.out))
    have HT6 := Lib.hid (HT5.out.frame (Agree.of_below B6.out))
    refine (goodBase_any b HF.out _ A5 B5 b.docs.length b.sess.length w6 HS6.out HT6.out (HT.out _ HB6.out)).mono ?_
    rintro e w7 ⟨hb7, g', rfl, hg'⟩
    obtain rfl := bgp_eq HG1.out hg'
    have HB7 := Lib.hid (below_then HB6.out HB6.out.size hb7)
    have HK7 := Lib.hid (block_below HK6.out hb7)
    have HK70 := Lib.hid (block_below (block_below HK5.out B6.out) hb7)
    have HS7 := Lib.hid (HS6.out.frame (Agree.of_below hb7))
    have HT7 := Lib.hid (HT6.out.frame (Agree.of_below hb7))
    obtain ⟨x0, x1, x2⟩ := cells3 HK70.out
    obtain ⟨y0, y1, y2⟩ := cells3 HK7.out
    clear hb7 hg'
    go_wp2
    go_region_with (first
      | (go_at_call 18
         refine (HTO.out _ (by exact HB7.out.drew)).mono ?_
         rintro e w8 ⟨hb8, A8, B8, rfl, hs8, ht8⟩
         obtain ⟨z0, z1, z2⟩ := cells3 ((hb8.block _ (lt_of_block HK7.out)).trans HK7.out))
      | (go_at_call 20
         refine (eqBase_any b HF.out _ _ _ _ A5 B5 A8 B8 b.docs.length b.sess.length b.docs.length b.sess.length w8 (HS7.out.frame (agree_drew hb8)) (HT7.out.frame (agree_drew hb8)) hs8 ht8).mono ?_
         rintro e w9 ⟨rfl, hb9⟩))
    all_goals
      go_wp2
      go_ret
      exact ⟨rfl, below_then (below_then HB7.out.drew HB7.out.size hb8) (Nat.le_trans HB7.out.size hb8.size) hb9⟩
end Go.Proofs.YtekamdcojabgeaaGreatDoor
