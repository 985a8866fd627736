/- The program's IsClean. -/
import Derived.Test.YteeppdobeeodiaaGreatDoorSp18
import Derived.Test.YteeppdobeeodiaaGreatDoorDf7
namespace Go.Proofs.YteeppdobeeodiaaGreatDoor
open Go.RowKit
set_option maxRecDepth 100000 in
set_option maxHeartbeats 4000000 in
theorem isClean_any (l : List Nd) (hl : l.length ≤ 1000000000) (hsz : SzNd l) (F : Nat → Prop) (A : Option Addr) (c : Nat) (hc : l.length ≤ c) (w : World) (hr : Rds F w A (ndCells l)) (htab : Tabs w.heap.size w) :
    Calls Tryz.prog 11 #[.agg #[.slice A l.length c]] w (IcPost l w) := by
  have hb1 := (Below.refl w.heap.size w).alloc (Nat.le_refl _) (.cells #[.slice A l.length c] 25 (0, 0))
  have HV := Lib.hid (fun W (hb : Below w.heap.size w W) => valOf_any l (by omega) hsz F A c hc W (hr.frame (Agree.of_below hb)) ((htab.below hb).mono hb.size))
  have HB1 := Lib.hid hb1
  clear hr hsz hb1 htab
  go_enter Tryz.func11, Tryz.ntmps11
  go_wp2_with fail
  generalize w.alloc (.cells #[.slice A l.length c] 25 (0, 0)) = w1 at HB1 ⊢
  refine (HV.out w1 HB1.out).mono ?_
  rintro e w2 ⟨hb2, o1, v1, rfl, ho1, hv1⟩
  have HB2 := Lib.hid (below_then HB1.out HB1.out.size hb2)
  have HO := Lib.hid ho1
  have HV1 := Lib.hid hv1
  clear hb2 ho1 hv1
  cases o1 with
  | none =>
    obtain rfl : v1 = .pointer none := HO.out
    have heq := run_eql_nil_nil_val
    go_wp2
    go_ret2
    exact ⟨false, false, rfl, .inr ⟨rfl, rfl, HV1.out.2 rfl⟩, HB2.out⟩
  | some t =>
    have htp : TreeAt _ w2 v1 t := HO.out
    obtain ⟨bp, _, _, _, _, _, rfl, _⟩ := htp.open
    have heq1 := run_eql_ptr_nil bp
    have gt := HV1.out.1 t rfl
    have HGT := Lib.hid gt
    have HTP := Lib.hid htp
    have n2 := gt.count.2
    have HOK := Lib.hid (clean_ok t gt.2.1)
    have HCL := Lib.hid (clean_any t gt.2.1 n2 _ _ w2 htp)
    clear htp gt
    go_wp2_with fail
    refine HCL.out.mono ?_
    rintro e w3 ⟨cv, rfl, hb3, hct⟩
    have HB3 := Lib.hid (below_then HB2.out HB2.out.size hb3)
    have HSM := Lib.hid (same_any t.clean t _ _ cv _ w3 HOK.out.1 (by have := HOK.out.2; omega) HGT.out.2.1 (by omega) hct (HTP.out.below hb3))
    clear hb3 hct HCL
    go_wp2_with fail
    refine HSM.out.mono ?_
    rintro e w4 ⟨rfl, hb4⟩
    have HB4 := Lib.hid (below_then HB3.out HB3.out.size hb4)
    have HD := Lib.hid (show decide (Tree.cmp t.clean t = 0) = t.isClean from by
      rw [Bool.eq_iff_iff, decide_eq_true_eq]
      exact (cmp_zero _ _ HOK.out.1 HGT.out.2.1).trans (clean_same t HGT.out.2.1))
    rw [HD.out]
    clear hb4 HSM
    go_wp2
    go_ret2
    exact ⟨t.isClean, true, rfl, .inl ⟨rfl, t, HGT.out, rfl⟩, HB4.out⟩
end Go.Proofs.YteeppdobeeodiaaGreatDoor
