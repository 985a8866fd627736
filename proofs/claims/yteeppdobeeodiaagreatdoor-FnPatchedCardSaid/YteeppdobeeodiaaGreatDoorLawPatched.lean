/- The walk of the law of patches: what differs, put to the one, is the other, and a patch put twice is put once. -/
import Derived.Test.YteeppdobeeodiaaGreatDoorDr10
import Derived.Test.YteeppdobeeodiaaGreatDoorSm
import Derived.Test.YteeppdobeeodiaaGreatDoorSp12
import Derived.Test.YteeppdobeeodiaaGreatDoorSp16
import Derived.Test.YteeppdobeeodiaaGreatDoorPl2
namespace Go.Proofs.YteeppdobeeodiaaGreatDoor
open Go.RowKit
/-- A variable that holds a value. -/
structure Vr (g : Nat) (L : List Nd) (A : Option Addr) (d : Nat) (W : World) : Prop where
  blk : W.heap[g]? = some (.cells #[.slice A L.length d] 25 (0, 0))
  cap : L.length ≤ d
  row : Rds (fun _ => True) W A (ndCells L)
section
variable {g d : Nat} {L : List Nd} {A : Option Addr} {W W' : World} {G : Nat → Prop}
theorem Vr.below (h : Vr g L A d W) (hb : Below W.heap.size W W') : Vr g L A d W' := ⟨block_below h.blk hb, h.cap, h.row.below hb⟩
theorem Vr.cell (h : Vr g L A d W) : W.cell? ⟨g, 0, none⟩ = some (.slice A L.length d) := cell_of_block h.blk 0
theorem Vr.new (hd : L.length ≤ d) (hr : Rds G W A (ndCells L)) : Vr W.heap.size L A d (W.alloc (.cells #[.slice A L.length d] 25 (0, 0))) :=
  ⟨heap_alloc_new _ _, hd, (hr.mono (fun _ _ _ => trivial)).below ((Below.refl _ _).alloc (Nat.le_refl _) _)⟩
end
theorem patch_small {lp lq l : List Nd} {f : Bool} (h : TwoRes patchOp lp lq l f) : SmallL l := by
  rcases h with ⟨_, tp, tq, t, h1, h2, h3, h4, rfl⟩ | ⟨_, rfl, _⟩
  · unfold patchOp at h3
    injection h3 with h3
    have ho := (patch_ok tq tp h1.2.1 h2.2.1).1
    rw [h3] at ho
    exact (told_small (f := true) ho (.inl ⟨rfl, t, rfl, h4, rfl⟩)).1
  · exact ⟨by simp, fun x hx => by cases hx⟩
theorem diff_small {lp lq l : List Nd} {f : Bool} (h : TwoRes diffOp lp lq l f) : SmallL l := by
  rcases h with ⟨_, tp, tq, t, h1, h2, h3, h4, rfl⟩ | ⟨_, rfl, _⟩
  · unfold diffOp at h3
    split at h3
    · injection h3 with h3
      have ho := (diff_ok tp tq h1.2.1 h2.2.1).1
      rw [h3] at ho
      exact (told_small (f := true) ho (.inl ⟨rfl, t, rfl, h4, rfl⟩)).1
    · cases h3
  · exact ⟨by simp, fun x hx => by cases hx⟩
/-- What differs, put to the one, is the other. -/
theorem tw_diff {a b d : List Nd} (h : TwoRes diffOp a b d true) : TwoRes patchOp a d b true := by
  rcases h with ⟨_, ta, tb, t, h1, h2, h3, h4, rfl⟩ | ⟨h, _⟩
  · unfold diffOp at h3
    split at h3
    · next hc =>
      injection h3 with h3
      have ho := (diff_ok ta tb h1.2.1 h2.2.1).1
      rw [h3] at ho
      have hp := diff_patch ta tb h1.2.1 h2.2.1 hc
      rw [h3] at hp
      exact .inl ⟨rfl, ta, t, tb, h1, ⟨rfl, ho, h4⟩, by unfold patchOp; rw [hp], h2.2.2, h2.1⟩
    · cases h3
  · cases h
/-- A patch put twice is put once. -/
theorem tw_twice {v p x : List Nd} (h : TwoRes patchOp v p x true) : TwoRes patchOp x p x true := by
  rcases h with ⟨_, tv, tp, t, h1, h2, h3, h4, rfl⟩ | ⟨h, _⟩
  · unfold patchOp at h3
    injection h3 with h3
    have ho := (patch_ok tp tv h1.2.1 h2.2.1).1
    rw [h3] at ho
    have hp := patch_twice tp tv h2.2.1 h1.2.1
    rw [h3] at hp
    exact .inl ⟨rfl, t, tp, t, ⟨rfl, ho, h4⟩, h2, by unfold patchOp; rw [hp], h4, rfl⟩
  · cases h
theorem tw_none {v p x : List Nd} (h : TwoRes patchOp v p x false) : x = [] := by
  rcases h with ⟨h, _⟩ | ⟨_, h, _⟩
  · cases h
  · exact h
set_option maxRecDepth 100000 in
set_option maxHeartbeats 16000000 in
theorem lawPatched_any (la : List Int) (hla : la.length ≤ 9223372036854775807) (hsa : ∀ x ∈ la, 0 ≤ x ∧ x ≤ 255) (F1 : Nat → Prop) (A1 : Option Addr) (c1 : Nat) (hc1 : la.length ≤ c1) (lb : List Int) (hlb : lb.length ≤ 9223372036854775807) (hsb : ∀ x ∈ lb, 0 ≤ x ∧ x ≤ 255) (F2 : Nat → Prop) (A2 : Option Addr) (c2 : Nat) (hc2 : lb.length ≤ c2) (w : World) (hr1 : Rds F1 w A1 (u8s la)) (hr2 : Rds F2 w A2 (u8s lb)) (htab : Tabs w.heap.size w) :
    Calls Tryz.prog 4 #[.slice A1 la.length c1, .slice A2 lb.length c2] w fun e w' => e = .returned (.bool true) ∧ Below w.heap.size w w' := by
  have HT := Lib.hid (fun W (hb : Below w.heap.size w W) => (htab.below hb).mono hb.size)
  have HD1 := Lib.hid (drawDiff_any F1 A1 c1 la w hr1 hc1 hla hsa)
  have HD2 := Lib.hid (fun W (hb : Below w.heap.size w W) => drawApply_any F2 A2 c2 lb W (hr2.below hb) hc2 hlb hsb)
  have HSD := Lib.hid (fun W (L1 L2 : List Nd) (s1 : SmallL L1) (s2 : SmallL L2) (B1 B2 : Option Addr) (d1 d2 : Nat) (r1 : Rds (fun _ => True) W B1 (ndCells L1)) (r2 : Rds (fun _ => True) W B2 (ndCells L2)) => sDiffOf_any L1 L2 (by have := s1.1; omega) (by have := s2.1; omega) s1.sz s2.sz _ B1 B2 d1 d2 W r1 r2)
  have HSA := Lib.hid (fun W (L1 L2 : List Nd) (s1 : SmallL L1) (s2 : SmallL L2) (B1 B2 : Option Addr) (d1 d2 : Nat) (r1 : Rds (fun _ => True) W B1 (ndCells L1)) (r2 : Rds (fun _ => True) W B2 (ndCells L2)) => sApplyPatch_any L1 L2 (by have := s1.1; omega) (by have := s2.1; omega) s1.sz s2.sz _ B1 B2 d1 d2 W r1 r2)
  have HPD := Lib.hid (fun W (hb : Below w.heap.size w W) (L1 L2 : List Nd) (s1 : SmallL L1) (s2 : SmallL L2) (B1 B2 : Option Addr) (d1 d2 : Nat) (e1 : L1.length ≤ d1) (e2 : L2.length ≤ d2) (r1 : Rds (fun _ => True) W B1 (ndCells L1)) (r2 : Rds (fun _ => True) W B2 (ndCells L2)) => diffOf_any L1 L2 (by have := s1.1; omega) (by have := s2.1; omega) s1.sz s2.sz _ B1 B2 d1 d2 e1 e2 W r1 r2 (HT.out W hb))
  have HPA := Lib.hid (fun W (hb : Below w.heap.size w W) (L1 L2 : List Nd) (s1 : SmallL L1) (s2 : SmallL L2) (B1 B2 : Option Addr) (d1 d2 : Nat) (e1 : L1.length ≤ d1) (e2 : L2.length ≤ d2) (r1 : Rds (fun _ => True) W B1 (ndCells L1)) (r2 : Rds (fun _ => True) W B2 (ndCells L2)) => applyPatch_any L1 L2 (by have := s1.1; omega) (by have := s2.1; omega) s1.sz s2.sz _ B1 B2 d1 d2 e1 e2 W r1 r2 (HT.out W hb))
  have HSM := Lib.hid (fun W (L1 L2 : List Nd) (s1 : SmallL L1) (s2 : SmallL L2) (B1 B2 : Option Addr) (d1 d2 : Nat) (r1 : Rds (fun _ => True) W B1 (ndCells L1)) (r2 : Rds (fun _ => True) W B2 (ndCells L2)) => lawSame_any L1 L2 (by have := s1.1; omega) (by have := s2.1; omega) _ _ B1 B2 d1 d2 W r1 r2)
  clear hr1 hr2 htab hsa hsb hla hlb hc1 hc2
  by_cases hbig : (1048576 : Int) < wrap64 ((la.length : Int) + (lb.length : Int))
  · have hd : decide ((1048576 : Int) < wrap64 ((la.length : Int) + (lb.length : Int))) = true := by simpa using hbig
    clear hbig
    go_enter Tryz.func4, Tryz.ntmps4
    go_wp2
    go_ret
    exact ⟨rfl, Below.refl _ _⟩
  · have hd : decide ((1048576 : Int) < wrap64 ((la.length : Int) + (lb.length : Int))) = false := by simpa using hbig
    clear hbig
    go_enter Tryz.func4, Tryz.ntmps4
    go_wp2_with fail
    refine HD1.out.mono ?_
    rintro e wn ⟨La, v1, Lb, v2, rfl, hs1, hs2, hr1, hr2, hb⟩
    have HB := Lib.hid (Below.refl w.heap.size w)
    obtain ⟨Aa, da, rfl, hda, hqa⟩ := hr1.rds
    obtain ⟨Ab, db, rfl, hdb, hqb⟩ := hr2.rds
    have Sa := Lib.hid hs1
    have Sb := Lib.hid hs2
    have hba := (Below.refl wn.heap.size wn).alloc (Nat.le_refl _) (.cells #[.slice Aa La.length da] 25 (0, 0))
    have hbb := hba.alloc hba.size (.cells #[.slice Ab Lb.length db] 25 (0, 0))
    have hga : (wn.alloc (.cells #[.slice Aa La.length da] 25 (0, 0))).heap.size = wn.heap.size + 1 := by simp
    have Va := Lib.hid ((Vr.new hda hqa).below ((Below.refl _ _).alloc (Nat.le_refl _) (.cells #[.slice Ab Lb.length db] 25 (0, 0))))
    have vb := Vr.new hdb (hqb.below hba)
    rw [hga] at vb
    have Vb := Lib.hid vb
    replace HB := Lib.hid (below_then HB.out HB.out.size (below_then hb hb.size hbb))
    clear hda hqa hdb hqb hs1 hs2 hba hbb hga vb hr1 hr2 hb HD1
    have xx := Va.out.cell
    have xy := Vb.out.cell
    go_wp2_with fail
    clear xx xy
    generalize (wn.alloc (.cells #[.slice Aa La.length da] 25 (0, 0))).alloc (.cells #[.slice Ab Lb.length db] 25 (0, 0)) = w2 at Va Vb HB ⊢
    generalize wn.heap.size = ga at Va Vb ⊢
    refine (HPD.out _ HB.out La Lb Sa.out Sb.out Aa Ab da db Va.out.cap Vb.out.cap Va.out.row Vb.out.row).mono ?_
    rintro e wn ⟨Ld, u, fd, rfl, hres, hb, Ad, dd, rfl, hd, hq, _⟩
    have hbb := below_then hb hb.size ((Below.refl wn.heap.size wn).alloc (Nat.le_refl _) (.cells #[.slice Ad Ld.length dd] 25 (0, 0)))
    replace Va := Lib.hid (Va.out.below hbb)
    replace Vb := Lib.hid (Vb.out.below hbb)
    have Vd := Lib.hid (Vr.new hd hq)
    replace HB := Lib.hid (below_then HB.out HB.out.size hbb)
    have Rd := Lib.hid hres
    clear hb hbb hd hq hres
    have xx := Va.out.cell
    have xy := Vb.out.cell
    go_wp2_with fail
    clear xx xy
    generalize wn.alloc (.cells #[.slice Ad Ld.length dd] 25 (0, 0)) = w4 at Va Vb Vd HB ⊢
    generalize wn.heap.size = gd at Vd ⊢
    refine (HSD.out _ La Lb Sa.out Sb.out Aa Ab da db Va.out.row Vb.out.row).mono ?_
    rintro e wn ⟨Le, u, fe, rfl, hres, hb, Ae, de, rfl, hd, hq, _⟩
    have hbb := below_then hb hb.size ((Below.refl wn.heap.size wn).alloc (Nat.le_refl _) (.cells #[.slice Ae Le.length de] 25 (0, 0)))
    replace Va := Lib.hid (Va.out.below hbb)
    replace Vb := Lib.hid (Vb.out.below hbb)
    replace Vd := Lib.hid (Vd.out.below hbb)
    have Ve := Lib.hid (Vr.new hd hq)
    replace HB := Lib.hid (below_then HB.out HB.out.size hbb)
    have Re := Lib.hid hres
    clear hb hbb hd hq hres
    obtain ⟨rfl, rfl⟩ := Rd.out.one Re.out
    have Sd := Lib.hid (diff_small Rd.out)
    have xx := Vd.out.cell
    have xy := Ve.out.cell
    go_wp2_with fail
    clear xx xy
    generalize wn.alloc (.cells #[.slice Ae Ld.length de] 25 (0, 0)) = w5 at Va Vb Vd Ve HB ⊢
    generalize wn.heap.size = ge at Ve ⊢
    refine (HSM.out _ _ _ Sd.out Sd.out Ad Ae dd de Vd.out.row Ve.out.row).mono ?_
    rintro e wn ⟨⟨b, rfl, hb1⟩, hb⟩
    obtain rfl : b = true := hb1.2 rfl
    replace Va := Lib.hid (Va.out.below hb)
    replace Vb := Lib.hid (Vb.out.below hb)
    replace Vd := Lib.hid (Vd.out.below hb)
    replace HB := Lib.hid (below_then HB.out HB.out.size hb)
    clear hb hb1
    cases fd
    case' true =>
      have Rx0 := Lib.hid (tw_diff Rd.out)
      have xx := Va.out.cell
      have xy := Vd.out.cell
      go_wp2_with fail
      clear xx xy
      refine (HPA.out _ HB.out La Ld Sa.out Sd.out Aa Ad da dd Va.out.cap Vd.out.cap Va.out.row Vd.out.row).mono ?_
      rintro e wn ⟨Lx, u, fx, rfl, hres, hb, Ax, dx, rfl, hd, hq, _⟩
      have hbb := below_then hb hb.size ((Below.refl wn.heap.size wn).alloc (Nat.le_refl _) (.cells #[.slice Ax Lx.length dx] 25 (0, 0)))
      replace Va := Lib.hid (Va.out.below hbb)
      replace Vb := Lib.hid (Vb.out.below hbb)
      replace Vd := Lib.hid (Vd.out.below hbb)
      have Vx := Lib.hid (Vr.new hd hq)
      replace HB := Lib.hid (below_then HB.out HB.out.size hbb)
      have Rx := Lib.hid hres
      clear hb hbb hd hq hres
      obtain ⟨rfl, rfl⟩ := Rx0.out.one Rx.out
      have xx := Vx.out.cell
      have xy := Vb.out.cell
      go_wp2_with fail
      clear xx xy
      generalize wn.alloc (.cells #[.slice Ax Lb.length dx] 25 (0, 0)) = w7 at Va Vb Vd Vx HB ⊢
      generalize wn.heap.size = gx at Vx ⊢
      refine (HSM.out _ _ _ Sb.out Sb.out Ax Ab dx db Vx.out.row Vb.out.row).mono ?_
      rintro e wn ⟨⟨b, rfl, hb1⟩, hb⟩
      obtain rfl : b = true := hb1.2 rfl
      replace HB := Lib.hid (below_then HB.out HB.out.size hb)
      clear hb hb1
    all_goals
      clear Va Vb Vd Sa Sb Sd Rd
      go_wp2_with fail
      refine (HD2.out _ HB.out).mono ?_
      rintro e wn ⟨Lv, v1, Lp, v2, rfl, hs1, hs2, hr1, hr2, hb⟩
      obtain ⟨Av, dv, rfl, hda, hqa⟩ := hr1.rds
      obtain ⟨Ap, dp, rfl, hdb, hqb⟩ := hr2.rds
      have Sv := Lib.hid hs1
      have Sp := Lib.hid hs2
      have hba := (Below.refl wn.heap.size wn).alloc (Nat.le_refl _) (.cells #[.slice Av Lv.length dv] 25 (0, 0))
      have hbb := hba.alloc hba.size (.cells #[.slice Ap Lp.length dp] 25 (0, 0))
      have hga : (wn.alloc (.cells #[.slice Av Lv.length dv] 25 (0, 0))).heap.size = wn.heap.size + 1 := by simp
      have Vv := Lib.hid ((Vr.new hda hqa).below ((Below.refl _ _).alloc (Nat.le_refl _) (.cells #[.slice Ap Lp.length dp] 25 (0, 0))))
      have vb := Vr.new hdb (hqb.below hba)
      rw [hga] at vb
      have Vp := Lib.hid vb
      replace HB := Lib.hid (below_then HB.out HB.out.size (below_then hb hb.size hbb))
      clear hda hqa hdb hqb hs1 hs2 hba hbb hga vb hr1 hr2 hb
      have xx := Vv.out.cell
      have xy := Vp.out.cell
      go_wp2_with fail
      clear xx xy
      generalize (wn.alloc (.cells #[.slice Av Lv.length dv] 25 (0, 0))).alloc (.cells #[.slice Ap Lp.length dp] 25 (0, 0)) = w8 at Vv Vp HB ⊢
      generalize wn.heap.size = gv at Vv Vp ⊢
      refine (HPA.out _ HB.out Lv Lp Sv.out Sp.out Av Ap dv dp Vv.out.cap Vp.out.cap Vv.out.row Vp.out.row).mono ?_
      rintro e wn ⟨Ly, u, fy, rfl, hres, hb, Ay, dy, rfl, hd, hq, _⟩
      have hbb := below_then hb hb.size ((Below.refl wn.heap.size wn).alloc (Nat.le_refl _) (.cells #[.slice Ay Ly.length dy] 25 (0, 0)))
      replace Vv := Lib.hid (Vv.out.below hbb)
      replace Vp := Lib.hid (Vp.out.below hbb)
      have Vy := Lib.hid (Vr.new hd hq)
      replace HB := Lib.hid (below_then HB.out HB.out.size hbb)
      have Ry := Lib.hid hres
      clear hb hbb hd hq hres
      have xx := Vv.out.cell
      have xy := Vp.out.cell
      go_wp2_with fail
      clear xx xy
      generalize wn.alloc (.cells #[.slice Ay Ly.length dy] 25 (0, 0)) = w9 at Vv Vp Vy HB ⊢
      generalize wn.heap.size = gy at Vy ⊢
      refine (HSA.out _ Lv Lp Sv.out Sp.out Av Ap dv dp Vv.out.row Vp.out.row).mono ?_
      rintro e wn ⟨Lz, u, fz, rfl, hres, hb, Az, dz, rfl, hd, hq, _⟩
      have hbb := below_then hb hb.size ((Below.refl wn.heap.size wn).alloc (Nat.le_refl _) (.cells #[.slice Az Lz.length dz] 25 (0, 0)))
      replace Vv := Lib.hid (Vv.out.below hbb)
      replace Vp := Lib.hid (Vp.out.below hbb)
      replace Vy := Lib.hid (Vy.out.below hbb)
      have Vz := Lib.hid (Vr.new hd hq)
      replace HB := Lib.hid (below_then HB.out HB.out.size hbb)
      have Rz := Lib.hid hres
      clear hb hbb hd hq hres
      obtain ⟨rfl, rfl⟩ := Ry.out.one Rz.out
      have Sy := Lib.hid (patch_small Ry.out)
      have xx := Vy.out.cell
      have xy := Vz.out.cell
      go_wp2_with fail
      clear xx xy
      generalize wn.alloc (.cells #[.slice Az Ly.length dz] 25 (0, 0)) = w10 at Vv Vp Vy Vz HB ⊢
      generalize wn.heap.size = gz at Vz ⊢
      refine (HSM.out _ _ _ Sy.out Sy.out Ay Az dy dz Vy.out.row Vz.out.row).mono ?_
      rintro e wn ⟨⟨b, rfl, hb1⟩, hb⟩
      obtain rfl : b = true := hb1.2 rfl
      replace Vp := Lib.hid (Vp.out.below hb)
      replace Vy := Lib.hid (Vy.out.below hb)
      replace HB := Lib.hid (below_then HB.out HB.out.size hb)
      clear hb hb1
      cases fy
      case false =>
        obtain rfl := tw_none Ry.out
        have xx := Vy.out.cell
        go_wp2
        go_ret
        exact ⟨rfl, HB.out⟩
      case true =>
        have Rt0 := Lib.hid (tw_twice Ry.out)
        have xx := Vy.out.cell
        have xy := Vp.out.cell
        go_wp2_with fail
        clear xx xy
        refine (HPA.out _ HB.out Ly Lp Sy.out Sp.out Ay Ap dy dp Vy.out.cap Vp.out.cap Vy.out.row Vp.out.row).mono ?_
        rintro e wn ⟨Lt, u, ft, rfl, hres, hb, At, dt, rfl, hd, hq, _⟩
        have hbb := below_then hb hb.size ((Below.refl wn.heap.size wn).alloc (Nat.le_refl _) (.cells #[.slice At Lt.length dt] 25 (0, 0)))
        replace Vy := Lib.hid (Vy.out.below hbb)
        have Vt := Lib.hid (Vr.new hd hq)
        replace HB := Lib.hid (below_then HB.out HB.out.size hbb)
        have Rt := Lib.hid hres
        clear hb hbb hd hq hres
        obtain ⟨rfl, rfl⟩ := Rt0.out.one Rt.out
        have xx := Vt.out.cell
        have xy := Vy.out.cell
        go_wp2_with fail
        clear xx xy
        generalize wn.alloc (.cells #[.slice At Ly.length dt] 25 (0, 0)) = w11 at Vy Vt HB ⊢
        generalize wn.heap.size = gt at Vt ⊢
        refine (HSM.out _ _ _ Sy.out Sy.out At Ay dt dy Vt.out.row Vy.out.row).mono ?_
        rintro e wn ⟨⟨b, rfl, hb1⟩, hb⟩
        obtain rfl : b = true := hb1.2 rfl
        replace HB := Lib.hid (below_then HB.out HB.out.size hb)
        clear hb hb1
        go_wp2
        go_ret
        exact ⟨rfl, HB.out⟩
end Go.Proofs.YteeppdobeeodiaaGreatDoor
