/- The walk of the law of joined patches: they do what one behind the other does, and what is cleaned is clean. -/
import Derived.Test.YteeppdobeeodiaaGreatDoorDr9
import Derived.Test.YteeppdobeeodiaaGreatDoorSm
import Derived.Test.YteeppdobeeodiaaGreatDoorSp9
import Derived.Test.YteeppdobeeodiaaGreatDoorAp5
import Derived.Test.YteeppdobeeodiaaGreatDoorDf8
import Derived.Test.YteeppdobeeodiaaGreatDoorDf9
import Derived.Test.YteeppdobeeodiaaGreatDoorPl2
namespace Go.Proofs.YteeppdobeeodiaaGreatDoor
open Go.RowKit
theorem co_small {l l' : List Nd} {f : Bool} (h : CoRes l l' f) : SmallL l' := by
  rcases h with ⟨_, t, hg, rfl⟩ | ⟨_, rfl, _⟩
  · obtain ⟨hco, hcc⟩ := clean_ok t hg.2.1
    obtain ⟨n1, n2⟩ := hg.count
    have hl := Tree.flat_length t.clean emptyB (-1) 0
    exact ⟨by omega, fun x hx => flat_sz t.clean hco emptyB (-1) 0 (Nat.zero_le _) x hx⟩
  · exact ⟨by simp, fun x hx => by cases hx⟩
theorem SmallL.sz {L : List Nd} (h : SmallL L) : SzNd L := fun x hx => by
  have := h.2 x hx
  omega
/-- A variable that holds a value. -/
structure Vr (g : Nat) (L : List Nd) (A : Option Addr) (d : Nat) (W : World) : Prop where
  blk : W.heap[g]? = some (.cells #[.slice A L.length d] 25 (0, 0))
  cap : L.length ≤ d
  row : Rds (fun _ => True) W A (ndCells L)
section
variable {g d : Nat} {L : List Nd} {A : Option Addr} {W W' : World} {G : Nat → Prop}
theorem Vr.below (h : Vr g L A d W) (hb : Below W.heap.size W W') : Vr g L A d W' := ⟨block_below h.blk hb, h.cap, h.row.below hb⟩
theorem Vr.cell (h : Vr g L A d W) : W.cell? ⟨g, 0, none⟩ = some (.slice A L.length d) := cell_of_block h.blk 0
theorem Vr.new (hd : L.length ≤ d) (hr : Rds G W A (ndCells L)) : Vr W.heap.size L A d (W.alloc (.cells #[.slice A L.length d] 25 (0, 0))) :=
  ⟨heap_alloc_new _ _, hd, (hr.mono (fun _ _ _ => trivial)).below ((Below.refl _ _).alloc (Nat.le_refl _) _)⟩
end
theorem patch_small {lp lq l : List Nd} {f : Bool} (h : TwoRes patchOp lp lq l f) : SmallL l := by
  rcases h with ⟨_, tp, tq, t, h1, h2, h3, h4, rfl⟩ | ⟨_, rfl, _⟩
  · unfold patchOp at h3
    injection h3 with h3
    have ho := (patch_ok tq tp h1.2.1 h2.2.1).1
    rw [h3] at ho
    exact (told_small (f := true) ho (.inl ⟨rfl, t, rfl, h4, rfl⟩)).1
  · exact ⟨by simp, fun x hx => by cases hx⟩
theorem join_small {lp lq l : List Nd} {f : Bool} (h : TwoRes Tree.join lp lq l f) : SmallL l := by
  rcases h with ⟨_, tp, tq, t, h1, h2, h3, h4, rfl⟩ | ⟨_, rfl, _⟩
  · exact (told_small (f := true) (join_ok tq tp t h1.2.1 h2.2.1 h3).1 (.inl ⟨rfl, t, rfl, h4, rfl⟩)).1
  · exact ⟨by simp, fun x hx => by cases hx⟩
/-- Joined patches do what one behind the other does. -/
theorem tw_join {p q j v x y z : List Nd} (h : TwoRes Tree.join p q j true) (hx : TwoRes patchOp v p x true) (hy : TwoRes patchOp x q y true) (hz : TwoRes patchOp v j z true) : y = z := by
  rcases h with ⟨_, tp, tq, tj, h1, h2, h3, h4, rfl⟩ | ⟨h, _⟩
  case inr => cases h
  rcases hx with ⟨_, tv, tp', tx, g1, g2, g3, g4, rfl⟩ | ⟨h, _⟩
  case inr => cases h
  rcases hy with ⟨_, tx', tq', ty, k1, k2, k3, k4, rfl⟩ | ⟨h, _⟩
  case inr => cases h
  rcases hz with ⟨_, tv', tj', tz, m1, m2, m3, m4, rfl⟩ | ⟨h, _⟩
  case inr => cases h
  obtain rfl := isGood_one h1 g2
  obtain rfl := isGood_one h2 k2
  obtain rfl := isGood_one g1 m1
  unfold patchOp at g3 k3 m3
  injection g3 with g3
  injection k3 with k3
  injection m3 with m3
  have hj := (join_ok tq tp tj h1.2.1 h2.2.1 h3).1
  have hx := (patch_ok tp tv g1.2.1 h1.2.1).1
  rw [g3] at hx
  obtain rfl := isGood_one (t := tx) ⟨rfl, hx, g4⟩ k1
  obtain rfl := isGood_one (t := tj) ⟨rfl, hj, h4⟩ m2
  have e := join_patch tq tp tj tv h2.2.1 h1.2.1 g1.2.1 h3
  rw [g3, k3, m3] at e
  rw [e]
theorem co_none {v x : List Nd} (h : CoRes v x false) : x = [] := by
  rcases h with ⟨h, _⟩ | ⟨_, h, _⟩
  · cases h
  · exact h
/-- What is cleaned is clean, and is the same just where it was clean. -/
theorem co_clean {v x : List Nd} {c i n t : Bool} (h : CoRes v x true) (hc : IcRes v c i) (hn : IcRes x n t) : t = true ∧ n = true ∧ (c = true ↔ x = v) := by
  rcases h with ⟨_, tv, h1, rfl⟩ | ⟨h, _⟩
  case inr => cases h
  have ho := (clean_ok tv h1.2.1).1
  have hg := clean_good h1.2.1 h1.2.2
  have hI : IsGood (tv.clean.flat emptyB (-1) 0) tv.clean := ⟨rfl, ho, hg⟩
  rcases hn with ⟨rfl, tn, g1, rfl⟩ | ⟨_, _, g1⟩
  case inr => exact absurd hI (g1 _)
  obtain rfl := isGood_one hI g1
  refine ⟨rfl, cleaned_clean tv, ?_⟩
  rcases hc with ⟨rfl, tc, k1, rfl⟩ | ⟨_, _, k1⟩
  case inr => exact absurd h1 (k1 _)
  obtain rfl := isGood_one h1 k1
  rw [← clean_same tv h1.2.1]
  constructor
  · intro e
    rw [e]
    exact h1.1.symm
  · intro e
    exact flat_inj (l := tv.clean.flat emptyB (-1) 0) rfl ho (e.trans h1.1) h1.2.1
set_option maxRecDepth 100000 in
set_option maxHeartbeats 16000000 in
theorem lawJoined_any (la : List Int) (hla : la.length ≤ 9223372036854775807) (hsa : ∀ x ∈ la, 0 ≤ x ∧ x ≤ 255) (F1 : Nat → Prop) (A1 : Option Addr) (c1 : Nat) (hc1 : la.length ≤ c1) (lb : List Int) (hlb : lb.length ≤ 9223372036854775807) (hsb : ∀ x ∈ lb, 0 ≤ x ∧ x ≤ 255) (F2 : Nat → Prop) (A2 : Option Addr) (c2 : Nat) (hc2 : lb.length ≤ c2) (w : World) (hr1 : Rds F1 w A1 (u8s la)) (hr2 : Rds F2 w A2 (u8s lb)) (htab : Tabs w.heap.size w) :
    Calls Tryz.prog 3 #[.slice A1 la.length c1, .slice A2 lb.length c2] w fun e w' => e = .returned (.bool true) ∧ Below w.heap.size w w' := by
  have HT := Lib.hid (fun W (hb : Below w.heap.size w W) => (htab.below hb).mono hb.size)
  have HD1 := Lib.hid (drawJoin_any F1 A1 c1 la w hr1 hc1 hla hsa)
  have HD2 := Lib.hid (fun W (hb : Below w.heap.size w W) => drawIsClean_any F2 A2 c2 lb W (hr2.below hb) hc2 hlb hsb)
  have HPJ := Lib.hid (fun W (hb : Below w.heap.size w W) (L1 L2 : List Nd) (s1 : SmallL L1) (s2 : SmallL L2) (B1 B2 : Option Addr) (d1 d2 : Nat) (e1 : L1.length ≤ d1) (e2 : L2.length ≤ d2) (r1 : Rds (fun _ => True) W B1 (ndCells L1)) (r2 : Rds (fun _ => True) W B2 (ndCells L2)) => joinPatches_any L1 L2 (by have := s1.1; omega) (by have := s2.1; omega) s1.sz s2.sz _ B1 B2 d1 d2 e1 e2 W r1 r2 (HT.out W hb))
  have HSJ := Lib.hid (fun W (L1 L2 : List Nd) (s1 : SmallL L1) (s2 : SmallL L2) (B1 B2 : Option Addr) (d1 d2 : Nat) (r1 : Rds (fun _ => True) W B1 (ndCells L1)) (r2 : Rds (fun _ => True) W B2 (ndCells L2)) => sJoinPatches_any L1 L2 (by have := s1.1; omega) (by have := s2.1; omega) s1.sz s2.sz _ B1 B2 d1 d2 W r1 r2)
  have HPA := Lib.hid (fun W (hb : Below w.heap.size w W) (L1 L2 : List Nd) (s1 : SmallL L1) (s2 : SmallL L2) (B1 B2 : Option Addr) (d1 d2 : Nat) (e1 : L1.length ≤ d1) (e2 : L2.length ≤ d2) (r1 : Rds (fun _ => True) W B1 (ndCells L1)) (r2 : Rds (fun _ => True) W B2 (ndCells L2)) => applyPatch_any L1 L2 (by have := s1.1; omega) (by have := s2.1; omega) s1.sz s2.sz _ B1 B2 d1 d2 e1 e2 W r1 r2 (HT.out W hb))
  have HPI := Lib.hid (fun W (hb : Below w.heap.size w W) (L1 : List Nd) (s1 : SmallL L1) (B1 : Option Addr) (d1 : Nat) (e1 : L1.length ≤ d1) (r1 : Rds (fun _ => True) W B1 (ndCells L1)) => isClean_any L1 (by have := s1.1; omega) s1.sz _ B1 d1 e1 W r1 (HT.out W hb))
  have HSI := Lib.hid (fun W (L1 : List Nd) (s1 : SmallL L1) (B1 : Option Addr) (d1 : Nat) (r1 : Rds (fun _ => True) W B1 (ndCells L1)) => sIsClean_any L1 (by have := s1.1; omega) s1.sz _ B1 d1 W r1)
  have HPC := Lib.hid (fun W (hb : Below w.heap.size w W) (L1 : List Nd) (s1 : SmallL L1) (B1 : Option Addr) (d1 : Nat) (e1 : L1.length ≤ d1) (r1 : Rds (fun _ => True) W B1 (ndCells L1)) => cleanOf_any L1 (by have := s1.1; omega) s1.sz _ B1 d1 e1 W r1 (HT.out W hb))
  have HSC := Lib.hid (fun W (L1 : List Nd) (s1 : SmallL L1) (B1 : Option Addr) (d1 : Nat) (r1 : Rds (fun _ => True) W B1 (ndCells L1)) => sCleanOfV_any L1 (by have := s1.1; omega) s1.sz _ B1 d1 W r1)
  have HSM := Lib.hid (fun W (L1 L2 : List Nd) (s1 : SmallL L1) (s2 : SmallL L2) (B1 B2 : Option Addr) (d1 d2 : Nat) (r1 : Rds (fun _ => True) W B1 (ndCells L1)) (r2 : Rds (fun _ => True) W B2 (ndCells L2)) => lawSame_any L1 L2 (by have := s1.1; omega) (by have := s2.1; omega) _ _ B1 B2 d1 d2 W r1 r2)
  clear hr1 hr2 htab hsa hsb hla hlb hc1 hc2
  by_cases hbig : (1048576 : Int) < wrap64 ((la.length : Int) + (lb.length : Int))
  · have hd : decide ((1048576 : Int) < wrap64 ((la.length : Int) + (lb.length : Int))) = true := by simpa using hbig
    clear hbig
    go_enter Tryz.func3, Tryz.ntmps3
    go_wp2
    go_ret
    exact ⟨rfl, Below.refl _ _⟩
  · have hd : decide ((1048576 : Int) < wrap64 ((la.length : Int) + (lb.length : Int))) = false := by simpa using hbig
    clear hbig
    go_enter Tryz.func3, Tryz.ntmps3
    go_wp2_with fail
    refine HD1.out.mono ?_
    rintro e wn ⟨La, v1, Lb, v2, rfl, hs1, hs2, hr1, hr2, hb⟩
    clear hd
    have HB := Lib.hid (Below.refl w.heap.size w)
    obtain ⟨Aa, da, rfl, hda, hqa⟩ := hr1.rds
    obtain ⟨Ab, db, rfl, hdb, hqb⟩ := hr2.rds
    have Sa := Lib.hid hs1
    have Sb := Lib.hid hs2
    have hba := (Below.refl wn.heap.size wn).alloc (Nat.le_refl _) (.cells #[.slice Aa La.length da] 25 (0, 0))
    have hbb := hba.alloc hba.size (.cells #[.slice Ab Lb.length db] 25 (0, 0))
    have hga : (wn.alloc (.cells #[.slice Aa La.length da] 25 (0, 0))).heap.size = wn.heap.size + 1 := by simp
    have Va := Lib.hid ((Vr.new hda hqa).below ((Below.refl _ _).alloc (Nat.le_refl _) (.cells #[.slice Ab Lb.length db] 25 (0, 0))))
    have vb := Vr.new hdb (hqb.below hba)
    rw [hga] at vb
    have Vb := Lib.hid vb
    replace HB := Lib.hid (below_then HB.out HB.out.size (below_then hb hb.size hbb))
    clear hda hqa hdb hqb hs1 hs2 hba hbb hga vb hr1 hr2 hb HD1
    have xx := Va.out.cell
    have xy := Vb.out.cell
    go_wp2_with fail
    clear xx xy
    generalize (wn.alloc (.cells #[.slice Aa La.length da] 25 (0, 0))).alloc (.cells #[.slice Ab Lb.length db] 25 (0, 0)) = w2 at Va Vb HB ⊢
    generalize wn.heap.size = ga at Va Vb ⊢
    refine (HPJ.out _ HB.out La Lb Sa.out Sb.out Aa Ab da db Va.out.cap Vb.out.cap Va.out.row Vb.out.row).mono ?_
    rintro e wn ⟨Ld, u, fd, rfl, hres, hb, Ad, dd, rfl, hd, hq, _⟩
    have hbb := below_then hb hb.size ((Below.refl wn.heap.size wn).alloc (Nat.le_refl _) (.cells #[.slice Ad Ld.length dd] 25 (0, 0)))
    replace Va := Lib.hid (Va.out.below hbb)
    replace Vb := Lib.hid (Vb.out.below hbb)
    have Vd := Lib.hid (Vr.new hd hq)
    replace HB := Lib.hid (below_then HB.out HB.out.size hbb)
    have Rd := Lib.hid hres
    clear hb hbb hd hq hres
    have xx := Va.out.cell
    have xy := Vb.out.cell
    go_wp2_with fail
    clear xx xy
    generalize wn.alloc (.cells #[.slice Ad Ld.length dd] 25 (0, 0)) = w4 at Va Vb Vd HB ⊢
    generalize wn.heap.size = gd at Vd ⊢
    refine (HSJ.out _ La Lb Sa.out Sb.out Aa Ab da db Va.out.row Vb.out.row).mono ?_
    rintro e wn ⟨Le, u, fe, rfl, hres, hb, Ae, de, rfl, hd, hq, _⟩
    have hbb := below_then hb hb.size ((Below.refl wn.heap.size wn).alloc (Nat.le_refl _) (.cells #[.slice Ae Le.length de] 25 (0, 0)))
    replace Va := Lib.hid (Va.out.below hbb)
    replace Vb := Lib.hid (Vb.out.below hbb)
    replace Vd := Lib.hid (Vd.out.below hbb)
    have Ve := Lib.hid (Vr.new hd hq)
    replace HB := Lib.hid (below_then HB.out HB.out.size hbb)
    have Re := Lib.hid hres
    clear hb hbb hd hq hres
    obtain ⟨rfl, rfl⟩ := Rd.out.one Re.out
    have Sd := Lib.hid (join_small Rd.out)
    have xx := Vd.out.cell
    have xy := Ve.out.cell
    go_wp2_with fail
    clear xx xy
    generalize wn.alloc (.cells #[.slice Ae Ld.length de] 25 (0, 0)) = w5 at Va Vb Vd Ve HB ⊢
    generalize wn.heap.size = ge at Ve ⊢
    refine (HSM.out _ _ _ Sd.out Sd.out Ad Ae dd de Vd.out.row Ve.out.row).mono ?_
    rintro e wn ⟨⟨b, rfl, hb1⟩, hb⟩
    obtain rfl : b = true := hb1.2 rfl
    replace Va := Lib.hid (Va.out.below hb)
    replace Vb := Lib.hid (Vb.out.below hb)
    replace Vd := Lib.hid (Vd.out.below hb)
    replace HB := Lib.hid (below_then HB.out HB.out.size hb)
    clear hb hb1
    clear Ve Re
    go_wp2_with fail
    refine (HD2.out _ HB.out).mono ?_
    rintro e wn ⟨Lv, v1, rfl, hs1, hr1, hb⟩
    obtain ⟨Av, dv, rfl, hd, hq⟩ := hr1.rds
    have Sv := Lib.hid hs1
    have hbb := below_then hb hb.size ((Below.refl wn.heap.size wn).alloc (Nat.le_refl _) (.cells #[.slice Av Lv.length dv] 25 (0, 0)))
    replace Va := Lib.hid (Va.out.below hbb)
    replace Vb := Lib.hid (Vb.out.below hbb)
    replace Vd := Lib.hid (Vd.out.below hbb)
    have Vv := Lib.hid (Vr.new hd hq)
    replace HB := Lib.hid (below_then HB.out HB.out.size hbb)
    clear hb hbb hd hq hs1 hr1
    cases fd
    case' true =>
      have xx := Vv.out.cell
      have xy := Va.out.cell
      go_wp2_with fail
      clear xx xy
      generalize wn.alloc (.cells #[.slice Av Lv.length dv] 25 (0, 0)) = w6 at Va Vb Vd Vv HB ⊢
      generalize wn.heap.size = gv at Vv ⊢
      refine (HPA.out _ HB.out Lv La Sv.out Sa.out Av Aa dv da Vv.out.cap Va.out.cap Vv.out.row Va.out.row).mono ?_
      rintro e wn ⟨Lx, u, fx, rfl, hres, hb, Ax, dx, rfl, hd, hq, _⟩
      have hbb := below_then hb hb.size ((Below.refl wn.heap.size wn).alloc (Nat.le_refl _) (.cells #[.slice Ax Lx.length dx] 25 (0, 0)))
      replace Va := Lib.hid (Va.out.below hbb)
      replace Vb := Lib.hid (Vb.out.below hbb)
      replace Vd := Lib.hid (Vd.out.below hbb)
      replace Vv := Lib.hid (Vv.out.below hbb)
      have Vx := Lib.hid (Vr.new hd hq)
      replace HB := Lib.hid (below_then HB.out HB.out.size hbb)
      have Rx := Lib.hid hres
      clear hb hbb hd hq hres
      have Sx := Lib.hid (patch_small Rx.out)
      have xx := Vx.out.cell
      have xy := Vb.out.cell
      go_wp2_with fail
      clear xx xy
      generalize wn.alloc (.cells #[.slice Ax Lx.length dx] 25 (0, 0)) = w7 at Va Vb Vd Vv Vx HB ⊢
      generalize wn.heap.size = gx at Vx ⊢
      refine (HPA.out _ HB.out Lx Lb Sx.out Sb.out Ax Ab dx db Vx.out.cap Vb.out.cap Vx.out.row Vb.out.row).mono ?_
      rintro e wn ⟨Ly, u, fy, rfl, hres, hb, Ay, dy, rfl, hd, hq, _⟩
      have hbb := below_then hb hb.size ((Below.refl wn.heap.size wn).alloc (Nat.le_refl _) (.cells #[.slice Ay Ly.length dy] 25 (0, 0)))
      replace Va := Lib.hid (Va.out.below hbb)
      replace Vb := Lib.hid (Vb.out.below hbb)
      replace Vd := Lib.hid (Vd.out.below hbb)
      replace Vv := Lib.hid (Vv.out.below hbb)
      replace Vx := Lib.hid (Vx.out.below hbb)
      have Vy := Lib.hid (Vr.new hd hq)
      replace HB := Lib.hid (below_then HB.out HB.out.size hbb)
      have Ry := Lib.hid hres
      clear hb hbb hd hq hres
      have Sy := Lib.hid (patch_small Ry.out)
      have xx := Vv.out.cell
      have xy := Vd.out.cell
      go_wp2_with fail
      clear xx xy
      generalize wn.alloc (.cells #[.slice Ay Ly.length dy] 25 (0, 0)) = w8 at Va Vb Vd Vv Vx Vy HB ⊢
      generalize wn.heap.size = gy at Vy ⊢
      refine (HPA.out _ HB.out Lv Ld Sv.out Sd.out Av Ad dv dd Vv.out.cap Vd.out.cap Vv.out.row Vd.out.row).mono ?_
      rintro e wn ⟨Lz, u, fz, rfl, hres, hb, Az, dz, rfl, hd, hq, _⟩
      have hbb := below_then hb hb.size ((Below.refl wn.heap.size wn).alloc (Nat.le_refl _) (.cells #[.slice Az Lz.length dz] 25 (0, 0)))
      replace Vv := Lib.hid (Vv.out.below hbb)
      replace Vy := Lib.hid (Vy.out.below hbb)
      have Vz := Lib.hid (Vr.new hd hq)
      replace HB := Lib.hid (below_then HB.out HB.out.size hbb)
      have Rz := Lib.hid hres
      clear hb hbb hd hq hres
      have Sz := Lib.hid (patch_small Rz.out)
      clear Va Vb Vd Vx
      cases fx
      case' true =>
        cases fy
        case' true =>
          cases fz
          case' true =>
            have he := tw_join Rd.out Rx.out Ry.out Rz.out
            subst he
            have xx := Vy.out.cell
            have xy := Vz.out.cell
            go_wp2_with fail
            clear xx xy
            generalize wn.alloc (.cells #[.slice Az Ly.length dz] 25 (0, 0)) = w9 at Vv Vy Vz HB ⊢
            generalize wn.heap.size = gz at Vz ⊢
            refine (HSM.out _ _ _ Sy.out Sy.out Ay Az dy dz Vy.out.row Vz.out.row).mono ?_
            rintro e wn ⟨⟨b, rfl, hb1⟩, hb⟩
            obtain rfl : b = true := hb1.2 rfl
            replace Vv := Lib.hid (Vv.out.below hb)
            replace HB := Lib.hid (below_then HB.out HB.out.size hb)
            clear hb hb1
    all_goals
      have xx := Vv.out.cell
      go_wp2_with fail
      clear xx
      refine (HPI.out _ HB.out Lv Sv.out Av dv Vv.out.cap Vv.out.row).mono ?_
      rintro e wn ⟨cl, is, rfl, hres, hb⟩
      replace Vv := Lib.hid (Vv.out.below hb)
      replace HB := Lib.hid (below_then HB.out HB.out.size hb)
      have Rc := Lib.hid hres
      clear hb hres
      have xx := Vv.out.cell
      go_wp2_with fail
      clear xx
      refine (HSI.out _ Lv Sv.out Av dv Vv.out.row).mono ?_
      rintro e wn ⟨cl2, is2, rfl, hres, hb⟩
      replace Vv := Lib.hid (Vv.out.below hb)
      replace HB := Lib.hid (below_then HB.out HB.out.size hb)
      have Rc2 := Lib.hid hres
      clear hb hres
      obtain ⟨rfl, rfl⟩ := Rc.out.one Rc2.out
      have xx := Vv.out.cell
      go_wp2_with fail
      clear xx
      refine (HPC.out _ HB.out Lv Sv.out Av dv Vv.out.cap Vv.out.row).mono ?_
      rintro e wn ⟨Lw, u, fw, rfl, hres, hb, Aw, dw, rfl, hd, hq, _⟩
      have hbb := below_then hb hb.size ((Below.refl wn.heap.size wn).alloc (Nat.le_refl _) (.cells #[.slice Aw Lw.length dw] 25 (0, 0)))
      replace Vv := Lib.hid (Vv.out.below hbb)
      have Vw := Lib.hid (Vr.new hd hq)
      replace HB := Lib.hid (below_then HB.out HB.out.size hbb)
      have Rw := Lib.hid hres
      clear hb hbb hd hq hres
      have xx := Vv.out.cell
      go_wp2_with fail
      clear xx
      generalize wn.alloc (.cells #[.slice Aw Lw.length dw] 25 (0, 0)) = w10 at Vv Vw HB ⊢
      generalize wn.heap.size = gw at Vw ⊢
      refine (HSC.out _ Lv Sv.out Av dv Vv.out.row).mono ?_
      rintro e wn ⟨Lu, u, fu, rfl, hres, hb, Au, du, rfl, hd, hq, _⟩
      have hbb := below_then hb hb.size ((Below.refl wn.heap.size wn).alloc (Nat.le_refl _) (.cells #[.slice Au Lu.length du] 25 (0, 0)))
      replace Vv := Lib.hid (Vv.out.below hbb)
      replace Vw := Lib.hid (Vw.out.below hbb)
      have Vu := Lib.hid (Vr.new hd hq)
      replace HB := Lib.hid (below_then HB.out HB.out.size hbb)
      have Ru := Lib.hid hres
      clear hb hbb hd hq hres
      obtain ⟨rfl, rfl⟩ := Rw.out.one Ru.out
      have Sw := Lib.hid (co_small Rw.out)
      have xx := Vw.out.cell
      have xy := Vu.out.cell
      go_wp2_with fail
      clear xx xy
      generalize wn.alloc (.cells #[.slice Au Lw.length du] 25 (0, 0)) = w11 at Vv Vw Vu HB ⊢
      generalize wn.heap.size = gu at Vu ⊢
      refine (HSM.out _ _ _ Sw.out Sw.out Aw Au dw du Vw.out.row Vu.out.row).mono ?_
      rintro e wn ⟨⟨b, rfl, hb1⟩, hb⟩
      obtain rfl : b = true := hb1.2 rfl
      replace Vv := Lib.hid (Vv.out.below hb)
      replace Vw := Lib.hid (Vw.out.below hb)
      replace HB := Lib.hid (below_then HB.out HB.out.size hb)
      clear hb hb1
      cases fw
      case false =>
        obtain rfl := co_none Rw.out
        have xx := Vw.out.cell
        go_wp2
        go_ret
        exact ⟨rfl, HB.out⟩
      case true =>
        have xx := Vw.out.cell
        go_wp2_with fail
        clear xx
        refine (HPI.out _ HB.out Lw Sw.out Aw dw Vw.out.cap Vw.out.row).mono ?_
        rintro e wn ⟨nn, tt, rfl, hres, hb⟩
        replace Vv := Lib.hid (Vv.out.below hb)
        replace Vw := Lib.hid (Vw.out.below hb)
        replace HB := Lib.hid (below_then HB.out HB.out.size hb)
        have Rn := Lib.hid hres
        clear hb hres
        obtain ⟨rfl, rfl, hiff⟩ := co_clean Rw.out Rc.out Rn.out
        have HI := Lib.hid hiff
        clear hiff
        have xx := Vw.out.cell
        have xy := Vv.out.cell
        go_wp2_with fail
        clear xx xy
        refine (HSM.out _ _ _ Sw.out Sv.out Aw Av dw dv Vw.out.row Vv.out.row).mono ?_
        rintro e wn ⟨⟨b, rfl, hb1⟩, hb⟩
        obtain rfl : b = cl := by
          have h := HI.out
          rw [Bool.eq_iff_iff]
          exact hb1.trans h.symm
        replace HB := Lib.hid (below_then HB.out HB.out.size hb)
        clear hb hb1
        go_wp2
        go_ret
        exact ⟨by simp, HB.out⟩
end Go.Proofs.YteeppdobeeodiaaGreatDoor
