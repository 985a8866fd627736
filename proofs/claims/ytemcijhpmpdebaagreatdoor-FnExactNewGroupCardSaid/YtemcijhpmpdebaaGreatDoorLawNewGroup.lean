/- The walk of the law of NewGroup. -/
import Derived.Test.YtemcijhpmpdebaaGreatDoorNg7
namespace Go.Proofs.YtemcijhpmpdebaaGreatDoor
open Go.RowKit
/-- What NewGroup answers, in plain words. -/
def NgQ (ds : List OpD) (z : Int) (r : Bool) (D : List OpD) (n lp lr : Nat) : Prop :=
  (r = true ∧ OkG ds z ∧ D = ds ∧ n = z.toNat ∧ lp = 12 ∧ lr = z.toNat) ∨ (r = false ∧ ¬ OkG ds z ∧ D = [] ∧ n = 0 ∧ lp = 0 ∧ lr = 0)
theorem NgQ.eq {ds : List OpD} {z : Int} {r r' : Bool} {D D' : List OpD} {n n' lp lp' lr lr' : Nat} (h : NgQ ds z r D n lp lr) (h' : NgQ ds z r' D' n' lp' lr') : r = r' ∧ D = D' ∧ n = n' ∧ lp = lp' ∧ lr = lr' := by
  rcases h with ⟨rfl, k, rfl, rfl, rfl, rfl⟩ | ⟨rfl, k, rfl, rfl, rfl, rfl⟩ <;> rcases h' with ⟨rfl, k', rfl, rfl, rfl, rfl⟩ | ⟨rfl, k', rfl, rfl, rfl, rfl⟩
  · exact ⟨rfl, rfl, rfl, rfl, rfl⟩
  · exact absurd k k'
  · exact absurd k' k
  · exact ⟨rfl, rfl, rfl, rfl, rfl⟩
theorem NgQ.small {ds : List OpD} {z : Int} {r : Bool} {D : List OpD} {n lp lr : Nat} (h : NgQ ds z r D n lp lr) : D.length ≤ 9 ∧ n ≤ 5 ∧ lp ≤ 12 ∧ lr ≤ 5 ∧ ∀ d ∈ D, d ∈ ds := by
  rcases h with ⟨rfl, k, rfl, rfl, rfl, rfl⟩ | ⟨rfl, k, rfl, rfl, rfl, rfl⟩
  · obtain ⟨k1, k2, _⟩ := k
    exact ⟨k1.2, by omega, by omega, by omega, fun d hd => hd⟩
  · exact ⟨by simp, by omega, by omega, by omega, fun d hd => by cases hd⟩
theorem SNgP.opened {ds : List OpD} {z : Int} {w : World} {e : Ending} {w' : World} (h : SNgP ds z w e w') :
    ∃ (r : Bool) (D : List OpD) (n lp lr : Nat) (ps : List PlR) (rs : List RpR) (A1 A2 A3 : Option Addr) (c1 c2 c3 : Nat), NgQ ds z r D n lp lr ∧ ps.length = lp ∧ rs.length = lr ∧ e = .returned (.tuple #[.agg #[.slice A1 D.length c1, .slice A2 lp c2, .slice A3 lr c3], .bool r]) ∧ Below w.heap.size w w' ∧ GrAt (fun b => w.heap.size ≤ b) w' A1 A2 A3 D n ps rs := by
  obtain ⟨hb, ⟨hno, rfl⟩ | ⟨hok, ps, rs, A1, A2, A3, c1, c2, c3, hp, hr, rfl, hg⟩⟩ := h
  · exact ⟨false, [], 0, 0, 0, [], [], none, none, none, 0, 0, 0, .inr ⟨rfl, hno, rfl, rfl, rfl, rfl⟩, rfl, rfl, rfl, hb, ⟨⟨[], rfl, Rds.nil _ _ _, fun r hr => by cases hr⟩, Rds.nil _ _ _, fun p hp => (by cases hp), Rds.nil _ _ _, fun r hr => by cases hr⟩⟩
  · exact ⟨true, ds, z.toNat, 12, z.toNat, ps, rs, A1, A2, A3, c1, c2, c3, .inl ⟨rfl, hok, rfl, rfl, rfl, rfl⟩, hp, hr, by rw [hp, hr], hb, hg⟩
theorem NgP.opened {ds : List OpD} {z : Int} {w : World} {e : Ending} {w' : World} (h : NgP ds z w e w') :
    ∃ (r : Bool) (D : List OpD) (n lp lr : Nat) (os : List OpR) (ps : List PlR) (rs : List RpR) (A1 A2 A3 : Option Addr) (c1 c2 c3 : Nat), NgQ ds z r D n lp lr ∧ os.map OpR.d = D ∧ (∀ r ∈ os, r.d.doc.length ≤ r.cap) ∧ ps.length = lp ∧ rs.length = lr ∧ e = .returned (.tuple #[.agg #[.slice A1 D.length c1, .slice A2 lp c2, .slice A3 lr c3], .bool r]) ∧ Below w.heap.size w w' ∧ GrF (fun b => w.heap.size ≤ b) w' A1 A2 A3 os n ps rs := by
  obtain ⟨hb, ⟨hno, rfl⟩ | ⟨hok, os, ps, rs, A1, A2, A3, c1, c2, c3, hm, hc, hp, hr, rfl, hg⟩⟩ := h
  · exact ⟨false, [], 0, 0, 0, [], [], [], none, none, none, 0, 0, 0, .inr ⟨rfl, hno, rfl, rfl, rfl, rfl⟩, rfl, fun r hr => (by cases hr), rfl, rfl, rfl, hb, ⟨⟨⟨Rds.nil _ _ _, fun h => by simp [opCells] at h⟩, Fam.zero _ _ _⟩, ⟨⟨Rds.nil _ _ _, fun h => by simp at h⟩, Fam.zero _ _ _, Fam.zero _ _ _⟩, ⟨⟨Rds.nil _ _ _, fun h => by simp at h⟩, Fam.zero _ _ _⟩⟩⟩
  · exact ⟨true, ds, z.toNat, 12, z.toNat, os, ps, rs, A1, A2, A3, c1, c2, c3, .inl ⟨rfl, hok, rfl, rfl, rfl, rfl⟩, hm, hc, hp, hr, by rw [← hm, List.length_map, hp, hr], hb, hg⟩
/-- What the law's walk knows of the reference's answer. -/
structure GwM (D : List OpD) (n lp lr : Nat) (ps : List PlR) (rs : List RpR) (iw : Nat) (A1 A2 A3 : Option Addr) (c1 c2 c3 : Nat) (w W : World) : Prop where
  kw : W.heap[iw]? = some (.cells #[.slice A1 D.length c1, .slice A2 lp c2, .slice A3 lr c3] 40 (0, 0))
  rd : GrAt (fun b => b < iw) W A1 A2 A3 D n ps rs
  bel : Below w.heap.size w W
section
variable {D : List OpD} {n lp lr : Nat} {ps : List PlR} {rs : List RpR} {iw : Nat} {A1 A2 A3 : Option Addr} {c1 c2 c3 : Nat} {w W W' : World}
theorem GwM.below (h : GwM D n lp lr ps rs iw A1 A2 A3 c1 c2 c3 w W) (hb : Below W.heap.size W W') : GwM D n lp lr ps rs iw A1 A2 A3 c1 c2 c3 w W' :=
  ⟨block_below h.kw hb, h.rd.frame (Agree.of_below hb), below_then h.bel h.bel.size hb⟩
theorem GwM.wrote (h : GwM D n lp lr ps rs iw A1 A2 A3 c1 c2 c3 w W) {K : TypeId → Prop} {F : Nat → Prop} (hw : Wrote K F W W') (hK : ¬ K 40) (hF : ∀ b, F b → iw ≤ b ∧ w.heap.size ≤ b) : GwM D n lp lr ps rs iw A1 A2 A3 c1 c2 c3 w W' :=
  ⟨hw.other h.kw hK, h.rd.frame (hw.agree fun b h1 h2 => by have := hF b h1; omega), h.bel.trans (hw.bel _ h.bel.size fun b hb => (hF b hb).2)⟩
end
set_option maxRecDepth 100000 in
set_option maxHeartbeats 8000000 in
theorem lawNewGroup_any (ds : List OpD) (hl : ds.length ≤ 9223372036854775807) (hsz : ∀ d ∈ ds, d.doc.length ≤ 9223372036854775807 ∧ ∀ x ∈ d.doc, x.small 9223372036854775807) (F : Nat → Prop) (A : Option Addr) (c : Nat) (z : Int) (_hz : -9223372036854775808 ≤ z ∧ z ≤ 9223372036854775807) (w : World) (hr : OpAt F w A ds) (htab : Tabs w.heap.size w) :
    Calls Tryz.prog 4 #[.slice A ds.length c, .int .i64 z] w fun e w' => e = .returned (.bool true) ∧ Below w.heap.size w w' := by
  have HR1 := Lib.hid (fun W (hb : Below w.heap.size w W) => hr.frame (Agree.of_below hb))
  have HT := Lib.hid (fun W (hb : Below w.heap.size w W) => (htab.below hb).mono hb.size)
  have h0 := szOpS_any ds hl hsz F A c 1048576 (by omega) w hr
  rw [show ((1048576 : Nat) : Int) = 1048576 from rfl] at h0
  have HSZ0 := Lib.hid h0
  clear hr htab hsz h0
  go_enter Tryz.func4, Tryz.ntmps4
  go_wp2_with fail
  refine HSZ0.out.mono ?_
  rintro e w1 ⟨hb1, r, rfl, hr⟩
  have HB1 := Lib.hid hb1
  clear hb1 HSZ0
  rcases hr with rfl | ⟨m, rfl, hm, hlm, hdm⟩
  · go_wp2
    go_ret
    exact ⟨rfl, HB1.out⟩
  have hm0 : ¬ ((m : Int) < 0) := by omega
  have hl9 : ds.length ≤ 1000000000 := by omega
  have HDM := Lib.hid (show ∀ d ∈ ds, d.doc.length ≤ 1048576 ∧ ∀ x ∈ d.doc, x.small 1048576 from fun d hd => ⟨by have := (hdm d hd).1; omega, (hdm d hd).2⟩)
  have HSZ := Lib.hid (show ∀ d ∈ ds, d.doc.length ≤ 1000000000 ∧ ∀ x ∈ d.doc, x.text.size ≤ 9223372036854775807 ∧ x.name.size ≤ 9223372036854775807 from fun d hd => ⟨by have := (HDM.out d hd).1; omega, fun x hx => by have := (HDM.out d hd).2 x hx; unfold Nd.small at this; omega⟩)
  clear hdm
  have HTW := Lib.hid (fun W (hb : Below w.heap.size w W) => toOpS_w ds hl9 (fun d hd => (HSZ.out d hd).1) F A c W (HR1.out _ hb))
  go_wp2_with fail
  refine (HTW.out _ HB1.out).mono ?_
  rintro e w2 ⟨hb2, A2, rfl, ho2⟩
  have HB2 := Lib.hid (below_then HB1.out HB1.out.size hb2)
  have HSF := Lib.hid (sNewGroup_any ds (by omega) HSZ.out z _ A2 ds.length w2 ho2.at)
  clear hb2 ho2
  go_wp2_with fail
  refine HSF.out.mono ?_
  rintro e w3 h3
  obtain ⟨r, D, n, lp, lr, ps, rs, Aw1, Aw2, Aw3, cw1, cw2, cw3, hq, hpl, hrl, rfl, hb3, hat⟩ := h3.opened
  have HQ := Lib.hid hq
  have hsm := hq.small
  have hD9 := hsm.1
  have hn5 := hsm.2.1
  have hlp := hsm.2.2.1
  have hlr := hsm.2.2.2.1
  have HDD := Lib.hid hsm.2.2.2.2
  have HPL := Lib.hid hpl
  have HRL := Lib.hid hrl
  have b4 : Below w3.heap.size w3 (w3.alloc (.cells #[.slice Aw1 D.length cw1, .slice Aw2 lp cw2, .slice Aw3 lr cw3] 40 (0, 0))) := (Below.refl _ _).alloc (Nat.le_refl _) _
  have s4 : (w3.alloc (.cells #[.slice Aw1 D.length cw1, .slice Aw2 lp cw2, .slice Aw3 lr cw3] 40 (0, 0))).heap.size = w3.heap.size + 1 := by simp
  have hb3w := below_then HB2.out HB2.out.size hb3
  have M4 := Lib.hid (show GwM D n lp lr ps rs w3.heap.size Aw1 Aw2 Aw3 cw1 cw2 cw3 w (w3.alloc (.cells #[.slice Aw1 D.length cw1, .slice Aw2 lp cw2, .slice Aw3 lr cw3] 40 (0, 0))) from
    ⟨heap_alloc_new w3 _, (hat.mono (fun b _ h => h)).frame (Agree.of_below b4), below_then hb3w hb3w.size b4⟩)
  have hiw := hb3w.size
  clear hb3 hb3w hq hsm hpl hrl hat h3 b4 HSF HB2 HB1
  go_wp2_with fail
  generalize w3.alloc (.cells #[.slice Aw1 D.length cw1, .slice Aw2 lp cw2, .slice Aw3 lr cw3] 40 (0, 0)) = w4 at M4 s4 ⊢
  refine (HTW.out _ M4.out.bel).mono ?_
  rintro e w5 ⟨hb5, Ax, rfl, ho5⟩
  have M5 := Lib.hid (M4.out.below hb5)
  have HX5 := Lib.hid (show OpW (fun b => w4.heap.size ≤ b ∧ b < w5.heap.size) w5 Ax ds from ho5.mono fun b h h' => ⟨h, h'⟩)
  have hs45 := hb5.size
  have HIF := Lib.hid (newGroup_any ds hl9 HSZ.out z _ Ax ds.length w5 ho5.at (HT.out _ M5.out.bel))
  clear hb5 ho5 M4
  go_wp2_with fail
  refine HIF.out.mono ?_
  rintro e w6 h6
  obtain ⟨r', D', n', lp', lr', os, qs, ss, Ag1, Ag2, Ag3, cg1, cg2, cg3, hq', hmap, hcap, hql, hsl, rfl, hb6, hgf⟩ := h6.opened
  obtain ⟨rfl, rfl, rfl, rfl, rfl⟩ := HQ.out.eq hq'
  have HMP := Lib.hid hmap
  have HCP := Lib.hid hcap
  have HQL := Lib.hid hql
  have HSL := Lib.hid hsl
  have hs56 := hb6.size
  have b7 : Below w6.heap.size w6 (w6.alloc (.cells #[.slice Ag1 D.length cg1, .slice Ag2 lp cg2, .slice Ag3 lr cg3] 40 (0, 0))) := (Below.refl _ _).alloc (Nat.le_refl _) _
  have b57 := below_then hb6 hb6.size b7
  have hm7 := M5.out.below b57
  have M7 := Lib.hid hm7
  have HX7 := Lib.hid (HX5.out.frame (Agree.of_below b57))
  have s7 : (w6.alloc (.cells #[.slice Ag1 D.length cg1, .slice Ag2 lp cg2, .slice Ag3 lr cg3] 40 (0, 0))).heap.size = w6.heap.size + 1 := by simp
  have k7 := heap_alloc_new w6 (.cells #[.slice Ag1 D.length cg1, .slice Ag2 lp cg2, .slice Ag3 lr cg3] 40 (0, 0))
  have K7 := Lib.hid k7
  have HG7 := Lib.hid ((hgf.mono (G := fun b => w5.heap.size ≤ b ∧ b < w6.heap.size) (fun b h h' => ⟨h, h'⟩)).frame (Agree.of_below b7))
  obtain ⟨x0, x1, x2⟩ := cells3 hm7.kw
  obtain ⟨y0, y1, y2⟩ := cells3 k7
  clear hb6 hq' hmap hcap hql hsl hgf b7 b57 h6 hm7 k7 HX5 M5 HIF
  go_wp2_with fail
  generalize w6.alloc (.cells #[.slice Ag1 D.length cg1, .slice Ag2 lp cg2, .slice Ag3 lr cg3] 40 (0, 0)) = w7 at M7 HX7 s7 K7 HG7 x0 x1 x2 y0 y1 y2 ⊢
  have hat7 := HG7.out.at HCP.out
  rw [HMP.out] at hat7
  have he7 := eqGroup_any D (by omega) (fun d hd => (HSZ.out d (HDD.out d hd)).1) n (by omega) qs ps (by rw [HQL.out]; omega) (by rw [HPL.out, HQL.out]) ss rs (by rw [HSL.out]; omega) (by rw [HRL.out, HSL.out]) _ _ Ag1 Ag2 Ag3 Aw1 Aw2 Aw3 cg1 cg2 cg3 cw1 cw2 cw3 w7 hat7 M7.out.rd
  rw [HQL.out, HSL.out] at he7
  have HE7 := Lib.hid he7
  clear hat7 he7
  refine HE7.out.mono ?_
  rintro e w8 ⟨rfl, hb8⟩
  have M8 := Lib.hid (M7.out.below hb8)
  have HX8 := Lib.hid (HX7.out.frame (Agree.of_below hb8))
  have K8 := Lib.hid (block_below K7.out hb8)
  have HG8 := Lib.hid (HG7.out.frame (Agree.of_below hb8))
  clear hb8 HE7 x0 x1 x2 y0 y1 y2 M7 HX7 K7 HG7
  go_wp2_with fail
  refine (HTW.out _ M8.out.bel).mono ?_
  rintro e w9 ⟨hb9, Ay, rfl, ho9⟩
  have HEQ := Lib.hid (eqOpS_any ds hl9 (fun d hd => (HSZ.out d hd).1) _ _ Ax Ay ds.length ds.length w9 (HX8.out.frame (Agree.of_below hb9)).at ho9.at)
  have HB9 := Lib.hid hb9
  clear hb9 ho9
  go_wp2_with fail
  refine HEQ.out.mono ?_
  rintro e w10 ⟨rfl, hb10⟩
  have b10 := below_then HB9.out HB9.out.size hb10
  have M10 := Lib.hid (M8.out.below b10)
  have HX10 := Lib.hid (HX8.out.frame (Agree.of_below b10))
  have K10 := Lib.hid (block_below K8.out b10)
  have HG10 := Lib.hid (HG8.out.frame (Agree.of_below b10))
  clear hb10 b10 HEQ HB9 M8 HX8 K8 HG8
  obtain ⟨xs, hxs, hmk⟩ := HX10.out.mk
  have hxl : xs.length = ds.length := by rw [← hxs, List.length_map]
  have hmo := markOpS_any xs (by omega) (fun r hr => (HDM.out r.d (by rw [← hxs]; exact List.mem_map_of_mem hr)).1) 1 ds.length (by omega) _ Ax w10 hmk
  rw [hxl] at hmo
  rw [show ((1 : Nat) : Int) = 1 from rfl] at hmo
  have HMO := Lib.hid hmo
  clear hmo hmk hxs hxl HX10
  go_wp2_with fail
  refine HMO.out.mono ?_
  rintro e w11 ⟨mk, rfl, _, hw11⟩
  have hmk0 : ¬ ((mk : Int) < 0) := by omega
  have hm11 := M10.out.wrote hw11 (by simp [KM]) (fun b hb => by have h : w4.heap.size ≤ b ∧ b < w5.heap.size := hb; omega)
  have hk11 := hw11.other K10.out (by simp [KM])
  have ha11 : Agree (fun b => w5.heap.size ≤ b ∧ b < w6.heap.size) w10 w11 := hw11.agree fun b h1 h2 => by omega
  have M11 := Lib.hid hm11
  have K11 := Lib.hid hk11
  have HG11 := Lib.hid (HG10.out.frame ha11)
  obtain ⟨x0, x1, x2⟩ := cells3 hm11.kw
  obtain ⟨y0, y1, y2⟩ := cells3 hk11
  clear hw11 hm11 hk11 ha11 HMO M10 K10 HG10
  have hat11 := HG11.out.at HCP.out
  rw [HMP.out] at hat11
  have he11 := eqGroup_any D (by omega) (fun d hd => (HSZ.out d (HDD.out d hd)).1) n (by omega) qs ps (by rw [HQL.out]; omega) (by rw [HPL.out, HQL.out]) ss rs (by rw [HSL.out]; omega) (by rw [HRL.out, HSL.out]) _ _ Ag1 Ag2 Ag3 Aw1 Aw2 Aw3 cg1 cg2 cg3 cw1 cw2 cw3 w11 hat11 M11.out.rd
  rw [HQL.out, HSL.out] at he11
  have HE11 := Lib.hid he11
  clear hat11 he11
  go_wp2_with fail
  refine HE11.out.mono ?_
  rintro e w12 ⟨rfl, hb12⟩
  have M12 := Lib.hid (M11.out.below hb12)
  have K12 := Lib.hid (block_below K11.out hb12)
  have HG12 := Lib.hid (HG11.out.frame (Agree.of_below hb12))
  clear hb12 x0 x1 x2 y0 y1 y2 M11 K11 HG11 HE11
  obtain ⟨y0, y1, y2⟩ := cells3 K12.out
  have HGS := Lib.hid (show GrSz os n qs ss from ⟨by rw [← List.length_map (f := OpR.d), HMP.out]; exact hD9, fun r hr => (HDM.out r.d (HDD.out r.d (by rw [← HMP.out]; exact List.mem_map_of_mem hr))).1, hn5, by rw [HQL.out]; exact hlp, by rw [HSL.out]; exact hlr⟩)
  have HOL := Lib.hid (show os.length = D.length from by rw [← HMP.out, List.length_map])
  have h13 := markGroup_any os n qs ss HGS.out _ Ag1 Ag2 Ag3 cg1 cg2 cg3 w12 HG12.out
  rw [HOL.out, HQL.out, HSL.out] at h13
  have HMB := Lib.hid h13
  clear h13
  go_wp2_with fail
  refine HMB.out.mono ?_
  rintro e w13 ⟨rfl, hbm, hw13⟩
  have hm13 := M12.out.wrote hw13 (by simp [KG, KM]) (fun b hb => by have h : w5.heap.size ≤ b ∧ b < w6.heap.size := hb; omega)
  have M13 := Lib.hid hm13
  have K13 := Lib.hid (hw13.other K12.out (by simp [KG, KM]))
  have HBM := Lib.hid hbm
  clear hw13 hbm hm13 y0 y1 y2 M12 K12 HG12 HMB
  obtain ⟨y0, y1, y2⟩ := cells3 K13.out
  have h14 := heldGroup_any os n qs ss HGS.out _ Ag1 Ag2 Ag3 cg1 cg2 cg3 w13 HBM.out
  rw [HOL.out, HQL.out, HSL.out] at h14
  have HHB := Lib.hid h14
  clear h14
  obtain ⟨mm, hmm⟩ : ∃ mm : Nat, mm = grE os n qs ss := ⟨_, rfl⟩
  have hmn : ¬ ((mm : Int) < 0) := by omega
  have HMM := Lib.hid hmm
  rw [← hmm]
  clear hmm
  go_wp2_with fail
  refine HHB.out.mono ?_
  rintro e w14 ⟨rfl, hb14⟩
  rw [← HMM.out]
  have M14 := Lib.hid (M13.out.below hb14)
  have K14 := Lib.hid (block_below K13.out hb14)
  have HBM14 := Lib.hid (HBM.out.below hb14)
  clear hb14 y0 y1 y2 M13 K13 HBM HHB
  go_wp2_with fail
  refine (HTW.out _ M14.out.bel).mono ?_
  rintro e w15 ⟨hb15, Az, rfl, ho15⟩
  have M15 := Lib.hid (M14.out.below hb15)
  have K15 := Lib.hid (block_below K14.out hb15)
  have HBM15 := Lib.hid (HBM14.out.below hb15)
  have HIF := Lib.hid (newGroup_any ds hl9 HSZ.out z _ Az ds.length w15 ho15.at (HT.out _ M15.out.bel))
  clear hb15 ho15 M14 K14 HBM14
  go_wp2_with fail
  refine HIF.out.mono ?_
  rintro e w16 h16
  obtain ⟨r', D', n', lp', lr', os', qs', ss', Ah1, Ah2, Ah3, ch1, ch2, ch3, hq', hmap, hcap, hql, hsl, rfl, hb16, hgf⟩ := h16.opened
  obtain ⟨rfl, rfl, rfl, rfl, rfl⟩ := HQ.out.eq hq'
  have b17 : Below w16.heap.size w16 (w16.alloc (.cells #[.slice Ah1 D.length ch1, .slice Ah2 lp ch2, .slice Ah3 lr ch3] 40 (0, 0))) := (Below.refl _ _).alloc (Nat.le_refl _) _
  have b157 := below_then hb16 hb16.size b17
  have hm17 := M15.out.below b157
  have M17 := Lib.hid hm17
  have hk17 := block_below K15.out b157
  have K17 := Lib.hid hk17
  have HBM17 := Lib.hid (HBM15.out.below b157)
  have hz17 := heap_alloc_new w16 (.cells #[.slice Ah1 D.length ch1, .slice Ah2 lp ch2, .slice Ah3 lr ch3] 40 (0, 0))
  have hat17 := (hgf.frame (Agree.of_below b17)).at hcap
  rw [hmap] at hat17
  have he17 := eqGroup_any D (by omega) (fun d hd => (HSZ.out d (HDD.out d hd)).1) n (by omega) qs' ps (by rw [hql]; omega) (by rw [HPL.out, hql]) ss' rs (by rw [hsl]; omega) (by rw [HRL.out, hsl]) _ _ Ah1 Ah2 Ah3 Aw1 Aw2 Aw3 ch1 ch2 ch3 cw1 cw2 cw3 _ hat17 hm17.rd
  rw [hql, hsl] at he17
  have HE17 := Lib.hid he17
  obtain ⟨x0, x1, x2⟩ := cells3 hm17.kw
  obtain ⟨y0, y1, y2⟩ := cells3 hk17
  obtain ⟨z0, z1, z2⟩ := cells3 hz17
  clear hb16 hq' hmap hcap hql hsl hgf b17 b157 h16 hm17 hk17 hz17 hat17 he17 M15 K15 HBM15 HIF
  go_wp2_with fail
  refine HE17.out.mono ?_
  rintro e w18 ⟨rfl, hb18⟩
  have M18 := Lib.hid (M17.out.below hb18)
  have hk18 := block_below K17.out hb18
  have h19 := heldGroup_any os n qs ss HGS.out _ Ag1 Ag2 Ag3 cg1 cg2 cg3 w18 (HBM17.out.below hb18)
  rw [HOL.out, HQL.out, HSL.out] at h19
  have HHB := Lib.hid h19
  clear h19 x0 x1 x2 y0 y1 y2 z0 z1 z2 hb18 M17 K17 HBM17 HE17
  obtain ⟨y0, y1, y2⟩ := cells3 hk18
  clear hk18
  go_wp2_with fail
  refine HHB.out.mono ?_
  rintro e w19 ⟨rfl, hb19⟩
  rw [← HMM.out]
  have HB19 := Lib.hid (below_then M18.out.bel M18.out.bel.size hb19)
  clear hb19 y0 y1 y2 M18 HHB
  go_wp2
  go_ret
  exact ⟨rfl, HB19.out⟩
end Go.Proofs.YtemcijhpmpdebaaGreatDoor
