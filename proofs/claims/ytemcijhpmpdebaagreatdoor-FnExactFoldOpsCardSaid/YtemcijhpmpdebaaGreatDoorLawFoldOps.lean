/- The walk of the law of FoldOps. -/
import Derived.Test.YtemcijhpmpdebaaGreatDoorFo11
import Derived.Test.YtemcijhpmpdebaaGreatDoorMark5
namespace Go.Proofs.YtemcijhpmpdebaaGreatDoor
open Go.RowKit
theorem opD_from {ds : List StV} {o : OpV} {doc : List Nd} {d : StV} (h : d ∈ (opD ds o doc).1) : d ∈ ds ∨ d.doc = doc := by
  unfold opD at h
  split at h
  · unfold putD at h
    split at h
    · rcases mem_set' h with rfl | h
      · exact .inr rfl
      · exact .inl h
    · split at h
      · exact .inl h
      · rcases mem_ins2 h with rfl | h
        · exact .inr rfl
        · exact .inl h
  · unfold cutD at h
    split at h
    · exact .inl (mem_del h)
    · exact .inl h
theorem stepV_from {b : BsV} {o : OpV} {doc : List Nd} {d : StV} (h : d ∈ (stepV b o doc).docs) : d ∈ b.docs ∨ d.doc = doc := by
  unfold stepV at h
  split at h
  · exact .inl h
  · exact opD_from h
theorem fold_from {P : List Nd → Prop} : ∀ (ds : List OpD) (b : BsV), (∀ p ∈ ds, P p.doc) → (∀ d ∈ b.docs, P d.doc) → ∀ d ∈ (ds.foldl (fun b d => stepV b d.o d.doc) b).docs, P d.doc
  | [], _, _, hb => hb
  | p :: ds, b, h, hb => fold_from ds _ (fun q hq => h q (by simp [hq])) (fun d hd => by
    rcases stepV_from hd with hd | hd
    · exact hb d hd
    · rw [hd]; exact h p (by simp))
theorem FoldRes.from {P : List Nd → Prop} {ds : List OpD} {r : Bool} {b : BsV} (h : FoldRes ds r b) (hp : ∀ p ∈ ds, P p.doc) : ∀ d ∈ b.docs, P d.doc := by
  rw [h.2]
  split
  · exact fold_from ds _ hp (fun d hd => by cases hd)
  · exact fun d hd => by cases hd
theorem FoldRes.fits {ds : List OpD} {r : Bool} {b : BsV} (h : FoldRes ds r b) (hp : ∀ p ∈ ds, p.doc.length ≤ 1048576 ∧ ∀ x ∈ p.doc, x.small 1048576) : b.fits 1048576 := by
  obtain ⟨h1, h2, _⟩ := h.small
  exact ⟨by omega, by omega, h.from (P := fun l => l.length ≤ 1048576 ∧ ∀ x ∈ l, x.small 1048576) hp⟩
theorem fits_big {b : BsV} (h : b.fits 1048576) : b.fits 1000000000 := by
  obtain ⟨h1, h2, h3⟩ := h
  refine ⟨by omega, by omega, fun d hd => ⟨by have := (h3 d hd).1; omega, fun x hx => ?_⟩⟩
  have := (h3 d hd).2 x hx
  unfold Nd.small at this ⊢
  omega
theorem StF.at {F : Nat → Prop} {w : World} {A : Option Addr} {rs : List StR} (h : StF F w A rs) (hc : ∀ r ∈ rs, r.d.doc.length ≤ r.cap) : StAt F w A (rs.map StR.d) := by
  refine ⟨rs, rfl, fun hx => ?_, fun r hr => ⟨hc r hr, (h.docs r hr).1⟩⟩
  have h0 : 0 < rs.length := by
    rcases rs with _ | ⟨r, rs⟩
    · exact absurd rfl hx
    · simp
  obtain ⟨g, o, cs, e, hF, hh, _, hcs⟩ := h.top h0
  refine ⟨g, o, e, hF, lt_of_block hh, fun j v hj => ?_⟩
  have hlen := (List.getElem?_eq_some_iff.1 hj).1
  rw [stCells_length] at hlen
  obtain ⟨r, hr⟩ : ∃ r, rs[j / 2]? = some r := ⟨_, List.getElem?_eq_getElem (by omega)⟩
  have e1 := flat_get StR.cells 2 (fun _ => rfl) rs (j / 2) r hr (j % 2) (by omega)
  have e2 : j / 2 * 2 + j % 2 = j := by omega
  rw [e2] at e1
  have hj' : r.cells[j % 2]? = some v := by rw [← e1]; exact hj
  obtain ⟨c1, c2⟩ := hcs _ _ hr
  rw [cell_of_block hh]
  rcases (by omega : j % 2 = 0 ∨ j % 2 = 1) with em | em
  · rw [em] at hj'
    rw [show o + j = o + j / 2 * 2 by omega, c1]
    exact hj'
  · rw [em] at hj'
    rw [show o + j = o + j / 2 * 2 + 1 by omega, c2]
    exact hj'
theorem SFoldP.opened {ds : List OpD} {w : World} {e : Ending} {w' : World} (h : SFoldP ds w e w') :
    ∃ (r : Bool) (q : BsV) (A1 : Option Addr) (c1 : Nat) (A2 : Option Addr) (c2 : Nat), e = .returned (.tuple #[.agg #[.int .i64 q.applied, .slice A1 q.docs.length c1, .slice A2 q.sess.length c2], .bool r]) ∧ Below w.heap.size w w' ∧ FoldRes ds r q ∧ StAt (fun k => w.heap.size ≤ k) w' A1 q.docs ∧ Rds (fun k => w.heap.size ≤ k) w' A2 (ssCells q.sess) := by
  obtain ⟨r, q, rs, A1, c1, A2, c2, rfl, hb, hres, hs⟩ := h
  exact ⟨r, q, A1, c1, A2, c2, by rw [← hs.map, List.length_map], hb, hres, ⟨rs, hs.map, hs.docs.row, hs.docs.docs⟩, hs.sess⟩
theorem FoldP.opened {ds : List OpD} {w : World} {e : Ending} {w' : World} (h : FoldP ds w e w') :
    ∃ (r : Bool) (q : BsV) (rs : List StR) (A1 : Option Addr) (c1 : Nat) (A2 : Option Addr) (c2 : Nat), e = .returned (.tuple #[.agg #[.int .i64 q.applied, .slice A1 q.docs.length c1, .slice A2 q.sess.length c2], .bool r]) ∧ Below w.heap.size w w' ∧ FoldRes ds r q ∧ rs.map StR.d = q.docs ∧ (∀ r ∈ rs, r.d.doc.length ≤ r.cap) ∧ StF (fun k => w.heap.size ≤ k) w' A1 rs ∧ Own (fun k => w.heap.size ≤ k) w' 97 A2 (ssCells q.sess) := by
  obtain ⟨r, q, rs, A1, c1, A2, c2, rfl, hb, hres, hm, hc, h1, h2⟩ := h
  exact ⟨r, q, rs, A1, c1, A2, c2, by rw [← hm, List.length_map], hb, hres, hm, hc, h1, h2⟩
/-- What the law's walk knows of the reference's answer. -/
structure FoM (q : BsV) (iw : Nat) (Aw : Option Addr) (cw : Nat) (Bw : Option Addr) (dw : Nat) (w W : World) : Prop where
  kw : W.heap[iw]? = some (.cells #[.int .i64 q.applied, .slice Aw q.docs.length cw, .slice Bw q.sess.length dw] 27 (0, 0))
  rd : StAt (fun b => b < iw) W Aw q.docs
  rs : Rds (fun b => b < iw) W Bw (ssCells q.sess)
  bel : Below w.heap.size w W
theorem FoM.below {q : BsV} {iw : Nat} {Aw : Option Addr} {cw : Nat} {Bw : Option Addr} {dw : Nat} {w W W' : World} (h : FoM q iw Aw cw Bw dw w W) (hb : Below W.heap.size W W') : FoM q iw Aw cw Bw dw w W' :=
  ⟨block_below h.kw hb, h.rd.frame (Agree.of_below hb), h.rs.frame (Agree.of_below hb), below_then h.bel h.bel.size hb⟩
theorem FoM.wrote {q : BsV} {iw : Nat} {Aw : Option Addr} {cw : Nat} {Bw : Option Addr} {dw : Nat} {w W W' : World} (h : FoM q iw Aw cw Bw dw w W) {F : Nat → Prop} (hw : Wrote KM F W W') (hF : ∀ b, F b → iw ≤ b ∧ w.heap.size ≤ b) : FoM q iw Aw cw Bw dw w W' :=
  ⟨hw.other h.kw (by simp [KM]), h.rd.frame (hw.agree fun b h1 h2 => by have := hF b h1; omega), h.rs.frame (hw.agree fun b h1 h2 => by have := hF b h1; omega), h.bel.trans (hw.bel _ h.bel.size fun b hb => (hF b hb).2)⟩
set_option maxRecDepth 100000 in
set_option maxHeartbeats 8000000 in
theorem lawFoldOps_any (ds : List OpD) (hl : ds.length ≤ 9223372036854775807) (hsz : ∀ d ∈ ds, d.doc.length ≤ 9223372036854775807 ∧ ∀ x ∈ d.doc, x.small 9223372036854775807) (F : Nat → Prop) (A : Option Addr) (c : Nat) (w : World) (hr : OpAt F w A ds) (htab : Tabs w.heap.size w) :
    Calls Tryz.prog 3 #[.slice A ds.length c] w fun e w' => e = .returned (.bool true) ∧ Below w.heap.size w w' := by
  have HR1 := Lib.hid (fun W (hb : Below w.heap.size w W) => hr.frame (Agree.of_below hb))
  have HT := Lib.hid (fun W (hb : Below w.heap.size w W) => (htab.below hb).mono hb.size)
  have h0 := szOpS_any ds hl hsz F A c 1048576 (by omega) w hr
  rw [show ((1048576 : Nat) : Int) = 1048576 from rfl] at h0
  have HSZ0 := Lib.hid h0
  clear hr htab hsz h0
  go_enter Tryz.func3, Tryz.ntmps3
  go_wp2_with fail
  refine HSZ0.out.mono ?_
  rintro e w1 ⟨hb1, r, rfl, hr⟩
  have HB1 := Lib.hid hb1
  clear hb1 HSZ0
  rcases hr with rfl | ⟨m, rfl, hm, hlm, hdm⟩
  · go_wp2
    go_ret
    exact ⟨rfl, HB1.out⟩
  have hm0 : ¬ ((m : Int) < 0) := by omega
  have hl9 : ds.length ≤ 1000000000 := by omega
  have HDM := Lib.hid (show ∀ d ∈ ds, d.doc.length ≤ 1048576 ∧ ∀ x ∈ d.doc, x.small 1048576 from fun d hd => ⟨by have := (hdm d hd).1; omega, (hdm d hd).2⟩)
  have HSZ := Lib.hid (show ∀ d ∈ ds, d.doc.length ≤ 1000000000 ∧ ∀ x ∈ d.doc, x.text.size ≤ 9223372036854775807 ∧ x.name.size ≤ 9223372036854775807 from fun d hd => ⟨by have := (HDM.out d hd).1; omega, fun x hx => by have := (HDM.out d hd).2 x hx; unfold Nd.small at this; omega⟩)
  clear hdm
  have HTW := Lib.hid (fun W (hb : Below w.heap.size w W) => toOpS_w ds hl9 (fun d hd => (HSZ.out d hd).1) F A c W (HR1.out _ hb))
  go_wp2_with fail
  refine (HTW.out _ HB1.out).mono ?_
  rintro e w2 ⟨hb2, A2, rfl, ho2⟩
  have HB2 := Lib.hid (below_then HB1.out HB1.out.size hb2)
  have HSF := Lib.hid (sFoldOps_any ds hl9 HSZ.out _ A2 ds.length w2 ho2.at)
  clear hb2 ho2
  go_wp2_with fail
  refine HSF.out.mono ?_
  rintro e w3 h3
  obtain ⟨r, q, Aw, cw, Bw, dw, rfl, hb3, hres, hst, hss⟩ := h3.opened
  have HRES := Lib.hid hres
  have HFM := Lib.hid (hres.fits HDM.out)
  have HF := Lib.hid (fits_big HFM.out)
  have b4 : Below w3.heap.size w3 (w3.alloc (.cells #[.int .i64 q.applied, .slice Aw q.docs.length cw, .slice Bw q.sess.length dw] 27 (0, 0))) := bl_alloc (Below.refl _ _)
  have s4 : (w3.alloc (.cells #[.int .i64 q.applied, .slice Aw q.docs.length cw, .slice Bw q.sess.length dw] 27 (0, 0))).heap.size = w3.heap.size + 1 := by simp
  have hb3w := below_then HB2.out HB2.out.size hb3
  have M4 := Lib.hid (show FoM q w3.heap.size Aw cw Bw dw w (w3.alloc (.cells #[.int .i64 q.applied, .slice Aw q.docs.length cw, .slice Bw q.sess.length dw] 27 (0, 0))) from
    ⟨heap_alloc_new w3 _, (hst.mono (fun b _ h => h)).frame (Agree.of_below b4), (hss.mono (fun b _ h => h)).frame (Agree.of_below b4), below_then hb3w hb3w.size b4⟩)
  have hiw := hb3w.size
  clear hb3 hb3w hres hst hss h3 b4 HSF HB2 HB1
  go_wp2_with fail
  generalize w3.alloc (.cells #[.int .i64 q.applied, .slice Aw q.docs.length cw, .slice Bw q.sess.length dw] 27 (0, 0)) = w4 at M4 s4 ⊢
  refine (HTW.out _ M4.out.bel).mono ?_
  rintro e w5 ⟨hb5, Ax, rfl, ho5⟩
  have M5 := Lib.hid (M4.out.below hb5)
  have HX5 := Lib.hid (show OpW (fun b => w4.heap.size ≤ b ∧ b < w5.heap.size) w5 Ax ds from ho5.mono fun b h h' => ⟨h, h'⟩)
  have hs45 := hb5.size
  have HIF := Lib.hid (foldOps_any ds hl9 HSZ.out _ Ax ds.length w5 ho5.at (HT.out _ M5.out.bel))
  clear hb5 ho5 M4
  go_wp2_with fail
  refine HIF.out.mono ?_
  rintro e w6 h6
  obtain ⟨r', q', rs, Ag, cg, Bg, dg, rfl, hb6, hres', hmap, hcap, hsf, hso⟩ := h6.opened
  obtain ⟨rfl, rfl⟩ := HRES.out.eq hres'
  have HMP := Lib.hid hmap
  have HCP := Lib.hid hcap
  have hs56 := hb6.size
  have b7 : Below w6.heap.size w6 (w6.alloc (.cells #[.int .i64 q.applied, .slice Ag q.docs.length cg, .slice Bg q.sess.length dg] 27 (0, 0))) := bl_alloc (Below.refl _ _)
  have b57 := below_then hb6 hb6.size b7
  have hm7 := M5.out.below b57
  have M7 := Lib.hid hm7
  have HX7 := Lib.hid (HX5.out.frame (Agree.of_below b57))
  have s7 : (w6.alloc (.cells #[.int .i64 q.applied, .slice Ag q.docs.length cg, .slice Bg q.sess.length dg] 27 (0, 0))).heap.size = w6.heap.size + 1 := by simp
  have k7 := heap_alloc_new w6 (.cells #[.int .i64 q.applied, .slice Ag q.docs.length cg, .slice Bg q.sess.length dg] 27 (0, 0))
  have K7 := Lib.hid k7
  have HS7 := Lib.hid ((hsf.mono (G := fun b => w5.heap.size ≤ b ∧ b < w6.heap.size) (fun b h h' => ⟨h, h'⟩)).frame (Agree.of_below b7))
  have HO7 := Lib.hid ((hso.mono (G := fun b => w5.heap.size ≤ b ∧ b < w6.heap.size) (fun b h h' => ⟨h, h'⟩)).frame (Agree.of_below b7))
  obtain ⟨x0, x1, x2⟩ := cells3 hm7.kw
  obtain ⟨y0, y1, y2⟩ := cells3 k7
  clear hb6 hres' hmap hcap hsf hso b7 b57 h6 hm7 k7 HX5 M5 HIF
  go_wp2_with fail
  generalize w6.alloc (.cells #[.int .i64 q.applied, .slice Ag q.docs.length cg, .slice Bg q.sess.length dg] 27 (0, 0)) = w7 at M7 HX7 s7 K7 HS7 HO7 x0 x1 x2 y0 y1 y2 ⊢
  have hat7 := HS7.out.at HCP.out
  rw [HMP.out] at hat7
  refine (eqBase_any q HF.out _ _ _ _ Ag Bg Aw Bw cg dg cw dw w7 hat7 HO7.out.1 M7.out.rd M7.out.rs).mono ?_
  rintro e w8 ⟨rfl, hb8⟩
  have M8 := Lib.hid (M7.out.below hb8)
  have HX8 := Lib.hid (HX7.out.frame (Agree.of_below hb8))
  have K8 := Lib.hid (block_below K7.out hb8)
  have HS8 := Lib.hid (HS7.out.frame (Agree.of_below hb8))
  have HO8 := Lib.hid (HO7.out.frame (Agree.of_below hb8))
  clear hb8 hat7 x0 x1 x2 y0 y1 y2 M7 HX7 K7 HS7 HO7
  go_wp2_with fail
  refine (HTW.out _ M8.out.bel).mono ?_
  rintro e w9 ⟨hb9, Ay, rfl, ho9⟩
  have HEQ := Lib.hid (eqOpS_any ds hl9 (fun d hd => (HSZ.out d hd).1) _ _ Ax Ay ds.length ds.length w9 (HX8.out.frame (Agree.of_below hb9)).at ho9.at)
  have HB9 := Lib.hid hb9
  clear hb9 ho9
  go_wp2_with fail
  refine HEQ.out.mono ?_
  rintro e w10 ⟨rfl, hb10⟩
  have b10 := below_then HB9.out HB9.out.size hb10
  have M10 := Lib.hid (M8.out.below b10)
  have HX10 := Lib.hid (HX8.out.frame (Agree.of_below b10))
  have K10 := Lib.hid (block_below K8.out b10)
  have HS10 := Lib.hid (HS8.out.frame (Agree.of_below b10))
  have HO10 := Lib.hid (HO8.out.frame (Agree.of_below b10))
  clear hb10 b10 HEQ HB9 M8 HX8 K8 HS8 HO8
  obtain ⟨xs, hxs, hmk⟩ := HX10.out.mk
  have hxl : xs.length = ds.length := by rw [← hxs, List.length_map]
  have hmo := markOpS_any xs (by omega) (fun r hr => (HDM.out r.d (by rw [← hxs]; exact List.mem_map_of_mem hr)).1) 1 ds.length (by omega) _ Ax w10 hmk
  rw [hxl] at hmo
  rw [show ((1 : Nat) : Int) = 1 from rfl] at hmo
  have HMO := Lib.hid hmo
  clear hmo hmk hxs hxl HX10
  go_wp2_with fail
  refine HMO.out.mono ?_
  rintro e w11 ⟨mk, rfl, _, hw11⟩
  have hmk0 : ¬ ((mk : Int) < 0) := by omega
  have hm11 := M10.out.wrote hw11 (fun b hb => by have h : w4.heap.size ≤ b ∧ b < w5.heap.size := hb; omega)
  have hk11 := hw11.other K10.out (by simp [KM])
  have ha11 : Agree (fun b => w5.heap.size ≤ b ∧ b < w6.heap.size) w10 w11 := hw11.agree fun b h1 h2 => by omega
  have M11 := Lib.hid hm11
  have K11 := Lib.hid hk11
  have HS11 := Lib.hid (HS10.out.frame ha11)
  have HO11 := Lib.hid (HO10.out.frame ha11)
  obtain ⟨x0, x1, x2⟩ := cells3 hm11.kw
  obtain ⟨y0, y1, y2⟩ := cells3 hk11
  clear hw11 hm11 hk11 ha11 HMO M10 K10 HS10 HO10
  have hat11 := HS11.out.at HCP.out
  rw [HMP.out] at hat11
  have HE11 := Lib.hid (eqBase_any q HF.out _ _ _ _ Ag Bg Aw Bw cg dg cw dw w11 hat11 HO11.out.1 M11.out.rd M11.out.rs)
  clear hat11
  unfold BsV.val at HE11
  go_wp2_with fail
  refine HE11.out.mono ?_
  rintro e w12 ⟨rfl, hb12⟩
  have M12 := Lib.hid (M11.out.below hb12)
  have K12 := Lib.hid (block_below K11.out hb12)
  have HS12 := Lib.hid (HS11.out.frame (Agree.of_below hb12))
  have HO12 := Lib.hid (HO11.out.frame (Agree.of_below hb12))
  clear hb12 x0 x1 x2 y0 y1 y2 M11 K11 HS11 HO11 HE11
  obtain ⟨y0, y1, y2⟩ := cells3 K12.out
  have HRL := Lib.hid (show q.docs.length = rs.length from by rw [← HMP.out, List.length_map])
  have hrd : ∀ r ∈ rs, r.d.doc.length ≤ 1048576 := fun r hr => (HFM.out.2.2 r.d (by rw [← HMP.out]; exact List.mem_map_of_mem hr)).1
  have hsn : q.sess.length ≤ 1048576 := HFM.out.2.1
  have hdn : rs.length ≤ 1048576 := by rw [← HRL.out]; exact HFM.out.1
  have h13 := markBaseF_any rs q.sess.length hdn hsn hrd q.applied _ Ag Bg cg dg w12 HS12.out (by have h := HO12.out.2; rwa [ssCells_length] at h)
  rw [← HRL.out] at h13
  have HMB := Lib.hid h13
  clear h13
  go_wp2_with fail
  refine HMB.out.mono ?_
  rintro e w13 ⟨rfl, hbm, hw13⟩
  have hm13 := M12.out.wrote hw13 (fun b hb => by have h : w5.heap.size ≤ b ∧ b < w6.heap.size := hb; omega)
  have M13 := Lib.hid hm13
  have K13 := Lib.hid (hw13.other K12.out (by simp [KM]))
  have HBM := Lib.hid hbm
  clear hw13 hbm hm13 y0 y1 y2 M12 K12 HS12 HO12 HMB
  obtain ⟨y0, y1, y2⟩ := cells3 K13.out
  have h14 := heldBaseF_any rs q.sess.length hdn hsn hrd q.applied _ Ag Bg cg dg w13 HBM.out
  rw [← HRL.out] at h14
  have HHB := Lib.hid h14
  clear h14
  obtain ⟨mm, hmm⟩ : ∃ mm : Nat, mm = endSt 1 rs + 3 * q.sess.length := ⟨_, rfl⟩
  have hmn : ¬ ((mm : Int) < 0) := by omega
  have HMM := Lib.hid hmm
  rw [← hmm]
  clear hmm
  go_wp2_with fail
  refine HHB.out.mono ?_
  rintro e w14 ⟨rfl, hb14⟩
  rw [← HMM.out]
  have M14 := Lib.hid (M13.out.below hb14)
  have K14 := Lib.hid (block_below K13.out hb14)
  have HBM14 := Lib.hid (HBM.out.below hb14)
  clear hb14 y0 y1 y2 M13 K13 HBM HHB
  go_wp2_with fail
  refine (HTW.out _ M14.out.bel).mono ?_
  rintro e w15 ⟨hb15, Az, rfl, ho15⟩
  have M15 := Lib.hid (M14.out.below hb15)
  have K15 := Lib.hid (block_below K14.out hb15)
  have HBM15 := Lib.hid (HBM14.out.below hb15)
  have HIF := Lib.hid (foldOps_any ds hl9 HSZ.out _ Az ds.length w15 ho15.at (HT.out _ M15.out.bel))
  clear hb15 ho15 M14 K14 HBM14
  go_wp2_with fail
  refine HIF.out.mono ?_
  rintro e w16 h16
  obtain ⟨r', q', rs', Ah, ch, Bh, dh, rfl, hb16, hres', hmap, hcap, hsf, hso⟩ := h16.opened
  obtain ⟨rfl, rfl⟩ := HRES.out.eq hres'
  have b17 : Below w16.heap.size w16 (w16.alloc (.cells #[.int .i64 q.applied, .slice Ah q.docs.length ch, .slice Bh q.sess.length dh] 27 (0, 0))) := bl_alloc (Below.refl _ _)
  have b157 := below_then hb16 hb16.size b17
  have hm17 := M15.out.below b157
  have M17 := Lib.hid hm17
  have hk17 := block_below K15.out b157
  have K17 := Lib.hid hk17
  have HBM17 := Lib.hid (HBM15.out.below b157)
  have hz17 := heap_alloc_new w16 (.cells #[.int .i64 q.applied, .slice Ah q.docs.length ch, .slice Bh q.sess.length dh] 27 (0, 0))
  have hat17 := (hsf.frame (Agree.of_below b17)).at hcap
  rw [hmap] at hat17
  have HE17 := Lib.hid (eqBase_any q HF.out _ _ _ _ Ah Bh Aw Bw ch dh cw dw _ hat17 (hso.frame (Agree.of_below b17)).1 hm17.rd hm17.rs)
  unfold BsV.val at HE17
  obtain ⟨x0, x1, x2⟩ := cells3 hm17.kw
  obtain ⟨y0, y1, y2⟩ := cells3 hk17
  obtain ⟨z0, z1, z2⟩ := cells3 hz17
  clear hb16 hres' hmap hcap hsf hso b17 b157 h16 hm17 hk17 hz17 hat17 M15 K15 HBM15 HIF
  go_wp2_with fail
  refine HE17.out.mono ?_
  rintro e w18 ⟨rfl, hb18⟩
  have M18 := Lib.hid (M17.out.below hb18)
  have hk18 := block_below K17.out hb18
  have h19 := heldBaseF_any rs q.sess.length hdn hsn hrd q.applied _ Ag Bg cg dg w18 (HBM17.out.below hb18)
  rw [← HRL.out] at h19
  have HHB := Lib.hid h19
  clear h19 x0 x1 x2 y0 y1 y2 z0 z1 z2 hb18 M17 K17 HBM17 HE17
  obtain ⟨y0, y1, y2⟩ := cells3 hk18
  clear hk18
  go_wp2_with fail
  refine HHB.out.mono ?_
  rintro e w19 ⟨rfl, hb19⟩
  rw [← HMM.out]
  have HB19 := Lib.hid (below_then M18.out.bel M18.out.bel.size hb19)
  clear hb19 y0 y1 y2 M18 HHB
  go_wp2
  go_ret
  exact ⟨rfl, HB19.out⟩
end Go.Proofs.YtemcijhpmpdebaaGreatDoor
