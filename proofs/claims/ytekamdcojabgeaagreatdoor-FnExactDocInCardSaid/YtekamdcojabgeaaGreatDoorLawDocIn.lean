/- The walk of the law of DocIn. -/
import Derived.Test.YtekamdcojabgeaaGreatDoorDocIn
import Derived.Test.YtekamdcojabgeaaGreatDoorMark3
import Derived.Test.YtekamdcojabgeaaGreatDoorLawOp
namespace Go.Proofs.YtekamdcojabgeaaGreatDoor
open Go.RowKit
theorem fits_up {m n : Nat} {b : BsV} (h : b.fits m) (hmn : m ≤ n) : b.fits n := by
  obtain ⟨h1, h2, h3⟩ := h
  refine ⟨by omega, by omega, fun d hd => ⟨by have := (h3 d hd).1; omega, fun x hx => ?_⟩⟩
  have := (h3 d hd).2 x hx
  unfold Nd.small at this ⊢
  omega
theorem Found.len {b : BsV} {id : Int} {l : List Nd} {f : Bool} {m : Nat} (h : Found b id l f) (hf : b.fits m) : l.length ≤ m := by
  rcases h with ⟨_, _, k, d, hk, _, rfl⟩ | ⟨_, rfl, _⟩
  · exact (hf.2.2 d (List.mem_of_getElem? hk)).1
  · exact Nat.zero_le _
theorem below_drew {w w1 : World} (h : Below w.drew.heap.size w.drew w1) : Below w.heap.size w w1 := below_then (Below.refl _ _).drew (Nat.le_refl _) h
/-- What the law's walk knows of its memory: the argument, what the reference told, what the program told. -/
structure DcM (b : BsV) (l lg : List Nd) (a iw ig lo : Nat) (Aw Ag : Option Addr) (cw cg : Nat) (A1 A2 : Option Addr) (c1 c2 : Nat) (w W : World) : Prop where
  ka : W.heap[a]? = some (.cells #[.int .i64 b.applied, .slice A1 b.docs.length c1, .slice A2 b.sess.length c2] 42 (0, 0))
  kw : W.heap[iw]? = some (.cells #[.slice Aw l.length cw] 31 (0, 0))
  kg : W.heap[ig]? = some (.cells #[.slice Ag l.length cg] 31 (0, 0))
  rw : Rds (fun b => b < iw) W Aw (ndCells l)
  og : Own (fun b => lo ≤ b ∧ b < ig) W 111 Ag (ndCells lg)
  bel : Below w.heap.size w W
section
variable {b : BsV} {l lg : List Nd} {a iw ig lo : Nat} {Aw Ag : Option Addr} {cw cg : Nat} {A1 A2 : Option Addr} {c1 c2 : Nat} {w W W' : World}
theorem DcM.below (h : DcM b l lg a iw ig lo Aw Ag cw cg A1 A2 c1 c2 w W) (hb : Below W.heap.size W W') : DcM b l lg a iw ig lo Aw Ag cw cg A1 A2 c1 c2 w W' :=
  ⟨block_below h.ka hb, block_below h.kw hb, block_below h.kg hb, h.rw.frame (Agree.of_below hb), h.og.frame (Agree.of_below hb), below_then h.bel h.bel.size hb⟩
theorem DcM.wrote (h : DcM b l lg a iw ig lo Aw Ag cw cg A1 A2 c1 c2 w W) {F : Nat → Prop} (hw : Wrote KM F W W') (hF : ∀ b, F b → iw ≤ b ∧ b < lo ∧ w.heap.size ≤ b) : DcM b l lg a iw ig lo Aw Ag cw cg A1 A2 c1 c2 w W' :=
  ⟨hw.other h.ka (by simp [KM]), hw.other h.kw (by simp [KM]), hw.other h.kg (by simp [KM]), h.rw.frame (hw.agree fun b h1 h2 => by have := hF b h1; omega), h.og.frame (hw.agree fun b h1 h2 => by have := hF b h1; omega),
    h.bel.trans (hw.bel _ h.bel.size fun b hb => (hF b hb).2.2)⟩
theorem DcM.marked (h : DcM b l lg a iw ig lo Aw Ag cw cg A1 A2 c1 c2 w W) {lg' : List Nd} (hw : Wrote (fun T => T = 111) (fun b => lo ≤ b ∧ b < ig) W W') (ho : Own (fun b => lo ≤ b ∧ b < ig) W' 111 Ag (ndCells lg')) (h1 : iw ≤ lo) (h2 : w.heap.size ≤ lo) : DcM b l lg' a iw ig lo Aw Ag cw cg A1 A2 c1 c2 w W' :=
  ⟨hw.other h.ka (by decide), hw.other h.kw (by decide), hw.other h.kg (by decide), h.rw.frame (hw.agree fun b h3 h4 => by omega), ho, h.bel.trans (hw.bel _ h.bel.size fun b hb => by omega)⟩
end
set_option maxRecDepth 100000 in
set_option maxHeartbeats 4000000 in
theorem lawDocIn_any (b : BsV) (hf : b.fits 9223372036854775807) (F : Nat → Prop) (A1 A2 : Option Addr) (c1 c2 : Nat) (id : Int) (hid : -9223372036854775808 ≤ id ∧ id ≤ 9223372036854775807) (w : World) (hr1 : StAt F w A1 b.docs) (hr2 : Rds F w A2 (ssCells b.sess)) (htab : Tabs w.heap.size w) :
    Calls Tryz.prog 6 #[b.val A1 c1 A2 c2, .int .i64 id] w fun e w' => e = .returned (.bool true) ∧ Below w.heap.size w w' := by
  have hb0 : Below w.heap.size w (w.alloc (.cells #[.int .i64 b.applied, .slice A1 b.docs.length c1, .slice A2 b.sess.length c2] 42 (0, 0))) := (Below.refl _ _).alloc (Nat.le_refl _) _
  have k0 := heap_alloc_new w (.cells #[.int .i64 b.applied, .slice A1 b.docs.length c1, .slice A2 b.sess.length c2] 42 (0, 0))
  have HB0 := Lib.hid hb0
  have HR1 := Lib.hid (fun W (hb : Below w.heap.size w W) => hr1.frame (Agree.of_below hb))
  have HR2 := Lib.hid (fun W (hb : Below w.heap.size w W) => hr2.frame (Agree.of_below hb))
  have HT := Lib.hid (fun W (hb : Below w.heap.size w W) => (htab.below hb).mono hb.size)
  clear hr1 hr2 htab hb0
  unfold BsV.val
  go_enter Tryz.func6, Tryz.ntmps6
  go_wp2_with fail
  generalize w.alloc (.cells #[.int .i64 b.applied, .slice A1 b.docs.length c1, .slice A2 b.sess.length c2] 42 (0, 0)) = w1 at HB0 k0 ⊢
  refine (szBase_any b hf F A1 A2 c1 c2 w1 (HR1.out _ HB0.out)).mono ?_
  rintro e w2 ⟨hb2, r, rfl, hr⟩
  have HB2 := Lib.hid (below_then HB0.out HB0.out.size hb2)
  have HK2 := Lib.hid (block_below k0 hb2)
  obtain ⟨x0, x1, x2⟩ := cells3 HK2.out
  have h0s := lt_of_block HK2.out
  clear k0 hb2
  rcases hr with rfl | ⟨m, rfl, hfm⟩
  · go_wp2
    go_ret
    exact ⟨rfl, HB2.out⟩
  have hf2 : b.fits 1000000000 := fits_up hfm (by omega)
  have HF := Lib.hid hf2
  have HFM := Lib.hid hfm
  clear hfm hf2 hf
  have HTO := Lib.hid (fun W (hb : Below w.heap.size w W) => toBase_any b HF.out F A1 A2 c1 c2 W (HR1.out _ hb) (HR2.out _ hb))
  have HTW := Lib.hid (fun W (hb : Below w.heap.size w W) => toBase_w b HF.out F A1 A2 c1 c2 W (HR1.out _ hb) (HR2.out _ hb))
  go_wp2_with fail
  refine (HTO.out _ HB2.out).mono ?_
  rintro e w3 ⟨hb3, A3, B3, rfl, hs3, ht3⟩
  have HB3 := Lib.hid (below_then HB2.out HB2.out.size hb3)
  have HK3 := Lib.hid (block_below HK2.out hb3)
  have HG := Lib.hid (sDocIn_any b HF.out id _ A3 B3 b.docs.length b.sess.length w3 hs3 ht3)
  have hs23 := hb3.size
  clear hb3 hs3 ht3 x0 x1 x2
  unfold BsV.val
  go_wp2_with fail
  refine HG.out.mono ?_
  rintro e w4 ⟨l, v, f, rfl, hfo, hown⟩
  obtain ⟨Aw, cw, rfl⟩ := hown.form
  have HFO := Lib.hid hfo
  have HB4 := Lib.hid (below_then HB3.out HB3.out.size hown.1)
  have HK4 := Lib.hid (block_below HK3.out hown.1)
  have hs34 := hown.1.size
  have k5 := heap_alloc_new w4 (.cells #[.slice Aw l.length cw] 31 (0, 0))
  have b5 : Below w4.heap.size w4 (w4.alloc (.cells #[.slice Aw l.length cw] 31 (0, 0))) := (Below.refl _ _).alloc (Nat.le_refl _) _
  have s5 : (w4.alloc (.cells #[.slice Aw l.length cw] 31 (0, 0))).heap.size = w4.heap.size + 1 := by simp
  have HK40 := Lib.hid (block_below HK4.out b5)
  obtain ⟨_, A', c', e', hcw, hrw, _⟩ := hown
  injection e' with e1 _ e3
  subst e1 e3
  have HRW := Lib.hid ((hrw.mono (G := fun b => b < w4.heap.size) (fun b _ h => h)).frame (Agree.of_below b5))
  have HK5 := Lib.hid k5
  have HB5 := Lib.hid (below_then HB4.out HB4.out.size b5)
  obtain ⟨x0, x1, x2⟩ := cells3 HK40.out
  clear hfo hrw k5 b5
  go_wp2_with fail
  generalize w4.alloc (.cells #[.slice Aw l.length cw] 31 (0, 0)) = w5 at HK40 HRW HK5 HB5 s5 x0 x1 x2 ⊢
  refine (HTW.out _ HB5.out).mono ?_
  rintro e w6 ⟨hb6, A6, B6, rfl, hs6, ht6⟩
  have HB6 := Lib.hid (below_then HB5.out HB5.out.size hb6)
  have HK6 := Lib.hid (block_below HK40.out hb6)
  have HKW6 := Lib.hid (block_below HK5.out hb6)
  have HRW6 := Lib.hid (HRW.out.frame (Agree.of_below hb6))
  have s6 := hb6.size
  clear x0 x1 x2
  have k7 := heap_alloc_new w6 (.cells #[.int .i64 b.applied, .slice A6 b.docs.length b.docs.length, .slice B6 b.sess.length b.sess.length] 48 (0, 0))
  have b7 : Below w6.heap.size w6 (w6.alloc (.cells #[.int .i64 b.applied, .slice A6 b.docs.length b.docs.length, .slice B6 b.sess.length b.sess.length] 48 (0, 0))) := (Below.refl _ _).alloc (Nat.le_refl _) _
  have s7 : (w6.alloc (.cells #[.int .i64 b.applied, .slice A6 b.docs.length b.docs.length, .slice B6 b.sess.length b.sess.length] 48 (0, 0))).heap.size = w6.heap.size + 1 := by simp
  have HS7 := Lib.hid ((hs6.mono (G := fun b => w5.heap.size ≤ b ∧ b < w6.heap.size) (fun b h h' => ⟨h, h'⟩)).frame (Agree.of_below b7))
  have HT7 := Lib.hid ((ht6.mono (G := fun b => w5.heap.size ≤ b ∧ b < w6.heap.size) (fun b h h' => ⟨h, h'⟩)).frame (Agree.of_below b7))
  have HK7 := Lib.hid (block_below HK6.out b7)
  have HKW7 := Lib.hid (block_below HKW6.out b7)
  have HRW7 := Lib.hid (HRW6.out.frame (Agree.of_below b7))
  have HKX7 := Lib.hid k7
  have HB7 := Lib.hid (below_then HB6.out HB6.out.size b7)
  obtain ⟨y0, y1, y2⟩ := cells3 HKX7.out
  clear hs6 ht6 b7 k7 hb6
  unfold BsV.val
  go_wp2_with fail
  generalize w6.alloc (.cells #[.int .i64 b.applied, .slice A6 b.docs.length b.docs.length, .slice B6 b.sess.length b.sess.length] 48 (0, 0)) = w7 at HS7 HT7 HK7 HKW7 HRW7 HKX7 HB7 s7 y0 y1 y2 ⊢
  refine (docIn_any b HF.out id hid _ A6 B6 b.docs.length b.sess.length w7 HS7.out.at HT7.out.1 (HT.out _ HB7.out)).mono ?_
  rintro e w8 ⟨l', v', f', rfl, hfo', hown'⟩
  obtain ⟨rfl, rfl⟩ := HFO.out.one hfo'
  obtain ⟨Ag, cg, rfl⟩ := hown'.form
  have n8 := hown'.1.size
  have k9 := heap_alloc_new w8 (.cells #[.slice Ag l.length cg] 31 (0, 0))
  have b9 : Below w8.heap.size w8 (w8.alloc (.cells #[.slice Ag l.length cg] 31 (0, 0))) := (Below.refl _ _).alloc (Nat.le_refl _) _
  have b79 : Below w7.heap.size w7 (w8.alloc (.cells #[.slice Ag l.length cg] 31 (0, 0))) := below_then hown'.1 n8 b9
  have hog : Own (fun b => w7.heap.size ≤ b ∧ b < w8.heap.size) w8 111 Ag (ndCells l) := by
    obtain ⟨_, A', c', e', _, _, ho⟩ := hown'
    injection e' with e1 _ e3
    subst e1 e3
    exact (Own.of_own ho).mono fun b h h' => ⟨h, h'⟩
  have hm9 : DcM b l l w.heap.size w4.heap.size w8.heap.size w7.heap.size Aw Ag cw cg A1 A2 c1 c2 w (w8.alloc (.cells #[.slice Ag l.length cg] 31 (0, 0))) :=
    ⟨block_below HK7.out b79, block_below HKW7.out b79, k9, HRW7.out.frame (Agree.of_below b79), hog.frame (Agree.of_below b9), below_then HB7.out HB7.out.size b79⟩
  have HS9 := Lib.hid (HS7.out.frame (Agree.of_below b79))
  have HT9 := Lib.hid (HT7.out.frame (Agree.of_below b79))
  have HKX9 := Lib.hid (block_below HKX7.out b79)
  have M9 := Lib.hid hm9
  have s9 : (w8.alloc (.cells #[.slice Ag l.length cg] 31 (0, 0))).heap.size = w8.heap.size + 1 := by simp
  obtain ⟨wq, hwq⟩ : ∃ W, W = w8.alloc (.cells #[.slice Ag l.length cg] 31 (0, 0)) := ⟨_, rfl⟩
  have zw : (w8.alloc (.cells #[.slice Ag l.length cg] 31 (0, 0))).cell? ⟨w4.heap.size, 0, none⟩ = some (.slice Aw l.length cw) := cell_of_block hm9.kw 0
  have zg : (w8.alloc (.cells #[.slice Ag l.length cg] 31 (0, 0))).cell? ⟨w8.heap.size, 0, none⟩ = some (.slice Ag l.length cg) := cell_of_block hm9.kg 0
  have hll := hfo'.len HFM.out
  have HFO2 := Lib.hid hfo'
  clear y0 y1 y2 hog hm9 k9 b9 b79 hown' hfo' HS7 HT7 HKX7 HK7 HKW7 HRW7 HB7 HRW6 HKW6 HK6 HB6 HRW HK5 HB5 HK40 HB4 HK4 HG HK3 HB3 HK2 HB2
  go_wp2_with fail
  rw [← hwq] at zw zg s9 ⊢
  rw [← hwq] at HS9 HT9 HKX9 M9
  clear hwq
  refine (eqValue_any l l (by omega) rfl _ _ Ag Aw cg cw wq M9.out.og.1 M9.out.rw).mono ?_
  rintro e w10 ⟨rfl, hb10⟩
  have M10 := Lib.hid (M9.out.below hb10)
  have HS10 := Lib.hid (HS9.out.frame (Agree.of_below hb10))
  have HT10 := Lib.hid (HT9.out.frame (Agree.of_below hb10))
  have HKX10 := Lib.hid (block_below HKX9.out hb10)
  obtain ⟨x0, x1, x2⟩ := cells3 M10.out.ka
  obtain ⟨y0, y1, y2⟩ := cells3 HKX10.out
  clear hb10 zw zg M9 HS9 HT9 HKX9
  go_wp2
  go_region_with (first
    | (go_at_call 18
       refine (HTO.out _ (by exact M10.out.bel.drew)).mono ?_
       rintro e w11 ⟨hb11, A8, B8, rfl, hs8, ht8⟩
       obtain ⟨z0, z1, z2⟩ := cells3 ((hb11.block _ (lt_of_block HKX10.out)).trans HKX10.out))
    | (go_at_call 20
       refine (eqBase_any b HF.out _ _ _ _ A6 B6 A8 B8 b.docs.length b.sess.length b.docs.length b.sess.length w11 (HS10.out.at.frame (agree_drew hb11)) (HT10.out.1.frame (agree_drew hb11)) hs8 ht8).mono ?_
       rintro e w12 ⟨rfl, hb12⟩))
  all_goals
    have b12 : Below w10.heap.size w10 w12 := below_then (below_drew hb11) (below_drew hb11).size hb12
    have M12 := Lib.hid (M10.out.below b12)
    have HS12 := Lib.hid (HS10.out.frame (Agree.of_below b12))
    have HT12 := Lib.hid (HT10.out.frame (Agree.of_below b12))
    have hkx := block_below HKX10.out b12
    clear x0 x1 x2 y0 y1 y2 z0 z1 z2 hb11 hb12 hs8 ht8 b12 HS10 HT10 HKX10 M10
    obtain ⟨y0, y1, y2⟩ := cells3 hkx
    clear hkx
    go_wp2_with fail
    refine (markBase_any b HFM.out _ A6 B6 b.docs.length b.sess.length w12 HS12.out (by have h := HT12.out.2; rwa [ssCells_length] at h)).mono ?_
    rintro e w13 ⟨mk, rfl, hw13⟩
    have M13 := Lib.hid (M12.out.wrote hw13 (fun b hb => by have h1 : w5.heap.size ≤ b ∧ b < w6.heap.size := hb; omega))
    have zw : w13.cell? ⟨w4.heap.size, 0, none⟩ = some (.slice Aw l.length cw) := cell_of_block M13.out.kw 0
    have zg : w13.cell? ⟨w8.heap.size, 0, none⟩ = some (.slice Ag l.length cg) := cell_of_block M13.out.kg 0
    have hmk : ¬ ((mk : Int) < 0) := by omega
    clear hw13 y0 y1 y2 HS12 HT12 M12
    go_wp2_with fail
    refine (eqValue_any l l (by omega) rfl _ _ Ag Aw cg cw w13 M13.out.og.1 M13.out.rw).mono ?_
    rintro e w14 ⟨rfl, hb14⟩
    have M14 := Lib.hid (M13.out.below hb14)
    have zg : w14.cell? ⟨w8.heap.size, 0, none⟩ = some (.slice Ag l.length cg) := cell_of_block M14.out.kg 0
    clear hb14 M13
    go_wp2_with fail
    obtain ⟨q, hq⟩ : ∃ q : Nat, q = 1 + 5 * l.length := ⟨_, rfl⟩
    have hqn : ¬ ((q : Int) < 0) := by omega
    have HQQ := Lib.hid hq
    clear hq
    refine (markValue_any l.length 1 cg (by omega) (by omega) _ Ag w14 (by have h := M14.out.og.2; rwa [ndCells_length] at h)).mono ?_
    rintro e w15 ⟨rfl, ho15, hw15⟩
    rw [← HQQ.out]
    have M15 := Lib.hid (M14.out.marked hw15 ho15 (by omega) (by omega))
    have zg : w15.cell? ⟨w8.heap.size, 0, none⟩ = some (.slice Ag l.length cg) := cell_of_block M15.out.kg 0
    clear hw15 ho15 M14
    go_wp2_with fail
    refine (heldValue_any l.length 1 cg (by omega) (by omega) _ Ag w15 M15.out.og.1).mono ?_
    rintro e w16 ⟨rfl, hb16⟩
    have M16 := Lib.hid (M15.out.below hb16)
    obtain ⟨x0, x1, x2⟩ := cells3 M16.out.ka
    rw [← HQQ.out]
    clear hb16 M15
    go_wp2_with fail
    refine (HTO.out _ M16.out.bel).mono ?_
    rintro e w17 ⟨hb17, A9, B9, rfl, hs9', ht9'⟩
    have M17 := Lib.hid (M16.out.below hb17)
    have HD17 := Lib.hid (docIn_any b HF.out id hid _ A9 B9 b.docs.length b.sess.length w17 hs9' ht9' (HT.out _ M17.out.bel))
    clear hb17 hs9' ht9' x0 x1 x2 M16
    unfold BsV.val
    go_wp2_with fail
    refine HD17.out.mono ?_
    rintro e w18 ⟨l', v', f', rfl, hfo', hown'⟩
    obtain ⟨rfl, rfl⟩ := HFO2.out.one hfo'
    obtain ⟨Ah, ch, rfl⟩ := hown'.form
    have k19 := heap_alloc_new w18 (.cells #[.slice Ah l.length ch] 31 (0, 0))
    have b19 : Below w18.heap.size w18 (w18.alloc (.cells #[.slice Ah l.length ch] 31 (0, 0))) := (Below.refl _ _).alloc (Nat.le_refl _) _
    have hrh : Rds (fun b => w17.heap.size ≤ b) w18 Ah (ndCells l) := by
      obtain ⟨_, A', c', e', _, hr, _⟩ := hown'
      injection e' with e1 _ e3
      subst e1 e3
      exact hr
    have HRH := Lib.hid (hrh.frame (Agree.of_below b19))
    have M19 := Lib.hid ((M17.out.below hown'.1).below b19)
    have zh : (w18.alloc (.cells #[.slice Ah l.length ch] 31 (0, 0))).cell? ⟨w18.heap.size, 0, none⟩ = some (.slice Ah l.length ch) := cell_of_block k19 0
    have zw : (w18.alloc (.cells #[.slice Ah l.length ch] 31 (0, 0))).cell? ⟨w4.heap.size, 0, none⟩ = some (.slice Aw l.length cw) := cell_of_block M19.out.kw 0
    clear k19 b19 hrh hown' hfo' M17 HD17
    go_wp2_with fail
    generalize w18.alloc (.cells #[.slice Ah l.length ch] 31 (0, 0)) = w19 at HRH M19 zh zw ⊢
    refine (eqValue_any l l (by omega) rfl _ _ Ah Aw ch cw w19 HRH.out M19.out.rw).mono ?_
    rintro e w20 ⟨rfl, hb20⟩
    have M20 := Lib.hid (M19.out.below hb20)
    have zg : w20.cell? ⟨w8.heap.size, 0, none⟩ = some (.slice Ag l.length cg) := cell_of_block M20.out.kg 0
    clear hb20 M19 HRH zh zw
    go_wp2_with fail
    refine (heldValue_any l.length 1 cg (by omega) (by omega) _ Ag w20 M20.out.og.1).mono ?_
    rintro e w21 ⟨rfl, hb21⟩
    have HB21 := Lib.hid (M20.out.below hb21).bel
    rw [← HQQ.out]
    clear hb21 M20
    go_wp2
    go_ret
    exact ⟨rfl, HB21.out⟩
end Go.Proofs.YtekamdcojabgeaaGreatDoor
