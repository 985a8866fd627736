/- The walks of DocIn, the program's and the reference's. -/
import Derived.Test.YtekamdcojabgeaaGreatDoorBin
import Derived.Test.YtekamdcojabgeaaGreatDoorBsG3
import Derived.Test.YtekamdcojabgeaaGreatDoorClone
namespace Go.Proofs.YtekamdcojabgeaaGreatDoor
open Go.RowKit
def DcPost (b : BsV) (id : Int) (w : World) (e : Ending) (w' : World) : Prop :=
  ∃ l v f, e = .returned (.tuple #[.agg #[v], .bool f]) ∧ Found b id l f ∧ NdOwn l w v w'
theorem dc_no {b : BsV} {id : Int} {w w' : World} (hb : Below w.heap.size w w') (h : ¬ (BsGood b ∧ ∃ d ∈ b.docs, d.id = id)) : DcPost b id w (.returned (.tuple #[.agg #[.slice none 0 0], .bool false])) w' :=
  ⟨[], _, false, rfl, .inr ⟨rfl, rfl, h⟩, hb, none, 0, rfl, Nat.le_refl _, Rds.nil _ _ _, World.ownsRow_nil _ _ _ _⟩
theorem dc_yes {b : BsV} {id : Int} {w w1 w' : World} {k : Nat} {d : StV} {v : Value} (hb : Below w.heap.size w w1) (hg : BsGood b) (hk : b.docs[k]? = some d) (hi : d.id = id) (h : NdOwn d.doc w1 v w') : DcPost b id w (.returned (.tuple #[.agg #[v], .bool true])) w' := by
  obtain ⟨h1, A, c, rfl, hc, h2, h3⟩ := h
  have hs := hb.size
  exact ⟨d.doc, _, true, rfl, .inl ⟨rfl, hg, k, d, hk, hi, rfl⟩, below_then hb hs h1, A, c, rfl, hc, h2.mono (fun b hb' _ => Nat.le_trans hs hb'), own_weaken h3 hs⟩
theorem dc_yes2 {b : BsV} {id : Int} {w w1 w4 : World} {k : Nat} {d : StV} {v : Value} (hb : Below w.heap.size w w1) (hg : BsGood b) (hk : b.docs[k]? = some d) (hi : d.id = id) (h : NdOwn d.doc w1 v w4) {g : Nat} (hg1 : w.heap.size ≤ g) (hg2 : g < w1.heap.size) (u : Value) :
    DcPost b id w (.returned (.tuple #[.agg #[v], .bool true])) (w4.setCell ⟨g, 0, none⟩ u) := by
  obtain ⟨h1, A, c, rfl, hc, h2, h3⟩ := h
  have ha : Agree (fun b => w1.heap.size ≤ b) w4 (w4.setCell ⟨g, 0, none⟩ u) := Agree.of_setCell _ _ _ (fun b hb e => by have hb' : w1.heap.size ≤ b := hb; have e' : b = g := e; omega)
  have hs := hb.size
  exact ⟨d.doc, _, true, rfl, .inl ⟨rfl, hg, k, d, hk, hi, rfl⟩, (below_then hb hs h1).setCell hg1 _, A, c, rfl, hc, (h2.frame ha).mono (fun b hb' _ => Nat.le_trans hs hb'), own_weaken (own_agree h3 ha (fun k hk => (own_base h3 k hk).1)) hs⟩
theorem NdOwn.form {l : List Nd} {w w' : World} {v : Value} (h : NdOwn l w v w') : ∃ A c, v = .slice A l.length c := by
  obtain ⟨_, A, c, e, _⟩ := h
  exact ⟨A, c, e⟩
theorem results_row_tmp {P : Program} {fn : Func} {p u : Tmp} {ty : TypeId} (h : fn.results = #[.cell p ty, .tmp u]) (tmps : Array Value) (w : World) (g : Nat) (t : TypeId) (cs : Array Value) (fr : Nat × Nat) (d : TypeDesc)
    (hp : tmps.getD p undef = .pointer (some ⟨g, 0, none⟩)) (hg : w.heap[g]? = some (.cells cs t fr))
    (hu : P.underlying ty = some d) (hd : (match d with | .struct _ | .array _ _ => true | _ => false) = true) (hi : (P.info? ty).map (·.size) = some cs.size) :
    (results fn tmps).run P w = .ok (.tuple #[.agg cs, tmps.getD u undef]) w := by
  have hp' : tmps[p]?.getD undef = .pointer (some ⟨g, 0, none⟩) := by simpa using hp
  simp [results, h, hp', asAddr, run_loadVar_row w g t ty cs fr d hg hu hd hi]
set_option maxRecDepth 100000 in
set_option maxHeartbeats 1600000 in
theorem sDocIn_any (b : BsV) (hf : b.fits 1000000000) (id : Int) (F : Nat → Prop) (A1 A2 : Option Addr) (c1 c2 : Nat) (w : World) (hr1 : StAt F w A1 b.docs) (hr2 : Rds F w A2 (ssCells b.sess)) :
    Calls Tryz.prog 21 #[b.val A1 c1 A2 c2, .int .i64 id] w (DcPost b id w) := by
  obtain ⟨w1, hw⟩ : ∃ w1, w1 = (w.alloc (.cells #[.int .i64 b.applied, .slice A1 b.docs.length c1, .slice A2 b.sess.length c2] 48 (0, 0))).alloc (.cells #[.slice none 0 0] 31 (0, 0)) := ⟨_, rfl⟩
  have hb1 : Below w.heap.size w w1 := by rw [hw]; exact ((Below.refl _ _).alloc (Nat.le_refl _) _).alloc (by simp) _
  have k0 : w1.heap[w.heap.size]? = some (.cells #[.int .i64 b.applied, .slice A1 b.docs.length c1, .slice A2 b.sess.length c2] 48 (0, 0)) := by rw [hw]; (repeat (first | with_reducible assumption | (with_reducible refine blk_new _ ?_; (first | rfl | (simp; done) | (simp; omega))) | with_reducible apply block_setCell | (with_reducible refine blk_skip _ _ ?_ ?_; rotate_left; (first | (simp; done) | (simp; omega))) | with_reducible refine blk_old ?_))
  have k1 : w1.heap[w.heap.size + 1]? = some (.cells #[.slice none 0 0] 31 (0, 0)) := by rw [hw]; (repeat (first | with_reducible assumption | (with_reducible refine blk_new _ ?_; (first | rfl | (simp; done) | (simp; omega))) | with_reducible apply block_setCell | (with_reducible refine blk_skip _ _ ?_ ?_; rotate_left; (first | (simp; done) | (simp; omega))) | with_reducible refine blk_old ?_))
  have hs1 : w1.heap.size = w.heap.size + 2 := by rw [hw]; simp
  have HG := Lib.hid (sGoodBase_any b hf F A1 A2 c1 c2 w1 (hr1.frame (Agree.of_below hb1)) (hr2.frame (Agree.of_below hb1)))
  have HR1 := Lib.hid (fun W (hb : Below w.heap.size w W) => hr1.frame (Agree.of_below hb))
  have HQ := Lib.hid (fun d (hd : d ∈ b.docs) => (hf.2.2 d hd).1)
  have q1 := hf.1
  have HW := Lib.hid hw
  clear hr1 hr2 hf hw
  unfold BsV.val
  go_enter Tryz.func21, Tryz.ntmps21
  go_wp2_with fail
  rw [← HW.out]
  clear HW
  refine HG.out.mono ?_
  rintro e w2 ⟨hb2, g, rfl, hg⟩
  have HB2 := Lib.hid (below_then hb1 hb1.size hb2)
  have hs2 := hb2.size
  obtain ⟨x0, x1, x2⟩ := cells3 (block_below k0 hb2)
  have HK1 := Lib.hid (block_below k1 hb2)
  have f1 := free_of_block HK1.out 0
  have y1 := cell_of_block HK1.out 0
  simp at y1
  have HGD := Lib.hid hg
  clear hg hb2 k0 k1 HG hb1
  cases g
  · go_wp2
    refine bodyPost_ret (results_row_tmp rfl _ _ (w.heap.size + 1) _ _ _ _ rfl (block_setCell HK1.out _ _) Tryz.underlying31 rfl ((info_size infoValue).trans (by simp))) rfl ?_
    exact dc_no (HB2.out.setCell (p := ⟨w.heap.size + 1, 0, none⟩) (by show w.heap.size ≤ w.heap.size + 1; omega) _) (fun h => by have := HGD.out.2 h.1; cases this)
  · have HGOOD := Lib.hid (HGD.out.1 rfl)
    go_wp2
    clear f1 y1 x0 x1 x2
    go_loopw [15] (fun iv wx => ∃ k : Nat, iv = .int .i64 (k : Int) ∧ k ≤ b.docs.length ∧ Hid (∀ (i : Nat) (d : StV), i < k → b.docs[i]? = some d → d.id ≠ id) ∧ Below w2.heap.size w2 wx) (fun iv _ => b.docs.length - (intOf iv).toNat)
    case atStart => exact ⟨0, rfl, Nat.zero_le _, fun i d h => by omega, Below.refl _ _⟩
    case round =>
      obtain ⟨k, rfl, hk, hno, hbx⟩ := hrel
      have hsx := hbx.size
      have HBX := Lib.hid (below_then HB2.out HB2.out.size hbx)
      have HK1x := Lib.hid (block_below HK1.out hbx)
      have HNO := Lib.hid hno
      have HBY := Lib.hid hbx
      clear hno hbx
      by_cases hlt : k < b.docs.length
      · obtain ⟨bb, o, r, rfl, hF, hbl, hx, g0, g1, hcp, hrr⟩ := st_at (HR1.out _ HBX.out) k hlt
        have hql := HQ.out r.d (List.mem_of_getElem? hx)
        have HX := Lib.hid hx
        have hbn : Below wr.heap.size wr (wr.alloc (.cells #[.int .i64 r.d.id, .slice r.adr r.d.doc.length r.cap] 82 (0, 0))) := (Below.refl _ _).alloc (Nat.le_refl _) _
        have hsn : (wr.alloc (.cells #[.int .i64 r.d.id, .slice r.adr r.d.doc.length r.cap] 82 (0, 0))).heap.size = wr.heap.size + 1 := by simp
        have HBN := Lib.hid hbn
        have HRR := Lib.hid (hrr.frame (Agree.of_below hbn))
        clear hx hbn hrr
        by_cases hide : r.d.id = id
        · subst hide
          go_wp2_with fail
          generalize wr.alloc (.cells #[.int .i64 r.d.id, .slice r.adr r.d.doc.length r.cap] 82 (0, 0)) = w3 at HBN HRR hsn ⊢
          refine (sOwnVal_any r.d.doc hql F r.adr r.cap w3 HRR.out).mono ?_
          rintro e w4 ⟨v, rfl, hown⟩
          obtain ⟨A4, c4, rfl⟩ := hown.form
          have HO := Lib.hid hown
          have hk4 := block_below (block_below HK1x.out HBN.out) hown.1
          have f1 := free_of_block hk4 0
          have y1 := cell_of_block hk4 0
          simp at y1
          have HK4 := Lib.hid hk4
          clear hown hk4
          go_wp2
          refine bodyPost_ret (results_row_tmp rfl _ _ (w.heap.size + 1) _ _ _ _ rfl (block_setCell HK4.out _ _) Tryz.underlying31 rfl ((info_size infoValue).trans (by simp))) rfl ?_
          exact dc_yes2 (below_then HBX.out HBX.out.size HBN.out) HGOOD.out HX.out rfl HO.out (by omega) (by omega) _
        · have HIDE := Lib.hid hide
          have HBW := Lib.hid (below_then HBY.out HBY.out.size HBN.out)
          go_wp2
          go_roundw
          case rel =>
            refine ⟨k + 1, by go_num, by omega, fun i d hi hd => ?_, HBW.out⟩
            by_cases c : i = k
            · subst c
              have := HX.out
              rw [hd] at this
              injection this with this
              rw [this]
              exact HIDE.out
            · exact HNO.out i d (by omega) hd
          case measure => simp [intOf]; omega
      · obtain rfl : k = b.docs.length := by omega
        have f1 := free_of_block HK1x.out 0
        have y1 := cell_of_block HK1x.out 0
        simp at y1
        go_wp2
        refine bodyPost_ret (results_row_tmp rfl _ _ (w.heap.size + 1) _ _ _ _ rfl (block_setCell HK1x.out _ _) Tryz.underlying31 rfl ((info_size infoValue).trans (by simp))) rfl ?_
        refine dc_no (HBX.out.setCell (p := ⟨w.heap.size + 1, 0, none⟩) (by show w.heap.size ≤ w.heap.size + 1; omega) _) ?_
        rintro ⟨_, d, hd, he⟩
        obtain ⟨i, hi⟩ := List.mem_iff_getElem?.1 hd
        exact HNO.out i d ((List.getElem?_eq_some_iff.1 hi).1) hi he
set_option maxRecDepth 100000 in
set_option maxHeartbeats 1600000 in
theorem docIn_any (b : BsV) (hf : b.fits 1000000000) (id : Int) (hid : -9223372036854775808 ≤ id ∧ id ≤ 9223372036854775807) (F : Nat → Prop) (A1 A2 : Option Addr) (c1 c2 : Nat) (w : World) (hr1 : StAt F w A1 b.docs) (hr2 : Rds F w A2 (ssCells b.sess)) (htab : Tabs w.heap.size w) :
    Calls Tryz.prog 22 #[b.val A1 c1 A2 c2, .int .i64 id] w (DcPost b id w) := by
  obtain ⟨w1, hw⟩ : ∃ w1, w1 = (w.alloc (.cells #[.int .i64 b.applied, .slice A1 b.docs.length c1, .slice A2 b.sess.length c2] 48 (0, 0))).alloc (.cells #[.slice none 0 0] 31 (0, 0)) := ⟨_, rfl⟩
  have hb1 : Below w.heap.size w w1 := by rw [hw]; exact ((Below.refl _ _).alloc (Nat.le_refl _) _).alloc (by simp) _
  have k0 : w1.heap[w.heap.size]? = some (.cells #[.int .i64 b.applied, .slice A1 b.docs.length c1, .slice A2 b.sess.length c2] 48 (0, 0)) := by rw [hw]; (repeat (first | with_reducible assumption | (with_reducible refine blk_new _ ?_; (first | rfl | (simp; done) | (simp; omega))) | with_reducible apply block_setCell | (with_reducible refine blk_skip _ _ ?_ ?_; rotate_left; (first | (simp; done) | (simp; omega))) | with_reducible refine blk_old ?_))
  have k1 : w1.heap[w.heap.size + 1]? = some (.cells #[.slice none 0 0] 31 (0, 0)) := by rw [hw]; (repeat (first | with_reducible assumption | (with_reducible refine blk_new _ ?_; (first | rfl | (simp; done) | (simp; omega))) | with_reducible apply block_setCell | (with_reducible refine blk_skip _ _ ?_ ?_; rotate_left; (first | (simp; done) | (simp; omega))) | with_reducible refine blk_old ?_))
  have hs1 : w1.heap.size = w.heap.size + 2 := by rw [hw]; simp
  have q1 := hf.1
  have HG := Lib.hid (fun W (hb : Below w.heap.size w W) => goodBase_any b hf F A1 A2 c1 c2 W (hr1.frame (Agree.of_below hb)) (hr2.frame (Agree.of_below hb)) ((htab.below hb).mono hb.size))
  have HS := Lib.hid (doc_any b.docs q1 id F w.heap.size (.int .i64 b.applied) (.slice A2 b.sess.length c2) 48 A1 c1 w1 k0 (hr1.frame (Agree.of_below hb1)))
  have HR1 := Lib.hid (fun W (hb : Below w.heap.size w W) => hr1.frame (Agree.of_below hb))
  have HQ := Lib.hid (fun d (hd : d ∈ b.docs) => (hf.2.2 d hd).1)
  have HW := Lib.hid hw
  clear hr1 hr2 hf hw htab
  unfold BsV.val
  go_enter Tryz.func22, Tryz.ntmps22
  go_wp2_with fail
  rw [← HW.out]
  clear HW
  refine HS.out.mono ?_
  rintro e w2 ⟨hb2, i, f, rfl, hbin⟩
  have HB2 := Lib.hid (below_then hb1 hb1.size hb2)
  have hs2 := hb2.size
  have HK0 := Lib.hid (block_below k0 hb2)
  have HK1 := Lib.hid (block_below k1 hb2)
  have HN := Lib.hid hbin
  obtain ⟨x0, x1, x2⟩ := cells3 HK0.out
  clear hb2 hbin k0 k1 HS hb1
  go_wp2_with fail
  refine (HG.out w2 HB2.out).mono ?_
  rintro e w3 ⟨hb3, g, rfl, hg⟩
  have HGD := Lib.hid hg
  have HB3 := Lib.hid (below_then HB2.out HB2.out.size hb3)
  have hs3 := hb3.size
  have hk0 := block_below HK0.out hb3
  have hk1 := block_below HK1.out hb3
  obtain ⟨z0, z1, z2⟩ := cells3 hk0
  have f1 := free_of_block hk1 0
  have y1 := cell_of_block hk1 0
  simp at y1
  have HK3 := Lib.hid hk1
  clear hg hb3 x0 x1 x2 hk0 hk1
  have hno : (g = true → f = true → False) → ∀ u, DcPost b id w (.returned (.tuple #[.agg #[.slice none 0 0], .bool false])) (w3.setCell ⟨w.heap.size + 1, 0, none⟩ u) := fun h u =>
    dc_no (HB3.out.setCell (p := ⟨w.heap.size + 1, 0, none⟩) (by show w.heap.size ≤ w.heap.size + 1; omega) _) (fun h' => h (HGD.out.2 h'.1) ((HN.out.found h'.1 hid).2 h'.2))
  have HNO := Lib.hid hno
  clear hno
  cases g
  · go_wp2
    refine bodyPost_ret (results_row_tmp rfl _ _ (w.heap.size + 1) _ _ _ _ rfl (block_setCell HK3.out _ _) Tryz.underlying31 rfl ((info_size infoValue).trans (by simp))) rfl ?_
    exact HNO.out (fun h => by cases h) _
  · cases f
    · go_wp2
      refine bodyPost_ret (results_row_tmp rfl _ _ (w.heap.size + 1) _ _ _ _ rfl (block_setCell HK3.out _ _) Tryz.underlying31 rfl ((info_size infoValue).trans (by simp))) rfl ?_
      exact HNO.out (fun _ h => by cases h) _
    · have hgood := HGD.out.1 rfl
      obtain ⟨d, hd, he⟩ := (HN.out.same hgood hid).1 rfl
      have hlt : i < b.docs.length := (List.getElem?_eq_some_iff.1 hd).1
      obtain ⟨bb, o, r, rfl, hF, hbl, hx, g0, g1, hcp, hrr⟩ := st_at (HR1.out _ HB3.out) i hlt
      obtain rfl : d = r.d := by rw [hd] at hx; injection hx
      have hql := HQ.out r.d (List.mem_of_getElem? hx)
      have HX := Lib.hid hx
      have HE := Lib.hid he
      have HGOOD := Lib.hid hgood
      have HRR := Lib.hid hrr
      clear hx hd he hgood hrr HNO HR1 HG
      go_wp2_with fail
      refine (cloneVal_any r.d.doc hql F r.adr r.cap w3 HRR.out).mono ?_
      rintro e w4 ⟨v, rfl, hown⟩
      obtain ⟨A4, c4, rfl⟩ := hown.form
      have HO := Lib.hid hown
      have hk4 := block_below HK3.out hown.1
      have f2 := free_of_block hk4 0
      have y2 := cell_of_block hk4 0
      simp at y2
      have HK4 := Lib.hid hk4
      clear hown hk4 f1 y1
      go_wp2
      refine bodyPost_ret (results_row_tmp rfl _ _ (w.heap.size + 1) _ _ _ _ rfl (block_setCell HK4.out _ _) Tryz.underlying31 rfl ((info_size infoValue).trans (by simp))) rfl ?_
      exact dc_yes2 HB3.out HGOOD.out HX.out HE.out HO.out (by omega) (by omega) _
end Go.Proofs.YtekamdcojabgeaaGreatDoor
