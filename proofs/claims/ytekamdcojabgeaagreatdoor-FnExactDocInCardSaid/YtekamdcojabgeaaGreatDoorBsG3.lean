/- The walk of the reference's GoodBase. -/
import Derived.Test.YtekamdcojabgeaaGreatDoorBsG2
import Derived.Test.YtekamdcojabgeaaGreatDoorOpTx
import Derived.Deep.RegionWith
import Derived.Deep.RegionHeld3
namespace Go.Proofs.YtekamdcojabgeaaGreatDoor
open Go.RowKit
def CutSt (ds : List StV) (k : Nat) (d : StV) (w : World) (v : Value) (wx : World) : Prop := Below w.heap.size w wx ∧ ∃ bad, v = .bool bad ∧ (bad = false ↔ StOK ds k d)
def CutSs (l : List SsV) (k : Nat) (s : SsV) (w : World) (v : Value) (wx : World) : Prop := Below w.heap.size w wx ∧ ∃ bad, v = .bool bad ∧ (bad = false ↔ SsOK l k s)
theorem cutSt_bad {ds : List StV} {k : Nat} {d : StV} {w wx : World} (hb : Below w.heap.size w wx) (h : ¬ StOK ds k d) : CutSt ds k d w (.bool true) wx := ⟨hb, true, rfl, (fun h => by cases h), fun h' => absurd h' h⟩
theorem cutSt_ok {ds : List StV} {k : Nat} {d : StV} {w wx : World} (hb : Below w.heap.size w wx) (h : StOK ds k d) : CutSt ds k d w (.bool false) wx := ⟨hb, false, rfl, fun _ => h, fun _ => rfl⟩
theorem cutSs_bad {ds : List SsV} {k : Nat} {d : SsV} {w wx : World} (hb : Below w.heap.size w wx) (h : ¬ SsOK ds k d) : CutSs ds k d w (.bool true) wx := ⟨hb, true, rfl, (fun h => by cases h), fun h' => absurd h' h⟩
theorem cutSs_ok {ds : List SsV} {k : Nat} {d : SsV} {w wx : World} (hb : Below w.heap.size w wx) (h : SsOK ds k d) : CutSs ds k d w (.bool false) wx := ⟨hb, false, rfl, fun _ => h, fun _ => rfl⟩
theorem below_drew2 {w w1 : World} (h : Below w.drew.heap.size w.drew w1) : Below w.heap.size w w1 := ((Below.refl _ _).drew).trans h
theorem keep4b {w1 W W' : World} {b0 b1 b2 b3 o0 o1 o2 o3 : Nat} {v0 v1 v2 v3 : Value} (h : Below w1.heap.size w1 W ∧ W.cell? ⟨b0, o0, none⟩ = some v0 ∧ W.cell? ⟨b1, o1, none⟩ = some v1 ∧ W.cell? ⟨b2, o2, none⟩ = some v2 ∧ W.cell? ⟨b3, o3, none⟩ = some v3) (hb : Below W.heap.size W W') :
    Below w1.heap.size w1 W' ∧ W'.cell? ⟨b0, o0, none⟩ = some v0 ∧ W'.cell? ⟨b1, o1, none⟩ = some v1 ∧ W'.cell? ⟨b2, o2, none⟩ = some v2 ∧ W'.cell? ⟨b3, o3, none⟩ = some v3 :=
  ⟨below_then h.1 h.1.size hb, cell_keep h.2.1 hb, cell_keep h.2.2.1 hb, cell_keep h.2.2.2.1 hb, cell_keep h.2.2.2.2 hb⟩
theorem qleft {P : Program} {f : FuncId} {args : Array Value} {w : World} {n : Nat} {v : Value} (h : Calls P f args (w.drewN n) fun e w' => e = .returned v ∧ w.drewN n = w') : Calls P f args (w.drewN n) fun e w'' => e = .returned v ∧ ∃ m, w'' = w.drewN m :=
  h.mono fun _ _ ⟨he, hm⟩ => ⟨he, n, hm.symm⟩
theorem sIn_lit (n lo hi : Int) (r : Bool) (h : (decide (lo ≤ n) && decide (n ≤ hi)) = r) (w : World) : Calls Tryz.prog 38 #[.int .i64 n, .int .i64 lo, .int .i64 hi] w fun e w' => e = .returned (.bool r) ∧ w = w' := by
  rw [← h]; exact sIn_any n lo hi w
set_option maxRecDepth 100000 in
set_option maxHeartbeats 6000000 in
theorem sGoodBase_any (b : BsV) (hf : b.fits 1000000000) (F : Nat → Prop) (A1 A2 : Option Addr) (c1 c2 : Nat) (w : World) (hr1 : StAt F w A1 b.docs) (hr2 : Rds F w A2 (ssCells b.sess)) :
    Calls Tryz.prog 17 #[b.val A1 c1 A2 c2] w (BGP b w) := by
  obtain ⟨q1, q2, q3⟩ := hf
  have HR1 := Lib.hid (fun W (hb : Below w.heap.size w W) => hr1.frame (Agree.of_below hb))
  have HR2 := Lib.hid (fun W (hb : Below w.heap.size w W) => hr2.frame (Agree.of_below hb))
  have HQ := Lib.hid (fun d (hd : d ∈ b.docs) => (⟨(q3 d hd).1, fun x hx => by have := (q3 d hd).2 x hx; unfold Nd.small at this; omega⟩ : d.doc.length ≤ 1000000000 ∧ ∀ x ∈ d.doc, x.text.size ≤ 9223372036854775807 ∧ x.name.size ≤ 9223372036854775807))
  have k0 := heap_alloc_new w (.cells #[.int .i64 b.applied, .slice A1 b.docs.length c1, .slice A2 b.sess.length c2] 48 (0, 0))
  have hb0 : Below w.heap.size w (w.alloc (.cells #[.int .i64 b.applied, .slice A1 b.docs.length c1, .slice A2 b.sess.length c2] 48 (0, 0))) := (Below.refl _ _).alloc (Nat.le_refl _) _
  have HK0 := Lib.hid k0
  have HB0 := Lib.hid hb0
  clear hr1 hr2 q3 k0 hb0
  unfold BsV.val
  go_enter Tryz.func17, Tryz.ntmps17
  go_wp2
  generalize w.alloc (.cells #[.int .i64 b.applied, .slice A1 b.docs.length c1, .slice A2 b.sess.length c2] 48 (0, 0)) = w1 at HB0 HK0 ⊢
  go_loopw [10] (fun i wx => ∃ k : Nat, i = .int .i64 (k : Int) ∧ k ≤ b.docs.length ∧ (∀ i d, i < k → b.docs[i]? = some d → StOK b.docs i d) ∧ Below w1.heap.size w1 wx) (fun i _ => b.docs.length - (intOf i).toNat)
  case atStart => exact ⟨0, rfl, Nat.zero_le _, fun i d h => by omega, Below.refl _ _⟩
  case round =>
    obtain ⟨k, rfl, hk, hall, hbx⟩ := hrel
    have HX := Lib.hid hbx
    have HBX := Lib.hid (below_then HB0.out HB0.out.size hbx)
    have HA := Lib.hid hall
    clear hbx hall
    by_cases hlt : k < b.docs.length
    · obtain ⟨bb, o, r, hA1, hF, hbl, hx, g0, g1, hcp, hrr⟩ := st_at (HR1.out _ HBX.out) k hlt
      have hmem : r.d ∈ b.docs := List.mem_of_getElem? hx
      have HD := Lib.hid hx
      have HQD := Lib.hid (HQ.out r.d hmem)
      have hnb := heap_alloc_new wr (.cells #[.int .i64 r.d.id, .slice r.adr r.d.doc.length r.cap] 82 (0, 0))
      have hbn : Below wr.heap.size wr (wr.alloc (.cells #[.int .i64 r.d.id, .slice r.adr r.d.doc.length r.cap] 82 (0, 0))) := (Below.refl _ _).alloc (Nat.le_refl _) _
      have HNB := Lib.hid hnb
      have HBN := Lib.hid hbn
      have HRR := Lib.hid (hrr.frame (Agree.of_below hbn))
      obtain ⟨g, hg⟩ := isVal_ex r.d.doc
      have HG := Lib.hid hg
      have hkb : (k : Int) < (b.docs.length : Int) := by omega
      have HAA := Lib.hid hA1
      subst hA1
      clear hx hnb hbn hrr hg
      go_upto_region 4 with fail
      generalize wr.alloc (.cells #[.int .i64 r.d.id, .slice r.adr r.d.doc.length r.cap] 82 (0, 0)) = w3 at HNB HBN HRR ⊢
      have HB3 := Lib.hid (below_then HBX.out HBX.out.size HBN.out)
      have HX3 := Lib.hid (below_then HX.out HX.out.size HBN.out)
      have HGV := Lib.hid (fun W (hb : Below w3.heap.size w3 W) => (sGoodValue_any r.d.doc HQD.out.1 HQD.out.2 F r.adr r.cap W (HRR.out.frame (Agree.of_below hb))).mono (fun e w' (h : GVP r.d.doc W e w') => (show e = .returned (.bool g) ∧ Below W.heap.size W w' from by obtain ⟨h1, g', h2, h3⟩ := h; obtain rfl := h3.eq HG.out; exact ⟨h2, h1⟩)))
      obtain ⟨x0, x1⟩ := cells2 HNB.out
      obtain ⟨y0, y1, y2⟩ := cells3 (block_below HK0.out HX3.out)
      clear g0 g1
      go_cut [40] (fun s40 wx => CutSt b.docs k r.d w3 s40 wx)
      case first =>
        --<f1
        cases ci : decide (0 ≤ r.d.id) && decide (r.d.id ≤ 100)
        · have CI := Lib.hid ci
          have HI := Lib.hid (fun W => sIn_lit r.d.id 0 100 false ci W)
          clear ci
          go_quiet ((go_at_call 38; exact qleft (HI.out _)))
          all_goals
            go_wp2_with fail
            go_meet
            exact cutSt_bad (below_drawn (Below.refl _ _) _) (fun h => by have h1 := h.1; have := CI.out; simp only [h1.1, h1.2, decide_true, Bool.and_self] at this; cases this)
        have CI : Hid (0 ≤ r.d.id ∧ r.d.id ≤ 100) := Lib.hid (by simpa using ci)
        have HI := Lib.hid (fun W => sIn_lit r.d.id 0 100 true ci W)
        clear ci
        cases g
        · skip
          --<fa
          refine wp_region_any (by kernel_rfl) ?_
          change wpAny _ _ _ _ _ _ _ (World.drew _)
          (refine wpAny_take (i := 0) (v := ?_) rfl (by kernel_rfl) (by kernel_rfl) (by kernel_rfl) (fun _ _ _ h => h) (Or.inl ⟨rfl, ?_⟩) ?_; rotate_left 1; (focus (intro w; go_simp; try (with_reducible rfl))); change wpAny _ _ _ _ _ _ (Act.put _ (some 15) _) _; simp only [Act.put, List.setIfInBounds_toArray, List.set_cons_zero, List.set_cons_succ])
          (refine wpAny_ready (rs := [1]) (by kernel_rfl) (by simp) ?_; refine AllReady.cons rfl (fun K hK => ?_) AllReady.nil; go_simp)
          refine hK _ _ ?_
          clear hK K
          (refine wpAny_ready (rs := [2]) (by kernel_rfl) (by simp) ?_; refine AllReady.cons rfl (fun K hK => ?_) AllReady.nil; go_simp)
          refine (HI.out _).mono ?_
          rintro e w' ⟨rfl, rfl⟩
          go_simp
          refine hK _ _ ?_
          clear hK K
          (refine wpAny_take (i := 3) (v := ?_) rfl (by kernel_rfl) (by kernel_rfl) (by kernel_rfl) (fun _ _ _ h => h) (Or.inl ⟨rfl, ?_⟩) ?_; rotate_left 1; (focus (intro w; go_simp; try (with_reducible rfl))); change wpAny _ _ _ _ _ _ (Act.put _ (some 18) _) _; simp only [Act.put, List.setIfInBounds_toArray, List.set_cons_zero, List.set_cons_succ])
          (refine wpAny_take (i := 4) (v := ?_) rfl (by kernel_rfl) (by kernel_rfl) (by kernel_rfl) (fun _ _ _ h => h) (Or.inl ⟨rfl, ?_⟩) ?_; rotate_left 1; (focus (intro w; go_simp; try (with_reducible rfl))); change wpAny _ _ _ _ _ _ (Act.put _ (some 19) _) _; simp only [Act.put, List.setIfInBounds_toArray, List.set_cons_zero, List.set_cons_succ])
          (refine wpAny_take (i := 5) (v := ?_) rfl (by kernel_rfl) (by kernel_rfl) (by kernel_rfl) (fun _ _ _ h => h) (Or.inl ⟨rfl, ?_⟩) ?_; rotate_left 1; (focus (intro w; go_simp; try (with_reducible rfl))); change wpAny _ _ _ _ _ _ (Act.put _ (some 20) _) _; simp only [Act.put, List.setIfInBounds_toArray, List.set_cons_zero, List.set_cons_succ])
          (refine wpAny_ready (rs := [6]) (by kernel_rfl) (by simp) ?_; refine AllReady.cons rfl (fun K hK => ?_) AllReady.nil; go_simp)
          refine hK _ _ ?_
          clear hK K
          (refine wpAny_ready (rs := [7]) (by kernel_rfl) (by simp) ?_; refine AllReady.cons rfl (fun K hK => ?_) AllReady.nil; go_simp)
          refine (HGV.out _ ((Below.refl _ _).drew)).mono ?_
          rintro e w4 ⟨rfl, hb4⟩
          go_simp
          refine hK _ _ ?_
          clear hK K
          (refine wpAny_take (i := 8) (v := ?_) rfl (by kernel_rfl) (by kernel_rfl) (by kernel_rfl) (fun _ _ _ h => h) (Or.inl ⟨rfl, ?_⟩) ?_; rotate_left 1; (focus (intro w; go_simp; try (with_reducible rfl))); change wpAny _ _ _ _ _ _ (Act.put _ (some 23) _) _; simp only [Act.put, List.setIfInBounds_toArray, List.set_cons_zero, List.set_cons_succ])
          (refine wpAny_take (i := 9) (v := ?_) rfl (by kernel_rfl) (by kernel_rfl) (by kernel_rfl) (fun _ _ _ h => h) (Or.inl ⟨rfl, ?_⟩) ?_; rotate_left 1; (focus (intro w; go_simp; try (with_reducible rfl))); change wpAny _ _ _ _ _ _ (Act.put _ (some 24) _) _; simp only [Act.put, List.setIfInBounds_toArray, List.set_cons_zero, List.set_cons_succ])
          (refine wpAny_take (i := 10) (v := ?_) rfl (by kernel_rfl) (by kernel_rfl) (by kernel_rfl) (fun _ _ _ h => h) (Or.inl ⟨rfl, ?_⟩) ?_; rotate_left 1; (focus (intro w; go_simp; try (with_reducible rfl))); change wpAny _ _ _ _ _ _ (Act.put _ (some 25) _) _; simp only [Act.put, List.setIfInBounds_toArray, List.set_cons_zero, List.set_cons_succ])
          (refine wpAny_take (i := 11) (v := undef) rfl (by kernel_rfl) (by kernel_rfl) (by kernel_rfl) (fun _ _ _ h => h) (Or.inr ⟨rfl, rfl⟩) ?_; change wpAny _ _ _ _ _ _ (Act.put _ (some 26) _) _; simp only [Act.put, List.setIfInBounds_toArray, List.set_cons_zero, List.set_cons_succ])
          (refine wpAny_take (i := 12) (v := undef) rfl (by kernel_rfl) (by kernel_rfl) (by kernel_rfl) (fun _ _ _ h => h) (Or.inr ⟨rfl, rfl⟩) ?_; change wpAny _ _ _ _ _ _ (Act.put _ (some 27) _) _; simp only [Act.put, List.setIfInBounds_toArray, List.set_cons_zero, List.set_cons_succ])
          (refine wpAny_take (i := 13) (v := undef) rfl (by kernel_rfl) (by kernel_rfl) (by kernel_rfl) (fun _ _ _ h => h) (Or.inr ⟨rfl, rfl⟩) ?_; change wpAny _ _ _ _ _ _ (Act.put _ (some 28) _) _; simp only [Act.put, List.setIfInBounds_toArray, List.set_cons_zero, List.set_cons_succ])
          (refine wpAny_take (i := 14) (v := undef) rfl (by kernel_rfl) (by kernel_rfl) (by kernel_rfl) (fun _ _ _ h => h) (Or.inr ⟨rfl, rfl⟩) ?_; change wpAny _ _ _ _ _ _ (Act.put _ (some 29) _) _; simp only [Act.put, List.setIfInBounds_toArray, List.set_cons_zero, List.set_cons_succ])
          (refine wpAny_take (i := 15) (v := undef) rfl (by kernel_rfl) (by kernel_rfl) (by kernel_rfl) (fun _ _ _ h => h) (Or.inr ⟨rfl, rfl⟩) ?_; change wpAny _ _ _ _ _ _ (Act.put _ (some 30) _) _; simp only [Act.put, List.setIfInBounds_toArray, List.set_cons_zero, List.set_cons_succ])
          (refine wpAny_take (i := 16) (v := undef) rfl (by kernel_rfl) (by kernel_rfl) (by kernel_rfl) (fun _ _ _ h => h) (Or.inr ⟨rfl, rfl⟩) ?_; change wpAny _ _ _ _ _ _ (Act.put _ (some 31) _) _; simp only [Act.put, List.setIfInBounds_toArray, List.set_cons_zero, List.set_cons_succ])
          (refine wpAny_take (i := 17) (v := undef) rfl (by kernel_rfl) (by kernel_rfl) (by kernel_rfl) (fun _ _ _ h => h) (Or.inr ⟨rfl, rfl⟩) ?_; change wpAny _ _ _ _ _ _ (Act.put _ (some 32) _) _; simp only [Act.put, List.setIfInBounds_toArray, List.set_cons_zero, List.set_cons_succ])
          (refine wpAny_take (i := 18) (v := undef) rfl (by kernel_rfl) (by kernel_rfl) (by kernel_rfl) (fun _ _ _ h => h) (Or.inr ⟨rfl, rfl⟩) ?_; change wpAny _ _ _ _ _ _ (Act.put _ (some 33) _) _; simp only [Act.put, List.setIfInBounds_toArray, List.set_cons_zero, List.set_cons_succ])
          (refine wpAny_take (i := 19) (v := undef) rfl (by kernel_rfl) (by kernel_rfl) (by kernel_rfl) (fun _ _ _ h => h) (Or.inr ⟨rfl, rfl⟩) ?_; change wpAny _ _ _ _ _ _ (Act.put _ (some 34) _) _; simp only [Act.put, List.setIfInBounds_toArray, List.set_cons_zero, List.set_cons_succ])
          (refine wpAny_take (i := 20) (v := undef) rfl (by kernel_rfl) (by kernel_rfl) (by kernel_rfl) (fun _ _ _ h => h) (Or.inr ⟨rfl, rfl⟩) ?_; change wpAny _ _ _ _ _ _ (Act.put _ (some 35) _) _; simp only [Act.put, List.setIfInBounds_toArray, List.set_cons_zero, List.set_cons_succ])
          (refine wpAny_take (i := 21) (v := undef) rfl (by kernel_rfl) (by kernel_rfl) (by kernel_rfl) (fun _ _ _ h => h) (Or.inr ⟨rfl, rfl⟩) ?_; change wpAny _ _ _ _ _ _ (Act.put _ (some 36) _) _; simp only [Act.put, List.setIfInBounds_toArray, List.set_cons_zero, List.set_cons_succ])
          (refine wpAny_take (i := 22) (v := undef) rfl (by kernel_rfl) (by kernel_rfl) (by kernel_rfl) (fun _ _ _ h => h) (Or.inr ⟨rfl, rfl⟩) ?_; change wpAny _ _ _ _ _ _ (Act.put _ (some 37) _) _; simp only [Act.put, List.setIfInBounds_toArray, List.set_cons_zero, List.set_cons_succ])
          (refine wpAny_take (i := 23) (v := undef) rfl (by kernel_rfl) (by kernel_rfl) (by kernel_rfl) (fun _ _ _ h => h) (Or.inr ⟨rfl, rfl⟩) ?_; change wpAny _ _ _ _ _ _ (Act.put _ (some 38) _) _; simp only [Act.put, List.setIfInBounds_toArray, List.set_cons_zero, List.set_cons_succ])
          (refine wpAny_take (i := 24) (v := undef) rfl (by kernel_rfl) (by kernel_rfl) (by kernel_rfl) (fun _ _ _ h => h) (Or.inr ⟨rfl, rfl⟩) ?_; change wpAny _ _ _ _ _ _ (Act.put _ (some 39) _) _; simp only [Act.put, List.setIfInBounds_toArray, List.set_cons_zero, List.set_cons_succ])
          (refine wpAny_take (i := 25) (v := ?_) rfl (by kernel_rfl) (by kernel_rfl) (by kernel_rfl) (fun _ _ _ h => h) (Or.inl ⟨rfl, ?_⟩) ?_; rotate_left 1; (focus (intro w; go_simp; try (with_reducible rfl))); change wpAny _ _ _ _ _ _ (Act.put _ (some 40) _) _; simp only [Act.put, List.setIfInBounds_toArray, List.set_cons_zero, List.set_cons_succ])
          refine wpAny_done (by kernel_rfl) ?_ _
          go_wp2_with fail
          go_meet
          exact cutSt_bad (below_drew2 hb4) (fun h => by have := HG.out.2 h.2.1; cases this)
          -->fa
        · by_cases hk0 : k = 0
          · skip
            --<fb
            have hkz : decide (0 < k) = false := by simp; omega
            have HK := Lib.hid hk0
            clear hk0
            refine wp_region_any (by kernel_rfl) ?_
            change wpAny _ _ _ _ _ _ _ (World.drew _)
            (refine wpAny_take (i := 0) (v := ?_) rfl (by kernel_rfl) (by kernel_rfl) (by kernel_rfl) (fun _ _ _ h => h) (Or.inl ⟨rfl, ?_⟩) ?_; rotate_left 1; (focus (intro w; go_simp; try (with_reducible rfl))); change wpAny _ _ _ _ _ _ (Act.put _ (some 15) _) _; simp only [Act.put, List.setIfInBounds_toArray, List.set_cons_zero, List.set_cons_succ])
            (refine wpAny_ready (rs := [1]) (by kernel_rfl) (by simp) ?_; refine AllReady.cons rfl (fun K hK => ?_) AllReady.nil; go_simp)
            refine hK _ _ ?_
            clear hK K
            (refine wpAny_ready (rs := [2]) (by kernel_rfl) (by simp) ?_; refine AllReady.cons rfl (fun K hK => ?_) AllReady.nil; go_simp)
            refine (HI.out _).mono ?_
            rintro e w' ⟨rfl, rfl⟩
            go_simp
            refine hK _ _ ?_
            clear hK K
            (refine wpAny_take (i := 3) (v := ?_) rfl (by kernel_rfl) (by kernel_rfl) (by kernel_rfl) (fun _ _ _ h => h) (Or.inl ⟨rfl, ?_⟩) ?_; rotate_left 1; (focus (intro w; go_simp; try (with_reducible rfl))); change wpAny _ _ _ _ _ _ (Act.put _ (some 18) _) _; simp only [Act.put, List.setIfInBounds_toArray, List.set_cons_zero, List.set_cons_succ])
            (refine wpAny_take (i := 4) (v := ?_) rfl (by kernel_rfl) (by kernel_rfl) (by kernel_rfl) (fun _ _ _ h => h) (Or.inl ⟨rfl, ?_⟩) ?_; rotate_left 1; (focus (intro w; go_simp; try (with_reducible rfl))); change wpAny _ _ _ _ _ _ (Act.put _ (some 19) _) _; simp only [Act.put, List.setIfInBounds_toArray, List.set_cons_zero, List.set_cons_succ])
            (refine wpAny_take (i := 5) (v := ?_) rfl (by kernel_rfl) (by kernel_rfl) (by kernel_rfl) (fun _ _ _ h => h) (Or.inl ⟨rfl, ?_⟩) ?_; rotate_left 1; (focus (intro w; go_simp; try (with_reducible rfl))); change wpAny _ _ _ _ _ _ (Act.put _ (some 20) _) _; simp only [Act.put, List.setIfInBounds_toArray, List.set_cons_zero, List.set_cons_succ])
            (refine wpAny_ready (rs := [6]) (by kernel_rfl) (by simp) ?_; refine AllReady.cons rfl (fun K hK => ?_) AllReady.nil; go_simp)
            refine hK _ _ ?_
            clear hK K
            (refine wpAny_ready (rs := [7]) (by kernel_rfl) (by simp) ?_; refine AllReady.cons rfl (fun K hK => ?_) AllReady.nil; go_simp)
            refine (HGV.out _ ((Below.refl _ _).drew)).mono ?_
            rintro e w4 ⟨rfl, hb4⟩
            go_simp
            refine hK _ _ ?_
            clear hK K
            (refine wpAny_take (i := 8) (v := ?_) rfl (by kernel_rfl) (by kernel_rfl) (by kernel_rfl) (fun _ _ _ h => h) (Or.inl ⟨rfl, ?_⟩) ?_; rotate_left 1; (focus (intro w; go_simp; try (with_reducible rfl))); change wpAny _ _ _ _ _ _ (Act.put _ (some 23) _) _; simp only [Act.put, List.setIfInBounds_toArray, List.set_cons_zero, List.set_cons_succ])
            (refine wpAny_take (i := 9) (v := ?_) rfl (by kernel_rfl) (by kernel_rfl) (by kernel_rfl) (fun _ _ _ h => h) (Or.inl ⟨rfl, ?_⟩) ?_; rotate_left 1; (focus (intro w; go_simp; try (with_reducible rfl))); change wpAny _ _ _ _ _ _ (Act.put _ (some 24) _) _; simp only [Act.put, List.setIfInBounds_toArray, List.set_cons_zero, List.set_cons_succ])
            (refine wpAny_take (i := 10) (v := ?_) rfl (by kernel_rfl) (by kernel_rfl) (by kernel_rfl) (fun _ _ _ h => h) (Or.inl ⟨rfl, ?_⟩) ?_; rotate_left 1; (focus (intro w; go_simp; try (with_reducible rfl))); change wpAny _ _ _ _ _ _ (Act.put _ (some 25) _) _; simp only [Act.put, List.setIfInBounds_toArray, List.set_cons_zero, List.set_cons_succ])
            (refine wpAny_take (i := 11) (v := ?_) rfl (by kernel_rfl) (by kernel_rfl) (by kernel_rfl) (fun _ _ _ h => h) (Or.inl ⟨rfl, ?_⟩) ?_; rotate_left 1; (focus (intro w; go_simp; try (with_reducible rfl))); change wpAny _ _ _ _ _ _ (Act.put _ (some 26) _) _; simp only [Act.put, List.setIfInBounds_toArray, List.set_cons_zero, List.set_cons_succ])
            (refine wpAny_take (i := 12) (v := ?_) rfl (by kernel_rfl) (by kernel_rfl) (by kernel_rfl) (fun _ _ _ h => h) (Or.inl ⟨rfl, ?_⟩) ?_; rotate_left 1; (focus (intro w; go_simp; try (with_reducible rfl))); change wpAny _ _ _ _ _ _ (Act.put _ (some 27) _) _; simp only [Act.put, List.setIfInBounds_toArray, List.set_cons_zero, List.set_cons_succ])
            (refine wpAny_take (i := 13) (v := ?_) rfl (by kernel_rfl) (by kernel_rfl) (by kernel_rfl) (fun _ _ _ h => h) (Or.inl ⟨rfl, ?_⟩) ?_; rotate_left 1; (focus (intro w; go_simp; try (with_reducible rfl))); change wpAny _ _ _ _ _ _ (Act.put _ (some 28) _) _; simp only [Act.put, List.setIfInBounds_toArray, List.set_cons_zero, List.set_cons_succ])
            (refine wpAny_take (i := 14) (v := undef) rfl (by kernel_rfl) (by kernel_rfl) (by kernel_rfl) (fun _ _ _ h => h) (Or.inr ⟨rfl, rfl⟩) ?_; change wpAny _ _ _ _ _ _ (Act.put _ (some 29) _) _; simp only [Act.put, List.setIfInBounds_toArray, List.set_cons_zero, List.set_cons_succ])
            (refine wpAny_take (i := 15) (v := undef) rfl (by kernel_rfl) (by kernel_rfl) (by kernel_rfl) (fun _ _ _ h => h) (Or.inr ⟨rfl, rfl⟩) ?_; change wpAny _ _ _ _ _ _ (Act.put _ (some 30) _) _; simp only [Act.put, List.setIfInBounds_toArray, List.set_cons_zero, List.set_cons_succ])
            (refine wpAny_take (i := 16) (v := undef) rfl (by kernel_rfl) (by kernel_rfl) (by kernel_rfl) (fun _ _ _ h => h) (Or.inr ⟨rfl, rfl⟩) ?_; change wpAny _ _ _ _ _ _ (Act.put _ (some 31) _) _; simp only [Act.put, List.setIfInBounds_toArray, List.set_cons_zero, List.set_cons_succ])
            (refine wpAny_take (i := 17) (v := undef) rfl (by kernel_rfl) (by kernel_rfl) (by kernel_rfl) (fun _ _ _ h => h) (Or.inr ⟨rfl, rfl⟩) ?_; change wpAny _ _ _ _ _ _ (Act.put _ (some 32) _) _; simp only [Act.put, List.setIfInBounds_toArray, List.set_cons_zero, List.set_cons_succ])
            (refine wpAny_take (i := 18) (v := undef) rfl (by kernel_rfl) (by kernel_rfl) (by kernel_rfl) (fun _ _ _ h => h) (Or.inr ⟨rfl, rfl⟩) ?_; change wpAny _ _ _ _ _ _ (Act.put _ (some 33) _) _; simp only [Act.put, List.setIfInBounds_toArray, List.set_cons_zero, List.set_cons_succ])
            (refine wpAny_take (i := 19) (v := undef) rfl (by kernel_rfl) (by kernel_rfl) (by kernel_rfl) (fun _ _ _ h => h) (Or.inr ⟨rfl, rfl⟩) ?_; change wpAny _ _ _ _ _ _ (Act.put _ (some 34) _) _; simp only [Act.put, List.setIfInBounds_toArray, List.set_cons_zero, List.set_cons_succ])
            (refine wpAny_take (i := 20) (v := undef) rfl (by kernel_rfl) (by kernel_rfl) (by kernel_rfl) (fun _ _ _ h => h) (Or.inr ⟨rfl, rfl⟩) ?_; change wpAny _ _ _ _ _ _ (Act.put _ (some 35) _) _; simp only [Act.put, List.setIfInBounds_toArray, List.set_cons_zero, List.set_cons_succ])
            (refine wpAny_take (i := 21) (v := undef) rfl (by kernel_rfl) (by kernel_rfl) (by kernel_rfl) (fun _ _ _ h => h) (Or.inr ⟨rfl, rfl⟩) ?_; change wpAny _ _ _ _ _ _ (Act.put _ (some 36) _) _; simp only [Act.put, List.setIfInBounds_toArray, List.set_cons_zero, List.set_cons_succ])
            (refine wpAny_take (i := 22) (v := undef) rfl (by kernel_rfl) (by kernel_rfl) (by kernel_rfl) (fun _ _ _ h => h) (Or.inr ⟨rfl, rfl⟩) ?_; change wpAny _ _ _ _ _ _ (Act.put _ (some 37) _) _; simp only [Act.put, List.setIfInBounds_toArray, List.set_cons_zero, List.set_cons_succ])
            (refine wpAny_take (i := 23) (v := undef) rfl (by kernel_rfl) (by kernel_rfl) (by kernel_rfl) (fun _ _ _ h => h) (Or.inr ⟨rfl, rfl⟩) ?_; change wpAny _ _ _ _ _ _ (Act.put _ (some 38) _) _; simp only [Act.put, List.setIfInBounds_toArray, List.set_cons_zero, List.set_cons_succ])
            (refine wpAny_take (i := 24) (v := ?_) rfl (by kernel_rfl) (by kernel_rfl) (by kernel_rfl) (fun _ _ _ h => h) (Or.inl ⟨rfl, ?_⟩) ?_; rotate_left 1; (focus (intro w; go_simp; try (with_reducible rfl))); change wpAny _ _ _ _ _ _ (Act.put _ (some 39) _) _; simp only [Act.put, List.setIfInBounds_toArray, List.set_cons_zero, List.set_cons_succ])
            (refine wpAny_take (i := 25) (v := ?_) rfl (by kernel_rfl) (by kernel_rfl) (by kernel_rfl) (fun _ _ _ h => h) (Or.inl ⟨rfl, ?_⟩) ?_; rotate_left 1; (focus (intro w; go_simp; try (with_reducible rfl))); change wpAny _ _ _ _ _ _ (Act.put _ (some 40) _) _; simp only [Act.put, List.setIfInBounds_toArray, List.set_cons_zero, List.set_cons_succ])
            refine wpAny_done (by kernel_rfl) ?_ _
            go_wp2_with fail
            go_meet
            exact cutSt_ok (below_drew2 hb4) ⟨CI.out, HG.out.1 rfl, fun j p hj => by have := HK.out; omega⟩
            -->fb
          · obtain ⟨j, hj⟩ : ∃ j, k = j + 1 := ⟨k - 1, by omega⟩
            obtain ⟨bb', o', rp, hA', _, hbl', hxp, p0, _, _, _⟩ := st_at (HR1.out _ HB3.out) j (by omega)
            injection hA' with hA'
            injection hA' with e1 e2
            subst e1 e2
            have hkz : decide (0 < k) = true := by simp; omega
            have hw1 : IntKind.i64.wrap ((k : Int) - 1) = (k : Int) - 1 := IntWalk.i64_in _ (by omega)
            have hw2 : (1 : Int) ≤ (k : Int) := by omega
            have hw3 : ((k : Int) - 1).toNat = j := by omega
            have hw4 : (k : Int) - 1 < (b.docs.length : Int) := by omega
            have HP := Lib.hid hxp
            have HJ := Lib.hid hj
            clear hk0 hxp hj
            by_cases hid : rp.d.id < r.d.id
            · skip
              --<fc
              have hidb : decide (r.d.id ≤ rp.d.id) = false := by simp; omega
              refine wp_region_any (by kernel_rfl) ?_
              change wpAny _ _ _ _ _ _ _ (World.drew _)
              (refine wpAny_take (i := 0) (v := ?_) rfl (by kernel_rfl) (by kernel_rfl) (by kernel_rfl) (fun _ _ _ h => h) (Or.inl ⟨rfl, ?_⟩) ?_; rotate_left 1; (focus (intro w; go_simp; try (with_reducible rfl))); change wpAny _ _ _ _ _ _ (Act.put _ (some 15) _) _; simp only [Act.put, List.setIfInBounds_toArray, List.set_cons_zero, List.set_cons_succ])
              (refine wpAny_ready (rs := [1]) (by kernel_rfl) (by simp) ?_; refine AllReady.cons rfl (fun K hK => ?_) AllReady.nil; go_simp)
              refine hK _ _ ?_
              clear hK K
              (refine wpAny_ready (rs := [2]) (by kernel_rfl) (by simp) ?_; refine AllReady.cons rfl (fun K hK => ?_) AllReady.nil; go_simp)
              refine (HI.out _).mono ?_
              rintro e w' ⟨rfl, rfl⟩
              go_simp
              refine hK _ _ ?_
              clear hK K
              (refine wpAny_take (i := 3) (v := ?_) rfl (by kernel_rfl) (by kernel_rfl) (by kernel_rfl) (fun _ _ _ h => h) (Or.inl ⟨rfl, ?_⟩) ?_; rotate_left 1; (focus (intro w; go_simp; try (with_reducible rfl))); change wpAny _ _ _ _ _ _ (Act.put _ (some 18) _) _; simp only [Act.put, List.setIfInBounds_toArray, List.set_cons_zero, List.set_cons_succ])
              (refine wpAny_take (i := 4) (v := ?_) rfl (by kernel_rfl) (by kernel_rfl) (by kernel_rfl) (fun _ _ _ h => h) (Or.inl ⟨rfl, ?_⟩) ?_; rotate_left 1; (focus (intro w; go_simp; try (with_reducible rfl))); change wpAny _ _ _ _ _ _ (Act.put _ (some 19) _) _; simp only [Act.put, List.setIfInBounds_toArray, List.set_cons_zero, List.set_cons_succ])
              (refine wpAny_take (i := 5) (v := ?_) rfl (by kernel_rfl) (by kernel_rfl) (by kernel_rfl) (fun _ _ _ h => h) (Or.inl ⟨rfl, ?_⟩) ?_; rotate_left 1; (focus (intro w; go_simp; try (with_reducible rfl))); change wpAny _ _ _ _ _ _ (Act.put _ (some 20) _) _; simp only [Act.put, List.setIfInBounds_toArray, List.set_cons_zero, List.set_cons_succ])
              (refine wpAny_ready (rs := [6]) (by kernel_rfl) (by simp) ?_; refine AllReady.cons rfl (fun K hK => ?_) AllReady.nil; go_simp)
              refine hK _ _ ?_
              clear hK K
              (refine wpAny_ready (rs := [7]) (by kernel_rfl) (by simp) ?_; refine AllReady.cons rfl (fun K hK => ?_) AllReady.nil; go_simp)
              refine (HGV.out _ ((Below.refl _ _).drew)).mono ?_
              rintro e w4 ⟨rfl, hb4⟩
              go_simp
              refine hK _ _ ?_
              clear hK K
              obtain ⟨_, z0, z1, z2, z3⟩ := keep4b (w1 := w3) (W := w3.drew) ⟨(Below.refl _ _).drew, x0, x1, y1, p0⟩ hb4
              (refine wpAny_take (i := 8) (v := ?_) rfl (by kernel_rfl) (by kernel_rfl) (by kernel_rfl) (fun _ _ _ h => h) (Or.inl ⟨rfl, ?_⟩) ?_; rotate_left 1; (focus (intro w; go_simp; try (with_reducible rfl))); change wpAny _ _ _ _ _ _ (Act.put _ (some 23) _) _; simp only [Act.put, List.setIfInBounds_toArray, List.set_cons_zero, List.set_cons_succ])
              (refine wpAny_take (i := 9) (v := ?_) rfl (by kernel_rfl) (by kernel_rfl) (by kernel_rfl) (fun _ _ _ h => h) (Or.inl ⟨rfl, ?_⟩) ?_; rotate_left 1; (focus (intro w; go_simp; try (with_reducible rfl))); change wpAny _ _ _ _ _ _ (Act.put _ (some 24) _) _; simp only [Act.put, List.setIfInBounds_toArray, List.set_cons_zero, List.set_cons_succ])
              (refine wpAny_take (i := 10) (v := ?_) rfl (by kernel_rfl) (by kernel_rfl) (by kernel_rfl) (fun _ _ _ h => h) (Or.inl ⟨rfl, ?_⟩) ?_; rotate_left 1; (focus (intro w; go_simp; try (with_reducible rfl))); change wpAny _ _ _ _ _ _ (Act.put _ (some 25) _) _; simp only [Act.put, List.setIfInBounds_toArray, List.set_cons_zero, List.set_cons_succ])
              (refine wpAny_take (i := 11) (v := ?_) rfl (by kernel_rfl) (by kernel_rfl) (by kernel_rfl) (fun _ _ _ h => h) (Or.inl ⟨rfl, ?_⟩) ?_; rotate_left 1; (focus (intro w; go_simp; try (with_reducible rfl))); change wpAny _ _ _ _ _ _ (Act.put _ (some 26) _) _; simp only [Act.put, List.setIfInBounds_toArray, List.set_cons_zero, List.set_cons_succ])
              (refine wpAny_take (i := 12) (v := ?_) rfl (by kernel_rfl) (by kernel_rfl) (by kernel_rfl) (fun _ _ _ h => h) (Or.inl ⟨rfl, ?_⟩) ?_; rotate_left 1; (focus (intro w; go_simp; try (with_reducible rfl))); change wpAny _ _ _ _ _ _ (Act.put _ (some 27) _) _; simp only [Act.put, List.setIfInBounds_toArray, List.set_cons_zero, List.set_cons_succ])
              (refine wpAny_take (i := 13) (v := ?_) rfl (by kernel_rfl) (by kernel_rfl) (by kernel_rfl) (fun _ _ _ h => h) (Or.inl ⟨rfl, ?_⟩) ?_; rotate_left 1; (focus (intro w; go_simp; try (with_reducible rfl))); change wpAny _ _ _ _ _ _ (Act.put _ (some 28) _) _; simp only [Act.put, List.setIfInBounds_toArray, List.set_cons_zero, List.set_cons_succ])
              (refine wpAny_take (i := 14) (v := ?_) rfl (by kernel_rfl) (by kernel_rfl) (by kernel_rfl) (fun _ _ _ h => h) (Or.inl ⟨rfl, ?_⟩) ?_; rotate_left 1; (focus (intro w; go_simp; try (with_reducible rfl))); change wpAny _ _ _ _ _ _ (Act.put _ (some 29) _) _; simp only [Act.put, List.setIfInBounds_toArray, List.set_cons_zero, List.set_cons_succ])
              (refine wpAny_take (i := 16) (v := ?_) rfl (by kernel_rfl) (by kernel_rfl) (by kernel_rfl) (fun _ _ _ h => h) (Or.inl ⟨rfl, ?_⟩) ?_; rotate_left 1; (focus (intro w; go_simp; try (with_reducible rfl))); change wpAny _ _ _ _ _ _ (Act.put _ (some 31) _) _; simp only [Act.put, List.setIfInBounds_toArray, List.set_cons_zero, List.set_cons_succ])
              (refine wpAny_take (i := 17) (v := ?_) rfl (by kernel_rfl) (by kernel_rfl) (by kernel_rfl) (fun _ _ _ h => h) (Or.inl ⟨rfl, ?_⟩) ?_; rotate_left 1; (focus (intro w; go_simp; try (with_reducible rfl))); change wpAny _ _ _ _ _ _ (Act.put _ (some 32) _) _; simp only [Act.put, List.setIfInBounds_toArray, List.set_cons_zero, List.set_cons_succ])
              (refine wpAny_take (i := 21) (v := ?_) rfl (by kernel_rfl) (by kernel_rfl) (by kernel_rfl) (fun _ _ _ h => h) (Or.inl ⟨rfl, ?_⟩) ?_; rotate_left 1; (focus (intro w; go_simp; try (with_reducible rfl))); change wpAny _ _ _ _ _ _ (Act.put _ (some 36) _) _; simp only [Act.put, List.setIfInBounds_toArray, List.set_cons_zero, List.set_cons_succ])
              (refine wpAny_ready (rs := [15, 22]) (by kernel_rfl) (by simp) ?_; refine AllReady.cons rfl (fun K hK => ?_) (AllReady.cons rfl (fun K hK => ?_) AllReady.nil))
              · go_simp
                refine hK _ _ ?_
                clear hK K
                (refine wpAny_take (i := 18) (v := ?_) rfl (by kernel_rfl) (by kernel_rfl) (by kernel_rfl) (fun _ _ _ h => h) (Or.inl ⟨rfl, ?_⟩) ?_; rotate_left 1; (focus (intro w; go_simp; try (with_reducible rfl))); change wpAny _ _ _ _ _ _ (Act.put _ (some 33) _) _; simp only [Act.put, List.setIfInBounds_toArray, List.set_cons_zero, List.set_cons_succ])
                (refine wpAny_take (i := 19) (v := ?_) rfl (by kernel_rfl) (by kernel_rfl) (by kernel_rfl) (fun _ _ _ h => h) (Or.inl ⟨rfl, ?_⟩) ?_; rotate_left 1; (focus (intro w; go_simp; try (with_reducible rfl))); change wpAny _ _ _ _ _ _ (Act.put _ (some 34) _) _; simp only [Act.put, List.setIfInBounds_toArray, List.set_cons_zero, List.set_cons_succ])
                (refine wpAny_ready (rs := [20, 22]) (by kernel_rfl) (by simp) ?_; refine AllReady.cons rfl (fun K hK => ?_) (AllReady.cons rfl (fun K hK => ?_) AllReady.nil))
                · go_simp
                  refine hK _ _ ?_
                  clear hK K
                  (refine wpAny_ready (rs := [22]) (by kernel_rfl) (by simp) ?_; refine AllReady.cons rfl (fun K hK => ?_) AllReady.nil; go_simp)
                  refine hK _ _ ?_
                  clear hK K
                  (refine wpAny_take (i := 23) (v := ?_) rfl (by kernel_rfl) (by kernel_rfl) (by kernel_rfl) (fun _ _ _ h => h) (Or.inl ⟨rfl, ?_⟩) ?_; rotate_left 1; (focus (intro w; go_simp; try (with_reducible rfl))); change wpAny _ _ _ _ _ _ (Act.put _ (some 38) _) _; simp only [Act.put, List.setIfInBounds_toArray, List.set_cons_zero, List.set_cons_succ])
                  (refine wpAny_take (i := 24) (v := ?_) rfl (by kernel_rfl) (by kernel_rfl) (by kernel_rfl) (fun _ _ _ h => h) (Or.inl ⟨rfl, ?_⟩) ?_; rotate_left 1; (focus (intro w; go_simp; try (with_reducible rfl))); change wpAny _ _ _ _ _ _ (Act.put _ (some 39) _) _; simp only [Act.put, List.setIfInBounds_toArray, List.set_cons_zero, List.set_cons_succ])
                  (refine wpAny_take (i := 25) (v := ?_) rfl (by kernel_rfl) (by kernel_rfl) (by kernel_rfl) (fun _ _ _ h => h) (Or.inl ⟨rfl, ?_⟩) ?_; rotate_left 1; (focus (intro w; go_simp; try (with_reducible rfl))); change wpAny _ _ _ _ _ _ (Act.put _ (some 40) _) _; simp only [Act.put, List.setIfInBounds_toArray, List.set_cons_zero, List.set_cons_succ])
                  refine wpAny_done (by kernel_rfl) ?_ _
                  go_wp2_with fail
                  go_meet
                  exact cutSt_ok (below_drew2 hb4) ⟨CI.out, HG.out.1 rfl, fun i p hi hp => by
                    have h1 := HJ.out
                    obtain rfl : i = j := by omega
                    have h2 := HP.out
                    rw [hp] at h2
                    injection h2 with h2
                    subst h2
                    exact hid⟩
                · go_simp
                  refine hK _ _ ?_
                  clear hK K
                  (refine wpAny_ready (rs := [20]) (by kernel_rfl) (by simp) ?_; refine AllReady.cons rfl (fun K hK => ?_) AllReady.nil; go_simp)
                  refine hK _ _ ?_
                  clear hK K
                  (refine wpAny_take (i := 23) (v := ?_) rfl (by kernel_rfl) (by kernel_rfl) (by kernel_rfl) (fun _ _ _ h => h) (Or.inl ⟨rfl, ?_⟩) ?_; rotate_left 1; (focus (intro w; go_simp; try (with_reducible rfl))); change wpAny _ _ _ _ _ _ (Act.put _ (some 38) _) _; simp only [Act.put, List.setIfInBounds_toArray, List.set_cons_zero, List.set_cons_succ])
                  (refine wpAny_take (i := 24) (v := ?_) rfl (by kernel_rfl) (by kernel_rfl) (by kernel_rfl) (fun _ _ _ h => h) (Or.inl ⟨rfl, ?_⟩) ?_; rotate_left 1; (focus (intro w; go_simp; try (with_reducible rfl))); change wpAny _ _ _ _ _ _ (Act.put _ (some 39) _) _; simp only [Act.put, List.setIfInBounds_toArray, List.set_cons_zero, List.set_cons_succ])
                  (refine wpAny_take (i := 25) (v := ?_) rfl (by kernel_rfl) (by kernel_rfl) (by kernel_rfl) (fun _ _ _ h => h) (Or.inl ⟨rfl, ?_⟩) ?_; rotate_left 1; (focus (intro w; go_simp; try (with_reducible rfl))); change wpAny _ _ _ _ _ _ (Act.put _ (some 40) _) _; simp only [Act.put, List.setIfInBounds_toArray, List.set_cons_zero, List.set_cons_succ])
                  refine wpAny_done (by kernel_rfl) ?_ _
                  go_wp2_with fail
                  go_meet
                  exact cutSt_ok (below_drew2 hb4) ⟨CI.out, HG.out.1 rfl, fun i p hi hp => by
                    have h1 := HJ.out
                    obtain rfl : i = j := by omega
                    have h2 := HP.out
                    rw [hp] at h2
                    injection h2 with h2
                    subst h2
                    exact hid⟩
              · go_simp
                refine hK _ _ ?_
                clear hK K
                (refine wpAny_ready (rs := [15]) (by kernel_rfl) (by simp) ?_; refine AllReady.cons rfl (fun K hK => ?_) AllReady.nil; go_simp)
                refine hK _ _ ?_
                clear hK K
                (refine wpAny_take (i := 18) (v := ?_) rfl (by kernel_rfl) (by kernel_rfl) (by kernel_rfl) (fun _ _ _ h => h) (Or.inl ⟨rfl, ?_⟩) ?_; rotate_left 1; (focus (intro w; go_simp; try (with_reducible rfl))); change wpAny _ _ _ _ _ _ (Act.put _ (some 33) _) _; simp only [Act.put, List.setIfInBounds_toArray, List.set_cons_zero, List.set_cons_succ])
                (refine wpAny_take (i := 19) (v := ?_) rfl (by kernel_rfl) (by kernel_rfl) (by kernel_rfl) (fun _ _ _ h => h) (Or.inl ⟨rfl, ?_⟩) ?_; rotate_left 1; (focus (intro w; go_simp; try (with_reducible rfl))); change wpAny _ _ _ _ _ _ (Act.put _ (some 34) _) _; simp only [Act.put, List.setIfInBounds_toArray, List.set_cons_zero, List.set_cons_succ])
                (refine wpAny_ready (rs := [20]) (by kernel_rfl) (by simp) ?_; refine AllReady.cons rfl (fun K hK => ?_) AllReady.nil; go_simp)
                refine hK _ _ ?_
                clear hK K
                (refine wpAny_take (i := 23) (v := ?_) rfl (by kernel_rfl) (by kernel_rfl) (by kernel_rfl) (fun _ _ _ h => h) (Or.inl ⟨rfl, ?_⟩) ?_; rotate_left 1; (focus (intro w; go_simp; try (with_reducible rfl))); change wpAny _ _ _ _ _ _ (Act.put _ (some 38) _) _; simp only [Act.put, List.setIfInBounds_toArray, List.set_cons_zero, List.set_cons_succ])
                (refine wpAny_take (i := 24) (v := ?_) rfl (by kernel_rfl) (by kernel_rfl) (by kernel_rfl) (fun _ _ _ h => h) (Or.inl ⟨rfl, ?_⟩) ?_; rotate_left 1; (focus (intro w; go_simp; try (with_reducible rfl))); change wpAny _ _ _ _ _ _ (Act.put _ (some 39) _) _; simp only [Act.put, List.setIfInBounds_toArray, List.set_cons_zero, List.set_cons_succ])
                (refine wpAny_take (i := 25) (v := ?_) rfl (by kernel_rfl) (by kernel_rfl) (by kernel_rfl) (fun _ _ _ h => h) (Or.inl ⟨rfl, ?_⟩) ?_; rotate_left 1; (focus (intro w; go_simp; try (with_reducible rfl))); change wpAny _ _ _ _ _ _ (Act.put _ (some 40) _) _; simp only [Act.put, List.setIfInBounds_toArray, List.set_cons_zero, List.set_cons_succ])
                refine wpAny_done (by kernel_rfl) ?_ _
                go_wp2_with fail
                go_meet
                exact cutSt_ok (below_drew2 hb4) ⟨CI.out, HG.out.1 rfl, fun i p hi hp => by
                  have h1 := HJ.out
                  obtain rfl : i = j := by omega
                  have h2 := HP.out
                  rw [hp] at h2
                  injection h2 with h2
                  subst h2
                  exact hid⟩
              -->fc
            · skip
              --<fd
              have hidb : decide (r.d.id ≤ rp.d.id) = true := by simp; omega
              refine wp_region_any (by kernel_rfl) ?_
              change wpAny _ _ _ _ _ _ _ (World.drew _)
              (refine wpAny_take (i := 0) (v := ?_) rfl (by kernel_rfl) (by kernel_rfl) (by kernel_rfl) (fun _ _ _ h => h) (Or.inl ⟨rfl, ?_⟩) ?_; rotate_left 1; (focus (intro w; go_simp; try (with_reducible rfl))); change wpAny _ _ _ _ _ _ (Act.put _ (some 15) _) _; simp only [Act.put, List.setIfInBounds_toArray, List.set_cons_zero, List.set_cons_succ])
              (refine wpAny_ready (rs := [1]) (by kernel_rfl) (by simp) ?_; refine AllReady.cons rfl (fun K hK => ?_) AllReady.nil; go_simp)
              refine hK _ _ ?_
              clear hK K
              (refine wpAny_ready (rs := [2]) (by kernel_rfl) (by simp) ?_; refine AllReady.cons rfl (fun K hK => ?_) AllReady.nil; go_simp)
              refine (HI.out _).mono ?_
              rintro e w' ⟨rfl, rfl⟩
              go_simp
              refine hK _ _ ?_
              clear hK K
              (refine wpAny_take (i := 3) (v := ?_) rfl (by kernel_rfl) (by kernel_rfl) (by kernel_rfl) (fun _ _ _ h => h) (Or.inl ⟨rfl, ?_⟩) ?_; rotate_left 1; (focus (intro w; go_simp; try (with_reducible rfl))); change wpAny _ _ _ _ _ _ (Act.put _ (some 18) _) _; simp only [Act.put, List.setIfInBounds_toArray, List.set_cons_zero, List.set_cons_succ])
              (refine wpAny_take (i := 4) (v := ?_) rfl (by kernel_rfl) (by kernel_rfl) (by kernel_rfl) (fun _ _ _ h => h) (Or.inl ⟨rfl, ?_⟩) ?_; rotate_left 1; (focus (intro w; go_simp; try (with_reducible rfl))); change wpAny _ _ _ _ _ _ (Act.put _ (some 19) _) _; simp only [Act.put, List.setIfInBounds_toArray, List.set_cons_zero, List.set_cons_succ])
              (refine wpAny_take (i := 5) (v := ?_) rfl (by kernel_rfl) (by kernel_rfl) (by kernel_rfl) (fun _ _ _ h => h) (Or.inl ⟨rfl, ?_⟩) ?_; rotate_left 1; (focus (intro w; go_simp; try (with_reducible rfl))); change wpAny _ _ _ _ _ _ (Act.put _ (some 20) _) _; simp only [Act.put, List.setIfInBounds_toArray, List.set_cons_zero, List.set_cons_succ])
              (refine wpAny_ready (rs := [6]) (by kernel_rfl) (by simp) ?_; refine AllReady.cons rfl (fun K hK => ?_) AllReady.nil; go_simp)
              refine hK _ _ ?_
              clear hK K
              (refine wpAny_ready (rs := [7]) (by kernel_rfl) (by simp) ?_; refine AllReady.cons rfl (fun K hK => ?_) AllReady.nil; go_simp)
              refine (HGV.out _ ((Below.refl _ _).drew)).mono ?_
              rintro e w4 ⟨rfl, hb4⟩
              go_simp
              refine hK _ _ ?_
              clear hK K
              obtain ⟨_, z0, z1, z2, z3⟩ := keep4b (w1 := w3) (W := w3.drew) ⟨(Below.refl _ _).drew, x0, x1, y1, p0⟩ hb4
              (refine wpAny_take (i := 8) (v := ?_) rfl (by kernel_rfl) (by kernel_rfl) (by kernel_rfl) (fun _ _ _ h => h) (Or.inl ⟨rfl, ?_⟩) ?_; rotate_left 1; (focus (intro w; go_simp; try (with_reducible rfl))); change wpAny _ _ _ _ _ _ (Act.put _ (some 23) _) _; simp only [Act.put, List.setIfInBounds_toArray, List.set_cons_zero, List.set_cons_succ])
              (refine wpAny_take (i := 9) (v := ?_) rfl (by kernel_rfl) (by kernel_rfl) (by kernel_rfl) (fun _ _ _ h => h) (Or.inl ⟨rfl, ?_⟩) ?_; rotate_left 1; (focus (intro w; go_simp; try (with_reducible rfl))); change wpAny _ _ _ _ _ _ (Act.put _ (some 24) _) _; simp only [Act.put, List.setIfInBounds_toArray, List.set_cons_zero, List.set_cons_succ])
              (refine wpAny_take (i := 10) (v := ?_) rfl (by kernel_rfl) (by kernel_rfl) (by kernel_rfl) (fun _ _ _ h => h) (Or.inl ⟨rfl, ?_⟩) ?_; rotate_left 1; (focus (intro w; go_simp; try (with_reducible rfl))); change wpAny _ _ _ _ _ _ (Act.put _ (some 25) _) _; simp only [Act.put, List.setIfInBounds_toArray, List.set_cons_zero, List.set_cons_succ])
              (refine wpAny_take (i := 11) (v := ?_) rfl (by kernel_rfl) (by kernel_rfl) (by kernel_rfl) (fun _ _ _ h => h) (Or.inl ⟨rfl, ?_⟩) ?_; rotate_left 1; (focus (intro w; go_simp; try (with_reducible rfl))); change wpAny _ _ _ _ _ _ (Act.put _ (some 26) _) _; simp only [Act.put, List.setIfInBounds_toArray, List.set_cons_zero, List.set_cons_succ])
              (refine wpAny_take (i := 12) (v := ?_) rfl (by kernel_rfl) (by kernel_rfl) (by kernel_rfl) (fun _ _ _ h => h) (Or.inl ⟨rfl, ?_⟩) ?_; rotate_left 1; (focus (intro w; go_simp; try (with_reducible rfl))); change wpAny _ _ _ _ _ _ (Act.put _ (some 27) _) _; simp only [Act.put, List.setIfInBounds_toArray, List.set_cons_zero, List.set_cons_succ])
              (refine wpAny_take (i := 13) (v := ?_) rfl (by kernel_rfl) (by kernel_rfl) (by kernel_rfl) (fun _ _ _ h => h) (Or.inl ⟨rfl, ?_⟩) ?_; rotate_left 1; (focus (intro w; go_simp; try (with_reducible rfl))); change wpAny _ _ _ _ _ _ (Act.put _ (some 28) _) _; simp only [Act.put, List.setIfInBounds_toArray, List.set_cons_zero, List.set_cons_succ])
              (refine wpAny_take (i := 14) (v := ?_) rfl (by kernel_rfl) (by kernel_rfl) (by kernel_rfl) (fun _ _ _ h => h) (Or.inl ⟨rfl, ?_⟩) ?_; rotate_left 1; (focus (intro w; go_simp; try (with_reducible rfl))); change wpAny _ _ _ _ _ _ (Act.put _ (some 29) _) _; simp only [Act.put, List.setIfInBounds_toArray, List.set_cons_zero, List.set_cons_succ])
              (refine wpAny_take (i := 16) (v := ?_) rfl (by kernel_rfl) (by kernel_rfl) (by kernel_rfl) (fun _ _ _ h => h) (Or.inl ⟨rfl, ?_⟩) ?_; rotate_left 1; (focus (intro w; go_simp; try (with_reducible rfl))); change wpAny _ _ _ _ _ _ (Act.put _ (some 31) _) _; simp only [Act.put, List.setIfInBounds_toArray, List.set_cons_zero, List.set_cons_succ])
              (refine wpAny_take (i := 17) (v := ?_) rfl (by kernel_rfl) (by kernel_rfl) (by kernel_rfl) (fun _ _ _ h => h) (Or.inl ⟨rfl, ?_⟩) ?_; rotate_left 1; (focus (intro w; go_simp; try (with_reducible rfl))); change wpAny _ _ _ _ _ _ (Act.put _ (some 32) _) _; simp only [Act.put, List.setIfInBounds_toArray, List.set_cons_zero, List.set_cons_succ])
              (refine wpAny_take (i := 21) (v := ?_) rfl (by kernel_rfl) (by kernel_rfl) (by kernel_rfl) (fun _ _ _ h => h) (Or.inl ⟨rfl, ?_⟩) ?_; rotate_left 1; (focus (intro w; go_simp; try (with_reducible rfl))); change wpAny _ _ _ _ _ _ (Act.put _ (some 36) _) _; simp only [Act.put, List.setIfInBounds_toArray, List.set_cons_zero, List.set_cons_succ])
              (refine wpAny_ready (rs := [15, 22]) (by kernel_rfl) (by simp) ?_; refine AllReady.cons rfl (fun K hK => ?_) (AllReady.cons rfl (fun K hK => ?_) AllReady.nil))
              · go_simp
                refine hK _ _ ?_
                clear hK K
                (refine wpAny_take (i := 18) (v := ?_) rfl (by kernel_rfl) (by kernel_rfl) (by kernel_rfl) (fun _ _ _ h => h) (Or.inl ⟨rfl, ?_⟩) ?_; rotate_left 1; (focus (intro w; go_simp; try (with_reducible rfl))); change wpAny _ _ _ _ _ _ (Act.put _ (some 33) _) _; simp only [Act.put, List.setIfInBounds_toArray, List.set_cons_zero, List.set_cons_succ])
                (refine wpAny_take (i := 19) (v := ?_) rfl (by kernel_rfl) (by kernel_rfl) (by kernel_rfl) (fun _ _ _ h => h) (Or.inl ⟨rfl, ?_⟩) ?_; rotate_left 1; (focus (intro w; go_simp; try (with_reducible rfl))); change wpAny _ _ _ _ _ _ (Act.put _ (some 34) _) _; simp only [Act.put, List.setIfInBounds_toArray, List.set_cons_zero, List.set_cons_succ])
                (refine wpAny_ready (rs := [20, 22]) (by kernel_rfl) (by simp) ?_; refine AllReady.cons rfl (fun K hK => ?_) (AllReady.cons rfl (fun K hK => ?_) AllReady.nil))
                · go_simp
                  refine hK _ _ ?_
                  clear hK K
                  (refine wpAny_ready (rs := [22]) (by kernel_rfl) (by simp) ?_; refine AllReady.cons rfl (fun K hK => ?_) AllReady.nil; go_simp)
                  refine hK _ _ ?_
                  clear hK K
                  (refine wpAny_take (i := 23) (v := ?_) rfl (by kernel_rfl) (by kernel_rfl) (by kernel_rfl) (fun _ _ _ h => h) (Or.inl ⟨rfl, ?_⟩) ?_; rotate_left 1; (focus (intro w; go_simp; try (with_reducible rfl))); change wpAny _ _ _ _ _ _ (Act.put _ (some 38) _) _; simp only [Act.put, List.setIfInBounds_toArray, List.set_cons_zero, List.set_cons_succ])
                  (refine wpAny_take (i := 24) (v := ?_) rfl (by kernel_rfl) (by kernel_rfl) (by kernel_rfl) (fun _ _ _ h => h) (Or.inl ⟨rfl, ?_⟩) ?_; rotate_left 1; (focus (intro w; go_simp; try (with_reducible rfl))); change wpAny _ _ _ _ _ _ (Act.put _ (some 39) _) _; simp only [Act.put, List.setIfInBounds_toArray, List.set_cons_zero, List.set_cons_succ])
                  (refine wpAny_take (i := 25) (v := ?_) rfl (by kernel_rfl) (by kernel_rfl) (by kernel_rfl) (fun _ _ _ h => h) (Or.inl ⟨rfl, ?_⟩) ?_; rotate_left 1; (focus (intro w; go_simp; try (with_reducible rfl))); change wpAny _ _ _ _ _ _ (Act.put _ (some 40) _) _; simp only [Act.put, List.setIfInBounds_toArray, List.set_cons_zero, List.set_cons_succ])
                  refine wpAny_done (by kernel_rfl) ?_ _
                  go_wp2_with fail
                  go_meet
                  exact cutSt_bad (below_drew2 hb4) (fun h => by have := h.2.2 j rp.d HJ.out HP.out; omega)
                · go_simp
                  refine hK _ _ ?_
                  clear hK K
                  (refine wpAny_ready (rs := [20]) (by kernel_rfl) (by simp) ?_; refine AllReady.cons rfl (fun K hK => ?_) AllReady.nil; go_simp)
                  refine hK _ _ ?_
                  clear hK K
                  (refine wpAny_take (i := 23) (v := ?_) rfl (by kernel_rfl) (by kernel_rfl) (by kernel_rfl) (fun _ _ _ h => h) (Or.inl ⟨rfl, ?_⟩) ?_; rotate_left 1; (focus (intro w; go_simp; try (with_reducible rfl))); change wpAny _ _ _ _ _ _ (Act.put _ (some 38) _) _; simp only [Act.put, List.setIfInBounds_toArray, List.set_cons_zero, List.set_cons_succ])
                  (refine wpAny_take (i := 24) (v := ?_) rfl (by kernel_rfl) (by kernel_rfl) (by kernel_rfl) (fun _ _ _ h => h) (Or.inl ⟨rfl, ?_⟩) ?_; rotate_left 1; (focus (intro w; go_simp; try (with_reducible rfl))); change wpAny _ _ _ _ _ _ (Act.put _ (some 39) _) _; simp only [Act.put, List.setIfInBounds_toArray, List.set_cons_zero, List.set_cons_succ])
                  (refine wpAny_take (i := 25) (v := ?_) rfl (by kernel_rfl) (by kernel_rfl) (by kernel_rfl) (fun _ _ _ h => h) (Or.inl ⟨rfl, ?_⟩) ?_; rotate_left 1; (focus (intro w; go_simp; try (with_reducible rfl))); change wpAny _ _ _ _ _ _ (Act.put _ (some 40) _) _; simp only [Act.put, List.setIfInBounds_toArray, List.set_cons_zero, List.set_cons_succ])
                  refine wpAny_done (by kernel_rfl) ?_ _
                  go_wp2_with fail
                  go_meet
                  exact cutSt_bad (below_drew2 hb4) (fun h => by have := h.2.2 j rp.d HJ.out HP.out; omega)
              · go_simp
                refine hK _ _ ?_
                clear hK K
                (refine wpAny_ready (rs := [15]) (by kernel_rfl) (by simp) ?_; refine AllReady.cons rfl (fun K hK => ?_) AllReady.nil; go_simp)
                refine hK _ _ ?_
                clear hK K
                (refine wpAny_take (i := 18) (v := ?_) rfl (by kernel_rfl) (by kernel_rfl) (by kernel_rfl) (fun _ _ _ h => h) (Or.inl ⟨rfl, ?_⟩) ?_; rotate_left 1; (focus (intro w; go_simp; try (with_reducible rfl))); change wpAny _ _ _ _ _ _ (Act.put _ (some 33) _) _; simp only [Act.put, List.setIfInBounds_toArray, List.set_cons_zero, List.set_cons_succ])
                (refine wpAny_take (i := 19) (v := ?_) rfl (by kernel_rfl) (by kernel_rfl) (by kernel_rfl) (fun _ _ _ h => h) (Or.inl ⟨rfl, ?_⟩) ?_; rotate_left 1; (focus (intro w; go_simp; try (with_reducible rfl))); change wpAny _ _ _ _ _ _ (Act.put _ (some 34) _) _; simp only [Act.put, List.setIfInBounds_toArray, List.set_cons_zero, List.set_cons_succ])
                (refine wpAny_ready (rs := [20]) (by kernel_rfl) (by simp) ?_; refine AllReady.cons rfl (fun K hK => ?_) AllReady.nil; go_simp)
                refine hK _ _ ?_
                clear hK K
                (refine wpAny_take (i := 23) (v := ?_) rfl (by kernel_rfl) (by kernel_rfl) (by kernel_rfl) (fun _ _ _ h => h) (Or.inl ⟨rfl, ?_⟩) ?_; rotate_left 1; (focus (intro w; go_simp; try (with_reducible rfl))); change wpAny _ _ _ _ _ _ (Act.put _ (some 38) _) _; simp only [Act.put, List.setIfInBounds_toArray, List.set_cons_zero, List.set_cons_succ])
                (refine wpAny_take (i := 24) (v := ?_) rfl (by kernel_rfl) (by kernel_rfl) (by kernel_rfl) (fun _ _ _ h => h) (Or.inl ⟨rfl, ?_⟩) ?_; rotate_left 1; (focus (intro w; go_simp; try (with_reducible rfl))); change wpAny _ _ _ _ _ _ (Act.put _ (some 39) _) _; simp only [Act.put, List.setIfInBounds_toArray, List.set_cons_zero, List.set_cons_succ])
                (refine wpAny_take (i := 25) (v := ?_) rfl (by kernel_rfl) (by kernel_rfl) (by kernel_rfl) (fun _ _ _ h => h) (Or.inl ⟨rfl, ?_⟩) ?_; rotate_left 1; (focus (intro w; go_simp; try (with_reducible rfl))); change wpAny _ _ _ _ _ _ (Act.put _ (some 40) _) _; simp only [Act.put, List.setIfInBounds_toArray, List.set_cons_zero, List.set_cons_succ])
                refine wpAny_done (by kernel_rfl) ?_ _
                go_wp2_with fail
                go_meet
                exact cutSt_bad (below_drew2 hb4) (fun h => by have := h.2.2 j rp.d HJ.out HP.out; omega)
              -->fd
        -->f1
      case rest =>
        obtain ⟨hbw, bad, rfl, hbad⟩ := hcut
        have HBD := Lib.hid hbad
        have HBW := Lib.hid (below_then HB3.out HB3.out.size hbw)
        have HXW := Lib.hid (below_then HX3.out HX3.out.size hbw)
        clear hbad hbw x0 x1 y0 y1 y2
        cases bad
        · go_wp2
          refine ⟨⟨k + 1, by go_num, by omega, fun i d hi hd => ?_, HXW.out⟩, by simp [intOf]; omega⟩
          by_cases hik : i = k
          · subst hik
            obtain rfl : d = r.d := by have := HD.out; rw [hd] at this; injection this
            exact HBD.out.1 rfl
          · exact HA.out i d (by omega) hd
        · go_wp2
          go_ret
          exact bgp_no (fun h => by have := HBD.out.2 (h.2.2.2.1 k r.d HD.out); cases this) HBW.out
    · obtain rfl : k = b.docs.length := by omega
      obtain ⟨y0, y1, y2⟩ := cells3 (block_below HK0.out HX.out)
      have HALL := Lib.hid (fun i d (hd : b.docs[i]? = some d) => HA.out i d ((List.getElem?_eq_some_iff.1 hd).1) hd)
      obtain ⟨wo, rfl⟩ : ∃ wo : World, wo = wr := ⟨_, rfl⟩
      go_wp2
      go_loopw [45] (fun i wx => ∃ k : Nat, i = .int .i64 (k : Int) ∧ k ≤ b.sess.length ∧ (∀ i s, i < k → b.sess[i]? = some s → SsOK b.sess i s) ∧ Below wo.heap.size wo wx) (fun i _ => b.sess.length - (intOf i).toNat)
      case atStart => exact ⟨0, rfl, Nat.zero_le _, fun i d h => by omega, Below.refl _ _⟩
      case round =>
        obtain ⟨k, rfl, hk, hall, hbx⟩ := hrel
        have HY := Lib.hid hbx
        have HBY := Lib.hid (below_then HBX.out HBX.out.size hbx)
        have HKY := Lib.hid (block_below (block_below HK0.out HX.out) hbx)
        have HA2 := Lib.hid hall
        clear hbx hall y0 y1 y2
        by_cases hlt2 : k < b.sess.length
        · obtain ⟨bb, o, s, hA2, hF, hbl, hx, g0, g1, g2⟩ := ss_at (HR2.out _ HBY.out) k hlt2
          have HD := Lib.hid hx
          have hnb := heap_alloc_new wr (.cells #[.int .i64 s.id, .int .i64 s.no, .bool s.fine] 84 (0, 0))
          have hbn : Below wr.heap.size wr (wr.alloc (.cells #[.int .i64 s.id, .int .i64 s.no, .bool s.fine] 84 (0, 0))) := (Below.refl _ _).alloc (Nat.le_refl _) _
          have HNB := Lib.hid hnb
          have HBN := Lib.hid hbn
          have hkb : (k : Int) < (b.sess.length : Int) := by omega
          have HAA := Lib.hid hA2
          subst hA2
          clear hx hnb hbn
          go_upto_region 10 with fail
          generalize wr.alloc (.cells #[.int .i64 s.id, .int .i64 s.no, .bool s.fine] 84 (0, 0)) = w3 at HNB HBN ⊢
          have HB3 := Lib.hid (below_then HBY.out HBY.out.size HBN.out)
          have HY3 := Lib.hid (below_then HY.out HY.out.size HBN.out)
          obtain ⟨x0, x1, x2⟩ := cells3 HNB.out
          obtain ⟨y0, y1, y2⟩ := cells3 (block_below HKY.out HBN.out)
          clear g0 g1 g2
          go_cut [75] (fun s75 wx => CutSs b.sess k s w3 s75 wx)
          case first =>
            --<f2
            cases ci : decide (0 ≤ s.id) && decide (s.id ≤ 100)
            · have CI := Lib.hid ci
              have HI := Lib.hid (fun W => sIn_lit s.id 0 100 false ci W)
              clear ci
              go_quiet ((go_at_call 38; exact qleft (HI.out _)))
              all_goals
                go_wp2_with fail
                go_meet
                exact cutSs_bad (below_drawn (Below.refl _ _) _) (fun h => by have h1 := h.1; have := CI.out; simp only [h1.1, h1.2, decide_true, Bool.and_self] at this; cases this)
            have CI : Hid (0 ≤ s.id ∧ s.id ≤ 100) := Lib.hid (by simpa using ci)
            have HI := Lib.hid (fun W => sIn_lit s.id 0 100 true ci W)
            clear ci
            cases cn : decide (1 ≤ s.no) && decide (s.no ≤ 1000)
            · have CN := Lib.hid cn
              have HN := Lib.hid (fun W => sIn_lit s.no 1 1000 false cn W)
              clear cn
              go_quiet ((first | (go_at_call_of 38 (Value.int .i64 s.id); exact qleft (HI.out _)) | (go_at_call_of 38 (Value.int .i64 s.no); exact qleft (HN.out _))))
              all_goals
                go_wp2_with fail
                go_meet
                exact cutSs_bad (below_drawn (Below.refl _ _) _) (fun h => by have h1 := h.2.1; have := CN.out; simp only [h1.1, h1.2, decide_true, Bool.and_self] at this; cases this)
            have CN : Hid (1 ≤ s.no ∧ s.no ≤ 1000) := Lib.hid (by simpa using cn)
            have HN := Lib.hid (fun W => sIn_lit s.no 1 1000 true cn W)
            clear cn
            by_cases hk0 : k = 0
            · have hkz : decide (0 < k) = false := by simp; omega
              have HK := Lib.hid hk0
              clear hk0
              go_quiet ((first | (go_at_call_of 38 (Value.int .i64 s.id); exact qleft (HI.out _)) | (go_at_call_of 38 (Value.int .i64 s.no); exact qleft (HN.out _))))
              all_goals
                go_wp2_with fail
                go_meet
                exact cutSs_ok (below_drawn (Below.refl _ _) _) ⟨CI.out, CN.out, fun j p hj => by have := HK.out; omega⟩
            · obtain ⟨j, hj⟩ : ∃ j, k = j + 1 := ⟨k - 1, by omega⟩
              obtain ⟨bb', o', sp, hA', _, hbl', hxp, p0, _, _⟩ := ss_at (HR2.out _ HB3.out) j (by omega)
              injection hA' with hA'
              injection hA' with e1 e2
              subst e1 e2
              have hkz : decide (0 < k) = true := by simp; omega
              have hw1 : IntKind.i64.wrap ((k : Int) - 1) = (k : Int) - 1 := IntWalk.i64_in _ (by omega)
              have hw2 : (0 : Int) ≤ (k : Int) - 1 := by omega
              have hw3 : ((k : Int) - 1).toNat = j := by omega
              have hw4 : (k : Int) - 1 < (b.sess.length : Int) := by omega
              have HP := Lib.hid hxp
              have HJ := Lib.hid hj
              clear hk0 hxp hj
              by_cases hid : sp.id < s.id
              · have hidb : decide (s.id ≤ sp.id) = false := by simp; omega
                go_quiet ((first | (go_at_call_of 38 (Value.int .i64 s.id); exact qleft (HI.out _)) | (go_at_call_of 38 (Value.int .i64 s.no); exact qleft (HN.out _))))
                all_goals
                  clear hw1
                  go_wp2_with fail
                  go_meet
                  exact cutSs_ok (below_drawn (Below.refl _ _) _) ⟨CI.out, CN.out, fun i p hi hp => by
                    have h1 := HJ.out
                    obtain rfl : i = j := by omega
                    have h2 := HP.out
                    rw [hp] at h2
                    injection h2 with h2
                    subst h2
                    exact hid⟩
              · have hidb : decide (s.id ≤ sp.id) = true := by simp; omega
                go_quiet ((first | (go_at_call_of 38 (Value.int .i64 s.id); exact qleft (HI.out _)) | (go_at_call_of 38 (Value.int .i64 s.no); exact qleft (HN.out _))))
                all_goals
                  clear hw1
                  go_wp2_with fail
                  go_meet
                  exact cutSs_bad (below_drawn (Below.refl _ _) _) (fun h => by have := h.2.2 j sp HJ.out HP.out; omega)
            -->f2
          case rest =>
            obtain ⟨hbw, bad, rfl, hbad⟩ := hcut
            have HBD := Lib.hid hbad
            have HBW := Lib.hid (below_then HB3.out HB3.out.size hbw)
            have HYW := Lib.hid (below_then HY3.out HY3.out.size hbw)
            clear hbad hbw x0 x1 x2 y0 y1 y2
            cases bad
            · go_wp2
              refine ⟨⟨k + 1, by go_num, by omega, fun i d hi hd => ?_, HYW.out⟩, by simp [intOf]; omega⟩
              by_cases hik : i = k
              · subst hik
                obtain rfl : d = s := by have := HD.out; rw [hd] at this; injection this
                exact HBD.out.1 rfl
              · exact HA2.out i d (by omega) hd
            · go_wp2
              go_ret
              exact bgp_no (fun h => by have := HBD.out.2 (h.2.2.2.2 k s HD.out); cases this) HBW.out
        · obtain rfl : k = b.sess.length := by omega
          have HALL2 := Lib.hid (fun i d (hd : b.sess[i]? = some d) => HA2.out i d ((List.getElem?_eq_some_iff.1 hd).1) hd)
          obtain ⟨y0, y1, y2⟩ := cells3 HKY.out
          cases ca : decide (0 ≤ b.applied) && decide (b.applied ≤ 60)
          · have CA := Lib.hid ca
            go_wp2_with (go_at_call 38; refine (sIn_any _ _ _ _).mono ?_; rintro e w' ⟨rfl, rfl⟩)
            go_ret
            exact bgp_no (fun h => by have h1 := h.1; have := CA.out; simp only [h1.1, h1.2, decide_true, Bool.and_self] at this; cases this) HBY.out
          · have CA : Hid (0 ≤ b.applied ∧ b.applied ≤ 60) := Lib.hid (by simpa using ca)
            by_cases h1 : b.docs.length ≤ 20
            · by_cases h2 : b.sess.length ≤ 8
              · go_wp2_with (go_at_call 38; refine (sIn_any _ _ _ _).mono ?_; rintro e w' ⟨rfl, rfl⟩)
                go_ret
                have hres : decide ((b.sess.length : Int) ≤ 8) = true := by simp; omega
                first
                  | exact bgp_yes ⟨CA.out, h1, h2, HALL.out, HALL2.out⟩ HBY.out
                  | (rw [hres]; exact bgp_yes ⟨CA.out, h1, h2, HALL.out, HALL2.out⟩ HBY.out)
              · go_wp2_with (go_at_call 38; refine (sIn_any _ _ _ _).mono ?_; rintro e w' ⟨rfl, rfl⟩)
                go_ret
                have hres : decide ((b.sess.length : Int) ≤ 8) = false := by simp; omega
                first
                  | exact bgp_no (fun h => h2 h.2.2.1) HBY.out
                  | (rw [hres]; exact bgp_no (fun h => h2 h.2.2.1) HBY.out)
            · go_wp2_with (go_at_call 38; refine (sIn_any _ _ _ _).mono ?_; rintro e w' ⟨rfl, rfl⟩)
              go_ret
              exact bgp_no (fun h => h1 h.2.1) HBY.out
end Go.Proofs.YtekamdcojabgeaaGreatDoor
