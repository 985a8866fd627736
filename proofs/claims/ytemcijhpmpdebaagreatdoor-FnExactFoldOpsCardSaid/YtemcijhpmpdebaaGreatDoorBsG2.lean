/- What a good base is: plain words; the program's GoodBase. The walk of the program's GoodBase. -/
import Derived.Test.YtemcijhpmpdebaaGreatDoorBs2
import Derived.Test.YtemcijhpmpdebaaGreatDoorSpec3
namespace Go.Proofs.YtemcijhpmpdebaaGreatDoor
open Go.RowKit
def StOK (ds : List StV) (k : Nat) (d : StV) : Prop := (0 ≤ d.id ∧ d.id ≤ 100) ∧ (∃ t, IsGood d.doc t) ∧ ∀ j p, k = j + 1 → ds[j]? = some p → p.id < d.id
def SsOK (l : List SsV) (k : Nat) (s : SsV) : Prop := (0 ≤ s.id ∧ s.id ≤ 100) ∧ (1 ≤ s.no ∧ s.no ≤ 1000) ∧ ∀ j p, k = j + 1 → l[j]? = some p → p.id < s.id
def BsGood (b : BsV) : Prop := (0 ≤ b.applied ∧ b.applied ≤ 60) ∧ b.docs.length ≤ 20 ∧ b.sess.length ≤ 8 ∧ (∀ k d, b.docs[k]? = some d → StOK b.docs k d) ∧ ∀ k s, b.sess[k]? = some s → SsOK b.sess k s
def BGP (b : BsV) (w : World) (e : Ending) (w' : World) : Prop := Below w.heap.size w w' ∧ ∃ r, e = .returned (.bool r) ∧ (r = true ↔ BsGood b)
theorem bgp_no {b : BsV} {w w' : World} (h : ¬ BsGood b) (hb : Below w.heap.size w w') : BGP b w (.returned (.bool false)) w' :=
  ⟨hb, false, rfl, (fun h => by cases h), fun h' => absurd h' h⟩
theorem bgp_yes {b : BsV} {w w' : World} (h : BsGood b) (hb : Below w.heap.size w w') : BGP b w (.returned (.bool true)) w' :=
  ⟨hb, true, rfl, fun _ => h, fun _ => rfl⟩
/-- The id ahead of k, or -1. -/
def befI (ids : List Int) (k : Nat) : Int := match k with | 0 => -1 | j + 1 => ids.getD j (-1)
theorem st_bef {ds : List StV} {k : Nat} {d : StV} (hd : ds[k]? = some d) (hall : ∀ i x, i < k → ds[i]? = some x → StOK ds i x) :
    StOK ds k d ↔ (befI (ds.map StV.id) k + 1 ≤ d.id ∧ d.id ≤ 100) ∧ ∃ t, IsGood d.doc t := by
  cases k with
  | zero => simp [StOK, befI]
  | succ j =>
    have hj : j < ds.length := by have := (List.getElem?_eq_some_iff.1 hd).1; omega
    have hp : ds[j]? = some ds[j] := by simp [hj]
    generalize ds[j] = p at hp
    have h0 := (hall j p (by omega) hp).1.1
    have hb : befI (ds.map StV.id) (j + 1) = p.id := by simp [befI, hp]
    rw [hb, StOK]
    constructor
    · rintro ⟨h1, h2, h3⟩
      have := h3 j p rfl hp
      exact ⟨⟨by omega, h1.2⟩, h2⟩
    · rintro ⟨h1, h2⟩
      refine ⟨⟨by omega, h1.2⟩, h2, fun i q hi hq => ?_⟩
      obtain rfl : i = j := by omega
      rw [hp] at hq
      injection hq with hq
      subst hq
      omega
theorem ss_bef {l : List SsV} {k : Nat} {s : SsV} (hs : l[k]? = some s) (hall : ∀ i x, i < k → l[i]? = some x → SsOK l i x) :
    SsOK l k s ↔ (befI (l.map SsV.id) k + 1 ≤ s.id ∧ s.id ≤ 100) ∧ 1 ≤ s.no ∧ s.no ≤ 1000 := by
  cases k with
  | zero => simp [SsOK, befI]
  | succ j =>
    have hj : j < l.length := by have := (List.getElem?_eq_some_iff.1 hs).1; omega
    have hp : l[j]? = some l[j] := by simp [hj]
    generalize l[j] = p at hp
    have h0 := (hall j p (by omega) hp).1.1
    have hb : befI (l.map SsV.id) (j + 1) = p.id := by simp [befI, hp]
    rw [hb, SsOK]
    constructor
    · rintro ⟨h1, h2, h3⟩
      have := h3 j p rfl hp
      exact ⟨⟨by omega, h1.2⟩, h2⟩
    · rintro ⟨h1, h2⟩
      refine ⟨⟨by omega, h1.2⟩, h2, fun i q hi hq => ?_⟩
      obtain rfl : i = j := by omega
      rw [hp] at hq
      injection hq with hq
      subst hq
      omega
theorem befI_lo {ids : List Int} (h : ∀ z ∈ ids, 0 ≤ z) (k : Nat) : -1 ≤ befI ids k := by
  cases k with
  | zero => simp [befI]
  | succ j =>
    rw [befI, List.getD_eq_getElem?_getD]
    cases hj : ids[j]? with
    | none => simp
    | some z => have := h z (List.mem_of_getElem? hj); simp; omega
theorem befI_succ {α : Type} (f : α → Int) (l : List α) (k : Nat) (x : α) (h : l[k]? = some x) : befI (l.map f) (k + 1) = f x := by
  simp [befI, h]
end Go.Proofs.YtemcijhpmpdebaaGreatDoor
namespace Go.Proofs.YtemcijhpmpdebaaGreatDoor
open Go.RowKit
theorem befI_hi {ids : List Int} {k : Nat} (h : ∀ i z, i < k → ids[i]? = some z → 0 ≤ z ∧ z ≤ 100) : -1 ≤ befI ids k ∧ befI ids k ≤ 100 := by
  cases k with
  | zero => simp [befI]
  | succ j =>
    rw [befI, List.getD_eq_getElem?_getD]
    cases hj : ids[j]? with
    | none => simp
    | some z => have := h j z (by omega) hj; simp; omega
set_option maxRecDepth 100000 in
set_option maxHeartbeats 4000000 in
theorem goodBase_any (b : BsV) (hf : b.fits 1000000000) (F : Nat → Prop) (A1 A2 : Option Addr) (c1 c2 : Nat) (w : World) (hr1 : StAt F w A1 b.docs) (hr2 : Rds F w A2 (ssCells b.sess)) (htab : Tabs w.heap.size w) :
    Calls Tryz.prog 53 #[b.val A1 c1 A2 c2] w (BGP b w) := by
  obtain ⟨q1, q2, q3⟩ := hf
  have HR1 := Lib.hid (fun W (hb : Below w.heap.size w W) => hr1.frame (Agree.of_below hb))
  have HR2 := Lib.hid (fun W (hb : Below w.heap.size w W) => hr2.frame (Agree.of_below hb))
  have HQ := Lib.hid (fun d (hd : d ∈ b.docs) => (⟨(q3 d hd).1, fun x hx => by have := (q3 d hd).2 x hx; unfold Nd.small at this; omega⟩ : d.doc.length ≤ 1000000000 ∧ ∀ x ∈ d.doc, x.text.size ≤ 9223372036854775807 ∧ x.name.size ≤ 9223372036854775807))
  have HT := Lib.hid (fun W (hb : Below w.heap.size w W) => (htab.below hb).mono hb.size)
  have k0 := heap_alloc_new w (.cells #[.int .i64 b.applied, .slice A1 b.docs.length c1, .slice A2 b.sess.length c2] 27 (0, 0))
  have hb0 : Below w.heap.size w (w.alloc (.cells #[.int .i64 b.applied, .slice A1 b.docs.length c1, .slice A2 b.sess.length c2] 27 (0, 0))) := (Below.refl _ _).alloc (Nat.le_refl _) _
  have HK0 := Lib.hid k0
  have HB0 := Lib.hid hb0
  clear hr1 hr2 q3 htab k0 hb0
  unfold BsV.val
  cases c0 : decide (0 ≤ b.applied) && decide (b.applied ≤ 60)
  · have C0 := Lib.hid c0
    go_enter Tryz.func53, Tryz.ntmps53
    go_wp2_with (go_at_call 35; refine (within_any _ _ _ _).mono ?_; rintro e w' ⟨rfl, rfl⟩)
    go_ret
    exact bgp_no (fun h => by have := h.1; have := C0.out; simp_all) HB0.out
  have C0 : Hid (0 ≤ b.applied ∧ b.applied ≤ 60) := Lib.hid (by simpa using c0)
  by_cases h1 : b.docs.length ≤ 20
  case neg =>
    go_enter Tryz.func53, Tryz.ntmps53
    go_wp2_with (go_at_call 35; refine (within_any _ _ _ _).mono ?_; rintro e w' ⟨rfl, rfl⟩)
    go_ret
    exact bgp_no (fun h => h1 h.2.1) HB0.out
  by_cases h2 : b.sess.length ≤ 8
  case neg =>
    go_enter Tryz.func53, Tryz.ntmps53
    go_wp2_with (go_at_call 35; refine (within_any _ _ _ _).mono ?_; rintro e w' ⟨rfl, rfl⟩)
    go_ret
    exact bgp_no (fun h => h2 h.2.2.1) HB0.out
  go_enter Tryz.func53, Tryz.ntmps53
  go_wp2_with (go_at_call 35; refine (within_any _ _ _ _).mono ?_; rintro e w' ⟨rfl, rfl⟩)
  clear c0
  generalize w.alloc (.cells #[.int .i64 b.applied, .slice A1 b.docs.length c1, .slice A2 b.sess.length c2] 27 (0, 0)) = w1 at HB0 HK0 ⊢
  go_loopw [3, 27] (fun v i wx => ∃ k : Nat, i = .int .i64 (k : Int) ∧ v = .int .i64 (befI (b.docs.map StV.id) k) ∧ k ≤ b.docs.length ∧ (∀ i d, i < k → b.docs[i]? = some d → StOK b.docs i d) ∧ Below w1.heap.size w1 wx) (fun _ i _ => b.docs.length - (intOf i).toNat)
  case atStart => exact ⟨0, rfl, rfl, Nat.zero_le _, fun i d h => by omega, Below.refl _ _⟩
  case round =>
    obtain ⟨k, rfl, rfl, hk, hall, hbx⟩ := hrel
    have HX := Lib.hid hbx
    have HBX := Lib.hid (below_then HB0.out HB0.out.size hbx)
    have HA := Lib.hid hall
    have hbd := befI_hi (k := k) (ids := b.docs.map StV.id) (fun i z hi hz => by
      rw [List.getElem?_map, Option.map_eq_some_iff] at hz
      obtain ⟨d, hd, rfl⟩ := hz
      exact (hall i d hi hd).1)
    obtain ⟨hbd1, hbd2⟩ := hbd
    clear hbx hall
    by_cases hlt : k < b.docs.length
    · obtain ⟨bb, o, r, rfl, hF, hbl, hx, g0, g1, hcp, hrr⟩ := st_at (HR1.out _ HBX.out) k hlt
      have hmem : r.d ∈ b.docs := List.mem_of_getElem? hx
      have HD := Lib.hid hx
      have HS := Lib.hid (st_bef hx HA.out)
      obtain ⟨bef, hbe⟩ : ∃ z, z = befI (b.docs.map StV.id) k := ⟨_, rfl⟩
      rw [← hbe] at hbd1 hbd2 ⊢
      have HBE := Lib.hid hbe
      have HQD := Lib.hid (HQ.out r.d hmem)
      have hnb := heap_alloc_new wr (.cells #[.int .i64 r.d.id, .slice r.adr r.d.doc.length r.cap] 94 (0, 0))
      have hbn : Below wr.heap.size wr (wr.alloc (.cells #[.int .i64 r.d.id, .slice r.adr r.d.doc.length r.cap] 94 (0, 0))) := (Below.refl _ _).alloc (Nat.le_refl _) _
      have HNB := Lib.hid hnb
      have HBN := Lib.hid hbn
      have HRR := Lib.hid (hrr.frame (Agree.of_below hbn))
      clear hx hbe hnb hbn hrr
      cases cin : decide (bef + 1 ≤ r.d.id) && decide (r.d.id ≤ 100)
      · have CIN := Lib.hid cin
        go_wp2_with (go_at_call 35; refine (within_any _ _ _ _).mono ?_; rintro e w' ⟨rfl, rfl⟩)
        go_ret
        exact bgp_no (fun h => by
          have h3 := ((HS.out).1 (h.2.2.2.1 k r.d HD.out)).1
          rw [← HBE.out] at h3
          have := CIN.out
          simp only [h3.1, h3.2, decide_true, Bool.and_self] at this
          cases this) (below_then HBX.out HBX.out.size HBN.out)
      · have CIN := Lib.hid cin
        go_wp2_with (go_at_call 35; refine (within_any _ _ _ _).mono ?_; rintro e w' ⟨rfl, rfl⟩)
        generalize wr.alloc (.cells #[.int .i64 r.d.id, .slice r.adr r.d.doc.length r.cap] 94 (0, 0)) = w3 at HNB HBN HRR ⊢
        have HB3 := Lib.hid (below_then HBX.out HBX.out.size HBN.out)
        refine (goodValue_any r.d.doc (by have := HQD.out.1; omega) HQD.out.2 F r.adr r.cap hcp w3 HRR.out (HT.out _ HB3.out)).mono ?_
        rintro e w4 hgv
        obtain ⟨hb4, g, rfl, hg⟩ := gvp_of hgv
        have HG := Lib.hid hg
        have HB4 := Lib.hid (below_then HB3.out HB3.out.size hb4)
        have HBW := Lib.hid (below_then (below_then HX.out HX.out.size HBN.out) (Nat.le_trans HX.out.size HBN.out.size) hb4)
        obtain ⟨x0, x1⟩ := cells2 (block_below HNB.out hb4)
        clear hg hgv hb4 cin
        cases g
        · go_wp2
          go_ret
          exact bgp_no (fun h => by
            have h3 := ((HS.out).1 (h.2.2.2.1 k r.d HD.out)).2
            have := HG.out.2 h3
            cases this) HB4.out
        · go_wp2
          go_roundw
          case rel =>
            refine ⟨k + 1, by go_num, by rw [befI_succ StV.id b.docs k r.d HD.out], by omega, fun i d hi hd => ?_, HBW.out⟩
            by_cases hik : i = k
            · subst hik
              obtain rfl : d = r.d := by have := HD.out; rw [hd] at this; injection this
              exact HS.out.2 ⟨by rw [← HBE.out]; simpa using CIN.out, HG.out.1 rfl⟩
            · exact HA.out i d (by omega) hd
          case measure => simp [intOf]; omega
    · obtain rfl : k = b.docs.length := by omega
      have x2 := (cells3 (block_below HK0.out HX.out)).2.2
      have HALL := Lib.hid (fun i d (hd : b.docs[i]? = some d) => HA.out i d ((List.getElem?_eq_some_iff.1 hd).1) hd)
      clear hbd1 hbd2
      obtain ⟨wo, rfl⟩ : ∃ wo : World, wo = wr := ⟨_, rfl⟩
      go_wp2
      go_loopw [3, 49] (fun v i wx => ∃ k : Nat, i = .int .i64 (k : Int) ∧ v = .int .i64 (befI (b.sess.map SsV.id) k) ∧ k ≤ b.sess.length ∧ (∀ i s, i < k → b.sess[i]? = some s → SsOK b.sess i s) ∧ Below wo.heap.size wo wx) (fun _ i _ => b.sess.length - (intOf i).toNat)
      case atStart => exact ⟨0, rfl, rfl, Nat.zero_le _, fun i d h => by omega, Below.refl _ _⟩
      case round =>
        obtain ⟨k, rfl, rfl, hk, hall, hbx⟩ := hrel
        have HY := Lib.hid hbx
        have HBY := Lib.hid (below_then HBX.out HBX.out.size hbx)
        have HA2 := Lib.hid hall
        have hbd := befI_hi (k := k) (ids := b.sess.map SsV.id) (fun i z hi hz => by
          rw [List.getElem?_map, Option.map_eq_some_iff] at hz
          obtain ⟨d, hd, rfl⟩ := hz
          exact (hall i d hi hd).1)
        obtain ⟨hbd1, hbd2⟩ := hbd
        clear hbx hall
        by_cases hlt : k < b.sess.length
        · obtain ⟨bb, o, s, rfl, hF, hbl, hx, g0, g1, g2⟩ := ss_at (HR2.out _ HBY.out) k hlt
          have HD := Lib.hid hx
          have HS := Lib.hid (ss_bef hx HA2.out)
          obtain ⟨bef, hbe⟩ : ∃ z, z = befI (b.sess.map SsV.id) k := ⟨_, rfl⟩
          rw [← hbe] at hbd1 hbd2 ⊢
          have HBE := Lib.hid hbe
          have hbn : Below wr.heap.size wr (wr.alloc (.cells #[.int .i64 s.id, .int .i64 s.no, .bool s.fine] 97 (0, 0))) := (Below.refl _ _).alloc (Nat.le_refl _) _
          have HBN := Lib.hid (below_then HY.out HY.out.size hbn)
          have HBW := Lib.hid (below_then HBY.out HBY.out.size hbn)
          clear hx hbe hbn
          cases cin : decide (bef + 1 ≤ s.id) && decide (s.id ≤ 100)
          · have CIN := Lib.hid cin
            go_wp2_with (go_at_call 35; refine (within_any _ _ _ _).mono ?_; rintro e w' ⟨rfl, rfl⟩)
            go_ret
            exact bgp_no (fun h => by
              have h3 := ((HS.out).1 (h.2.2.2.2 k s HD.out)).1
              rw [← HBE.out] at h3
              have := CIN.out
              simp only [h3.1, h3.2, decide_true, Bool.and_self] at this
              cases this) HBW.out
          · have CIN := Lib.hid cin
            cases cno : decide (1 ≤ s.no) && decide (s.no ≤ 1000)
            · have CNO := Lib.hid cno
              go_wp2_with (go_at_call 35; refine (within_any _ _ _ _).mono ?_; rintro e w' ⟨rfl, rfl⟩)
              go_ret
              exact bgp_no (fun h => by
                have h3 := ((HS.out).1 (h.2.2.2.2 k s HD.out)).2
                have := CNO.out
                simp only [h3.1, h3.2, decide_true, Bool.and_self] at this
                cases this) HBW.out
            · have CNO := Lib.hid cno
              go_wp2_with (go_at_call 35; refine (within_any _ _ _ _).mono ?_; rintro e w' ⟨rfl, rfl⟩)
              go_roundw
              case rel =>
                refine ⟨k + 1, by go_num, by rw [befI_succ SsV.id b.sess k s HD.out], by omega, fun i d hi hd => ?_, HBN.out⟩
                by_cases hik : i = k
                · subst hik
                  obtain rfl : d = s := by have := HD.out; rw [hd] at this; injection this
                  exact HS.out.2 ⟨by rw [← HBE.out]; simpa using CIN.out, by simpa using CNO.out⟩
                · exact HA2.out i d (by omega) hd
              case measure => simp [intOf]; omega
        · obtain rfl : k = b.sess.length := by omega
          go_wp2
          go_ret
          exact bgp_yes ⟨C0.out, h1, h2, HALL.out, fun i s hs => HA2.out i s ((List.getElem?_eq_some_iff.1 hs).1) hs⟩ HBY.out
end Go.Proofs.YtemcijhpmpdebaaGreatDoor
