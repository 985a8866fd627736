/- What the laws write into places, replicas and groups, told exactly; what they find there again. -/
import Derived.Test.YtemcijhpmpdebaaGreatDoorMk3
namespace Go.Proofs.YtemcijhpmpdebaaGreatDoor
open Go.RowKit
/-- Where a place's rows lie. -/
structure PlR where
  av : Option Addr
  cv : Nat
  ak : Option Addr
  ck : Nat
def plCells (n : Nat) (p : PlR) : List Value := [.slice p.av n p.cv, .slice p.ak 3 p.ck, .slice none 0 0, .slice none 0 0]
def nxPl (n k : Nat) (_ : PlR) : Nat := k + 3 * n + 18
def ctVo (n k : Nat) (_ : PlR) : List Value := mkRows mkVo 3 k n
def ctAs (n k : Nat) (_ : PlR) : List Value := mkRows mkAs 6 (k + 3 * n) 3
theorem plCells_length (n : Nat) (l : List PlR) : (l.flatMap (plCells n)).length = l.length * 4 := flat_len (plCells n) 4 (fun _ => rfl) l
/-- Places of memory of their own, as they begin. -/
structure PlF (F : Nat → Prop) (w : World) (A : Option Addr) (n : Nat) (ps : List PlR) : Prop where
  top : Own F w 77 A (ps.flatMap (plCells n))
  vs : Fam F w 128 (ps.map fun p => (p.av, zeros zVo n))
  ks : Fam F w 131 (ps.map fun p => (p.ak, zeros zAs 3))
/-- Places that are marked from k on. -/
structure PlX (F : Nat → Prop) (w : World) (A : Option Addr) (n k : Nat) (ps : List PlR) : Prop where
  top : Own F w 77 A (ps.flatMap (plCells n))
  vs : Fam F w 128 (mkF PlR.av (ctVo n) (nxPl n) k ps)
  ks : Fam F w 131 (mkF PlR.ak (ctAs n) (nxPl n) k ps)
/-- Where a replica's known values lie. -/
structure RpR where
  adr : Option Addr
  cap : Nat
def rpCells (r : RpR) : List Value := [.slice r.adr 12 r.cap, .int .i64 0, .slice none 0 0, .slice none 0 0, .int .i64 0, .slice none 0 0, .slice none 0 0]
def nxRp (k : Nat) (_ : RpR) : Nat := k + 14
def ctRp (k : Nat) (r : RpR) : List Value := [.slice r.adr 12 r.cap, .int .i64 ((k + 12 : Nat) : Int), .slice none 0 0, .slice none 0 0, .int .i64 (((k + 12 : Nat) : Int) + 1), .slice none 0 0, .slice none 0 0]
def ctKn (k : Nat) (_ : RpR) : List Value := mkRows mkTx 1 k 12
theorem ctRp_length (k : Nat) (r : RpR) : (ctRp k r).length = 7 := rfl
/-- Replicas of memory of their own, as they begin. -/
structure RpF (F : Nat → Prop) (w : World) (A : Option Addr) (rs : List RpR) : Prop where
  top : Own F w 80 A (rs.flatMap rpCells)
  ks : Fam F w 9 (rs.map fun r => (r.adr, zeros zTx 12))
/-- Replicas that are marked from k on. -/
structure RpX (F : Nat → Prop) (w : World) (A : Option Addr) (k : Nat) (rs : List RpR) : Prop where
  top : Own F w 80 A (mkC ctRp nxRp k rs)
  ks : Fam F w 9 (mkF RpR.adr ctKn nxRp k rs)
section
variable {F F' : Nat → Prop} {w w1 : World} {A : Option Addr} {n k : Nat} {ps : List PlR} {rs : List RpR} {K : TypeId → Prop}
theorem PlF.other (h : PlF F w A n ps) (hw : Wrote K F' w w1) (h1 : ¬ K 77) (h2 : ¬ K 128) (h3 : ¬ K 131) : PlF F w1 A n ps := ⟨own_other h.top hw h1, h.vs.other hw h2, h.ks.other hw h3⟩
theorem PlX.other (h : PlX F w A n k ps) (hw : Wrote K F' w w1) (h1 : ¬ K 77) (h2 : ¬ K 128) (h3 : ¬ K 131) : PlX F w1 A n k ps := ⟨own_other h.top hw h1, h.vs.other hw h2, h.ks.other hw h3⟩
theorem PlF.frame (h : PlF F w A n ps) (ha : Agree F w w1) : PlF F w1 A n ps := ⟨h.top.frame ha, h.vs.frame ha, h.ks.frame ha⟩
theorem PlF.mono (h : PlF F w A n ps) (hF : ∀ b, F b → b < w.heap.size → F' b) : PlF F' w A n ps := ⟨h.top.mono hF, h.vs.mono hF, h.ks.mono hF⟩
theorem PlX.below (h : PlX F w A n k ps) (hb : Below w.heap.size w w1) : PlX F w1 A n k ps := ⟨h.top.frame (Agree.of_below hb), h.vs.below hb, h.ks.below hb⟩
theorem RpF.other (h : RpF F w A rs) (hw : Wrote K F' w w1) (h1 : ¬ K 80) (h2 : ¬ K 9) : RpF F w1 A rs := ⟨own_other h.top hw h1, h.ks.other hw h2⟩
theorem RpF.frame (h : RpF F w A rs) (ha : Agree F w w1) : RpF F w1 A rs := ⟨h.top.frame ha, h.ks.frame ha⟩
theorem RpF.mono (h : RpF F w A rs) (hF : ∀ b, F b → b < w.heap.size → F' b) : RpF F' w A rs := ⟨h.top.mono hF, h.ks.mono hF⟩
theorem RpX.below (h : RpX F w A k rs) (hb : Below w.heap.size w w1) : RpX F w1 A k rs := ⟨h.top.frame (Agree.of_below hb), h.ks.below hb⟩
end
/-- The types that a group's marks write. -/
def KG (T : TypeId) : Prop := KM T ∨ T = 128 ∨ T = 131 ∨ T = 9 ∨ T = 80
set_option maxRecDepth 100000 in
set_option maxHeartbeats 4000000 in
theorem markPlX_any (n : Nat) (hn : n ≤ 1000) (ps : List PlR) (hl : ps.length ≤ 1000) (k c : Nat) (hk : k ≤ 100000000000) (F : Nat → Prop) (A : Option Addr) (w : World) (hw : PlF F w A n ps) :
    Calls Tryz.prog 43 #[.slice A ps.length c, .int .i64 (k : Int)] w (fun e w' => e = .returned (.int .i64 (mkE (nxPl n) k ps : Int)) ∧ PlX F w' A n k ps ∧ Wrote (fun t => t = 128 ∨ t = 131) F w w') := by
  have HM := Lib.hid hw
  clear hw
  go_enter Tryz.func43, Tryz.ntmps43
  go_wp2
  go_loopw [1, 5] (fun kv iv wx => ∃ i m : Nat, kv = .int .i64 (m : Int) ∧ iv = .int .i64 (i : Int) ∧ i ≤ ps.length ∧ m ≤ k + i * 3018 ∧ Hid (m = mkE (nxPl n) k (ps.take i)) ∧ Hid (Own F wx 77 A (ps.flatMap (plCells n))) ∧ Hid (Fam F wx 128 (mkF PlR.av (ctVo n) (nxPl n) k (ps.take i) ++ (ps.drop i).map fun p => (p.av, zeros zVo n))) ∧ Hid (Fam F wx 131 (mkF PlR.ak (ctAs n) (nxPl n) k (ps.take i) ++ (ps.drop i).map fun p => (p.ak, zeros zAs 3))) ∧ Hid (Wrote (fun t => t = 128 ∨ t = 131) F w wx)) (fun _ i _ => ps.length - (intOf i).toNat)
  case atStart => exact ⟨0, k, rfl, rfl, Nat.zero_le _, by omega, rfl, Lib.hid HM.out.top, Lib.hid (by have h := HM.out.vs; simpa [mkF] using h), Lib.hid (by have h := HM.out.ks; simpa [mkF] using h), Lib.hid (Wrote.refl _ _ _)⟩
  case round =>
    obtain ⟨i, m, rfl, rfl, hi, hm, HE, HO, HV, HA, HW⟩ := hrel
    clear HM
    by_cases hlt : i < ps.length
    · have hri : ps[i]? = some ps[i] := by simp [hlt]
      have hdr : ps.drop i = ps[i] :: ps.drop (i + 1) := List.drop_eq_getElem_cons hlt
      generalize ps[i] = p at hri hdr
      have HRI := Lib.hid hri
      have hv := HV.out
      have ha := HA.out
      rw [hdr, List.map_cons] at hv ha
      have HV0 := Lib.hid hv
      have HA0 := Lib.hid ha
      obtain ⟨g, o, rfl, _⟩ := own_ptr HO.out (by intro h; have := congrArg List.length h; rw [plCells_length] at this; simp at this; omega)
      have HC := Lib.hid (fun (W : World) (h : Own F W 77 (some ⟨g, o, none⟩) (ps.flatMap (plCells n))) => show W.cell? ⟨g, o + i * 4, none⟩ = some (.slice p.av n p.cv) ∧ W.cell? ⟨g, o + i * 4 + 1, none⟩ = some (.slice p.ak 3 p.ck) ∧ W.cell? ⟨g, o + i * 4 + 2, none⟩ = some (.slice none 0 0) ∧ W.cell? ⟨g, o + i * 4 + 3, none⟩ = some (.slice none 0 0) from by
        have hj := fun j (hj : j < 4) => flat_get (plCells n) 4 (fun _ => rfl) ps i p hri j hj
        refine ⟨?_, ?_, ?_, ?_⟩
        · have := (own_get h ((hj 0 (by decide)).trans rfl)).1; simpa using this
        · have := (own_get h ((hj 1 (by decide)).trans rfl)).1; rwa [← Nat.add_assoc] at this
        · have := (own_get h ((hj 2 (by decide)).trans rfl)).1; rwa [← Nat.add_assoc] at this
        · have := (own_get h ((hj 3 (by decide)).trans rfl)).1; rwa [← Nat.add_assoc] at this)
      clear hv ha hdr hri HV HA
      obtain ⟨q0, q1, q2, q3⟩ := HC.out _ HO.out
      go_wp2_with fail
      clear q0 q1 q2 q3
      have hpin := (HV0.out.own (p.av, zeros zVo n) (by simp)).pin
      refine (markVo_any n (by omega) m p.cv (by omega) _ p.av wr hpin).mono ?_
      rintro e w1 ⟨rfl, ho1, hw1⟩
      have HV1 := Lib.hid (HV0.out.set hw1 (ho1.mono (fun b hb _ => hb.1)) (by rw [mkRows_length mkVo_length]; simp [zeros, zVo]))
      have HA1 := Lib.hid (HA0.out.other hw1 (by decide))
      have HO1 := Lib.hid (own_other HO.out hw1 (by decide))
      have HW1 := Lib.hid (HW.out.trans (hw1.mono (fun _ h => .inl h) (fun _ h => h.1)))
      obtain ⟨z, hz⟩ : ∃ z, z = m + 3 * n := ⟨_, rfl⟩
      have HZ := Lib.hid hz
      have hzb : z ≤ m + 3000 := by omega
      rw [← hz]
      clear ho1 hw1 hpin HV0 HA0 HO HW hz
      obtain ⟨q0, q1, q2, q3⟩ := HC.out _ HO1.out
      go_wp2_with fail
      clear q0 q1 q2 q3
      have hpin := (HA1.out.own (p.ak, zeros zAs 3) (by simp)).pin
      refine (markAs_any 3 (by omega) z p.ck (by omega) _ p.ak w1 hpin).mono ?_
      rintro e w2 ⟨rfl, ho2, hw2⟩
      have HA2 := Lib.hid (HA1.out.set hw2 (ho2.mono (fun b hb _ => hb.1)) (by rw [mkRows_length mkAs_length]; simp [zeros, zAs]))
      have HV2 := Lib.hid (HV1.out.other hw2 (by decide))
      have HO2 := Lib.hid (own_other HO1.out hw2 (by decide))
      have HW2 := Lib.hid (HW1.out.trans (hw2.mono (fun _ h => .inr h) (fun _ h => h.1)))
      obtain ⟨y, hy⟩ : ∃ y, y = z + 6 * 3 := ⟨_, rfl⟩
      have hyb : y = z + 18 := by omega
      have HY := Lib.hid hyb
      have hyc : y ≤ m + 3018 := by omega
      rw [← hy]
      clear ho2 hw2 hpin HV1 HA1 HO1 HW1 hy hyb
      obtain ⟨q0, q1, q2, q3⟩ := HC.out _ HO2.out
      go_wp2_with fail
      clear q0 q1 q2 q3
      refine (markNote0 (y : Int) w2).mono ?_
      rintro e w3 ⟨rfl, hb3⟩
      have HB3 := Lib.hid hb3
      clear hb3
      obtain ⟨q0, q1, q2, q3⟩ := HC.out _ (HO2.out.frame (Agree.of_below HB3.out))
      go_wp2_with fail
      clear q0 q1 q2 q3
      refine (markVote0 (y : Int) w3).mono ?_
      rintro e w4 ⟨rfl, hb4⟩
      have HB4 := Lib.hid (below_then HB3.out HB3.out.size hb4)
      clear hb4 HB3
      go_wp2
      go_roundw
      case rel =>
        have hme : m = mkE (nxPl n) k (ps.take i) := HE.out
        have hz : z = m + 3 * n := HZ.out
        have hy : y = z + 18 := HY.out
        refine ⟨i + 1, y, rfl, by go_num, by omega, by omega, Lib.hid ?_, Lib.hid (HO2.out.frame (Agree.of_below HB4.out)), Lib.hid ?_, Lib.hid ?_, Lib.hid (HW2.out.then HB4.out)⟩
        · rw [take_snoc2 HRI.out, mkE_app, ← hme, hy, hz]
          rfl
        · have e2 : (mkF PlR.av (ctVo n) (nxPl n) k (ps.take (i + 1)) ++ (ps.drop (i + 1)).map fun p => (p.av, zeros zVo n)) = mkF PlR.av (ctVo n) (nxPl n) k (ps.take i) ++ (p.av, ctVo n m p) :: (ps.drop (i + 1)).map fun p => (p.av, zeros zVo n) := by
            rw [take_snoc2 HRI.out, mkF_app, ← hme, List.append_assoc]
            simp [mkF]
          rw [e2]
          exact HV2.out.below HB4.out
        · have e2 : (mkF PlR.ak (ctAs n) (nxPl n) k (ps.take (i + 1)) ++ (ps.drop (i + 1)).map fun p => (p.ak, zeros zAs 3)) = mkF PlR.ak (ctAs n) (nxPl n) k (ps.take i) ++ (p.ak, ctAs n m p) :: (ps.drop (i + 1)).map fun p => (p.ak, zeros zAs 3) := by
            rw [take_snoc2 HRI.out, mkF_app, ← hme, List.append_assoc]
            simp [mkF]
          rw [e2]
          have h := HA2.out.below HB4.out
          rw [hz] at h
          exact h
      case measure => simp [intOf]; omega
    · go_wp2
      go_ret
      obtain rfl : i = ps.length := by omega
      have h1 : m = mkE (nxPl n) k (ps.take ps.length) := HE.out
      have h2 := HV.out
      have h3 := HA.out
      rw [List.take_length] at h1 h2 h3
      rw [List.drop_length] at h2 h3
      exact ⟨by rw [h1]; rfl, ⟨HO.out, by simpa using h2, by simpa using h3⟩, HW.out⟩
set_option maxRecDepth 100000 in
set_option maxHeartbeats 4000000 in
theorem heldPlX_any (n : Nat) (hn : n ≤ 1000) (ps : List PlR) (hl : ps.length ≤ 1000) (k c : Nat) (hk : k ≤ 100000000000) (F : Nat → Prop) (A : Option Addr) (w : World) (hw : PlX F w A n k ps) :
    Calls Tryz.prog 46 #[.slice A ps.length c, .int .i64 (k : Int)] w (fun e w' => e = .returned (.int .i64 (mkE (nxPl n) k ps : Int)) ∧ Below w.heap.size w w') := by
  have HM := Lib.hid hw
  clear hw
  go_enter Tryz.func46, Tryz.ntmps46
  go_wp2
  go_loopw [1, 5] (fun kv iv wx => ∃ i m : Nat, kv = .int .i64 (m : Int) ∧ iv = .int .i64 (i : Int) ∧ i ≤ ps.length ∧ m ≤ k + i * 3018 ∧ Hid (m = mkE (nxPl n) k (ps.take i)) ∧ Below w.heap.size w wx) (fun _ i _ => ps.length - (intOf i).toNat)
  case atStart => exact ⟨0, k, rfl, rfl, Nat.zero_le _, by omega, rfl, Below.refl _ _⟩
  case round =>
    obtain ⟨i, m, rfl, rfl, hi, hm, HE, hbx⟩ := hrel
    have HB := Lib.hid hbx
    clear hbx
    by_cases hlt : i < ps.length
    · have hri : ps[i]? = some ps[i] := by simp [hlt]
      have hdr : ps.drop i = ps[i] :: ps.drop (i + 1) := List.drop_eq_getElem_cons hlt
      generalize ps[i] = p at hri hdr
      have HRI := Lib.hid hri
      have hme : m = mkE (nxPl n) k (ps.take i) := HE.out
      have hv := HM.out.vs
      have ha := HM.out.ks
      have e1 : mkF PlR.av (ctVo n) (nxPl n) k ps = mkF PlR.av (ctVo n) (nxPl n) k (ps.take i) ++ (p.av, ctVo n m p) :: mkF PlR.av (ctVo n) (nxPl n) (nxPl n m p) (ps.drop (i + 1)) := by
        have h := mkF_app PlR.av (ctVo n) (nxPl n) (ps.take i) (ps.drop i) k
        rw [List.take_append_drop, hdr, ← hme] at h
        exact h
      have e2 : mkF PlR.ak (ctAs n) (nxPl n) k ps = mkF PlR.ak (ctAs n) (nxPl n) k (ps.take i) ++ (p.ak, ctAs n m p) :: mkF PlR.ak (ctAs n) (nxPl n) (nxPl n m p) (ps.drop (i + 1)) := by
        have h := mkF_app PlR.ak (ctAs n) (nxPl n) (ps.take i) (ps.drop i) k
        rw [List.take_append_drop, hdr, ← hme] at h
        exact h
      rw [e1] at hv
      rw [e2] at ha
      have HV := Lib.hid (fun (W : World) (hb : Below w.heap.size w W) => (hv.own (p.av, ctVo n m p) (by simp)).1.frame (Agree.of_below hb))
      have HA := Lib.hid (fun (W : World) (hb : Below w.heap.size w W) => (ha.own (p.ak, ctAs n m p) (by simp)).1.frame (Agree.of_below hb))
      obtain ⟨g, o, rfl, _⟩ := own_ptr HM.out.top (by intro h; have := congrArg List.length h; rw [plCells_length] at this; simp at this; omega)
      have HC := Lib.hid (fun (W : World) (hb : Below w.heap.size w W) => show W.cell? ⟨g, o + i * 4, none⟩ = some (.slice p.av n p.cv) ∧ W.cell? ⟨g, o + i * 4 + 1, none⟩ = some (.slice p.ak 3 p.ck) ∧ W.cell? ⟨g, o + i * 4 + 2, none⟩ = some (.slice none 0 0) ∧ W.cell? ⟨g, o + i * 4 + 3, none⟩ = some (.slice none 0 0) from by
        have h := HM.out.top.frame (Agree.of_below hb)
        have hj := fun j (hj : j < 4) => flat_get (plCells n) 4 (fun _ => rfl) ps i p hri j hj
        refine ⟨?_, ?_, ?_, ?_⟩
        · have := (own_get h ((hj 0 (by decide)).trans rfl)).1; simpa using this
        · have := (own_get h ((hj 1 (by decide)).trans rfl)).1; rwa [← Nat.add_assoc] at this
        · have := (own_get h ((hj 2 (by decide)).trans rfl)).1; rwa [← Nat.add_assoc] at this
        · have := (own_get h ((hj 3 (by decide)).trans rfl)).1; rwa [← Nat.add_assoc] at this)
      clear hv ha hdr hri e1 e2 hme
      obtain ⟨z, hz⟩ : ∃ z, z = m + 3 * n := ⟨_, rfl⟩
      have HZ := Lib.hid hz
      have hzb : z ≤ m + 3000 := by omega
      have hz0 : ¬ ((z : Int) < 0) := by omega
      obtain ⟨y, hy⟩ : ∃ y, y = z + 6 * 3 := ⟨_, rfl⟩
      have HY := Lib.hid (show y = z + 18 by omega)
      have hyc : y ≤ m + 3018 := by omega
      have hy0 : ¬ ((y : Int) < 0) := by omega
      have HHV := Lib.hid (heldVo_any n (by omega) m p.cv (by omega) F p.av wr (HV.out _ HB.out))
      have HHA := Lib.hid (fun (W : World) (hb : Below w.heap.size w W) => heldAs_any 3 (by omega) z p.ck (by omega) F p.ak W (by rw [hz]; exact HA.out _ hb))
      rw [← hz] at HHV
      rw [← hy] at HHA
      clear hz hy
      obtain ⟨q0, q1, q2, q3⟩ := HC.out _ HB.out
      go_wp2_with fail
      clear q0 q1 q2 q3
      refine HHV.out.mono ?_
      rintro e w1 ⟨rfl, hb1⟩
      have HB1 := Lib.hid (below_then HB.out HB.out.size hb1)
      clear hb1 HHV
      obtain ⟨q0, q1, q2, q3⟩ := HC.out _ HB1.out
      go_wp2_with fail
      clear q0 q1 q2 q3
      refine (HHA.out _ HB1.out).mono ?_
      rintro e w2 ⟨rfl, hb2⟩
      have HB2 := Lib.hid (below_then HB1.out HB1.out.size hb2)
      clear hb2 HHA
      obtain ⟨q0, q1, q2, q3⟩ := HC.out _ HB2.out
      go_wp2_with fail
      clear q0 q1 q2 q3
      refine (heldNote0 (y : Int) w2).mono ?_
      rintro e w3 ⟨rfl, hb3⟩
      have HB3 := Lib.hid (below_then HB2.out HB2.out.size hb3)
      clear hb3
      obtain ⟨q0, q1, q2, q3⟩ := HC.out _ HB3.out
      go_wp2_with fail
      clear q0 q1 q2 q3
      refine (heldVote0 (y : Int) w3).mono ?_
      rintro e w4 ⟨rfl, hb4⟩
      have HB4 := Lib.hid (below_then HB3.out HB3.out.size hb4)
      clear hb4
      go_wp2
      go_roundw
      case rel =>
        have hme : m = mkE (nxPl n) k (ps.take i) := HE.out
        have hz : z = m + 3 * n := HZ.out
        have hy : y = z + 18 := HY.out
        refine ⟨i + 1, y, rfl, by go_num, by omega, by omega, Lib.hid ?_, HB4.out⟩
        rw [take_snoc2 HRI.out, mkE_app, ← hme, hy, hz]
        rfl
      case measure => simp [intOf]; omega
    · go_wp2
      go_ret
      obtain rfl : i = ps.length := by omega
      have h1 : m = mkE (nxPl n) k (ps.take ps.length) := HE.out
      rw [List.take_length] at h1
      exact ⟨by rw [h1]; rfl, HB.out⟩
set_option maxRecDepth 100000 in
set_option maxHeartbeats 4000000 in
theorem markRpX_any (rs : List RpR) (hl : rs.length ≤ 1000) (k c : Nat) (hk : k ≤ 100000000000) (F : Nat → Prop) (A : Option Addr) (w : World) (hw : RpF F w A rs) :
    Calls Tryz.prog 44 #[.slice A rs.length c, .int .i64 (k : Int)] w (fun e w' => e = .returned (.int .i64 (mkE nxRp k rs : Int)) ∧ RpX F w' A k rs ∧ Wrote (fun t => t = 9 ∨ t = 80) F w w') := by
  have HM := Lib.hid hw
  clear hw
  go_enter Tryz.func44, Tryz.ntmps44
  go_wp2
  go_loopw [1, 5] (fun kv iv wx => ∃ i m : Nat, kv = .int .i64 (m : Int) ∧ iv = .int .i64 (i : Int) ∧ i ≤ rs.length ∧ m ≤ k + i * 14 ∧ Hid (m = mkE nxRp k (rs.take i)) ∧ Hid (Own F wx 80 A (mkC ctRp nxRp k (rs.take i) ++ (rs.drop i).flatMap rpCells)) ∧ Hid (Fam F wx 9 (mkF RpR.adr ctKn nxRp k (rs.take i) ++ (rs.drop i).map fun r => (r.adr, zeros zTx 12))) ∧ Hid (Wrote (fun t => t = 9 ∨ t = 80) F w wx)) (fun _ i _ => rs.length - (intOf i).toNat)
  case atStart => exact ⟨0, k, rfl, rfl, Nat.zero_le _, by omega, rfl, Lib.hid (by have h := HM.out.top; simpa [mkC] using h), Lib.hid (by have h := HM.out.ks; simpa [mkF] using h), Lib.hid (Wrote.refl _ _ _)⟩
  case round =>
    obtain ⟨i, m, rfl, rfl, hi, hm, HE, HO, HN, HW⟩ := hrel
    clear HM
    by_cases hlt : i < rs.length
    · have hri : rs[i]? = some rs[i] := by simp [hlt]
      have hdr : rs.drop i = rs[i] :: rs.drop (i + 1) := List.drop_eq_getElem_cons hlt
      generalize rs[i] = r at hri hdr
      have hP : (mkC ctRp nxRp k (rs.take i)).length = i * 7 := by rw [mkC_length ctRp nxRp ctRp_length, List.length_take, Nat.min_eq_left hi]
      have ho := HO.out
      have hnn := HN.out
      rw [hdr] at ho hnn
      rw [List.map_cons] at hnn
      rw [List.flatMap_cons] at ho
      obtain ⟨g, o, rfl, _⟩ := own_ptr ho (by simp [rpCells])
      generalize hPe : mkC ctRp nxRp k (rs.take i) = P at ho hP
      generalize hRe : (rs.drop (i + 1)).flatMap rpCells = R at ho
      have HPE := Lib.hid hPe
      have HRE := Lib.hid hRe
      have HPL := Lib.hid hP
      have H0 := Lib.hid ho
      have HN0 := Lib.hid hnn
      have HRI := Lib.hid hri
      clear ho hP hPe hRe HO HN hnn hdr hri
      obtain ⟨q0, f0⟩ := own_cell H0.out HPL.out 0 (.slice r.adr 12 r.cap) rfl (o + i * 7) (by omega)
      go_wp2_with fail
      have hpin := (HN0.out.own (r.adr, zeros zTx 12) (by simp)).pin
      refine (markTx_any 12 (by omega) m r.cap (by omega) _ r.adr wr hpin).mono ?_
      rintro e w1 ⟨rfl, ho1, hw1⟩
      have HN1 := Lib.hid (HN0.out.set hw1 (ho1.mono (fun b hb _ => hb.1)) (by rw [mkRows_length mkTx_length]; simp [zeros, zTx]))
      have HO1 := Lib.hid (own_other H0.out hw1 (by decide))
      have HW1 := Lib.hid (HW.out.trans (hw1.mono (fun _ h => .inl h) (fun _ h => h.1)))
      obtain ⟨z, hz⟩ : ∃ z, z = m + 1 * 12 := ⟨_, rfl⟩
      have HZ := Lib.hid (show z = m + 12 by omega)
      have hzb : z ≤ m + 12 := by omega
      rw [← hz]
      clear ho1 hw1 hpin HN0 H0 HW hz q0 f0
      obtain ⟨q1, f1⟩ := own_cell HO1.out HPL.out 1 (.int .i64 0) rfl (o + i * 7 + 1) (by omega)
      obtain ⟨q2, f2⟩ := own_cell HO1.out HPL.out 2 (.slice none 0 0) rfl (o + i * 7 + 2) (by omega)
      go_wp2_with fail
      have p1 := own_put HO1.out HPL.out 1 (by simp [rpCells]) (.int .i64 (z : Int)) (o + i * 7 + 1) (by omega)
      have HO2 := Lib.hid (show Own F (w1.setCell ⟨g, o + i * 7 + 1, none⟩ (.int .i64 (z : Int))) 80 (some ⟨g, o, none⟩) (P ++ ([.slice r.adr 12 r.cap, .int .i64 (z : Int), .slice none 0 0, .slice none 0 0, .int .i64 0, .slice none 0 0, .slice none 0 0] ++ R)) from p1.1)
      have HW2 := Lib.hid (HW1.out.trans (p1.2.mono (fun _ h => .inr h) (fun _ h => h)))
      have HN2 := Lib.hid (HN1.out.other p1.2 (by decide))
      clear p1 q1 f1 q2 f2 HO1 HW1 HN1
      generalize w1.setCell ⟨g, o + i * 7 + 1, none⟩ (.int .i64 (z : Int)) = w2 at HO2 HW2 HN2 ⊢
      refine (markStored0 ((z : Int) + 1) w2).mono ?_
      rintro e w3 ⟨rfl, hb3⟩
      have HB3 := Lib.hid hb3
      clear hb3
      obtain ⟨q3, f3⟩ := own_cell (HO2.out.frame (Agree.of_below HB3.out)) HPL.out 3 (.slice none 0 0) rfl (o + i * 7 + 3) (by omega)
      go_wp2_with fail
      clear q3 f3
      refine (markSession0 ((z : Int) + 1) w3).mono ?_
      rintro e w4 ⟨rfl, hb4⟩
      have hb24 := below_then HB3.out HB3.out.size hb4
      have HO4 := Lib.hid (HO2.out.frame (Agree.of_below hb24))
      have HN4 := Lib.hid (HN2.out.below hb24)
      have HW4 := Lib.hid (HW2.out.then hb24)
      clear hb4 hb24 HB3 HO2 HN2 HW2
      obtain ⟨q4, f4⟩ := own_cell HO4.out HPL.out 4 (.int .i64 0) rfl (o + i * 7 + 4) (by omega)
      obtain ⟨q5, f5⟩ := own_cell HO4.out HPL.out 5 (.slice none 0 0) rfl (o + i * 7 + 5) (by omega)
      go_wp2_with fail
      have p4 := own_put HO4.out HPL.out 4 (by simp) (.int .i64 ((z : Int) + 1)) (o + i * 7 + 4) (by omega)
      have HO5 := Lib.hid (show Own F (w4.setCell ⟨g, o + i * 7 + 4, none⟩ (.int .i64 ((z : Int) + 1))) 80 (some ⟨g, o, none⟩) (P ++ ([.slice r.adr 12 r.cap, .int .i64 (z : Int), .slice none 0 0, .slice none 0 0, .int .i64 ((z : Int) + 1), .slice none 0 0, .slice none 0 0] ++ R)) from p4.1)
      have HW5 := Lib.hid (HW4.out.trans (p4.2.mono (fun _ h => .inr h) (fun _ h => h)))
      have HN5 := Lib.hid (HN4.out.other p4.2 (by decide))
      clear p4 q4 f4 q5 f5 HO4 HW4 HN4
      generalize w4.setCell ⟨g, o + i * 7 + 4, none⟩ (.int .i64 ((z : Int) + 1)) = w5 at HO5 HW5 HN5 ⊢
      refine (markStored0 ((z : Int) + 1 + 1) w5).mono ?_
      rintro e w6 ⟨rfl, hb6⟩
      have HB6 := Lib.hid hb6
      clear hb6
      obtain ⟨q6, f6⟩ := own_cell (HO5.out.frame (Agree.of_below HB6.out)) HPL.out 6 (.slice none 0 0) rfl (o + i * 7 + 6) (by omega)
      go_wp2_with fail
      clear q6 f6
      refine (markSession0 ((z : Int) + 1 + 1) w6).mono ?_
      rintro e w7 ⟨rfl, hb7⟩
      have HB7 := Lib.hid (below_then HB6.out HB6.out.size hb7)
      clear hb7 HB6
      go_wp2
      go_roundw
      case rel =>
        have hz : z = m + 12 := HZ.out
        have hme : m = mkE nxRp k (rs.take i) := HE.out
        have e1 : mkC ctRp nxRp k (rs.take (i + 1)) ++ (rs.drop (i + 1)).flatMap rpCells = P ++ (ctRp m r ++ R) := by
          rw [take_snoc2 HRI.out, mkC_app, HPE.out, HRE.out, ← hme, List.append_assoc]
          simp [mkC]
        have e2 : (mkF RpR.adr ctKn nxRp k (rs.take (i + 1)) ++ (rs.drop (i + 1)).map fun r => (r.adr, zeros zTx 12)) = mkF RpR.adr ctKn nxRp k (rs.take i) ++ (r.adr, ctKn m r) :: (rs.drop (i + 1)).map fun r => (r.adr, zeros zTx 12) := by
          rw [take_snoc2 HRI.out, mkF_app, ← hme, List.append_assoc]
          simp [mkF]
        refine ⟨i + 1, z + 2, by go_num, by go_num, by omega, by omega, Lib.hid ?_, Lib.hid ?_, Lib.hid ?_, Lib.hid (HW5.out.then HB7.out)⟩
        · rw [take_snoc2 HRI.out, mkE_app, ← hme, hz]
          rfl
        · rw [e1]
          have h := HO5.out.frame (Agree.of_below HB7.out)
          rw [hz] at h
          exact h
        · rw [e2]
          exact HN5.out.below HB7.out
      case measure => simp [intOf]; omega
    · go_wp2
      go_ret
      obtain rfl : i = rs.length := by omega
      have h1 : m = mkE nxRp k (rs.take rs.length) := HE.out
      have h2 := HO.out
      have h3 := HN.out
      rw [List.take_length] at h1 h2 h3
      rw [List.drop_length] at h2 h3
      exact ⟨by rw [h1]; rfl, ⟨by simpa using h2, by simpa using h3⟩, HW.out⟩
set_option maxRecDepth 100000 in
set_option maxHeartbeats 4000000 in
theorem heldRpX_any (rs : List RpR) (hl : rs.length ≤ 1000) (k c : Nat) (hk : k ≤ 100000000000) (F : Nat → Prop) (A : Option Addr) (w : World) (hw : RpX F w A k rs) :
    Calls Tryz.prog 47 #[.slice A rs.length c, .int .i64 (k : Int)] w (fun e w' => e = .returned (.int .i64 (mkE nxRp k rs : Int)) ∧ Below w.heap.size w w') := by
  have HM := Lib.hid hw
  clear hw
  go_enter Tryz.func47, Tryz.ntmps47
  go_wp2
  go_loopw [1, 5] (fun kv iv wx => ∃ i m : Nat, kv = .int .i64 (m : Int) ∧ iv = .int .i64 (i : Int) ∧ i ≤ rs.length ∧ m ≤ k + i * 14 ∧ Hid (m = mkE nxRp k (rs.take i)) ∧ Below w.heap.size w wx) (fun _ i _ => rs.length - (intOf i).toNat)
  case atStart => exact ⟨0, k, rfl, rfl, Nat.zero_le _, by omega, rfl, Below.refl _ _⟩
  case round =>
    obtain ⟨i, m, rfl, rfl, hi, hm, HE, hbx⟩ := hrel
    have HB := Lib.hid hbx
    clear hbx
    by_cases hlt : i < rs.length
    · have hri : rs[i]? = some rs[i] := by simp [hlt]
      have hdr : rs.drop i = rs[i] :: rs.drop (i + 1) := List.drop_eq_getElem_cons hlt
      generalize rs[i] = r at hri hdr
      have hme : m = mkE nxRp k (rs.take i) := HE.out
      have hP : (mkC ctRp nxRp k (rs.take i)).length = i * 7 := by rw [mkC_length ctRp nxRp ctRp_length, List.length_take, Nat.min_eq_left hi]
      have hC : mkC ctRp nxRp k rs = mkC ctRp nxRp k (rs.take i) ++ (ctRp m r ++ mkC ctRp nxRp (nxRp m r) (rs.drop (i + 1))) := by
        have h := mkC_app ctRp nxRp (rs.take i) (rs.drop i) k
        rw [List.take_append_drop, hdr, ← hme] at h
        exact h
      have hN : mkF RpR.adr ctKn nxRp k rs = mkF RpR.adr ctKn nxRp k (rs.take i) ++ (r.adr, ctKn m r) :: mkF RpR.adr ctKn nxRp (nxRp m r) (rs.drop (i + 1)) := by
        have h := mkF_app RpR.adr ctKn nxRp (rs.take i) (rs.drop i) k
        rw [List.take_append_drop, hdr, ← hme] at h
        exact h
      have ho := HM.out.top
      have hnn := HM.out.ks
      rw [hC] at ho
      rw [hN] at hnn
      obtain ⟨g, o, rfl, _⟩ := own_ptr ho (by simp [ctRp])
      obtain ⟨z, hz⟩ : ∃ z, z = m + 1 * 12 := ⟨_, rfl⟩
      have hz2 : z = m + 12 := by omega
      have HZ := Lib.hid hz2
      have hzb : z ≤ m + 12 := by omega
      have hz0 : ¬ ((z : Int) < 0) := by omega
      have hz1 : ¬ ((z : Int) + 1 < 0) := by omega
      have hz3 : ¬ ((z : Int) + 1 + 1 < 0) := by omega
      have HC := Lib.hid (fun (W : World) (hb : Below w.heap.size w W) => show W.cell? ⟨g, o + i * 7, none⟩ = some (.slice r.adr 12 r.cap) ∧ W.cell? ⟨g, o + i * 7 + 1, none⟩ = some (.int .i64 (z : Int)) ∧ W.cell? ⟨g, o + i * 7 + 2, none⟩ = some (.slice none 0 0) ∧ W.cell? ⟨g, o + i * 7 + 3, none⟩ = some (.slice none 0 0) ∧ W.cell? ⟨g, o + i * 7 + 4, none⟩ = some (.int .i64 ((z : Int) + 1)) ∧ W.cell? ⟨g, o + i * 7 + 5, none⟩ = some (.slice none 0 0) ∧ W.cell? ⟨g, o + i * 7 + 6, none⟩ = some (.slice none 0 0) from by
        have h := ho.frame (Agree.of_below hb)
        exact ⟨(own_cell h hP 0 _ rfl _ (by omega)).1, (own_cell h hP 1 _ (by rw [hz2]; rfl) _ (by omega)).1, (own_cell h hP 2 _ rfl _ (by omega)).1, (own_cell h hP 3 _ rfl _ (by omega)).1, (own_cell h hP 4 _ (by rw [hz2]; rfl) _ (by omega)).1, (own_cell h hP 5 _ rfl _ (by omega)).1, (own_cell h hP 6 _ rfl _ (by omega)).1⟩)
      have HRI := Lib.hid hri
      have HH := heldTx_any 12 (by omega) m r.cap (by omega) F r.adr wr ((hnn.own (r.adr, ctKn m r) (by simp)).1.frame (Agree.of_below HB.out))
      rw [← hz] at HH
      have HHT := Lib.hid HH
      clear ho hnn hC hN hP hme hdr hri hz hz2 HH
      obtain ⟨q0, q1, q2, q3, q4, q5, q6⟩ := HC.out _ HB.out
      go_wp2_with fail
      clear q0 q1 q2 q3 q4 q5 q6
      refine HHT.out.mono ?_
      rintro e w1 ⟨rfl, hb1⟩
      have HB1 := Lib.hid (below_then HB.out HB.out.size hb1)
      clear hb1 HHT
      obtain ⟨q0, q1, q2, q3, q4, q5, q6⟩ := HC.out _ HB1.out
      go_wp2_with fail
      clear q0 q1 q2 q3 q4 q5 q6
      refine (heldStored0 ((z : Int) + 1) w1).mono ?_
      rintro e w2 ⟨rfl, hb2⟩
      have HB2 := Lib.hid (below_then HB1.out HB1.out.size hb2)
      clear hb2
      obtain ⟨q0, q1, q2, q3, q4, q5, q6⟩ := HC.out _ HB2.out
      go_wp2_with fail
      clear q0 q1 q2 q3 q4 q5 q6
      refine (heldSession0 ((z : Int) + 1) w2).mono ?_
      rintro e w3 ⟨rfl, hb3⟩
      have HB3 := Lib.hid (below_then HB2.out HB2.out.size hb3)
      clear hb3
      obtain ⟨q0, q1, q2, q3, q4, q5, q6⟩ := HC.out _ HB3.out
      go_wp2_with fail
      clear q0 q1 q2 q3 q4 q5 q6
      refine (heldStored0 ((z : Int) + 1 + 1) w3).mono ?_
      rintro e w4 ⟨rfl, hb4⟩
      have HB4 := Lib.hid (below_then HB3.out HB3.out.size hb4)
      clear hb4
      obtain ⟨q0, q1, q2, q3, q4, q5, q6⟩ := HC.out _ HB4.out
      go_wp2_with fail
      clear q0 q1 q2 q3 q4 q5 q6
      refine (heldSession0 ((z : Int) + 1 + 1) w4).mono ?_
      rintro e w5 ⟨rfl, hb5⟩
      have HB5 := Lib.hid (below_then HB4.out HB4.out.size hb5)
      clear hb5
      go_wp2
      go_roundw
      case rel =>
        refine ⟨i + 1, z + 2, by go_num, by go_num, by omega, by omega, Lib.hid ?_, HB5.out⟩
        rw [take_snoc2 HRI.out, mkE_app, ← (show m = _ from HE.out), (show z = _ from HZ.out)]
        rfl
      case measure => simp [intOf]; omega
    · go_wp2
      go_ret
      obtain rfl : i = rs.length := by omega
      have h1 : m = mkE nxRp k (rs.take rs.length) := HE.out
      rw [List.take_length] at h1
      exact ⟨by rw [h1]; rfl, HB.out⟩
end Go.Proofs.YtemcijhpmpdebaaGreatDoor
