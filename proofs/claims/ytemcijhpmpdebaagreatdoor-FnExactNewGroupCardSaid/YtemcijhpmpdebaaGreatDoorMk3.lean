/- Families of rows, each in memory of its own; what the laws write into operations, told exactly. -/
import Derived.Test.YtemcijhpmpdebaaGreatDoorMk2
namespace Go.Proofs.YtemcijhpmpdebaaGreatDoor
open Go.RowKit
section
variable {F F' : Nat → Prop} {w w1 : World} {T : TypeId} {A : Option Addr} {vs : List Value}
theorem own_other {K : TypeId → Prop} (h : Own F w T A vs) (hw : Wrote K F' w w1) (hT : ¬ K T) : Own F w1 T A vs := by
  refine ⟨fun hv => ?_, h.2.wrote hw⟩
  obtain ⟨b, o, e, hF, hl, hc⟩ := h.1 hv
  obtain ⟨g, o2, cs, e2, _, hh, _⟩ := h.2 (List.length_pos_iff.2 hv)
  rw [e] at e2
  injection e2 with e2
  injection e2 with e3 e4
  subst e3 e4
  have hh1 := hw.other hh hT
  exact ⟨b, o, e, hF, lt_of_block hh1, fun j u hj => by rw [cell_of_block hh1, ← cell_of_block hh]; exact hc j u hj⟩
end
/-- Rows of one type, each in memory of its own, no two in one block. -/
structure Fam (F : Nat → Prop) (w : World) (T : TypeId) (l : List (Option Addr × List Value)) : Prop where
  own : ∀ r ∈ l, Own F w T r.1 r.2
  apart : ∀ (i j : Nat) (r s : Option Addr × List Value) (a b : Addr), i ≠ j → l[i]? = some r → l[j]? = some s → r.2 ≠ [] → s.2 ≠ [] → r.1 = some a → s.1 = some b → a.block ≠ b.block
section
variable {F F' : Nat → Prop} {w w1 : World} {T : TypeId} {A : Option Addr} {l M R : List (Option Addr × List Value)} {r : Option Addr × List Value}
theorem Fam.zero (F : Nat → Prop) (w : World) (T : TypeId) : Fam F w T [] := ⟨fun r hr => (by cases hr), fun i j r s a b _ h => by simp at h⟩
theorem Fam.frame (h : Fam F w T l) (ha : Agree F w w1) : Fam F w1 T l := ⟨fun r hr => (h.own r hr).frame ha, h.apart⟩
theorem Fam.below (h : Fam F w T l) (hb : Below w.heap.size w w1) : Fam F w1 T l := h.frame (Agree.of_below hb)
theorem Fam.mono (h : Fam F w T l) (hF : ∀ b, F b → b < w.heap.size → F' b) : Fam F' w T l := ⟨fun r hr => (h.own r hr).mono hF, h.apart⟩
theorem Fam.other {K : TypeId → Prop} (h : Fam F w T l) (hw : Wrote K F' w w1) (hT : ¬ K T) : Fam F w1 T l := ⟨fun r hr => own_other (h.own r hr) hw hT, h.apart⟩
theorem Fam.snoc {B : Nat} {vs : List Value} (h : Fam (fun b => F b ∧ b < B) w T l) (hn : Own (fun b => F b ∧ B ≤ b) w T A vs) : Fam F w T (l ++ [(A, vs)]) := by
  have hlo : ∀ (r : Option Addr × List Value) (a : Addr), r ∈ l → r.2 ≠ [] → r.1 = some a → a.block < B := fun r a hr hv e => by
    obtain ⟨b, o, e2, hF, _, _⟩ := (h.own r hr).1 hv
    rw [e] at e2
    injection e2 with e2
    subst e2
    exact hF.2
  have hhi : ∀ a : Addr, vs ≠ [] → A = some a → B ≤ a.block := fun a hv e => by
    obtain ⟨b, o, e2, hF, _, _⟩ := hn.1 hv
    rw [e] at e2
    injection e2 with e2
    subst e2
    exact hF.2
  have hcase : ∀ (i : Nat) (r : Option Addr × List Value), (l ++ [(A, vs)])[i]? = some r → (i < l.length ∧ l[i]? = some r) ∨ (i = l.length ∧ r = (A, vs)) := fun i r hi => by
    by_cases c : i < l.length
    · rw [List.getElem?_append_left c] at hi
      exact .inl ⟨c, hi⟩
    · rw [List.getElem?_append_right (by omega)] at hi
      have h2 := (List.getElem?_eq_some_iff.1 hi).1
      have h3 : i = l.length := by simp at h2; omega
      subst h3
      rw [Nat.sub_self] at hi
      exact .inr ⟨rfl, by simpa using hi.symm⟩
  refine ⟨fun r hr => ?_, fun i j r s a b hij hr hs hr0 hs0 ea eb => ?_⟩
  · rcases List.mem_append.1 hr with hr | hr
    · exact (h.own r hr).mono (fun b hb _ => hb.1)
    · simp at hr
      subst hr
      exact hn.mono (fun b hb _ => hb.1)
  · rcases hcase i r hr with ⟨hi, hr'⟩ | ⟨hi, rfl⟩
    · rcases hcase j s hs with ⟨hj, hs'⟩ | ⟨hj, rfl⟩
      · exact h.apart i j r s a b hij hr' hs' hr0 hs0 ea eb
      · have h1 := hlo r a (List.mem_of_getElem? hr') hr0 ea
        have h2 := hhi b hs0 eb
        omega
    · rcases hcase j s hs with ⟨hj, hs'⟩ | ⟨hj, rfl⟩
      · have h1 := hlo s b (List.mem_of_getElem? hs') hs0 eb
        have h2 := hhi a hr0 ea
        omega
      · omega
theorem Fam.set (h : Fam F w T (M ++ r :: R)) {v : List Value} (hw : Wrote (fun t => t = T) (fun b => F b ∧ 0 < r.2.length ∧ ∀ a, r.1 = some a → b = a.block) w w1) (ho : Own F w1 T r.1 v) (hl : v.length = r.2.length) : Fam F w1 T (M ++ (r.1, v) :: R) := by
  have conv : ∀ (i : Nat) (a : Option Addr × List Value), (M ++ (r.1, v) :: R)[i]? = some a → ∃ a', (M ++ r :: R)[i]? = some a' ∧ a'.1 = a.1 ∧ (a.2 ≠ [] → a'.2 ≠ []) := fun i a ha => by
    rcases mid_get (x := r) ha with ⟨rfl, rfl⟩ | ⟨_, ha⟩
    · exact ⟨r, mid_at, rfl, fun h0 h1 => h0 (List.length_eq_zero_iff.1 (by show v.length = 0; rw [hl, h1]; rfl))⟩
    · exact ⟨a, ha, rfl, id⟩
  refine ⟨fun s hs => ?_, fun i j a b c d hij ha hb h1 h2 h3 h4 => ?_⟩
  · obtain ⟨i, hi⟩ := List.mem_iff_getElem?.1 hs
    rcases mid_get (x := r) hi with ⟨rfl, rfl⟩ | ⟨hne, hi⟩
    · exact ho
    · have h1 := (h.own s (List.mem_of_getElem? hi)).pin
      refine (Own.frame h1 (hw.agree (fun b hb hg => ?_))).mono (fun b hb _ => hb.1)
      obtain ⟨_, hb2, hb3⟩ := hb
      obtain ⟨_, hg2, hg3⟩ := hg
      obtain ⟨b1, o1, e1, _⟩ := (h.own r (by simp)).1 (List.length_pos_iff.1 hb2)
      obtain ⟨b2, o2, e2, _⟩ := (h.own s (List.mem_of_getElem? hi)).1 (List.length_pos_iff.1 hg2)
      have q1 := hb3 _ e1
      have q2 := hg3 _ e2
      exact h.apart M.length i r s _ _ (Ne.symm hne) mid_at hi (List.length_pos_iff.1 hb2) (List.length_pos_iff.1 hg2) e1 e2 (by rw [← q1, ← q2])
  · obtain ⟨a', k1, k2, k3⟩ := conv i a ha
    obtain ⟨b', m1, m2, m3⟩ := conv j b hb
    exact h.apart i j a' b' c d hij k1 m1 (k3 h1) (m3 h2) (by rw [k2]; exact h3) (by rw [m2]; exact h4)
end
section
variable {α : Type} (ad : α → Option Addr) (ct : Nat → α → List Value) (nx : Nat → α → Nat)
def mkF : Nat → List α → List (Option Addr × List Value)
  | _, [] => []
  | k, p :: ps => (ad p, ct k p) :: mkF (nx k p) ps
def mkE : Nat → List α → Nat
  | k, [] => k
  | k, p :: ps => mkE (nx k p) ps
def mkC : Nat → List α → List Value
  | _, [] => []
  | k, p :: ps => ct k p ++ mkC (nx k p) ps
theorem mkF_app : ∀ (a b : List α) (k : Nat), mkF ad ct nx k (a ++ b) = mkF ad ct nx k a ++ mkF ad ct nx (mkE nx k a) b
  | [], _, _ => rfl
  | q :: a, b, k => by simp [mkF, mkE, mkF_app a]
theorem mkC_app : ∀ (a b : List α) (k : Nat), mkC ct nx k (a ++ b) = mkC ct nx k a ++ mkC ct nx (mkE nx k a) b
  | [], _, _ => rfl
  | q :: a, b, k => by simp [mkC, mkE, mkC_app a]
theorem mkE_app : ∀ (a b : List α) (k : Nat), mkE nx k (a ++ b) = mkE nx (mkE nx k a) b
  | [], _, _ => rfl
  | q :: a, b, k => by simp [mkE, mkE_app a]
theorem mkF_length : ∀ (k : Nat) (l : List α), (mkF ad ct nx k l).length = l.length
  | _, [] => rfl
  | k, q :: l => by simp [mkF, mkF_length _ l]
theorem mkC_length {s : Nat} (h : ∀ k p, (ct k p).length = s) : ∀ (k : Nat) (l : List α), (mkC ct nx k l).length = l.length * s
  | _, [] => by simp [mkC]
  | k, q :: l => by rw [mkC, List.length_append, h, mkC_length h _ l, List.length_cons, Nat.succ_mul]; omega
theorem mkE_le {D : Nat} (l : List α) (h : ∀ p ∈ l, ∀ k, nx k p ≤ k + D) : ∀ k, mkE nx k l ≤ k + l.length * D := by
  induction l with
  | nil => intro k; simp [mkE]
  | cons p l ih =>
    intro k
    have h1 := ih (fun q hq => h q (List.mem_cons_of_mem _ hq)) (nx k p)
    have h2 := h p (by simp) k
    simp only [mkE, List.length_cons, Nat.succ_mul]
    omega
end
def nxOp (k : Nat) (r : OpR) : Nat := k + 4 + 5 * r.d.doc.length
def ctOp (k : Nat) (r : OpR) : List Value := [.int .i64 (k : Int), .int .i64 ((k : Int) + 1), .slice r.adr r.d.doc.length r.cap, .int .i64 ((k + 2 + 5 * r.d.doc.length : Nat) : Int), .int .i64 (((k + 2 + 5 * r.d.doc.length : Nat) : Int) + 1)]
def ctNd (k : Nat) (r : OpR) : List Value := ndCells (mkRow (k + 2) r.d.doc.length)
theorem ctOp_length (k : Nat) (r : OpR) : (ctOp k r).length = 5 := rfl
/-- Operations in memory of their own. -/
structure OpF (F : Nat → Prop) (w : World) (A : Option Addr) (rs : List OpR) : Prop where
  top : Own F w 57 A (opCells rs)
  docs : Fam F w 100 (rs.map fun r => (r.adr, ndCells r.d.doc))
/-- Operations that are marked from k on. -/
structure OpX (F : Nat → Prop) (w : World) (A : Option Addr) (k : Nat) (rs : List OpR) : Prop where
  top : Own F w 57 A (mkC ctOp nxOp k rs)
  docs : Fam F w 100 (mkF OpR.adr ctNd nxOp k rs)
theorem OpX.other {F F' : Nat → Prop} {w w1 : World} {A : Option Addr} {k : Nat} {rs : List OpR} {K : TypeId → Prop} (h : OpX F w A k rs) (hw : Wrote K F' w w1) (h1 : ¬ K 57) (h2 : ¬ K 100) : OpX F w1 A k rs := ⟨own_other h.top hw h1, h.docs.other hw h2⟩
theorem OpX.below {F : Nat → Prop} {w w1 : World} {A : Option Addr} {k : Nat} {rs : List OpR} (h : OpX F w A k rs) (hb : Below w.heap.size w w1) : OpX F w1 A k rs := ⟨h.top.frame (Agree.of_below hb), h.docs.below hb⟩
theorem OpF.frame {F : Nat → Prop} {w w1 : World} {A : Option Addr} {rs : List OpR} (h : OpF F w A rs) (ha : Agree F w w1) : OpF F w1 A rs := ⟨h.top.frame ha, h.docs.frame ha⟩
theorem OpF.mono {F G : Nat → Prop} {w : World} {A : Option Addr} {rs : List OpR} (h : OpF F w A rs) (hF : ∀ b, F b → b < w.heap.size → G b) : OpF G w A rs := ⟨h.top.mono hF, h.docs.mono hF⟩
set_option maxRecDepth 100000 in
set_option maxHeartbeats 4000000 in
theorem markOpsX_any (rs : List OpR) (hn : rs.length ≤ 1000) (hd : ∀ r ∈ rs, r.d.doc.length ≤ 1048576) (k c : Nat) (hk : k ≤ 1000000) (F : Nat → Prop) (A : Option Addr) (w : World) (hw : OpF F w A rs) :
    Calls Tryz.prog 11 #[.slice A rs.length c, .int .i64 (k : Int)] w (fun e w' => e = .returned (.int .i64 (mkE nxOp k rs : Int)) ∧ OpX F w' A k rs ∧ Wrote KM F w w') := by
  have HM := Lib.hid hw
  have HD := Lib.hid hd
  clear hw hd
  go_enter Tryz.func11, Tryz.ntmps11
  go_wp2
  go_loopw [1, 5] (fun kv iv wx => ∃ i m : Nat, kv = .int .i64 (m : Int) ∧ iv = .int .i64 (i : Int) ∧ i ≤ rs.length ∧ m ≤ k + i * 5242884 ∧ Hid (m = mkE nxOp k (rs.take i)) ∧ Hid (Own F wx 57 A (mkC ctOp nxOp k (rs.take i) ++ opCells (rs.drop i))) ∧ Hid (Fam F wx 100 (mkF OpR.adr ctNd nxOp k (rs.take i) ++ (rs.drop i).map fun r => (r.adr, ndCells r.d.doc))) ∧ Hid (Wrote KM F w wx)) (fun _ i _ => rs.length - (intOf i).toNat)
  case atStart => exact ⟨0, k, rfl, rfl, Nat.zero_le _, by omega, rfl, Lib.hid (by have h := HM.out.top; simpa [mkC] using h), Lib.hid (by have h := HM.out.docs; simpa [mkF] using h), Lib.hid (Wrote.refl _ _ _)⟩
  case round =>
    obtain ⟨i, m, rfl, rfl, hi, hm, HE, HO, HN, HW⟩ := hrel
    clear HM
    by_cases hlt : i < rs.length
    · have hri : rs[i]? = some rs[i] := by simp [hlt]
      have hdr : rs.drop i = rs[i] :: rs.drop (i + 1) := List.drop_eq_getElem_cons hlt
      generalize rs[i] = r at hri hdr
      have hP : (mkC ctOp nxOp k (rs.take i)).length = i * 5 := by rw [mkC_length ctOp nxOp ctOp_length, List.length_take, Nat.min_eq_left hi]
      have ho := HO.out
      have hnn := HN.out
      rw [hdr] at ho hnn
      rw [List.map_cons] at hnn
      have e0 : opCells (r :: rs.drop (i + 1)) = r.cells ++ opCells (rs.drop (i + 1)) := rfl
      rw [e0] at ho
      obtain ⟨g, o, rfl, _⟩ := own_ptr ho (by simp [OpR.cells])
      generalize hPe : mkC ctOp nxOp k (rs.take i) = P at ho hP
      generalize hRe : opCells (rs.drop (i + 1)) = R at ho
      have HPE := Lib.hid hPe
      have HRE := Lib.hid hRe
      have HPL := Lib.hid hP
      have H0 := Lib.hid ho
      have HN0 := Lib.hid hnn
      have hrd := HD.out r (List.mem_of_getElem? hri)
      have HRI := Lib.hid hri
      clear ho hP hPe hRe HO HN hnn hdr e0 hri
      obtain ⟨q0, f0⟩ := own_cell H0.out HPL.out 0 (.int .i64 r.d.o.kind) rfl (o + i * 5) (by omega)
      obtain ⟨q1, f1⟩ := own_cell H0.out HPL.out 1 (.int .i64 r.d.o.id) rfl (o + i * 5 + 1) (by omega)
      obtain ⟨q2, f2⟩ := own_cell H0.out HPL.out 2 (.slice r.adr r.d.doc.length r.cap) rfl (o + i * 5 + 2) (by omega)
      go_wp2_with fail
      have p0 := own_put H0.out HPL.out 0 (by simp [OpR.cells]) (.int .i64 (m : Int)) (o + i * 5) (by omega)
      have p1 := own_put p0.1 HPL.out 1 (by simp [OpR.cells]) (.int .i64 ((m : Int) + 1)) (o + i * 5 + 1) (by omega)
      have HO1 := Lib.hid (show Own F ((wr.setCell ⟨g, o + i * 5, none⟩ (.int .i64 (m : Int))).setCell ⟨g, o + i * 5 + 1, none⟩ (.int .i64 ((m : Int) + 1))) 57 (some ⟨g, o, none⟩) (P ++ ([.int .i64 (m : Int), .int .i64 ((m : Int) + 1), .slice r.adr r.d.doc.length r.cap, .int .i64 r.d.o.session, .int .i64 r.d.o.no] ++ R)) from p1.1)
      have HT1 := Lib.hid (p0.2.trans p1.2)
      clear p0 p1 q0 f0 q1 f1 q2 f2
      generalize (wr.setCell ⟨g, o + i * 5, none⟩ (.int .i64 (m : Int))).setCell ⟨g, o + i * 5 + 1, none⟩ (.int .i64 ((m : Int) + 1)) = w1 at HO1 HT1 ⊢
      have HN1 := Lib.hid (HN0.out.other HT1.out (by decide))
      have hpin := (HN1.out.own (r.adr, ndCells r.d.doc) (by simp)).pin
      refine (markNodeS_any r.d.doc.length (m + 2) r.cap (by omega) (by omega) _ r.adr w1 (hpin.2.len (ndCells_length _))).mono ?_
      rintro e w2 ⟨rfl, ho2, hw2⟩
      have HN2 := Lib.hid (HN1.out.set hw2 (ho2.mono (fun b hb _ => hb.1)) (by rw [ndCells_length, ndCells_length, mkRow_length]))
      have HO2 := Lib.hid (own_other HO1.out hw2 (by decide))
      have HW2 := Lib.hid ((HW.out.trans (HT1.out.mono (fun _ h => by subst h; simp [KM]) (fun _ h => h))).trans (hw2.mono (fun _ h => .inl h) (fun _ h => h.1)))
      obtain ⟨z, hz⟩ : ∃ z, z = m + 2 + 5 * r.d.doc.length := ⟨_, rfl⟩
      have HZ := Lib.hid hz
      have hzb : z ≤ m + 5242882 := by omega
      rw [← hz]
      clear ho2 hw2 hpin HN1 HO1 HT1 HN0 H0 HW hz
      obtain ⟨q3, f3⟩ := own_cell HO2.out HPL.out 3 (.int .i64 r.d.o.session) rfl (o + i * 5 + 3) (by omega)
      obtain ⟨q4, f4⟩ := own_cell HO2.out HPL.out 4 (.int .i64 r.d.o.no) rfl (o + i * 5 + 4) (by omega)
      go_wp2
      go_roundw
      case rel =>
        have p3 := own_put HO2.out HPL.out 3 (by simp) (.int .i64 (z : Int)) (o + i * 5 + 3) (by omega)
        have p4 := own_put p3.1 HPL.out 4 (by simp) (.int .i64 ((z : Int) + 1)) (o + i * 5 + 4) (by omega)
        have hz := HZ.out
        have hme : m = mkE nxOp k (rs.take i) := HE.out
        have e1 : mkC ctOp nxOp k (rs.take (i + 1)) ++ opCells (rs.drop (i + 1)) = P ++ (ctOp m r ++ R) := by
          rw [take_snoc2 HRI.out, mkC_app, HPE.out, HRE.out, ← hme, List.append_assoc]
          simp [mkC]
        have e2 : (mkF OpR.adr ctNd nxOp k (rs.take (i + 1)) ++ (rs.drop (i + 1)).map fun r => (r.adr, ndCells r.d.doc)) = mkF OpR.adr ctNd nxOp k (rs.take i) ++ (r.adr, ctNd m r) :: (rs.drop (i + 1)).map fun r => (r.adr, ndCells r.d.doc) := by
          rw [take_snoc2 HRI.out, mkF_app, ← hme, List.append_assoc]
          simp [mkF]
        refine ⟨i + 1, z + 2, by go_num, by go_num, by omega, by omega, Lib.hid ?_, Lib.hid ?_, Lib.hid ?_, Lib.hid ?_⟩
        · rw [take_snoc2 HRI.out, mkE_app, ← hme, hz]
          show _ = m + 4 + 5 * r.d.doc.length
          omega
        · rw [e1]
          have h := p4.1
          subst hz
          exact h
        · rw [e2]
          exact (HN2.out.other p3.2 (by decide)).other p4.2 (by decide)
        · exact HW2.out.trans ((p3.2.trans p4.2).mono (fun _ h => by subst h; simp [KM]) (fun _ h => h))
      case measure => simp [intOf]; omega
    · go_wp2
      go_ret
      obtain rfl : i = rs.length := by omega
      have h1 : m = mkE nxOp k (rs.take rs.length) := HE.out
      have h2 := HO.out
      have h3 := HN.out
      rw [List.take_length] at h1 h2 h3
      rw [List.drop_length] at h2 h3
      exact ⟨by rw [h1]; rfl, ⟨by simpa [opCells] using h2, by simpa using h3⟩, HW.out⟩
set_option maxRecDepth 100000 in
set_option maxHeartbeats 4000000 in
theorem heldOpsX_any (rs : List OpR) (hn : rs.length ≤ 1000) (hd : ∀ r ∈ rs, r.d.doc.length ≤ 1048576) (k c : Nat) (hk : k ≤ 1000000) (F : Nat → Prop) (A : Option Addr) (w : World) (hw : OpX F w A k rs) :
    Calls Tryz.prog 45 #[.slice A rs.length c, .int .i64 (k : Int)] w (fun e w' => e = .returned (.int .i64 (mkE nxOp k rs : Int)) ∧ Below w.heap.size w w') := by
  have HM := Lib.hid hw
  have HD := Lib.hid hd
  clear hw hd
  go_enter Tryz.func45, Tryz.ntmps45
  go_wp2
  go_loopw [1, 5] (fun kv iv wx => ∃ i m : Nat, kv = .int .i64 (m : Int) ∧ iv = .int .i64 (i : Int) ∧ i ≤ rs.length ∧ m ≤ k + i * 5242884 ∧ Hid (m = mkE nxOp k (rs.take i)) ∧ Below w.heap.size w wx) (fun _ i _ => rs.length - (intOf i).toNat)
  case atStart => exact ⟨0, k, rfl, rfl, Nat.zero_le _, by omega, rfl, Below.refl _ _⟩
  case round =>
    obtain ⟨i, m, rfl, rfl, hi, hm, HE, hbx⟩ := hrel
    have HB := Lib.hid hbx
    clear hbx
    by_cases hlt : i < rs.length
    · have hri : rs[i]? = some rs[i] := by simp [hlt]
      have hdr : rs.drop i = rs[i] :: rs.drop (i + 1) := List.drop_eq_getElem_cons hlt
      generalize rs[i] = r at hri hdr
      have hrd := HD.out r (List.mem_of_getElem? hri)
      have hme : m = mkE nxOp k (rs.take i) := HE.out
      have hP : (mkC ctOp nxOp k (rs.take i)).length = i * 5 := by rw [mkC_length ctOp nxOp ctOp_length, List.length_take, Nat.min_eq_left hi]
      have hC : mkC ctOp nxOp k rs = mkC ctOp nxOp k (rs.take i) ++ (ctOp m r ++ mkC ctOp nxOp (nxOp m r) (rs.drop (i + 1))) := by
        have h := mkC_app ctOp nxOp (rs.take i) (rs.drop i) k
        rw [List.take_append_drop, hdr, ← hme] at h
        exact h
      have hN : mkF OpR.adr ctNd nxOp k rs = mkF OpR.adr ctNd nxOp k (rs.take i) ++ (r.adr, ctNd m r) :: mkF OpR.adr ctNd nxOp (nxOp m r) (rs.drop (i + 1)) := by
        have h := mkF_app OpR.adr ctNd nxOp (rs.take i) (rs.drop i) k
        rw [List.take_append_drop, hdr, ← hme] at h
        exact h
      have ho := HM.out.top
      have hnn := HM.out.docs
      rw [hC] at ho
      rw [hN] at hnn
      obtain ⟨g, o, rfl, _⟩ := own_ptr ho (by simp [ctOp])
      obtain ⟨z, hz⟩ : ∃ z, z = m + 2 + 5 * r.d.doc.length := ⟨_, rfl⟩
      have HZ := Lib.hid hz
      have hzb : z ≤ m + 5242882 := by omega
      have hz0 : ¬ ((z : Int) < 0) := by omega
      have HC := Lib.hid (fun (W : World) (hb : Below w.heap.size w W) => show W.cell? ⟨g, o + i * 5, none⟩ = some (.int .i64 (m : Int)) ∧ W.cell? ⟨g, o + i * 5 + 1, none⟩ = some (.int .i64 ((m : Int) + 1)) ∧ W.cell? ⟨g, o + i * 5 + 2, none⟩ = some (.slice r.adr r.d.doc.length r.cap) ∧ W.cell? ⟨g, o + i * 5 + 3, none⟩ = some (.int .i64 (z : Int)) ∧ W.cell? ⟨g, o + i * 5 + 4, none⟩ = some (.int .i64 ((z : Int) + 1)) from by
        have h := ho.frame (Agree.of_below hb)
        exact ⟨(own_cell h hP 0 _ rfl _ (by omega)).1, (own_cell h hP 1 _ rfl _ (by omega)).1, (own_cell h hP 2 _ rfl _ (by omega)).1, (own_cell h hP 3 _ (by rw [hz]; rfl) _ (by omega)).1, (own_cell h hP 4 _ (by rw [hz]; rfl) _ (by omega)).1⟩)
      have HRI := Lib.hid hri
      have hnd := (hnn.own (r.adr, ctNd m r) (by simp)).1.frame (Agree.of_below HB.out)
      have HH := Lib.hid (heldNodeS_any r.d.doc.length (m + 2) r.cap (by omega) (by omega) F r.adr wr hnd)
      clear ho hnn hC hN hP hme hdr hri hnd
      obtain ⟨q0, q1, q2, q3, q4⟩ := HC.out _ HB.out
      go_wp2_with fail
      clear q0 q1 q2 q3 q4
      refine HH.out.mono ?_
      rintro e w2 ⟨rfl, hb2⟩
      have HB2 := Lib.hid (below_then HB.out HB.out.size hb2)
      rw [← hz]
      clear hb2 HH hz
      obtain ⟨q0, q1, q2, q3, q4⟩ := HC.out _ HB2.out
      go_wp2
      go_roundw
      case rel =>
        refine ⟨i + 1, z + 2, by go_num, by go_num, by omega, by omega, Lib.hid ?_, HB2.out⟩
        rw [take_snoc2 HRI.out, mkE_app, ← (show m = _ from HE.out), (show z = _ from HZ.out)]
        show _ = m + 4 + 5 * r.d.doc.length
        omega
      case measure => simp [intOf]; omega
    · go_wp2
      go_ret
      obtain rfl : i = rs.length := by omega
      have h1 : m = mkE nxOp k (rs.take rs.length) := HE.out
      rw [List.take_length] at h1
      exact ⟨by rw [h1]; rfl, HB.out⟩
end Go.Proofs.YtemcijhpmpdebaaGreatDoor
