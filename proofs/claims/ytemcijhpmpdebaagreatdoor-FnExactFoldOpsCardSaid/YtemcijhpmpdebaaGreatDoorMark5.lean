/- What the laws write into the sessions of bases, told exactly; bases written, and found again. -/
import Derived.Test.YtemcijhpmpdebaaGreatDoorMark4
namespace Go.Proofs.YtemcijhpmpdebaaGreatDoor
open Go.RowKit
/-- What the laws write into a bool. -/
def fin3 (k : Int) : Bool := Int.tmod k 3 == 0
def mkSs (k : Nat) : SsV := ⟨(k : Int), (k : Int) + 1, fin3 ((k : Int) + 1 + 1)⟩
def mkSsL (k n : Nat) : List SsV := (List.range n).map fun i => mkSs (k + 3 * i)
theorem mkSsL_length (k n : Nat) : (mkSsL k n).length = n := by simp [mkSsL]
theorem mkSsL_get (k n i : Nat) (h : i < n) : (mkSsL k n)[i]? = some (mkSs (k + 3 * i)) := by simp [mkSsL, h]
def SsDone (cs : Array Value) (o k n : Nat) : Prop := ∀ i, i < n → ∀ j v, (mkSs (k + 3 * i)).cells[j]? = some v → cs[o + i * 3 + j]? = some v
theorem SsDone.rds {w : World} {g o k n : Nat} {cs : Array Value} {T : TypeId} (h : w.heap[g]? = some (.cells cs T (0, 0))) (hd : SsDone cs o k n) : Rds (fun b => b = g) w (some ⟨g, o, none⟩) (ssCells (mkSsL k n)) := fun _ =>
  ⟨g, o, rfl, rfl, lt_of_block h, fun j v hj => by
    rw [cell_of_block h]
    have hlen : j < n * 3 := by
      have := (List.getElem?_eq_some_iff.1 hj).1
      rw [ssCells_length, mkSsL_length] at this
      exact this
    have e : j / 3 * 3 + j % 3 = j := by omega
    have hget := flat_get SsV.cells 3 (fun _ => rfl) (mkSsL k n) (j / 3) _ (mkSsL_get k n (j / 3) (by omega)) (j % 3) (by omega)
    rw [e] at hget
    have := hd (j / 3) (by omega) (j % 3) v (hget.symm.trans hj)
    rwa [Nat.add_assoc, e] at this⟩
theorem SsDone.step {cs : Array Value} {o k n : Nat} (h : SsDone cs o k n) (hs : o + (n + 1) * 3 ≤ cs.size) {m : Nat} (hm : m = k + 3 * n) :
    SsDone (((cs.setIfInBounds (o + n * 3) (.int .i64 (m : Int))).setIfInBounds (o + n * 3 + 1) (.int .i64 ((m : Int) + 1))).setIfInBounds (o + n * 3 + 2) (.bool (fin3 ((m : Int) + 1 + 1)))) o k (n + 1) := by
  subst hm
  intro i hi j v hv
  have hj : j < 3 := (List.getElem?_eq_some_iff.1 hv).1
  by_cases c : i = n
  · subst c
    match j, hj with
    | 0, _ =>
      rw [Array.getElem?_setIfInBounds_ne (by omega), Array.getElem?_setIfInBounds_ne (by omega), Nat.add_zero, Array.getElem?_setIfInBounds_self_of_lt (by omega)]
      exact hv
    | 1, _ =>
      rw [Array.getElem?_setIfInBounds_ne (by omega), Array.getElem?_setIfInBounds_self_of_lt (by simp; omega)]
      exact hv
    | 2, _ =>
      rw [Array.getElem?_setIfInBounds_self_of_lt (by simp; omega)]
      exact hv
  · rw [Array.getElem?_setIfInBounds_ne (by omega), Array.getElem?_setIfInBounds_ne (by omega), Array.getElem?_setIfInBounds_ne (by omega)]
    exact h i (by omega) j v hv
def SsInv (F : Nat → Prop) (n k i : Nat) (A : Option Addr) (w : World) : Prop := 0 < n → ∃ g o cs, A = some ⟨g, o, none⟩ ∧ F g ∧ w.heap[g]? = some (.cells cs 97 (0, 0)) ∧ o + n * 3 ≤ cs.size ∧ SsDone cs o k i
def SsMkPost (F : Nat → Prop) (n k : Nat) (A : Option Addr) (w : World) (e : Ending) (w' : World) : Prop :=
  e = .returned (.int .i64 ((k + 3 * n : Nat) : Int)) ∧ Own F w' 97 A (ssCells (mkSsL k n)) ∧ Wrote (fun T => T = 97) F w w'
set_option maxRecDepth 100000 in
set_option maxHeartbeats 1600000 in
theorem markSsF_any (n : Nat) (hn : n ≤ 1048576) (k c : Nat) (hk : k ≤ 900000000000000) (F : Nat → Prop) (A : Option Addr) (w : World) (hw : WRow F w 97 (n * 3) A) :
    Calls Tryz.prog 28 #[.slice A n c, .int .i64 (k : Int)] w (SsMkPost F n k A w) := by
  have hi0 : SsInv F n k 0 A w := fun h0 => by
    obtain ⟨g, o, cs, e, hF, hh, hs⟩ := hw (by omega)
    exact ⟨g, o, cs, e, hF, hh, hs, fun i hi => by omega⟩
  have HI0 := Lib.hid hi0
  clear hi0 hw
  go_enter Tryz.func28, Tryz.ntmps28
  go_wp2
  go_loopw [1, 5] (fun kv iv wx => ∃ i m : Nat, kv = .int .i64 (m : Int) ∧ iv = .int .i64 (i : Int) ∧ i ≤ n ∧ m = k + 3 * i ∧ Hid (SsInv F n k i A wx) ∧ Hid (Wrote (fun T => T = 97) F w wx)) (fun _ i _ => n - (intOf i).toNat)
  case atStart => exact ⟨0, k, rfl, rfl, Nat.zero_le _, rfl, HI0.out, Wrote.refl _ _ _⟩
  case round =>
    obtain ⟨i, m, rfl, rfl, hi, hm, hinv, hwr⟩ := hrel
    have HMM := Lib.hid hm
    have hmb : m ≤ 910000000000000 := by omega
    have HI := Lib.hid hinv
    have HW := Lib.hid hwr
    clear hinv hwr HI0 hm
    by_cases hlt : i < n
    · obtain ⟨g, o, cs, rfl, hF, hh, hs, hd⟩ := HI.out (by omega)
      obtain ⟨u0, e0⟩ := some_at (cs := cs) (j := o + i * 3) (by omega)
      obtain ⟨u1, e1⟩ := some_at (cs := cs) (j := o + i * 3 + 1) (by omega)
      obtain ⟨u2, e2⟩ := some_at (cs := cs) (j := o + i * 3 + 2) (by omega)
      have q0 := (cell_of_block hh _).trans e0
      have q1 := (cell_of_block hh _).trans e1
      have q2 := (cell_of_block hh _).trans e2
      have f0 := free_of_block hh (o + i * 3)
      have f1 := free_of_block hh (o + i * 3 + 1)
      have f2 := free_of_block hh (o + i * 3 + 2)
      have HH := Lib.hid hh
      have HD := Lib.hid hd
      have HF := Lib.hid hF
      clear hh hd hF e0 e1 e2 HI
      go_wp2
      go_roundw
      case rel =>
        refine ⟨i + 1, m + 3, by go_num, by go_num, by omega, by have := HMM.out; omega, fun _ => ⟨g, o, _, rfl, HF.out, block_setCell (block_setCell (block_setCell HH.out _ _) _ _) _ _, by simpa using hs, HD.out.step (by omega) HMM.out⟩, ?_⟩
        exact ((HW.out.set HH.out rfl HF.out _ _).set (block_setCell HH.out _ _) rfl HF.out _ _).set (block_setCell (block_setCell HH.out _ _) _ _) rfl HF.out _ _
      case measure => simp [intOf]; omega
    · go_wp2
      go_ret
      obtain rfl : i = n := by omega
      refine ⟨by have h := HMM.out; subst h; rfl, ⟨?_, ?_⟩, HW.out⟩
      · intro hne
        have h0 : 0 < i := by
          rcases Nat.eq_zero_or_pos i with h | h
          · subst h; exact absurd rfl hne
          · exact h
        obtain ⟨g, o, cs, rfl, hF, hh, hs, hd⟩ := HI.out h0
        exact (hd.rds hh).mono (fun b hb _ => by subst hb; exact hF) hne
      · intro h0
        rw [ssCells_length, mkSsL_length] at h0 ⊢
        obtain ⟨g, o, cs, rfl, hF, hh, hs, hd⟩ := HI.out (by omega)
        exact ⟨g, o, cs, rfl, hF, hh, hs⟩
set_option maxRecDepth 100000 in
set_option maxHeartbeats 1600000 in
theorem heldSsF_any (n k c : Nat) (hn : n ≤ 1048576) (hk : k ≤ 900000000000000) (F : Nat → Prop) (A : Option Addr) (w : World) (hr : Rds F w A (ssCells (mkSsL k n))) :
    Calls Tryz.prog 30 #[.slice A n c, .int .i64 (k : Int)] w fun e w' => e = .returned (.int .i64 ((k + 3 * n : Nat) : Int)) ∧ Below w.heap.size w w' := by
  have HR := Lib.hid hr
  clear hr
  go_enter Tryz.func30, Tryz.ntmps30
  go_wp2
  go_loopw [1, 5] (fun kv iv wx => ∃ i m : Nat, kv = .int .i64 (m : Int) ∧ iv = .int .i64 (i : Int) ∧ i ≤ n ∧ m = k + 3 * i ∧ Below w.heap.size w wx) (fun _ i _ => n - (intOf i).toNat)
  case atStart => exact ⟨0, k, rfl, rfl, Nat.zero_le _, rfl, Below.refl _ _⟩
  case round =>
    obtain ⟨i, m, rfl, rfl, hi, hm, hbx⟩ := hrel
    have HMM := Lib.hid hm
    have hmb : m ≤ 910000000000000 := by omega
    have HB := Lib.hid hbx
    clear hbx
    by_cases hlt : i < n
    · obtain ⟨b, o, s, rfl, hF, hbl, hx, g0, g1, g2⟩ := ss_at (HR.out.frame (Agree.of_below HB.out)) i (by rw [mkSsL_length]; exact hlt)
      rw [mkSsL_get k n i hlt, ← hm] at hx
      injection hx with hx
      subst hx
      clear hm
      replace g0 : wr.cell? ⟨b, o + i * 3, none⟩ = some (.int .i64 (m : Int)) := g0
      replace g1 : wr.cell? ⟨b, o + i * 3 + 1, none⟩ = some (.int .i64 ((m : Int) + 1)) := g1
      replace g2 : wr.cell? ⟨b, o + i * 3 + 2, none⟩ = some (.bool (fin3 ((m : Int) + 1 + 1))) := g2
      unfold fin3 at g2
      go_wp2
      go_roundw
      case rel => exact ⟨i + 1, m + 3, by go_num, by go_num, by omega, by have := HMM.out; omega, HB.out⟩
      case measure => simp [intOf]; omega
    · go_wp2
      go_ret
      obtain rfl : i = n := by omega
      exact ⟨by have h := HMM.out; subst h; rfl, HB.out⟩
theorem Own.other {F F' : Nat → Prop} {K : TypeId → Prop} {w w1 : World} {T : TypeId} {A : Option Addr} {vs : List Value} (h : Own F w T A vs) (hw : Wrote K F' w w1) (hT : ¬ K T) : Own F w1 T A vs := by
  refine ⟨fun hv => ?_, h.2.wrote hw⟩
  obtain ⟨b, o, e, hF, hl, hc⟩ := h.1 hv
  obtain ⟨g, o2, cs, e2, _, hh, _⟩ := h.2 (List.length_pos_iff.2 hv)
  rw [e] at e2
  injection e2 with e2
  injection e2 with e3 e4
  subst e3 e4
  have hh1 := hw.other hh hT
  exact ⟨b, o, e, hF, lt_of_block hh1, fun j u hj => by rw [cell_of_block hh1, ← cell_of_block hh]; exact hc j u hj⟩
theorem StF.sess {F F' : Nat → Prop} {w w1 : World} {A : Option Addr} {rs : List StR} (h : StF F w A rs) (hw : Wrote (fun T => T = 97) F' w w1) : StF F w1 A rs := by
  refine ⟨fun h0 => ?_, fun r hr => (h.docs r hr).other hw (by decide), h.apart⟩
  obtain ⟨g, o, cs, e, hF, hh, hs, hc⟩ := h.top h0
  exact ⟨g, o, cs, e, hF, hw.other hh (by decide), hs, hc⟩
/-- A base that is marked from 1 on. -/
structure BsMk (F : Nat → Prop) (w : World) (A1 A2 : Option Addr) (rs : List StR) (n : Nat) : Prop where
  docs : StF F w A1 (mkStL 1 rs)
  sess : Own F w 97 A2 (ssCells (mkSsL (endSt 1 rs) n))
theorem BsMk.below {F : Nat → Prop} {w w1 : World} {A1 A2 : Option Addr} {rs : List StR} {n : Nat} (h : BsMk F w A1 A2 rs n) (hb : Below w.heap.size w w1) : BsMk F w1 A1 A2 rs n := ⟨h.docs.below hb, h.sess.frame (Agree.of_below hb)⟩
set_option maxRecDepth 100000 in
set_option maxHeartbeats 1600000 in
theorem markBaseF_any (rs : List StR) (n : Nat) (hn : rs.length ≤ 1048576) (hm : n ≤ 1048576) (hd : ∀ r ∈ rs, r.d.doc.length ≤ 1048576) (ap : Int) (F : Nat → Prop) (A1 A2 : Option Addr) (c1 c2 : Nat) (w : World) (h1 : StF F w A1 rs) (h2 : WRow F w 97 (n * 3) A2) :
    Calls Tryz.prog 12 #[.agg #[.int .i64 ap, .slice A1 rs.length c1, .slice A2 n c2], .int .i64 1] w fun e w' => e = .returned (.int .i64 ((endSt 1 rs + 3 * n : Nat) : Int)) ∧ BsMk F w' A1 A2 rs n ∧ Wrote KM F w w' := by
  have hb0 : Below w.heap.size w (w.alloc (.cells #[.int .i64 ap, .slice A1 rs.length c1, .slice A2 n c2] 27 (0, 0))) := (Below.refl _ _).alloc (Nat.le_refl _) _
  have k0 := heap_alloc_new w (.cells #[.int .i64 ap, .slice A1 rs.length c1, .slice A2 n c2] 27 (0, 0))
  have HB0 := Lib.hid hb0
  have HS := Lib.hid (h1.below hb0)
  have HW := Lib.hid (h2.frame (Agree.of_below hb0))
  have hen := endSt_le rs hd 1
  have HD := Lib.hid hd
  clear h1 h2 hb0 hd
  go_enter Tryz.func12, Tryz.ntmps12
  go_wp2_with fail
  generalize w.alloc (.cells #[.int .i64 ap, .slice A1 rs.length c1, .slice A2 n c2] 27 (0, 0)) = w1 at HB0 HS HW k0 ⊢
  refine (markStF_any rs hn HD.out 1 c1 (by omega) F A1 w1 HS.out).mono ?_
  rintro e w2 ⟨rfl, hs2, hw2⟩
  have k2 := hw2.other k0 (by simp [KM])
  obtain ⟨x0, x1, x2⟩ := cells3 k2
  have HW2 := Lib.hid (HW.out.wrote hw2)
  have HS2 := Lib.hid hs2
  have HWW := Lib.hid ((Wrote.of_below HB0.out).trans hw2)
  clear k2 k0 hw2 hs2 HW HS
  go_wp2_with fail
  refine (markSsF_any n (by omega) (endSt 1 rs) c2 (by omega) F A2 w2 HW2.out).mono ?_
  rintro e w3 ⟨rfl, ho3, hw3⟩
  have HM := Lib.hid (show BsMk F w3 A1 A2 rs n from ⟨HS2.out.sess hw3, ho3⟩)
  have HW3 := Lib.hid (HWW.out.trans (hw3.mono (fun _ h => .inr (.inr (.inl h))) (fun _ h => h)))
  clear hw3 ho3
  go_wp2
  go_ret
  exact ⟨rfl, HM.out, HW3.out⟩
set_option maxRecDepth 100000 in
set_option maxHeartbeats 1600000 in
theorem heldBaseF_any (rs : List StR) (n : Nat) (hn : rs.length ≤ 1048576) (hm : n ≤ 1048576) (hd : ∀ r ∈ rs, r.d.doc.length ≤ 1048576) (ap : Int) (F : Nat → Prop) (A1 A2 : Option Addr) (c1 c2 : Nat) (w : World) (h : BsMk F w A1 A2 rs n) :
    Calls Tryz.prog 13 #[.agg #[.int .i64 ap, .slice A1 rs.length c1, .slice A2 n c2], .int .i64 1] w fun e w' => e = .returned (.int .i64 ((endSt 1 rs + 3 * n : Nat) : Int)) ∧ Below w.heap.size w w' := by
  have hb0 : Below w.heap.size w (w.alloc (.cells #[.int .i64 ap, .slice A1 rs.length c1, .slice A2 n c2] 27 (0, 0))) := (Below.refl _ _).alloc (Nat.le_refl _) _
  have k0 := heap_alloc_new w (.cells #[.int .i64 ap, .slice A1 rs.length c1, .slice A2 n c2] 27 (0, 0))
  have HB0 := Lib.hid hb0
  have HM := Lib.hid (h.below hb0)
  have hen := endSt_le rs hd 1
  have HD := Lib.hid hd
  clear h hb0 hd
  go_enter Tryz.func13, Tryz.ntmps13
  go_wp2_with fail
  generalize w.alloc (.cells #[.int .i64 ap, .slice A1 rs.length c1, .slice A2 n c2] 27 (0, 0)) = w1 at HB0 HM k0 ⊢
  refine (heldStF_any rs hn HD.out 1 c1 (by omega) F A1 w1 HM.out.docs).mono ?_
  rintro e w2 ⟨rfl, hb2⟩
  obtain ⟨x0, x1, x2⟩ := cells3 (block_below k0 hb2)
  have HB2 := Lib.hid (below_then HB0.out HB0.out.size hb2)
  have HH := Lib.hid (heldSsF_any n (endSt 1 rs) c2 hm (by omega) F A2 w2 (HM.out.below hb2).sess.1)
  have hz : ¬ ((endSt 1 rs : Int) < 0) := by omega
  clear k0 hb2 HM
  go_wp2_with fail
  refine HH.out.mono ?_
  rintro e w3 ⟨rfl, hb3⟩
  have HB3 := Lib.hid (below_then HB2.out HB2.out.size hb3)
  have hz2 : ¬ (((endSt 1 rs + 3 * n : Nat) : Int) < 0) := by omega
  clear hb3 HH
  go_wp2
  go_ret
  exact ⟨rfl, HB3.out⟩
end Go.Proofs.YtemcijhpmpdebaaGreatDoor
