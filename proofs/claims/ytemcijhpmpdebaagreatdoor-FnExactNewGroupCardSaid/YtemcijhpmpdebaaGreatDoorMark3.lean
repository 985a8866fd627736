/- What the laws write into bases. -/
import Derived.Test.YtemcijhpmpdebaaGreatDoorMark2
import Derived.Test.YtemcijhpmpdebaaGreatDoorBs4
namespace Go.Proofs.YtemcijhpmpdebaaGreatDoor
open Go.RowKit
/-- The types of the cells that are marked. -/
def KM (T : TypeId) : Prop := T = 100 ∨ T = 94 ∨ T = 97 ∨ T = 57
/-- A row of stored documents that may be written: what is needed of it while it is written. -/
def StMk (F : Nat → Prop) (w : World) (A : Option Addr) (rs : List StR) : Prop :=
  (0 < rs.length → ∃ g o cs, A = some ⟨g, o, none⟩ ∧ F g ∧ w.heap[g]? = some (.cells cs 94 (0, 0)) ∧ o + rs.length * 2 ≤ cs.size ∧ ∀ j r, rs[j]? = some r → cs[o + j * 2 + 1]? = some (.slice r.adr r.d.doc.length r.cap)) ∧ ∀ r ∈ rs, WRow F w 100 (r.d.doc.length * 5) r.adr
theorem StW.mk {F : Nat → Prop} {w : World} {A : Option Addr} {ds : List StV} (h : StW F w A ds) : ∃ rs : List StR, rs.map StR.d = ds ∧ StMk F w A rs := by
  obtain ⟨rs, h1, h2, h3⟩ := h
  refine ⟨rs, h1, fun h0 => ?_, fun r hr => by have h := (h3 r hr).2.2; rwa [ndCells_length] at h⟩
  obtain ⟨g, o, cs, e, hF, hh, hs⟩ := h2.2 (by rw [stCells_length]; omega)
  rw [stCells_length] at hs
  refine ⟨g, o, cs, e, hF, hh, hs, fun j r hj => ?_⟩
  have hv : (stCells rs)[j * 2 + 1]? = some (.slice r.adr r.d.doc.length r.cap) := by
    rw [stCells, flat_get StR.cells 2 (fun _ => rfl) rs j r hj 1 (by omega)]
    rfl
  have hr := h2.1
  rw [e] at hr
  have := hr.at _ _ hv
  rw [cell_of_block hh, ← Nat.add_assoc] at this
  exact this
theorem StMk.nodes {F F' : Nat → Prop} {w w1 : World} {A : Option Addr} {rs : List StR} (h : StMk F w A rs) (hw : Wrote (fun T => T = 100) F' w w1) : StMk F w1 A rs := by
  refine ⟨fun h0 => ?_, fun r hr => (h.2 r hr).wrote hw⟩
  obtain ⟨g, o, cs, e, hF, hh, hs, hc⟩ := h.1 h0
  exact ⟨g, o, cs, e, hF, hw.other hh (by decide), hs, hc⟩
theorem StMk.id {F : Nat → Prop} {w : World} {g o : Nat} {rs : List StR} (h : StMk F w (some ⟨g, o, none⟩) rs) {k : Nat} (hk : k < rs.length) (v : Value) : StMk F (w.setCell ⟨g, o + k * 2, none⟩ v) (some ⟨g, o, none⟩) rs := by
  obtain ⟨g', o', cs, e, hF, hh, hs, hc⟩ := h.1 (by omega)
  injection e with e
  injection e with e1 e2
  subst e1 e2
  refine ⟨fun _ => ⟨g, o, _, rfl, hF, block_setCell hh _ _, by simpa using hs, fun j r hj => ?_⟩, fun r hr => (h.2 r hr).wrote ((Wrote.refl KM F w).set hh (by simp [KM]) hF _ _)⟩
  rw [Array.getElem?_setIfInBounds, if_neg (by omega)]
  exact hc j r hj
theorem StMk.below {F : Nat → Prop} {w w1 : World} {A : Option Addr} {rs : List StR} (h : StMk F w A rs) (hb : Below w.heap.size w w1) : StMk F w1 A rs := by
  refine ⟨fun h0 => ?_, fun r hr => (h.2 r hr).frame (Agree.of_below hb)⟩
  obtain ⟨g, o, cs, e, hF, hh, hs, hc⟩ := h.1 h0
  exact ⟨g, o, cs, e, hF, block_below hh hb, hs, hc⟩
def MkSt (F : Nat → Prop) (k : Nat) (n : Nat) (w : World) (e : Ending) (w' : World) : Prop :=
  ∃ m : Nat, e = .returned (.int .i64 (m : Int)) ∧ m ≤ k + n * 5242881 ∧ Wrote KM F w w'
set_option maxRecDepth 100000 in
set_option maxHeartbeats 1600000 in
theorem markStoredS_any (rs : List StR) (hn : rs.length ≤ 1048576) (hd : ∀ r ∈ rs, r.d.doc.length ≤ 1048576) (k c : Nat) (hk : k ≤ 1000000) (F : Nat → Prop) (A : Option Addr) (w : World) (hw : StMk F w A rs) :
    Calls Tryz.prog 27 #[.slice A rs.length c, .int .i64 (k : Int)] w (MkSt F k rs.length w) := by
  have HM := Lib.hid hw
  have HD := Lib.hid hd
  clear hw hd
  go_enter Tryz.func27, Tryz.ntmps27
  go_wp2
  go_loopw [1, 5] (fun kv iv wx => ∃ i m : Nat, kv = .int .i64 (m : Int) ∧ iv = .int .i64 (i : Int) ∧ i ≤ rs.length ∧ m ≤ k + i * 5242881 ∧ Hid (StMk F wx A rs) ∧ Hid (Wrote KM F w wx)) (fun _ i _ => rs.length - (intOf i).toNat)
  case atStart => exact ⟨0, k, rfl, rfl, Nat.zero_le _, by omega, HM.out, Wrote.refl _ _ _⟩
  case round =>
    obtain ⟨i, m, rfl, rfl, hi, hm, hinv, hwr⟩ := hrel
    have HI := Lib.hid hinv
    have HW := Lib.hid hwr
    clear hinv hwr HM
    by_cases hlt : i < rs.length
    · obtain ⟨g, o, cs, rfl, hF, hh, hs, hc⟩ := HI.out.1 (by omega)
      obtain ⟨u0, e0⟩ := some_at (cs := cs) (j := o + i * 2) (by omega)
      have hri : rs[i]? = some rs[i] := by simp [hlt]
      generalize rs[i] = r at hri
      have hmem : r ∈ rs := List.mem_of_getElem? hri
      have q0 := (cell_of_block hh _).trans e0
      have q1 := (cell_of_block hh _).trans (hc i r hri)
      have f0 := free_of_block hh (o + i * 2)
      have HI2 := Lib.hid (HI.out.id hlt (.int .i64 (m : Int)))
      have HW2 := Lib.hid (HW.out.set hh (by simp [KM]) hF (o + i * 2) (.int .i64 (m : Int)))
      have hrd := HD.out r hmem
      have HWR := Lib.hid (HI2.out.2 r hmem)
      clear hh hc hF e0 HI HW
      go_wp2_with fail
      generalize wr.setCell ⟨g, o + i * 2, none⟩ (.int .i64 (m : Int)) = w1 at HI2 HW2 HWR ⊢
      refine (markNodeS_any r.d.doc.length (m + 1) r.cap (by omega) (by omega) F r.adr w1 HWR.out).mono ?_
      rintro e w2 ⟨rfl, _, hw2⟩
      have HI3 := Lib.hid (HI2.out.nodes hw2)
      have HW3 := Lib.hid (HW2.out.trans (hw2.mono (fun _ h => .inl h) (fun _ h => h)))
      clear hw2 HI2 HW2 HWR
      go_wp2
      go_roundw
      case rel => exact ⟨i + 1, m + 1 + 5 * r.d.doc.length, rfl, by go_num, by omega, by omega, HI3.out, HW3.out⟩
      case measure => simp [intOf]; omega
    · go_wp2
      go_ret
      obtain rfl : i = rs.length := by omega
      exact ⟨m, rfl, hm, HW.out⟩
set_option maxRecDepth 100000 in
set_option maxHeartbeats 1600000 in
theorem markSessionS_any (n : Nat) (hn : n ≤ 1048576) (k c : Nat) (hk : k ≤ 900000000000000) (F : Nat → Prop) (A : Option Addr) (w : World) (hw : WRow F w 97 (n * 3) A) :
    Calls Tryz.prog 28 #[.slice A n c, .int .i64 (k : Int)] w (MkSt F k n w) := by
  have HM := Lib.hid hw
  clear hw
  go_enter Tryz.func28, Tryz.ntmps28
  go_wp2
  go_loopw [1, 5] (fun kv iv wx => ∃ i : Nat, kv = .int .i64 ((k + 3 * i : Nat) : Int) ∧ iv = .int .i64 (i : Int) ∧ i ≤ n ∧ Hid (Wrote KM F w wx)) (fun _ i _ => n - (intOf i).toNat)
  case atStart => exact ⟨0, rfl, rfl, Nat.zero_le _, Wrote.refl _ _ _⟩
  case round =>
    obtain ⟨i, rfl, rfl, hi, hwr⟩ := hrel
    have HW := Lib.hid hwr
    clear hwr
    obtain ⟨m, hm⟩ : ∃ m, m = k + 3 * i := ⟨_, rfl⟩
    rw [← hm]
    by_cases hlt : i < n
    · obtain ⟨g, o, cs, rfl, hF, hh, hs⟩ := (HM.out.wrote HW.out) (by omega)
      obtain ⟨u0, e0⟩ := some_at (cs := cs) (j := o + i * 3) (by omega)
      obtain ⟨u1, e1⟩ := some_at (cs := cs) (j := o + i * 3 + 1) (by omega)
      obtain ⟨u2, e2⟩ := some_at (cs := cs) (j := o + i * 3 + 2) (by omega)
      have q0 := (cell_of_block hh _).trans e0
      have q1 := (cell_of_block hh _).trans e1
      have q2 := (cell_of_block hh _).trans e2
      have f0 := free_of_block hh (o + i * 3)
      have f1 := free_of_block hh (o + i * 3 + 1)
      have f2 := free_of_block hh (o + i * 3 + 2)
      have HH := Lib.hid hh
      have HF := Lib.hid hF
      clear hh hF e0 e1 e2
      go_wp2
      go_roundw
      case rel =>
        refine ⟨i + 1, ?_, by go_num, by omega, ?_⟩
        · go_num
        · exact ((HW.out.set HH.out (by simp [KM]) HF.out _ _).set (block_setCell HH.out _ _) (by simp [KM]) HF.out _ _).set (block_setCell (block_setCell HH.out _ _) _ _) (by simp [KM]) HF.out _ _
      case measure => simp [intOf]; omega
    · go_wp2
      go_ret
      obtain rfl : i = n := by omega
      exact ⟨m, rfl, by omega, HW.out⟩
set_option maxRecDepth 100000 in
set_option maxHeartbeats 1600000 in
theorem markBase_any (b : BsV) (hf : b.fits 1048576) (F : Nat → Prop) (A1 A2 : Option Addr) (c1 c2 : Nat) (w : World) (h1 : StW F w A1 b.docs) (h2 : WRow F w 97 (b.sess.length * 3) A2) :
    Calls Tryz.prog 12 #[b.val A1 c1 A2 c2, .int .i64 1] w fun e w' => ∃ m : Nat, e = .returned (.int .i64 (m : Int)) ∧ Wrote KM F w w' := by
  obtain ⟨rs, hrs, hmk⟩ := h1.mk
  obtain ⟨f1, f2, f3⟩ := hf
  have hl : b.docs.length = rs.length := by rw [← hrs, List.length_map]
  have hrd : ∀ r ∈ rs, r.d.doc.length ≤ 1048576 := fun r hr => (f3 r.d (by rw [← hrs]; exact List.mem_map_of_mem hr)).1
  have hb0 : Below w.heap.size w (w.alloc (.cells #[.int .i64 b.applied, .slice A1 b.docs.length c1, .slice A2 b.sess.length c2] 27 (0, 0))) := (Below.refl _ _).alloc (Nat.le_refl _) _
  have k0 := heap_alloc_new w (.cells #[.int .i64 b.applied, .slice A1 b.docs.length c1, .slice A2 b.sess.length c2] 27 (0, 0))
  have HB0 := Lib.hid hb0
  have HS := Lib.hid (hmk.below hb0)
  have HW := Lib.hid (h2.frame (Agree.of_below hb0))
  have HMS := Lib.hid (fun W (h : StMk F W A1 rs) => (by
    have := markStoredS_any rs (by omega) hrd 1 c1 (by omega) F A1 W h
    rw [← hl] at this
    exact this : Calls Tryz.prog 27 #[.slice A1 b.docs.length c1, .int .i64 1] W (MkSt F 1 b.docs.length W)))
  clear hmk h2 hb0 hrd hrs f3 h1 hl
  unfold BsV.val
  go_enter Tryz.func12, Tryz.ntmps12
  go_wp2_with fail
  generalize w.alloc (.cells #[.int .i64 b.applied, .slice A1 b.docs.length c1, .slice A2 b.sess.length c2] 27 (0, 0)) = w1 at HB0 HS HW k0 ⊢
  refine (HMS.out w1 HS.out).mono ?_
  rintro e w2 ⟨m, rfl, hm, hw2⟩
  have k2 := hw2.other k0 (by simp [KM])
  obtain ⟨x0, x1, x2⟩ := cells3 k2
  have HW2 := Lib.hid (HW.out.wrote hw2)
  have HWW := Lib.hid ((Wrote.of_below HB0.out).trans hw2)
  clear k2 k0 hw2 HW HS
  go_wp2_with fail
  refine (markSessionS_any b.sess.length (by omega) m c2 (by omega) F A2 w2 HW2.out).mono ?_
  rintro e w3 ⟨m', rfl, hm', hw3⟩
  have HW3 := Lib.hid (HWW.out.trans hw3)
  clear hw3
  go_wp2
  go_ret
  exact ⟨m', rfl, HW3.out⟩
end Go.Proofs.YtemcijhpmpdebaaGreatDoor
