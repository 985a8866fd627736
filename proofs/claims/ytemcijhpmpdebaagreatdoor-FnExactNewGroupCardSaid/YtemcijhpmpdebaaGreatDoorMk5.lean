/- What the laws write into groups, told exactly; what they find there again. -/
import Derived.Test.YtemcijhpmpdebaaGreatDoorMk4
namespace Go.Proofs.YtemcijhpmpdebaaGreatDoor
open Go.RowKit
/-- A group of memory of its own, as it begins. -/
structure GrF (F : Nat → Prop) (w : World) (A1 A2 A3 : Option Addr) (os : List OpR) (n : Nat) (ps : List PlR) (rs : List RpR) : Prop where
  ops : OpF F w A1 os
  pls : PlF F w A2 n ps
  rps : RpF F w A3 rs
/-- A group that is marked from 1 on. -/
structure GrX (F : Nat → Prop) (w : World) (A1 A2 A3 : Option Addr) (os : List OpR) (n : Nat) (ps : List PlR) (rs : List RpR) : Prop where
  ops : OpX F w A1 1 os
  pls : PlX F w A2 n (mkE nxOp 1 os) ps
  rps : RpX F w A3 (mkE (nxPl n) (mkE nxOp 1 os) ps) rs
def grE (os : List OpR) (n : Nat) (ps : List PlR) (rs : List RpR) : Nat := mkE nxRp (mkE (nxPl n) (mkE nxOp 1 os) ps) rs
structure GrSz (os : List OpR) (n : Nat) (ps : List PlR) (rs : List RpR) : Prop where
  ol : os.length ≤ 9
  od : ∀ r ∈ os, r.d.doc.length ≤ 1048576
  n5 : n ≤ 5
  pl : ps.length ≤ 12
  rl : rs.length ≤ 5
theorem GrSz.e1 {os : List OpR} {n : Nat} {ps : List PlR} {rs : List RpR} (h : GrSz os n ps rs) : mkE nxOp 1 os ≤ 100000000 := by
  have h1 := mkE_le nxOp (D := 5242884) os (fun r hr k => by have := h.od r hr; unfold nxOp; omega) 1
  have h2 := h.ol
  have h3 : os.length * 5242884 ≤ 9 * 5242884 := Nat.mul_le_mul_right _ h2
  omega
theorem GrSz.e2 {os : List OpR} {n : Nat} {ps : List PlR} {rs : List RpR} (h : GrSz os n ps rs) : mkE (nxPl n) (mkE nxOp 1 os) ps ≤ 200000000 := by
  have h1 := mkE_le (nxPl n) (D := 33) ps (fun p _ k => by have := h.n5; unfold nxPl; omega) (mkE nxOp 1 os)
  have h2 := h.pl
  have h3 : ps.length * 33 ≤ 12 * 33 := Nat.mul_le_mul_right _ h2
  have := h.e1
  omega
theorem GrF.frame {F : Nat → Prop} {w w1 : World} {A1 A2 A3 : Option Addr} {os : List OpR} {n : Nat} {ps : List PlR} {rs : List RpR} (h : GrF F w A1 A2 A3 os n ps rs) (ha : Agree F w w1) : GrF F w1 A1 A2 A3 os n ps rs := ⟨h.ops.frame ha, h.pls.frame ha, h.rps.frame ha⟩
theorem GrF.mono {F G : Nat → Prop} {w : World} {A1 A2 A3 : Option Addr} {os : List OpR} {n : Nat} {ps : List PlR} {rs : List RpR} (h : GrF F w A1 A2 A3 os n ps rs) (hF : ∀ b, F b → b < w.heap.size → G b) : GrF G w A1 A2 A3 os n ps rs := ⟨h.ops.mono hF, h.pls.mono hF, h.rps.mono hF⟩
theorem GrX.below {F : Nat → Prop} {w w1 : World} {A1 A2 A3 : Option Addr} {os : List OpR} {n : Nat} {ps : List PlR} {rs : List RpR} (h : GrX F w A1 A2 A3 os n ps rs) (hb : Below w.heap.size w w1) : GrX F w1 A1 A2 A3 os n ps rs := ⟨h.ops.below hb, h.pls.below hb, h.rps.below hb⟩
set_option maxRecDepth 100000 in
set_option maxHeartbeats 2000000 in
theorem markGroup_any (os : List OpR) (n : Nat) (ps : List PlR) (rs : List RpR) (hz : GrSz os n ps rs) (F : Nat → Prop) (A1 A2 A3 : Option Addr) (c1 c2 c3 : Nat) (w : World) (h : GrF F w A1 A2 A3 os n ps rs) :
    Calls Tryz.prog 17 #[.agg #[.slice A1 os.length c1, .slice A2 ps.length c2, .slice A3 rs.length c3], .int .i64 1] w (fun e w' => e = .returned (.int .i64 (grE os n ps rs : Int)) ∧ GrX F w' A1 A2 A3 os n ps rs ∧ Wrote KG F w w') := by
  have hb0 : Below w.heap.size w (w.alloc (.cells #[.slice A1 os.length c1, .slice A2 ps.length c2, .slice A3 rs.length c3] 40 (0, 0))) := (Below.refl _ _).alloc (Nat.le_refl _) _
  have k0 := heap_alloc_new w (.cells #[.slice A1 os.length c1, .slice A2 ps.length c2, .slice A3 rs.length c3] 40 (0, 0))
  have HB0 := Lib.hid hb0
  have HK0 := Lib.hid k0
  have HG := Lib.hid (h.frame (Agree.of_below hb0))
  have HZ := Lib.hid hz
  have HE1 := Lib.hid hz.e1
  have HE2 := Lib.hid hz.e2
  have hol := hz.ol
  have hpl := hz.pl
  have hrl := hz.rl
  clear hb0 k0 h hz
  go_enter Tryz.func17, Tryz.ntmps17
  go_wp2_with fail
  generalize w.alloc (.cells #[.slice A1 os.length c1, .slice A2 ps.length c2, .slice A3 rs.length c3] 40 (0, 0)) = w1 at HB0 HK0 HG ⊢
  refine (markOpsX_any os (by omega) HZ.out.od 1 c1 (by omega) F A1 w1 HG.out.ops).mono ?_
  rintro e w2 ⟨rfl, ho2, hw2⟩
  have HO2 := Lib.hid ho2
  have HW2 := Lib.hid hw2
  have HK2 := Lib.hid (hw2.other HK0.out (by simp [KM]))
  have HP2 := Lib.hid (HG.out.pls.other hw2 (by simp [KM]) (by simp [KM]) (by simp [KM]))
  have HR2 := Lib.hid (HG.out.rps.other hw2 (by simp [KM]) (by simp [KM]))
  obtain ⟨e1, he1⟩ : ∃ e1, e1 = mkE nxOp 1 os := ⟨_, rfl⟩
  have HEE1 := Lib.hid he1
  have hb1 : e1 ≤ 100000000 := by rw [he1]; exact HE1.out
  rw [← he1]
  clear ho2 hw2 HG HK0 he1
  obtain ⟨x0, x1, x2⟩ := cells3 HK2.out
  go_wp2_with fail
  refine (markPlX_any n (by have := HZ.out.n5; omega) ps (by omega) e1 c2 (by omega) F A2 w2 HP2.out).mono ?_
  rintro e w3 ⟨rfl, hp3, hw3⟩
  have HP3 := Lib.hid hp3
  have HO3 := Lib.hid (HO2.out.other hw3 (by decide) (by decide))
  have HW3 := Lib.hid ((HW2.out.mono (fun _ h => show KG _ from .inl h) (fun _ h => h)).trans (hw3.mono (fun _ h => show KG _ from .inr (h.elim .inl (fun h => .inr (.inl h)))) (fun _ h => h)))
  have HK3 := Lib.hid (hw3.other HK2.out (by decide))
  have HR3 := Lib.hid (HR2.out.other hw3 (by decide) (by decide))
  obtain ⟨e2, he2⟩ : ∃ e2, e2 = mkE (nxPl n) e1 ps := ⟨_, rfl⟩
  have HEE2 := Lib.hid he2
  have hb2 : e2 ≤ 200000000 := by rw [he2, (show e1 = _ from HEE1.out)]; exact HE2.out
  rw [← he2]
  clear hp3 hw3 x0 x1 x2 HO2 HW2 HK2 HP2 HR2 he2
  obtain ⟨x0, x1, x2⟩ := cells3 HK3.out
  go_wp2_with fail
  refine (markRpX_any rs (by omega) e2 c3 (by omega) F A3 w3 HR3.out).mono ?_
  rintro e w4 ⟨rfl, hr4, hw4⟩
  have HR4 := Lib.hid hr4
  have HW4 := Lib.hid hw4
  clear hr4 hw4 x0 x1 x2
  go_wp2
  go_ret
  have e1' : e1 = mkE nxOp 1 os := HEE1.out
  have e2' : e2 = mkE (nxPl n) e1 ps := HEE2.out
  refine ⟨by rw [e2', e1']; rfl, ⟨HO3.out.other HW4.out (by decide) (by decide), ?_, ?_⟩, (Wrote.of_below HB0.out).trans (HW3.out.trans (HW4.out.mono (fun _ h => show KG _ from .inr (.inr (.inr h))) (fun _ h => h)))⟩
  · rw [← e1']
    exact HP3.out.other HW4.out (by decide) (by decide) (by decide)
  · rw [← e1', ← e2']
    exact HR4.out
set_option maxRecDepth 100000 in
set_option maxHeartbeats 2000000 in
theorem heldGroup_any (os : List OpR) (n : Nat) (ps : List PlR) (rs : List RpR) (hz : GrSz os n ps rs) (F : Nat → Prop) (A1 A2 A3 : Option Addr) (c1 c2 c3 : Nat) (w : World) (h : GrX F w A1 A2 A3 os n ps rs) :
    Calls Tryz.prog 18 #[.agg #[.slice A1 os.length c1, .slice A2 ps.length c2, .slice A3 rs.length c3], .int .i64 1] w (fun e w' => e = .returned (.int .i64 (grE os n ps rs : Int)) ∧ Below w.heap.size w w') := by
  have hb0 : Below w.heap.size w (w.alloc (.cells #[.slice A1 os.length c1, .slice A2 ps.length c2, .slice A3 rs.length c3] 40 (0, 0))) := (Below.refl _ _).alloc (Nat.le_refl _) _
  have k0 := heap_alloc_new w (.cells #[.slice A1 os.length c1, .slice A2 ps.length c2, .slice A3 rs.length c3] 40 (0, 0))
  have HB0 := Lib.hid hb0
  have HK0 := Lib.hid k0
  have HG := Lib.hid (h.below hb0)
  have HZ := Lib.hid hz
  have HE1 := Lib.hid hz.e1
  have HE2 := Lib.hid hz.e2
  have hol := hz.ol
  have hpl := hz.pl
  have hrl := hz.rl
  clear hb0 k0 h hz
  go_enter Tryz.func18, Tryz.ntmps18
  go_wp2_with fail
  generalize w.alloc (.cells #[.slice A1 os.length c1, .slice A2 ps.length c2, .slice A3 rs.length c3] 40 (0, 0)) = w1 at HB0 HK0 HG ⊢
  refine (heldOpsX_any os (by omega) HZ.out.od 1 c1 (by omega) F A1 w1 HG.out.ops).mono ?_
  rintro e w2 ⟨rfl, hb2⟩
  have HG2 := Lib.hid (HG.out.below hb2)
  have HK2 := Lib.hid (block_below HK0.out hb2)
  have HB2 := Lib.hid (below_then HB0.out HB0.out.size hb2)
  obtain ⟨e1, he1⟩ : ∃ e1, e1 = mkE nxOp 1 os := ⟨_, rfl⟩
  have HEE1 := Lib.hid he1
  have hb1 : e1 ≤ 100000000 := by rw [he1]; exact HE1.out
  have hn1 : ¬ ((e1 : Int) < 0) := by omega
  rw [← he1]
  clear hb2 HG HK0 HB0 he1
  obtain ⟨x0, x1, x2⟩ := cells3 HK2.out
  go_wp2_with fail
  refine (heldPlX_any n (by have := HZ.out.n5; omega) ps (by omega) e1 c2 (by omega) F A2 w2 (by rw [(show e1 = _ from HEE1.out)]; exact HG2.out.pls)).mono ?_
  rintro e w3 ⟨rfl, hb3⟩
  have HG3 := Lib.hid (HG2.out.below hb3)
  have HK3 := Lib.hid (block_below HK2.out hb3)
  have HB3 := Lib.hid (below_then HB2.out HB2.out.size hb3)
  obtain ⟨e2, he2⟩ : ∃ e2, e2 = mkE (nxPl n) e1 ps := ⟨_, rfl⟩
  have HEE2 := Lib.hid he2
  have hb2 : e2 ≤ 200000000 := by rw [he2, (show e1 = _ from HEE1.out)]; exact HE2.out
  have hn2 : ¬ ((e2 : Int) < 0) := by omega
  rw [← he2]
  clear hb3 x0 x1 x2 HG2 HK2 HB2 he2
  obtain ⟨x0, x1, x2⟩ := cells3 HK3.out
  go_wp2_with fail
  refine (heldRpX_any rs (by omega) e2 c3 (by omega) F A3 w3 (by rw [(show e2 = _ from HEE2.out), (show e1 = _ from HEE1.out)]; exact HG3.out.rps)).mono ?_
  rintro e w4 ⟨rfl, hb4⟩
  have HB4 := Lib.hid (below_then HB3.out HB3.out.size hb4)
  obtain ⟨e3, he3⟩ : ∃ e3, e3 = mkE nxRp e2 rs := ⟨_, rfl⟩
  have HEE3 := Lib.hid he3
  have hn3 : ¬ ((e3 : Int) < 0) := by omega
  rw [← he3]
  clear hb4 x0 x1 x2 he3
  go_wp2
  go_ret
  exact ⟨by rw [(show e3 = _ from HEE3.out), (show e2 = _ from HEE2.out), (show e1 = _ from HEE1.out)]; rfl, HB4.out⟩
end Go.Proofs.YtemcijhpmpdebaaGreatDoor
