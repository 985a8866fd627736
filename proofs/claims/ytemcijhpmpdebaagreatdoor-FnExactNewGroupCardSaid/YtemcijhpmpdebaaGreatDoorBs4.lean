/- Bases as the laws handle them: copies of sessions, of bases; what is alike. Bases as the laws handle them: what is alike. -/
import Derived.Test.YtemcijhpmpdebaaGreatDoorBs2
import Derived.StillTailTactics
namespace Go.Proofs.YtemcijhpmpdebaaGreatDoor
open Go.RowKit
def SsFreshW (l : List SsV) (w : World) (e : Ending) (w' : World) : Prop :=
  Below w.heap.size w w' ∧ ∃ A, e = .returned (.slice A l.length l.length) ∧ Own (fun b => w.heap.size ≤ b) w' 97 A (ssCells l)
def SsFresh (l : List SsV) (w : World) (e : Ending) (w' : World) : Prop :=
  Below w.heap.size w w' ∧ ∃ A, e = .returned (.slice A l.length l.length) ∧ Rds (fun b => w.heap.size ≤ b) w' A (ssCells l)
def BsFreshW (b : BsV) (w : World) (e : Ending) (w' : World) : Prop :=
  Below w.heap.size w w' ∧ ∃ A1 A2, e = .returned (b.val A1 b.docs.length A2 b.sess.length) ∧ StW (fun b => w.heap.size ≤ b) w' A1 b.docs ∧ Own (fun b => w.heap.size ≤ b) w' 97 A2 (ssCells b.sess)
/-- A base of memory of its own. -/
def BsFresh (b : BsV) (w : World) (e : Ending) (w' : World) : Prop :=
  Below w.heap.size w w' ∧ ∃ A1 A2, e = .returned (b.val A1 b.docs.length A2 b.sess.length) ∧ StAt (fun b => w.heap.size ≤ b) w' A1 b.docs ∧ Rds (fun b => w.heap.size ≤ b) w' A2 (ssCells b.sess)
end Go.Proofs.YtemcijhpmpdebaaGreatDoor
namespace Go.Proofs.YtemcijhpmpdebaaGreatDoor
open Go.RowKit
set_option maxHeartbeats 1600000 in
theorem eqStored_any (id : Int) (l : List Nd) (hl : l.length ≤ 1000000000) (F F2 : Nat → Prop) (A A2 : Option Addr) (c c2 : Nat) (w : World) (hr : Rds F w A (ndCells l)) (hr2 : Rds F2 w A2 (ndCells l)) :
    Calls Tryz.prog 56 #[.agg #[.int .i64 id, .slice A l.length c], .agg #[.int .i64 id, .slice A2 l.length c2]] w fun e w' => e = .returned (.bool true) ∧ Below w.heap.size w w' := by
  have hb0 : ∀ o o', Below w.heap.size w ((w.alloc o).alloc o') := fun o o' => ((Below.refl _ _).alloc (Nat.le_refl _) _).alloc (by simp) _
  have HB0 := Lib.hid hb0
  have H := Lib.hid (fun w1 (hb : Below w.heap.size w w1) => eqValue_any l l hl rfl F F2 A A2 c c2 w1 (hr.below hb) (hr2.below hb))
  clear hr hr2 hb0
  go_enter Tryz.func56, Tryz.ntmps56
  go_wp2_with fail
  refine (H.out _ (HB0.out _ _)).mono ?_
  rintro e w2 ⟨rfl, hb2⟩
  have HB2 := Lib.hid (below_then (HB0.out _ _) (HB0.out _ _).size hb2)
  clear hb2
  go_wp2
  go_ret
  exact ⟨rfl, HB2.out⟩
set_option maxRecDepth 100000 in
set_option maxHeartbeats 1600000 in
theorem eqStoredS_any (ds : List StV) (hl : ds.length ≤ 1000000000) (hd : ∀ d ∈ ds, d.doc.length ≤ 1000000000) (F F2 : Nat → Prop) (A A2 : Option Addr) (c c2 : Nat) (w : World) (hr : StAt F w A ds) (hr2 : StAt F2 w A2 ds) :
    Calls Tryz.prog 23 #[.slice A ds.length c, .slice A2 ds.length c2] w fun e w' => e = .returned (.bool true) ∧ Below w.heap.size w w' := by
  have HR := Lib.hid hr
  have HR2 := Lib.hid hr2
  have HD := Lib.hid hd
  clear hr hr2 hd
  go_enter Tryz.func23, Tryz.ntmps23
  go_wp2
  go_loopw [5] (fun i wx => ∃ k : Nat, i = .int .i64 (k : Int) ∧ k ≤ ds.length ∧ Below w.heap.size w wx) (fun i _ => ds.length - (intOf i).toNat)
  case atStart => exact ⟨0, rfl, Nat.zero_le _, Below.refl _ _⟩
  case round =>
    obtain ⟨k, rfl, hk, hbx⟩ := hrel
    have HB := Lib.hid hbx
    clear hbx
    by_cases hlt : k < ds.length
    · obtain ⟨b, o, r, rfl, hF, hbl, hx, g0, g1, hcp, hrr⟩ := st_at (HR.out.frame (Agree.of_below HB.out)) k hlt
      obtain ⟨b2, o2, r2, rfl, hF2, hbl2, hx2, q0, q1, hcp2, hrr2⟩ := st_at (HR2.out.frame (Agree.of_below HB.out)) k hlt
      have hrd : r.d = r2.d := by rw [hx] at hx2; injection hx2
      have hdl := HD.out r.d (List.mem_of_getElem? hx)
      rw [← hrd] at q0 q1 hrr2
      have HC := Lib.hid (eqStored_any r.d.id r.d.doc hdl F F2 r.adr r2.adr r.cap r2.cap wr.drew (hrr.frame ⟨Nat.le_refl _, fun _ _ _ => rfl⟩) (hrr2.frame ⟨Nat.le_refl _, fun _ _ _ => rfl⟩))
      clear hx hx2 hrr hrr2 hrd
      have b1 : (k : Int) < (ds.length : Int) := by omega
      go_wp2
      go_still_tail 8, (by kernel_rfl)
      have hdr : Below w.heap.size w wr.drew := HB.out.drew
      have HD2 := Lib.hid hdr
      clear hdr
      change wpList _ _ _ _ _ wr.drew
      generalize wr.drew = w2 at HD2 HC ⊢
      go_wp2_with fail
      refine HC.out.mono ?_
      rintro e w3 ⟨rfl, hb3⟩
      have HB3 := Lib.hid (below_then HD2.out HD2.out.size hb3)
      clear hb3
      go_wp2
      go_roundw
      case rel => exact ⟨k+1, by go_num, by omega, HB3.out⟩
      case measure => simp [intOf]; omega
    · go_wp2
      go_ret
      exact ⟨rfl, HB.out⟩
set_option maxHeartbeats 800000 in
theorem eqSession_any (s : SsV) (w : World) :
    Calls Tryz.prog 57 #[.agg #[.int .i64 s.id, .int .i64 s.no, .bool s.fine], .agg #[.int .i64 s.id, .int .i64 s.no, .bool s.fine]] w fun e w' => e = .returned (.bool true) ∧ Below w.heap.size w w' := by
  cases hf : s.fine
  all_goals
    go_enter Tryz.func57, Tryz.ntmps57
    go_wp2
    go_ret
    exact ⟨rfl, ((Below.refl _ _).alloc (Nat.le_refl _) _).alloc (by simp) _⟩
set_option maxRecDepth 100000 in
set_option maxHeartbeats 1600000 in
theorem eqSessionS_any (l : List SsV) (hl : l.length ≤ 1000000000) (F F2 : Nat → Prop) (A A2 : Option Addr) (c c2 : Nat) (w : World) (hr : Rds F w A (ssCells l)) (hr2 : Rds F2 w A2 (ssCells l)) :
    Calls Tryz.prog 24 #[.slice A l.length c, .slice A2 l.length c2] w fun e w' => e = .returned (.bool true) ∧ Below w.heap.size w w' := by
  have HR := Lib.hid hr
  have HR2 := Lib.hid hr2
  clear hr hr2
  go_enter Tryz.func24, Tryz.ntmps24
  go_wp2
  go_loopw [5] (fun i wx => ∃ k : Nat, i = .int .i64 (k : Int) ∧ k ≤ l.length ∧ Below w.heap.size w wx) (fun i _ => l.length - (intOf i).toNat)
  case atStart => exact ⟨0, rfl, Nat.zero_le _, Below.refl _ _⟩
  case round =>
    obtain ⟨k, rfl, hk, hbx⟩ := hrel
    have HB := Lib.hid hbx
    clear hbx
    by_cases hlt : k < l.length
    · obtain ⟨b, o, s, rfl, hF, hbl, hx, g0, g1, g2⟩ := ss_at (HR.out.frame (Agree.of_below HB.out)) k hlt
      obtain ⟨b2, o2, s2, rfl, hF2, hbl2, hx2, q0, q1, q2⟩ := ss_at (HR2.out.frame (Agree.of_below HB.out)) k hlt
      obtain rfl : s = s2 := by rw [hx] at hx2; injection hx2
      clear hx hx2
      have b1 : (k : Int) < (l.length : Int) := by omega
      go_wp2
      go_still_tail 8, (by kernel_rfl)
      have hdr : Below w.heap.size w wr.drew := HB.out.drew
      have HD := Lib.hid hdr
      clear hdr
      change wpList _ _ _ _ _ wr.drew
      generalize wr.drew = w2 at HD ⊢
      go_wp2_with fail
      refine (eqSession_any s _).mono ?_
      rintro e w3 ⟨rfl, hb3⟩
      have HB3 := Lib.hid (below_then HD.out HD.out.size hb3)
      clear hb3
      go_wp2
      go_roundw
      case rel => exact ⟨k+1, by go_num, by omega, HB3.out⟩
      case measure => simp [intOf]; omega
    · go_wp2
      go_ret
      exact ⟨rfl, HB.out⟩
set_option maxRecDepth 100000 in
set_option maxHeartbeats 1600000 in
theorem eqBase_any (b : BsV) (hf : b.fits 1000000000) (F F2 G G2 : Nat → Prop) (A1 A2 B1 B2 : Option Addr) (c1 c2 d1 d2 : Nat) (w : World) (hr1 : StAt F w A1 b.docs) (hr2 : Rds F2 w A2 (ssCells b.sess)) (hq1 : StAt G w B1 b.docs) (hq2 : Rds G2 w B2 (ssCells b.sess)) :
    Calls Tryz.prog 9 #[b.val A1 c1 A2 c2, b.val B1 d1 B2 d2] w fun e w' => e = .returned (.bool true) ∧ Below w.heap.size w w' := by
  obtain ⟨f1, f2, f3⟩ := hf
  have H1 := Lib.hid (fun W (hb : Below w.heap.size w W) => eqStoredS_any b.docs f1 (fun d hd => (f3 d hd).1) F G A1 B1 c1 d1 W (hr1.frame (Agree.of_below hb)) (hq1.frame (Agree.of_below hb)))
  have H2 := Lib.hid (fun W (hb : Below w.heap.size w W) => eqSessionS_any b.sess f2 F2 G2 A2 B2 c2 d2 W (hr2.frame (Agree.of_below hb)) (hq2.frame (Agree.of_below hb)))
  have k0 : ((w.alloc (.cells #[.int .i64 b.applied, .slice A1 b.docs.length c1, .slice A2 b.sess.length c2] 27 (0, 0))).alloc (.cells #[.int .i64 b.applied, .slice B1 b.docs.length d1, .slice B2 b.sess.length d2] 27 (0, 0))).heap[w.heap.size]? = some (.cells #[.int .i64 b.applied, .slice A1 b.docs.length c1, .slice A2 b.sess.length c2] 27 (0, 0)) := by (repeat (first | with_reducible assumption | (with_reducible refine blk_new _ ?_; (first | rfl | (simp; done) | (simp; omega))) | with_reducible apply block_setCell | (with_reducible refine blk_skip _ _ ?_ ?_; rotate_left; (first | (simp; done) | (simp; omega))) | with_reducible refine blk_old ?_))
  have k1 : ((w.alloc (.cells #[.int .i64 b.applied, .slice A1 b.docs.length c1, .slice A2 b.sess.length c2] 27 (0, 0))).alloc (.cells #[.int .i64 b.applied, .slice B1 b.docs.length d1, .slice B2 b.sess.length d2] 27 (0, 0))).heap[w.heap.size + 1]? = some (.cells #[.int .i64 b.applied, .slice B1 b.docs.length d1, .slice B2 b.sess.length d2] 27 (0, 0)) := by (repeat (first | with_reducible assumption | (with_reducible refine blk_new _ ?_; (first | rfl | (simp; done) | (simp; omega))) | with_reducible apply block_setCell | (with_reducible refine blk_skip _ _ ?_ ?_; rotate_left; (first | (simp; done) | (simp; omega))) | with_reducible refine blk_old ?_))
  have hb0 : Below w.heap.size w ((w.alloc (.cells #[.int .i64 b.applied, .slice A1 b.docs.length c1, .slice A2 b.sess.length c2] 27 (0, 0))).alloc (.cells #[.int .i64 b.applied, .slice B1 b.docs.length d1, .slice B2 b.sess.length d2] 27 (0, 0))) := ((Below.refl _ _).alloc (Nat.le_refl _) _).alloc (by simp) _
  have HB0 := Lib.hid hb0
  clear hr1 hr2 hq1 hq2 f3 hb0
  unfold BsV.val
  go_enter Tryz.func9, Tryz.ntmps9
  go_wp2_with fail
  generalize (w.alloc (.cells #[.int .i64 b.applied, .slice A1 b.docs.length c1, .slice A2 b.sess.length c2] 27 (0, 0))).alloc (.cells #[.int .i64 b.applied, .slice B1 b.docs.length d1, .slice B2 b.sess.length d2] 27 (0, 0)) = w1 at HB0 k0 k1 ⊢
  refine (H1.out _ HB0.out).mono ?_
  rintro e w2 ⟨rfl, hb2⟩
  have HB2 := Lib.hid (below_then HB0.out HB0.out.size hb2)
  have x2 := (cells3 (block_below k0 hb2)).2.2
  have y2 := (cells3 (block_below k1 hb2)).2.2
  clear hb2 k0 k1
  go_wp2_with fail
  refine (H2.out _ HB2.out).mono ?_
  rintro e w3 ⟨rfl, hb3⟩
  have HB3 := Lib.hid (below_then HB2.out HB2.out.size hb3)
  clear hb3
  go_wp2
  go_ret
  exact ⟨rfl, HB3.out⟩
end Go.Proofs.YtemcijhpmpdebaaGreatDoor
