/- Bases as the laws handle them: copies of sessions, of bases; what is alike. Bases as the laws handle them: what is alike. -/
import Derived.Test.YtekamdcojabgeaaGreatDoorBs2
import Derived.StillTailTactics
namespace Go.Proofs.YtekamdcojabgeaaGreatDoor
open Go.RowKit
def SsFreshW (l : List SsV) (w : World) (e : Ending) (w' : World) : Prop :=
  Below w.heap.size w w' ∧ ∃ A, e = .returned (.slice A l.length l.length) ∧ Own (fun b => w.heap.size ≤ b) w' 84 A (ssCells l)
def SsFresh (l : List SsV) (w : World) (e : Ending) (w' : World) : Prop :=
  Below w.heap.size w w' ∧ ∃ A, e = .returned (.slice A l.length l.length) ∧ Rds (fun b => w.heap.size ≤ b) w' A (ssCells l)
set_option maxRecDepth 100000 in
set_option maxHeartbeats 1600000 in
theorem toSessionS_w (l : List SsV) (hl : l.length ≤ 1000000000) (F : Nat → Prop) (A : Option Addr) (c : Nat) (w : World) (hr : Rds F w A (ssCells l)) :
    Calls Tryz.prog 50 #[.slice A l.length c] w (SsFreshW l w) := by
  have hmk := make_rowN (P := Tryz.prog) 46 84 _ 3 24 Tryz.underlying46 infoSession l.length (by omega) (by omega)
  have hz : madeCells (Value.cells (.agg #[.int .i64 0, .int .i64 0, .bool false])) (l.length * 3) = (zeros [.int .i64 0, .int .i64 0, .bool false] l.length).toArray := made_zeros [.int .i64 0, .int .i64 0, .bool false] l.length
  rw [hz] at hmk
  have HR := Lib.hid hr
  clear hr hz
  go_enter Tryz.func50, Tryz.ntmps50
  go_wp2
  go_loopw [4] (fun i wx => ∃ k : Nat, i = .int .i64 (k : Int) ∧ k ≤ l.length ∧ Below w.heap.size w wx ∧ wx.heap[w.heap.size]? = some (.cells (ssCells (l.take k) ++ zeros [.int .i64 0, .int .i64 0, .bool false] (l.length - k)).toArray 84 (0, 0))) (fun i _ => l.length - (intOf i).toNat)
  case atStart => exact ⟨0, rfl, Nat.zero_le _, (Below.refl _ _).alloc (Nat.le_refl _) _, by simpa [ssCells] using heap_alloc_new w _⟩
  case round =>
    obtain ⟨k, rfl, hk, hbx, hblk⟩ := hrel
    clear hmk
    have HB := Lib.hid hbx
    have HK := Lib.hid hblk
    have hgl := lt_of_block hblk
    clear hbx hblk
    by_cases hlt : k < l.length
    · obtain ⟨b, o, s, rfl, hF, hbl, hx, g0, g1, g2⟩ := ss_at (HR.out.frame (Agree.of_below HB.out)) k hlt
      have HX := Lib.hid hx
      clear hx
      go_wp2_with fail
      refine (toSession_any s _).mono ?_
      rintro e w2 ⟨rfl, hb2⟩
      have hk2 := block_below HK.out hb2
      rw [show l.length - k = (l.length - (k + 1)) + 1 by omega, zeros_succ] at hk2
      have hlen : (ssCells (l.take k)).length = k * 3 := by rw [ssCells_length, List.length_take, Nat.min_eq_left (by omega)]
      generalize hZ : zeros [.int .i64 0, .int .i64 0, .bool false] (l.length - (k + 1)) = Z at hk2
      have HZ := Lib.hid hZ
      clear hZ
      have q0 := row_cell hk2 (k * 3) (.int .i64 0) (get_mid _ _ _ _ hlen)
      have q1 := row_cell hk2 (k * 3 + 1) (.int .i64 0) (by
        rw [show ssCells (l.take k) ++ ([.int .i64 0, .int .i64 0, .bool false] ++ Z) = (ssCells (l.take k) ++ [.int .i64 0]) ++ .int .i64 0 :: .bool false :: Z by simp]
        exact get_mid _ _ _ _ (by simp [hlen]))
      have q2 := row_cell hk2 (k * 3 + 2) (.bool false) (by
        rw [show ssCells (l.take k) ++ ([.int .i64 0, .int .i64 0, .bool false] ++ Z) = (ssCells (l.take k) ++ [.int .i64 0, .int .i64 0]) ++ .bool false :: Z by simp]
        exact get_mid _ _ _ _ (by simp [hlen]))
      have f0 := free_of_block hk2 (k * 3)
      have f1 := free_of_block hk2 (k * 3 + 1)
      have f2 := free_of_block hk2 (k * 3 + 2)
      have HK2 := Lib.hid hk2
      have HLEN := Lib.hid hlen
      have HB2 := Lib.hid (below_then HB.out HB.out.size hb2)
      clear hk2 hlen hb2 g0 g1 g2
      go_wp2
      go_roundw
      case rel =>
        refine ⟨k + 1, by go_num, by omega, ((HB2.out.setCell (by show w.heap.size ≤ w.heap.size; omega) _).setCell (by show w.heap.size ≤ w.heap.size; omega) _).setCell (by show w.heap.size ≤ w.heap.size; omega) _, ?_⟩
        have h := blk_row (blk_row (blk_row HK2.out (k * 3) (.int .i64 s.id)) (k * 3 + 1) (.int .i64 s.no)) (k * 3 + 2) (.bool s.fine)
        rw [show ssCells (l.take k) ++ ([.int .i64 0, .int .i64 0, .bool false] ++ Z) = ssCells (l.take k) ++ .int .i64 0 :: .int .i64 0 :: .bool false :: Z by simp, set_mid _ _ _ _ _ HLEN.out,
          show ssCells (l.take k) ++ .int .i64 s.id :: .int .i64 0 :: .bool false :: Z = (ssCells (l.take k) ++ [.int .i64 s.id]) ++ .int .i64 0 :: .bool false :: Z by simp, set_mid _ _ _ _ _ (by simp [HLEN.out]),
          show (ssCells (l.take k) ++ [.int .i64 s.id]) ++ .int .i64 s.no :: .bool false :: Z = (ssCells (l.take k) ++ [.int .i64 s.id, .int .i64 s.no]) ++ .bool false :: Z by simp, set_mid _ _ _ _ _ (by simp [HLEN.out])] at h
        rw [h, List.take_add_one, HX.out, HZ.out]
        simp [ssCells, SsV.cells]
      case measure => simp [intOf]; omega
    · obtain rfl : k = l.length := by omega
      go_wp2
      go_ret
      refine ⟨HB.out, _, rfl, ?_⟩
      have h := HK.out
      rw [Nat.sub_self, List.take_length, show zeros [.int .i64 0, .int .i64 0, .bool false] 0 = [] from rfl, List.append_nil] at h
      exact (Own.of_blk h).mono (fun b hb _ => by subst hb; exact Nat.le_refl _)
theorem toSessionS_any (l : List SsV) (hl : l.length ≤ 1000000000) (F : Nat → Prop) (A : Option Addr) (c : Nat) (w : World) (hr : Rds F w A (ssCells l)) :
    Calls Tryz.prog 50 #[.slice A l.length c] w (SsFresh l w) :=
  (toSessionS_w l hl F A c w hr).mono fun _ _ ⟨h1, A', h2, h3⟩ => ⟨h1, A', h2, h3.1⟩
def BsFreshW (b : BsV) (w : World) (e : Ending) (w' : World) : Prop :=
  Below w.heap.size w w' ∧ ∃ A1 A2, e = .returned (b.val A1 b.docs.length A2 b.sess.length) ∧ StW (fun b => w.heap.size ≤ b) w' A1 b.docs ∧ Own (fun b => w.heap.size ≤ b) w' 84 A2 (ssCells b.sess)
/-- A base of memory of its own. -/
def BsFresh (b : BsV) (w : World) (e : Ending) (w' : World) : Prop :=
  Below w.heap.size w w' ∧ ∃ A1 A2, e = .returned (b.val A1 b.docs.length A2 b.sess.length) ∧ StAt (fun b => w.heap.size ≤ b) w' A1 b.docs ∧ Rds (fun b => w.heap.size ≤ b) w' A2 (ssCells b.sess)
set_option maxRecDepth 100000 in
set_option maxHeartbeats 1600000 in
theorem toBase_w (b : BsV) (hf : b.fits 1000000000) (F : Nat → Prop) (A1 A2 : Option Addr) (c1 c2 : Nat) (w : World) (hr1 : StAt F w A1 b.docs) (hr2 : Rds F w A2 (ssCells b.sess)) :
    Calls Tryz.prog 18 #[b.val A1 c1 A2 c2] w (BsFreshW b w) := by
  have HR1 := Lib.hid hr1
  have HR2 := Lib.hid hr2
  obtain ⟨q1, q2, q3⟩ := hf
  have HQ := Lib.hid q3
  clear hr1 hr2 q3
  unfold BsV.val
  go_enter Tryz.func18, Tryz.ntmps18
  go_wp2_with fail
  obtain ⟨w1, hw⟩ : ∃ w1, w1 = ((w.alloc (.cells #[.int .i64 b.applied, .slice A1 b.docs.length c1, .slice A2 b.sess.length c2] 42)).alloc (.cells #[.int .i64 0, .slice none 0 0, .slice none 0 0] 48)).alloc (.cells #[.int .i64 b.applied, .slice none 0 0, .slice none 0 0] 48) := ⟨_, rfl⟩
  have hb1 : Below w.heap.size w w1 := by rw [hw]; exact (((Below.refl _ _).alloc (Nat.le_refl _) _).alloc (by simp) _).alloc (by simp <;> omega) _
  have k0 : w1.heap[w.heap.size]? = some (.cells #[.int .i64 b.applied, .slice A1 b.docs.length c1, .slice A2 b.sess.length c2] 42 (0, 0)) := by rw [hw]; (repeat (first | with_reducible assumption | (with_reducible refine blk_new _ ?_; (first | rfl | (simp; done) | (simp; omega))) | with_reducible apply block_setCell | (with_reducible refine blk_skip _ _ ?_ ?_; rotate_left; (first | (simp; done) | (simp; omega))) | with_reducible refine blk_old ?_))
  have k1 : w1.heap[w.heap.size + 1]? = some (.cells #[.int .i64 0, .slice none 0 0, .slice none 0 0] 48 (0, 0)) := by rw [hw]; (repeat (first | with_reducible assumption | (with_reducible refine blk_new _ ?_; (first | rfl | (simp; done) | (simp; omega))) | with_reducible apply block_setCell | (with_reducible refine blk_skip _ _ ?_ ?_; rotate_left; (first | (simp; done) | (simp; omega))) | with_reducible refine blk_old ?_))
  have k2 : w1.heap[w.heap.size + 1 + 1]? = some (.cells #[.int .i64 b.applied, .slice none 0 0, .slice none 0 0] 48 (0, 0)) := by rw [hw]; (repeat (first | with_reducible assumption | (with_reducible refine blk_new _ ?_; (first | rfl | (simp; done) | (simp; omega))) | with_reducible apply block_setCell | (with_reducible refine blk_skip _ _ ?_ ?_; rotate_left; (first | (simp; done) | (simp; omega))) | with_reducible refine blk_old ?_))
  have hs : w1.heap.size = w.heap.size + 3 := by rw [hw]; simp
  rw [← hw]
  clear hw
  refine (toStoredS_w b.docs q1 (fun d hd => (HQ.out d hd).1) F A1 c1 _ (HR1.out.frame (Agree.of_below hb1))).mono ?_
  rintro e w2 ⟨hb2, B1, rfl, hst⟩
  have hs2 := hb2.size
  have K1 := block_below k1 hb2
  have K2 := block_below k2 hb2
  have K0 := block_below k0 hb2
  obtain ⟨x0, x1, x2⟩ := cells3 K0
  obtain ⟨d0, d1, d2⟩ := cells3 K2
  obtain ⟨f0, f1, f2, _⟩ := free5 K2
  have hne : w.heap.size + 1 ≠ w.heap.size + 1 + 1 := by omega
  have hne0 : w.heap.size ≠ w.heap.size + 1 + 1 := by omega
  have HK1 := Lib.hid (blk_skip ⟨w.heap.size + 1 + 1, 1, none⟩ (.slice B1 b.docs.length b.docs.length) K1 hne)
  have HK2 := Lib.hid (block_setCell K2 1 (.slice B1 b.docs.length b.docs.length))
  have HB2 := Lib.hid ((below_then hb1 hb1.size hb2).setCell (p := ⟨w.heap.size + 1 + 1, 1, none⟩) (by show w.heap.size ≤ w.heap.size + 1 + 1; omega) (.slice B1 b.docs.length b.docs.length))
  have HST := Lib.hid (hst.frame (Agree.set (Agree.refl _ _) (b := w.heap.size + 1 + 1) (fun c h => by have h' : w1.heap.size ≤ c := h; omega) 1 (.slice B1 b.docs.length b.docs.length)))
  have hsz2 : (w2.setCell ⟨w.heap.size + 1 + 1, 1, none⟩ (.slice B1 b.docs.length b.docs.length)).heap.size = w2.heap.size := by simp [World.setCell]
  clear K0 K1 K2 k0 k1 k2 hst
  go_wp2_with fail
  generalize w2.setCell ⟨w.heap.size + 1 + 1, 1, none⟩ (.slice B1 b.docs.length b.docs.length) = w3 at HK1 HK2 HB2 HST hsz2 ⊢
  refine (toSessionS_w b.sess q2 F A2 c2 _ (HR2.out.frame (Agree.of_below HB2.out))).mono ?_
  rintro e w4 ⟨hb4, B2, rfl, hss⟩
  have hs4 := hb4.size
  have K1 := block_below HK1.out hb4
  have K2 := block_below HK2.out hb4
  obtain ⟨b0, b1, b2⟩ := cells3 K1
  obtain ⟨c0, c1', c2'⟩ := cells3 K2
  obtain ⟨f3, f4, f5, _⟩ := free5 K1
  obtain ⟨g3, g4, g5, _⟩ := free5 K2
  have HK1' := Lib.hid K1
  have HB4 := Lib.hid (below_then HB2.out HB2.out.size hb4)
  have HST4 := Lib.hid (HST.out.frame (Agree.of_below hb4))
  have HSS := Lib.hid hss
  clear K1 K2 hb1 hb2 hb4 hss x0 x1 x2 d0 d1 d2 f0 f1 f2
  go_wp2
  refine bodyPost_ret (results_cell_row rfl _ _ (w.heap.size + 1) _ _ _ _ rfl (block_setCell (block_setCell (block_setCell ((Below.heap_setCell _ _ _ _ hne).trans HK1'.out) _ _) _ _) _ _) Tryz.underlying48 rfl ((info_size infoBase).trans (by simp))) rfl ?_
  have n1 : ∀ c, w1.heap.size ≤ c → c ≠ w.heap.size + 1 := fun c h => by omega
  have n2 : ∀ c, w1.heap.size ≤ c → c ≠ w.heap.size + 1 + 1 := fun c h => by omega
  have m1 : ∀ c, w3.heap.size ≤ c → c ≠ w.heap.size + 1 := fun c h => by omega
  have m2 : ∀ c, w3.heap.size ≤ c → c ≠ w.heap.size + 1 + 1 := fun c h => by omega
  refine ⟨?_, B1, B2, rfl, ?_, ?_⟩
  · have h := HB4.out
    have e1 : w.heap.size ≤ w.heap.size + 1 := by omega
    have e2 : w.heap.size ≤ w.heap.size + 1 + 1 := by omega
    exact (((h.setCell e2 _).setCell e1 _).setCell e1 _).setCell e1 _
  · exact (HST4.out.frame (Agree.set (Agree.set (Agree.set (Agree.set (Agree.refl _ _) n2 _ _) n1 _ _) n1 _ _) n1 _ _)).mono (fun c h _ => by have h' : w1.heap.size ≤ c := h; show w.heap.size ≤ c; omega)
  · exact (HSS.out.frame (Agree.set (Agree.set (Agree.set (Agree.set (Agree.refl _ _) m2 _ _) m1 _ _) m1 _ _) m1 _ _)).mono (fun c h _ => by have h' : w3.heap.size ≤ c := h; show w.heap.size ≤ c; omega)
theorem toBase_any (b : BsV) (hf : b.fits 1000000000) (F : Nat → Prop) (A1 A2 : Option Addr) (c1 c2 : Nat) (w : World) (hr1 : StAt F w A1 b.docs) (hr2 : Rds F w A2 (ssCells b.sess)) :
    Calls Tryz.prog 18 #[b.val A1 c1 A2 c2] w (BsFresh b w) :=
  (toBase_w b hf F A1 A2 c1 c2 w hr1 hr2).mono fun _ _ ⟨h1, B1, B2, h2, h3, h4⟩ => ⟨h1, B1, B2, h2, h3.at, h4.1⟩
end Go.Proofs.YtekamdcojabgeaaGreatDoor
namespace Go.Proofs.YtekamdcojabgeaaGreatDoor
open Go.RowKit
set_option maxHeartbeats 1600000 in
theorem eqStored_any (id : Int) (l : List Nd) (hl : l.length ≤ 1000000000) (F F2 : Nat → Prop) (A A2 : Option Addr) (c c2 : Nat) (w : World) (hr : Rds F w A (ndCells l)) (hr2 : Rds F2 w A2 (ndCells l)) :
    Calls Tryz.prog 83 #[.agg #[.int .i64 id, .slice A l.length c], .agg #[.int .i64 id, .slice A2 l.length c2]] w fun e w' => e = .returned (.bool true) ∧ Below w.heap.size w w' := by
  have hb0 : ∀ o o', Below w.heap.size w ((w.alloc o).alloc o') := fun o o' => ((Below.refl _ _).alloc (Nat.le_refl _) _).alloc (by simp) _
  have HB0 := Lib.hid hb0
  have H := Lib.hid (fun w1 (hb : Below w.heap.size w w1) => eqValue_any l l hl rfl F F2 A A2 c c2 w1 (hr.below hb) (hr2.below hb))
  clear hr hr2 hb0
  go_enter Tryz.func83, Tryz.ntmps83
  go_wp2_with fail
  refine (H.out _ (HB0.out _ _)).mono ?_
  rintro e w2 ⟨rfl, hb2⟩
  have HB2 := Lib.hid (below_then (HB0.out _ _) (HB0.out _ _).size hb2)
  clear hb2
  go_wp2
  go_ret
  exact ⟨rfl, HB2.out⟩
set_option maxRecDepth 100000 in
set_option maxHeartbeats 1600000 in
theorem eqStoredS_any (ds : List StV) (hl : ds.length ≤ 1000000000) (hd : ∀ d ∈ ds, d.doc.length ≤ 1000000000) (F F2 : Nat → Prop) (A A2 : Option Addr) (c c2 : Nat) (w : World) (hr : StAt F w A ds) (hr2 : StAt F2 w A2 ds) :
    Calls Tryz.prog 51 #[.slice A ds.length c, .slice A2 ds.length c2] w fun e w' => e = .returned (.bool true) ∧ Below w.heap.size w w' := by
  have HR := Lib.hid hr
  have HR2 := Lib.hid hr2
  have HD := Lib.hid hd
  clear hr hr2 hd
  go_enter Tryz.func51, Tryz.ntmps51
  go_wp2
  go_loopw [5] (fun i wx => ∃ k : Nat, i = .int .i64 (k : Int) ∧ k ≤ ds.length ∧ Below w.heap.size w wx) (fun i _ => ds.length - (intOf i).toNat)
  case atStart => exact ⟨0, rfl, Nat.zero_le _, Below.refl _ _⟩
  case round =>
    obtain ⟨k, rfl, hk, hbx⟩ := hrel
    have HB := Lib.hid hbx
    clear hbx
    by_cases hlt : k < ds.length
    · obtain ⟨b, o, r, rfl, hF, hbl, hx, g0, g1, hcp, hrr⟩ := st_at (HR.out.frame (Agree.of_below HB.out)) k hlt
      obtain ⟨b2, o2, r2, rfl, hF2, hbl2, hx2, q0, q1, hcp2, hrr2⟩ := st_at (HR2.out.frame (Agree.of_below HB.out)) k hlt
      have hrd : r.d = r2.d := by rw [hx] at hx2; injection hx2
      have hdl := HD.out r.d (List.mem_of_getElem? hx)
      rw [← hrd] at q0 q1 hrr2
      have HC := Lib.hid (eqStored_any r.d.id r.d.doc hdl F F2 r.adr r2.adr r.cap r2.cap wr.drew (hrr.frame ⟨Nat.le_refl _, fun _ _ _ => rfl⟩) (hrr2.frame ⟨Nat.le_refl _, fun _ _ _ => rfl⟩))
      clear hx hx2 hrr hrr2 hrd
      have b1 : (k : Int) < (ds.length : Int) := by omega
      go_wp2
      go_still_tail 8, (by kernel_rfl)
      have hdr : Below w.heap.size w wr.drew := HB.out.drew
      have HD2 := Lib.hid hdr
      clear hdr
      change wpList _ _ _ _ _ wr.drew
      generalize wr.drew = w2 at HD2 HC ⊢
      go_wp2_with fail
      refine HC.out.mono ?_
      rintro e w3 ⟨rfl, hb3⟩
      have HB3 := Lib.hid (below_then HD2.out HD2.out.size hb3)
      clear hb3
      go_wp2
      go_roundw
      case rel => exact ⟨k+1, by go_num, by omega, HB3.out⟩
      case measure => simp [intOf]; omega
    · go_wp2
      go_ret
      exact ⟨rfl, HB.out⟩
set_option maxHeartbeats 800000 in
theorem eqSession_any (s : SsV) (w : World) :
    Calls Tryz.prog 84 #[.agg #[.int .i64 s.id, .int .i64 s.no, .bool s.fine], .agg #[.int .i64 s.id, .int .i64 s.no, .bool s.fine]] w fun e w' => e = .returned (.bool true) ∧ Below w.heap.size w w' := by
  cases hf : s.fine
  all_goals
    go_enter Tryz.func84, Tryz.ntmps84
    go_wp2
    go_ret
    exact ⟨rfl, ((Below.refl _ _).alloc (Nat.le_refl _) _).alloc (by simp) _⟩
set_option maxRecDepth 100000 in
set_option maxHeartbeats 1600000 in
theorem eqSessionS_any (l : List SsV) (hl : l.length ≤ 1000000000) (F F2 : Nat → Prop) (A A2 : Option Addr) (c c2 : Nat) (w : World) (hr : Rds F w A (ssCells l)) (hr2 : Rds F2 w A2 (ssCells l)) :
    Calls Tryz.prog 52 #[.slice A l.length c, .slice A2 l.length c2] w fun e w' => e = .returned (.bool true) ∧ Below w.heap.size w w' := by
  have HR := Lib.hid hr
  have HR2 := Lib.hid hr2
  clear hr hr2
  go_enter Tryz.func52, Tryz.ntmps52
  go_wp2
  go_loopw [5] (fun i wx => ∃ k : Nat, i = .int .i64 (k : Int) ∧ k ≤ l.length ∧ Below w.heap.size w wx) (fun i _ => l.length - (intOf i).toNat)
  case atStart => exact ⟨0, rfl, Nat.zero_le _, Below.refl _ _⟩
  case round =>
    obtain ⟨k, rfl, hk, hbx⟩ := hrel
    have HB := Lib.hid hbx
    clear hbx
    by_cases hlt : k < l.length
    · obtain ⟨b, o, s, rfl, hF, hbl, hx, g0, g1, g2⟩ := ss_at (HR.out.frame (Agree.of_below HB.out)) k hlt
      obtain ⟨b2, o2, s2, rfl, hF2, hbl2, hx2, q0, q1, q2⟩ := ss_at (HR2.out.frame (Agree.of_below HB.out)) k hlt
      obtain rfl : s = s2 := by rw [hx] at hx2; injection hx2
      clear hx hx2
      have b1 : (k : Int) < (l.length : Int) := by omega
      go_wp2
      go_still_tail 8, (by kernel_rfl)
      have hdr : Below w.heap.size w wr.drew := HB.out.drew
      have HD := Lib.hid hdr
      clear hdr
      change wpList _ _ _ _ _ wr.drew
      generalize wr.drew = w2 at HD ⊢
      go_wp2_with fail
      refine (eqSession_any s _).mono ?_
      rintro e w3 ⟨rfl, hb3⟩
      have HB3 := Lib.hid (below_then HD.out HD.out.size hb3)
      clear hb3
      go_wp2
      go_roundw
      case rel => exact ⟨k+1, by go_num, by omega, HB3.out⟩
      case measure => simp [intOf]; omega
    · go_wp2
      go_ret
      exact ⟨rfl, HB.out⟩
set_option maxRecDepth 100000 in
set_option maxHeartbeats 1600000 in
theorem eqBase_any (b : BsV) (hf : b.fits 1000000000) (F F2 G G2 : Nat → Prop) (A1 A2 B1 B2 : Option Addr) (c1 c2 d1 d2 : Nat) (w : World) (hr1 : StAt F w A1 b.docs) (hr2 : Rds F2 w A2 (ssCells b.sess)) (hq1 : StAt G w B1 b.docs) (hq2 : Rds G2 w B2 (ssCells b.sess)) :
    Calls Tryz.prog 20 #[b.val A1 c1 A2 c2, b.val B1 d1 B2 d2] w fun e w' => e = .returned (.bool true) ∧ Below w.heap.size w w' := by
  obtain ⟨f1, f2, f3⟩ := hf
  have H1 := Lib.hid (fun W (hb : Below w.heap.size w W) => eqStoredS_any b.docs f1 (fun d hd => (f3 d hd).1) F G A1 B1 c1 d1 W (hr1.frame (Agree.of_below hb)) (hq1.frame (Agree.of_below hb)))
  have H2 := Lib.hid (fun W (hb : Below w.heap.size w W) => eqSessionS_any b.sess f2 F2 G2 A2 B2 c2 d2 W (hr2.frame (Agree.of_below hb)) (hq2.frame (Agree.of_below hb)))
  have k0 : ((w.alloc (.cells #[.int .i64 b.applied, .slice A1 b.docs.length c1, .slice A2 b.sess.length c2] 48 (0, 0))).alloc (.cells #[.int .i64 b.applied, .slice B1 b.docs.length d1, .slice B2 b.sess.length d2] 48 (0, 0))).heap[w.heap.size]? = some (.cells #[.int .i64 b.applied, .slice A1 b.docs.length c1, .slice A2 b.sess.length c2] 48 (0, 0)) := by (repeat (first | with_reducible assumption | (with_reducible refine blk_new _ ?_; (first | rfl | (simp; done) | (simp; omega))) | with_reducible apply block_setCell | (with_reducible refine blk_skip _ _ ?_ ?_; rotate_left; (first | (simp; done) | (simp; omega))) | with_reducible refine blk_old ?_))
  have k1 : ((w.alloc (.cells #[.int .i64 b.applied, .slice A1 b.docs.length c1, .slice A2 b.sess.length c2] 48 (0, 0))).alloc (.cells #[.int .i64 b.applied, .slice B1 b.docs.length d1, .slice B2 b.sess.length d2] 48 (0, 0))).heap[w.heap.size + 1]? = some (.cells #[.int .i64 b.applied, .slice B1 b.docs.length d1, .slice B2 b.sess.length d2] 48 (0, 0)) := by (repeat (first | with_reducible assumption | (with_reducible refine blk_new _ ?_; (first | rfl | (simp; done) | (simp; omega))) | with_reducible apply block_setCell | (with_reducible refine blk_skip _ _ ?_ ?_; rotate_left; (first | (simp; done) | (simp; omega))) | with_reducible refine blk_old ?_))
  have hb0 : Below w.heap.size w ((w.alloc (.cells #[.int .i64 b.applied, .slice A1 b.docs.length c1, .slice A2 b.sess.length c2] 48 (0, 0))).alloc (.cells #[.int .i64 b.applied, .slice B1 b.docs.length d1, .slice B2 b.sess.length d2] 48 (0, 0))) := ((Below.refl _ _).alloc (Nat.le_refl _) _).alloc (by simp) _
  have HB0 := Lib.hid hb0
  clear hr1 hr2 hq1 hq2 f3 hb0
  unfold BsV.val
  go_enter Tryz.func20, Tryz.ntmps20
  go_wp2_with fail
  generalize (w.alloc (.cells #[.int .i64 b.applied, .slice A1 b.docs.length c1, .slice A2 b.sess.length c2] 48 (0, 0))).alloc (.cells #[.int .i64 b.applied, .slice B1 b.docs.length d1, .slice B2 b.sess.length d2] 48 (0, 0)) = w1 at HB0 k0 k1 ⊢
  refine (H1.out _ HB0.out).mono ?_
  rintro e w2 ⟨rfl, hb2⟩
  have HB2 := Lib.hid (below_then HB0.out HB0.out.size hb2)
  have x2 := (cells3 (block_below k0 hb2)).2.2
  have y2 := (cells3 (block_below k1 hb2)).2.2
  clear hb2 k0 k1
  go_wp2_with fail
  refine (H2.out _ HB2.out).mono ?_
  rintro e w3 ⟨rfl, hb3⟩
  have HB3 := Lib.hid (below_then HB2.out HB2.out.size hb3)
  clear hb3
  go_wp2
  go_ret
  exact ⟨rfl, HB3.out⟩
end Go.Proofs.YtekamdcojabgeaaGreatDoor
