/- Bases as the laws handle them: copies of sessions, of bases; what is alike. -/
import Derived.Test.YtekamdcojabgeaaGreatDoorBs2
import Derived.StillTailTactics
namespace Go.Proofs.YtekamdcojabgeaaGreatDoor
open Go.RowKit
def SsFresh (l : List SsV) (w : World) (e : Ending) (w' : World) : Prop :=
  Below w.heap.size w w' ∧ ∃ A, e = .returned (.slice A l.length l.length) ∧ Rds (fun b => w.heap.size ≤ b) w' A (ssCells l)
set_option maxRecDepth 100000 in
set_option maxHeartbeats 1600000 in
theorem toSessionS_any (l : List SsV) (hl : l.length ≤ 1000000000) (F : Nat → Prop) (A : Option Addr) (c : Nat) (w : World) (hr : Rds F w A (ssCells l)) :
    Calls Tryz.prog 50 #[.slice A l.length c] w (SsFresh l w) := by
  have hmk := make_rowN (P := Tryz.prog) 46 84 _ 3 24 Tryz.underlying46 infoSession l.length (by omega) (by omega)
  have hz : madeCells (Value.cells (.agg #[.int .i64 0, .int .i64 0, .bool false])) (l.length * 3) = (zeros [.int .i64 0, .int .i64 0, .bool false] l.length).toArray := made_zeros [.int .i64 0, .int .i64 0, .bool false] l.length
  rw [hz] at hmk
  have HR := Lib.hid hr
  clear hr hz
  go_enter Tryz.func50, Tryz.ntmps50
  go_wp2
  go_loopw [4] (fun i wx => ∃ k : Nat, i = .int .i64 (k : Int) ∧ k ≤ l.length ∧ Below w.heap.size w wx ∧ wx.heap[w.heap.size]? = some (.cells (ssCells (l.take k) ++ zeros [.int .i64 0, .int .i64 0, .bool false] (l.length - k)).toArray 84 (0, 0))) (fun i _ => l.length - (intOf i).toNat)
  case atStart => exact ⟨0, rfl, Nat.zero_le _, (Below.refl _ _).alloc (Nat.le_refl _) _, by simpa [ssCells] using heap_alloc_new w _⟩
  case round =>
    obtain ⟨k, rfl, hk, hbx, hblk⟩ := hrel
    clear hmk
    have HB := Lib.hid hbx
    have HK := Lib.hid hblk
    have hgl := lt_of_block hblk
    clear hbx hblk
    by_cases hlt : k < l.length
    · obtain ⟨b, o, s, rfl, hF, hbl, hx, g0, g1, g2⟩ := ss_at (HR.out.frame (Agree.of_below HB.out)) k hlt
      have HX := Lib.hid hx
      clear hx
      go_wp2_with fail
      refine (toSession_any s _).mono ?_
      rintro e w2 ⟨rfl, hb2⟩
      have hk2 := block_below HK.out hb2
      rw [show l.length - k = (l.length - (k + 1)) + 1 by omega, zeros_succ] at hk2
      have hlen : (ssCells (l.take k)).length = k * 3 := by rw [ssCells_length, List.length_take, Nat.min_eq_left (by omega)]
      generalize hZ : zeros [.int .i64 0, .int .i64 0, .bool false] (l.length - (k + 1)) = Z at hk2
      have HZ := Lib.hid hZ
      clear hZ
      have q0 := row_cell hk2 (k * 3) (.int .i64 0) (get_mid _ _ _ _ hlen)
      have q1 := row_cell hk2 (k * 3 + 1) (.int .i64 0) (by
        rw [show ssCells (l.take k) ++ ([.int .i64 0, .int .i64 0, .bool false] ++ Z) = (ssCells (l.take k) ++ [.int .i64 0]) ++ .int .i64 0 :: .bool false :: Z by simp]
        exact get_mid _ _ _ _ (by simp [hlen]))
      have q2 := row_cell hk2 (k * 3 + 2) (.bool false) (by
        rw [show ssCells (l.take k) ++ ([.int .i64 0, .int .i64 0, .bool false] ++ Z) = (ssCells (l.take k) ++ [.int .i64 0, .int .i64 0]) ++ .bool false :: Z by simp]
        exact get_mid _ _ _ _ (by simp [hlen]))
      have f0 := free_of_block hk2 (k * 3)
      have f1 := free_of_block hk2 (k * 3 + 1)
      have f2 := free_of_block hk2 (k * 3 + 2)
      have HK2 := Lib.hid hk2
      have HLEN := Lib.hid hlen
      have HB2 := Lib.hid (below_then HB.out HB.out.size hb2)
      clear hk2 hlen hb2 g0 g1 g2
      go_wp2
      go_roundw
      case rel =>
        refine ⟨k + 1, by go_num, by omega, ((HB2.out.setCell (by show w.heap.size ≤ w.heap.size; omega) _).setCell (by show w.heap.size ≤ w.heap.size; omega) _).setCell (by show w.heap.size ≤ w.heap.size; omega) _, ?_⟩
        have h := blk_row (blk_row (blk_row HK2.out (k * 3) (.int .i64 s.id)) (k * 3 + 1) (.int .i64 s.no)) (k * 3 + 2) (.bool s.fine)
        rw [show ssCells (l.take k) ++ ([.int .i64 0, .int .i64 0, .bool false] ++ Z) = ssCells (l.take k) ++ .int .i64 0 :: .int .i64 0 :: .bool false :: Z by simp, set_mid _ _ _ _ _ HLEN.out,
          show ssCells (l.take k) ++ .int .i64 s.id :: .int .i64 0 :: .bool false :: Z = (ssCells (l.take k) ++ [.int .i64 s.id]) ++ .int .i64 0 :: .bool false :: Z by simp, set_mid _ _ _ _ _ (by simp [HLEN.out]),
          show (ssCells (l.take k) ++ [.int .i64 s.id]) ++ .int .i64 s.no :: .bool false :: Z = (ssCells (l.take k) ++ [.int .i64 s.id, .int .i64 s.no]) ++ .bool false :: Z by simp, set_mid _ _ _ _ _ (by simp [HLEN.out])] at h
        rw [h, List.take_add_one, HX.out, HZ.out]
        simp [ssCells, SsV.cells]
      case measure => simp [intOf]; omega
    · obtain rfl : k = l.length := by omega
      go_wp2
      go_ret
      refine ⟨HB.out, _, rfl, ?_⟩
      have h := HK.out
      rw [Nat.sub_self, List.take_length, show zeros [.int .i64 0, .int .i64 0, .bool false] 0 = [] from rfl, List.append_nil] at h
      exact (rds_blk h).mono (fun b hb _ => by subst hb; exact Nat.le_refl _)
/-- A base of memory of its own. -/
def BsFresh (b : BsV) (w : World) (e : Ending) (w' : World) : Prop :=
  Below w.heap.size w w' ∧ ∃ A1 A2, e = .returned (b.val A1 b.docs.length A2 b.sess.length) ∧ StAt (fun b => w.heap.size ≤ b) w' A1 b.docs ∧ Rds (fun b => w.heap.size ≤ b) w' A2 (ssCells b.sess)
set_option maxRecDepth 100000 in
set_option maxHeartbeats 1600000 in
theorem toBase_any (b : BsV) (hf : b.fits 1000000000) (F : Nat → Prop) (A1 A2 : Option Addr) (c1 c2 : Nat) (w : World) (hr1 : StAt F w A1 b.docs) (hr2 : Rds F w A2 (ssCells b.sess)) :
    Calls Tryz.prog 18 #[b.val A1 c1 A2 c2] w (BsFresh b w) := by
  have HR1 := Lib.hid hr1
  have HR2 := Lib.hid hr2
  obtain ⟨q1, q2, q3⟩ := hf
  have HQ := Lib.hid q3
  clear hr1 hr2 q3
  unfold BsV.val
  go_enter Tryz.func18, Tryz.ntmps18
  go_wp2_with fail
  obtain ⟨w1, hw⟩ : ∃ w1, w1 = ((w.alloc (.cells #[.int .i64 b.applied, .slice A1 b.docs.length c1, .slice A2 b.sess.length c2] 42)).alloc (.cells #[.int .i64 0, .slice none 0 0, .slice none 0 0] 48)).alloc (.cells #[.int .i64 b.applied, .slice none 0 0, .slice none 0 0] 48) := ⟨_, rfl⟩
  have hb1 : Below w.heap.size w w1 := by rw [hw]; exact (((Below.refl _ _).alloc (Nat.le_refl _) _).alloc (by simp) _).alloc (by simp <;> omega) _
  have k0 : w1.heap[w.heap.size]? = some (.cells #[.int .i64 b.applied, .slice A1 b.docs.length c1, .slice A2 b.sess.length c2] 42 (0, 0)) := by rw [hw]; (repeat (first | with_reducible assumption | (with_reducible refine blk_new _ ?_; (first | rfl | (simp; done) | (simp; omega))) | with_reducible apply block_setCell | (with_reducible refine blk_skip _ _ ?_ ?_; rotate_left; (first | (simp; done) | (simp; omega))) | with_reducible refine blk_old ?_))
  have k1 : w1.heap[w.heap.size + 1]? = some (.cells #[.int .i64 0, .slice none 0 0, .slice none 0 0] 48 (0, 0)) := by rw [hw]; (repeat (first | with_reducible assumption | (with_reducible refine blk_new _ ?_; (first | rfl | (simp; done) | (simp; omega))) | with_reducible apply block_setCell | (with_reducible refine blk_skip _ _ ?_ ?_; rotate_left; (first | (simp; done) | (simp; omega))) | with_reducible refine blk_old ?_))
  have k2 : w1.heap[w.heap.size + 1 + 1]? = some (.cells #[.int .i64 b.applied, .slice none 0 0, .slice none 0 0] 48 (0, 0)) := by rw [hw]; (repeat (first | with_reducible assumption | (with_reducible refine blk_new _ ?_; (first | rfl | (simp; done) | (simp; omega))) | with_reducible apply block_setCell | (with_reducible refine blk_skip _ _ ?_ ?_; rotate_left; (first | (simp; done) | (simp; omega))) | with_reducible refine blk_old ?_))
  have hs : w1.heap.size = w.heap.size + 3 := by rw [hw]; simp
  rw [← hw]
  clear hw
  refine (toStoredS_any b.docs q1 (fun d hd => (HQ.out d hd).1) F A1 c1 _ (HR1.out.frame (Agree.of_below hb1))).mono ?_
  rintro e w2 ⟨hb2, B1, rfl, hst⟩
  have hs2 := hb2.size
  have K1 := block_below k1 hb2
  have K2 := block_below k2 hb2
  have K0 := block_below k0 hb2
  obtain ⟨x0, x1, x2⟩ := cells3 K0
  obtain ⟨d0, d1, d2⟩ := cells3 K2
  obtain ⟨f0, f1, f2, _⟩ := free5 K2
  have hne : w.heap.size + 1 ≠ w.heap.size + 1 + 1 := by omega
  have hne0 : w.heap.size ≠ w.heap.size + 1 + 1 := by omega
  have HK1 := Lib.hid (blk_skip ⟨w.heap.size + 1 + 1, 1, none⟩ (.slice B1 b.docs.length b.docs.length) K1 hne)
  have HK2 := Lib.hid (block_setCell K2 1 (.slice B1 b.docs.length b.docs.length))
  have HB2 := Lib.hid ((below_then hb1 hb1.size hb2).setCell (p := ⟨w.heap.size + 1 + 1, 1, none⟩) (by show w.heap.size ≤ w.heap.size + 1 + 1; omega) (.slice B1 b.docs.length b.docs.length))
  have HST := Lib.hid (hst.frame (Agree.set (Agree.refl _ _) (b := w.heap.size + 1 + 1) (fun c h => by have h' : w1.heap.size ≤ c := h; omega) 1 (.slice B1 b.docs.length b.docs.length)))
  have hsz2 : (w2.setCell ⟨w.heap.size + 1 + 1, 1, none⟩ (.slice B1 b.docs.length b.docs.length)).heap.size = w2.heap.size := by simp [World.setCell]
  clear K0 K1 K2 k0 k1 k2 hst
  go_wp2_with fail
  generalize w2.setCell ⟨w.heap.size + 1 + 1, 1, none⟩ (.slice B1 b.docs.length b.docs.length) = w3 at HK1 HK2 HB2 HST hsz2 ⊢
  refine (toSessionS_any b.sess q2 F A2 c2 _ (HR2.out.frame (Agree.of_below HB2.out))).mono ?_
  rintro e w4 ⟨hb4, B2, rfl, hss⟩
  have hs4 := hb4.size
  have K1 := block_below HK1.out hb4
  have K2 := block_below HK2.out hb4
  obtain ⟨b0, b1, b2⟩ := cells3 K1
  obtain ⟨c0, c1', c2'⟩ := cells3 K2
  obtain ⟨f3, f4, f5, _⟩ := free5 K1
  obtain ⟨g3, g4, g5, _⟩ := free5 K2
  have HK1' := Lib.hid K1
  have HB4 := Lib.hid (below_then HB2.out HB2.out.size hb4)
  have HST4 := Lib.hid (HST.out.frame (Agree.of_below hb4))
  have HSS := Lib.hid hss
  clear K1 K2 hb1 hb2 hb4 hss x0 x1 x2 d0 d1 d2 f0 f1 f2
  go_wp2
  refine bodyPost_ret (results_cell_row rfl _ _ (w.heap.size + 1) _ _ _ _ rfl (block_setCell (block_setCell (block_setCell ((Below.heap_setCell _ _ _ _ hne).trans HK1'.out) _ _) _ _) _ _) Tryz.underlying48 rfl ((info_size infoBase).trans (by simp))) rfl ?_
  have n1 : ∀ c, w1.heap.size ≤ c → c ≠ w.heap.size + 1 := fun c h => by omega
  have n2 : ∀ c, w1.heap.size ≤ c → c ≠ w.heap.size + 1 + 1 := fun c h => by omega
  have m1 : ∀ c, w3.heap.size ≤ c → c ≠ w.heap.size + 1 := fun c h => by omega
  have m2 : ∀ c, w3.heap.size ≤ c → c ≠ w.heap.size + 1 + 1 := fun c h => by omega
  refine ⟨?_, B1, B2, rfl, ?_, ?_⟩
  · have h := HB4.out
    have e1 : w.heap.size ≤ w.heap.size + 1 := by omega
    have e2 : w.heap.size ≤ w.heap.size + 1 + 1 := by omega
    exact (((h.setCell e2 _).setCell e1 _).setCell e1 _).setCell e1 _
  · exact (HST4.out.frame (Agree.set (Agree.set (Agree.set (Agree.set (Agree.refl _ _) n2 _ _) n1 _ _) n1 _ _) n1 _ _)).mono (fun c h _ => by have h' : w1.heap.size ≤ c := h; show w.heap.size ≤ c; omega)
  · exact (HSS.out.frame (Agree.set (Agree.set (Agree.set (Agree.set (Agree.refl _ _) m2 _ _) m1 _ _) m1 _ _) m1 _ _)).mono (fun c h _ => by have h' : w3.heap.size ≤ c := h; show w.heap.size ≤ c; omega)
end Go.Proofs.YtekamdcojabgeaaGreatDoor
