/- Bases as the laws handle them: copies. -/
import Derived.Test.YtekamdcojabgeaaGreatDoorBs1
namespace Go.Proofs.YtekamdcojabgeaaGreatDoor
open Go.RowKit
theorem set_mid (a b : List Value) (x v : Value) (n : Nat) (h : a.length = n) : (a ++ x :: b).set n v = a ++ v :: b := by
  subst h
  simp
theorem blk_row {w : World} {b : Nat} {L : List Value} {T : TypeId} (h : w.heap[b]? = some (.cells L.toArray T (0, 0))) (j : Nat) (v : Value) : (w.setCell ⟨b, j, none⟩ v).heap[b]? = some (.cells (L.set j v).toArray T (0, 0)) := by
  rw [block_setCell h]; simp
theorem row_cell {w : World} {b : Nat} {L : List Value} {T : TypeId} (h : w.heap[b]? = some (.cells L.toArray T (0, 0))) (j : Nat) (v : Value) (hj : L[j]? = some v) : w.cell? ⟨b, j, none⟩ = some v := by
  rw [cell_of_block h]; simpa using hj
theorem get_mid (a b : List Value) (x : Value) (n : Nat) (h : a.length = n) : (a ++ x :: b)[n]? = some x := by
  subst h
  simp
/-- A row of m zeros behind what is filled. -/
def zeros (z : List Value) (m : Nat) : List Value := (List.replicate m z).flatten
theorem zeros_succ (z : List Value) (m : Nat) : zeros z (m + 1) = z ++ zeros z m := by simp [zeros, List.replicate_succ]
theorem made_zeros (cs : List Value) (n : Nat) : madeCells cs.toArray (n * cs.length) = (zeros cs n).toArray := madeCells_rep cs n
theorem rds_blk {w : World} {g : Nat} {L : List Value} {T : TypeId} (h : w.heap[g]? = some (.cells L.toArray T (0, 0))) : Rds (fun b => b = g) w (some ⟨g, 0, none⟩) L := fun _ =>
  ⟨g, 0, rfl, rfl, lt_of_block h, fun j v hj => by rw [Nat.zero_add]; exact row_cell h j v hj⟩
theorem infoStored : (Tryz.prog.info? 82).map (fun i => (i.zero, i.size, i.bytes)) = some (some (.agg #[.int .i64 0, .slice none 0 0]), 2, 32) := by kernel_rfl
theorem infoSession : (Tryz.prog.info? 84).map (fun i => (i.zero, i.size, i.bytes)) = some (some (.agg #[.int .i64 0, .int .i64 0, .bool false]), 3, 24) := by kernel_rfl
theorem infoBase : (Tryz.prog.info? 48).map (fun i => (i.zero, i.size, i.bytes)) = some (some (.agg #[.int .i64 0, .slice none 0 0, .slice none 0 0]), 3, 56) := by kernel_rfl
theorem cells2 {w : World} {b : Nat} {v0 v1 : Value} {T : TypeId} (h : w.heap[b]? = some (.cells #[v0, v1] T (0, 0))) : w.cell? ⟨b, 0, none⟩ = some v0 ∧ w.cell? ⟨b, 1, none⟩ = some v1 := by
  simp [cell_of_block h]
theorem cells3 {w : World} {b : Nat} {v0 v1 v2 : Value} {T : TypeId} (h : w.heap[b]? = some (.cells #[v0, v1, v2] T (0, 0))) : w.cell? ⟨b, 0, none⟩ = some v0 ∧ w.cell? ⟨b, 1, none⟩ = some v1 ∧ w.cell? ⟨b, 2, none⟩ = some v2 := by
  simp [cell_of_block h]
def ToStPost (id : Int) (l : List Nd) (w : World) (e : Ending) (w' : World) : Prop :=
  Below w.heap.size w w' ∧ ∃ A, e = .returned (.agg #[.int .i64 id, .slice A l.length l.length]) ∧ Rds (fun b => w.heap.size ≤ b) w' A (ndCells l)
set_option maxHeartbeats 1600000 in
theorem toStored_any (id : Int) (l : List Nd) (hl : l.length ≤ 1000000000) (F : Nat → Prop) (A : Option Addr) (c : Nat) (w : World) (hr : Rds F w A (ndCells l)) :
    Calls Tryz.prog 81 #[.agg #[.int .i64 id, .slice A l.length c]] w (ToStPost id l w) := by
  have HR := Lib.hid hr
  clear hr
  go_enter Tryz.func81, Tryz.ntmps81
  go_wp2_with fail
  obtain ⟨w1, hw⟩ : ∃ w1, w1 = ((w.alloc (.cells #[.int .i64 id, .slice A l.length c] 122)).alloc (.cells #[.int .i64 0, .slice none 0 0] 82)).alloc (.cells #[.int .i64 id, .slice none 0 0] 82) := ⟨_, rfl⟩
  have hb1 : Below w.heap.size w w1 := by rw [hw]; exact (((Below.refl _ _).alloc (Nat.le_refl _) _).alloc (by simp) _).alloc (by simp <;> omega) _
  have k1 : w1.heap[w.heap.size + 1]? = some (.cells #[.int .i64 0, .slice none 0 0] 82 (0, 0)) := by rw [hw]; (repeat (first | with_reducible assumption | (with_reducible refine blk_new _ ?_; (first | rfl | (simp; done) | (simp; omega))) | with_reducible apply block_setCell | (with_reducible refine blk_skip _ _ ?_ ?_; rotate_left; (first | (simp; done) | (simp; omega))) | with_reducible refine blk_old ?_))
  have k2 : w1.heap[w.heap.size + 1 + 1]? = some (.cells #[.int .i64 id, .slice none 0 0] 82 (0, 0)) := by rw [hw]; (repeat (first | with_reducible assumption | (with_reducible refine blk_new _ ?_; (first | rfl | (simp; done) | (simp; omega))) | with_reducible apply block_setCell | (with_reducible refine blk_skip _ _ ?_ ?_; rotate_left; (first | (simp; done) | (simp; omega))) | with_reducible refine blk_old ?_))
  have hs : w1.heap.size = w.heap.size + 3 := by rw [hw]; simp
  rw [← hw]
  clear hw
  refine (toValue_any l hl F A c _ (HR.out.below hb1)).mono ?_
  rintro e w2 ⟨hb2, A2, rfl, hr2⟩
  have K1 := block_below k1 hb2
  have K2 := block_below k2 hb2
  obtain ⟨b0, b1⟩ := cells2 K1
  obtain ⟨c0, c1⟩ := cells2 K2
  obtain ⟨f0, f1, _⟩ := free5 K1
  obtain ⟨g0, g1, _⟩ := free5 K2
  have HK1 := Lib.hid K1
  have HB2 := Lib.hid (below_then hb1 hb1.size hb2)
  have HR2 := Lib.hid hr2
  have hs2 := hb2.size
  have hne : w.heap.size + 1 ≠ w.heap.size + 1 + 1 := by omega
  clear K1 K2 k1 k2 hb1 hb2 hr2
  go_wp2
  refine bodyPost_ret (results_cell_row rfl _ _ (w.heap.size + 1) _ _ _ _ rfl (block_setCell (block_setCell ((Below.heap_setCell _ _ _ _ hne).trans HK1.out) _ _) _ _) Tryz.underlying82 rfl ((info_size infoStored).trans (by simp))) rfl ?_
  refine ⟨?_, A2, rfl, ?_⟩
  · have h := HB2.out
    have e1 : w.heap.size ≤ w.heap.size + 1 := by omega
    have e2 : w.heap.size ≤ w.heap.size + 1 + 1 := by omega
    exact ((h.setCell e2 _).setCell e1 _).setCell e1 _
  · have hr3 := HR2.out
    have n1 : ∀ c, w1.heap.size ≤ c → c ≠ w.heap.size + 1 := fun c h => by omega
    have n2 : ∀ c, w1.heap.size ≤ c → c ≠ w.heap.size + 1 + 1 := fun c h => by omega
    refine Rds.mono (F := fun b => w1.heap.size ≤ b) (Rds.frame hr3 (Agree.set (Agree.set (Agree.set (Agree.refl _ _) n2 _ _) n1 _ _) n1 _ _)) (fun b h _ => ?_)
    have h' : w1.heap.size ≤ b := h
    omega
def StFresh (ds : List StV) (w : World) (e : Ending) (w' : World) : Prop :=
  Below w.heap.size w w' ∧ ∃ A, e = .returned (.slice A ds.length ds.length) ∧ StAt (fun b => w.heap.size ≤ b) w' A ds
theorem stCells_length (l : List StR) : (stCells l).length = l.length * 2 := flat_len StR.cells 2 (fun _ => rfl) l
theorem ssCells_length (l : List SsV) : (ssCells l).length = l.length * 3 := flat_len SsV.cells 3 (fun _ => rfl) l
set_option maxRecDepth 100000 in
set_option maxHeartbeats 1600000 in
theorem toStoredS_any (ds : List StV) (hl : ds.length ≤ 1000000000) (hd : ∀ d ∈ ds, d.doc.length ≤ 1000000000) (F : Nat → Prop) (A : Option Addr) (c : Nat) (w : World) (hr : StAt F w A ds) :
    Calls Tryz.prog 49 #[.slice A ds.length c] w (StFresh ds w) := by
  have hmk := make_rowN (P := Tryz.prog) 45 82 _ 2 32 Tryz.underlying45 infoStored ds.length (by omega) (by omega)
  have hz : madeCells (Value.cells (.agg #[.int .i64 0, .slice none 0 0])) (ds.length * 2) = (zeros [.int .i64 0, .slice none 0 0] ds.length).toArray := made_zeros [.int .i64 0, .slice none 0 0] ds.length
  rw [hz] at hmk
  have HR := Lib.hid hr
  have HD := Lib.hid hd
  clear hr hz hd
  go_enter Tryz.func49, Tryz.ntmps49
  go_wp2
  go_loopw [4] (fun i wx => ∃ (k : Nat) (rs : List StR), i = .int .i64 (k : Int) ∧ k ≤ ds.length ∧ Below w.heap.size w wx ∧ rs.length = k ∧ rs.map StR.d = ds.take k ∧ wx.heap[w.heap.size]? = some (.cells (stCells rs ++ zeros [.int .i64 0, .slice none 0 0] (ds.length - k)).toArray 82 (0, 0)) ∧ ∀ r ∈ rs, r.d.doc.length ≤ r.cap ∧ Rds (fun b => w.heap.size < b) wx r.adr (ndCells r.d.doc)) (fun i _ => ds.length - (intOf i).toNat)
  case atStart => exact ⟨0, [], rfl, Nat.zero_le _, (Below.refl _ _).alloc (Nat.le_refl _) _, rfl, by simp, by simpa [stCells] using heap_alloc_new w _, fun r h => by simp at h⟩
  case round =>
    obtain ⟨k, rs, rfl, hk, hbx, hrl, hmap, hblk, hrs⟩ := hrel
    clear hmk
    have HB := Lib.hid hbx
    have HK := Lib.hid hblk
    have HM := Lib.hid hmap
    have HRL := Lib.hid hrl
    have HRS := Lib.hid hrs
    have hgl := lt_of_block hblk
    clear hbx hblk hmap hrl hrs
    by_cases hlt : k < ds.length
    · obtain ⟨b, o, r, rfl, hF, hbl, hx, g0, g1, hcp, hrr⟩ := st_at (HR.out.frame (Agree.of_below HB.out)) k hlt
      have HX := Lib.hid hx
      have HC := Lib.hid (toStored_any r.d.id r.d.doc (HD.out r.d (List.mem_of_getElem? hx)) F r.adr r.cap wr hrr)
      clear hx hrr
      go_wp2_with fail
      refine HC.out.mono ?_
      rintro e w2 ⟨hb2, A2, rfl, hr2⟩
      have hk2 := block_below HK.out hb2
      rw [show ds.length - k = (ds.length - (k + 1)) + 1 by omega, zeros_succ] at hk2
      have hlen : (stCells rs).length = k * 2 := by rw [stCells_length, HRL.out]
      have q0 := row_cell hk2 (k * 2) (.int .i64 0) (get_mid _ _ _ _ hlen)
      have q1 := row_cell hk2 (k * 2 + 1) (.slice none 0 0) (by
        rw [show stCells rs ++ ([.int .i64 0, .slice none 0 0] ++ zeros [.int .i64 0, .slice none 0 0] (ds.length - (k + 1))) = (stCells rs ++ [.int .i64 0]) ++ .slice none 0 0 :: zeros [.int .i64 0, .slice none 0 0] (ds.length - (k + 1)) by simp]
        exact get_mid _ _ _ _ (by simp [hlen]))
      have f0 := free_of_block hk2 (k * 2)
      have f1 := free_of_block hk2 (k * 2 + 1)
      have HK2 := Lib.hid hk2
      have HLEN := Lib.hid hlen
      have HBB := Lib.hid hb2
      have HB2 := Lib.hid (below_then HB.out HB.out.size hb2)
      have HR2 := Lib.hid hr2
      clear hk2 hlen hb2 hr2 g0 g1
      go_wp2
      go_roundw
      case rel =>
        refine ⟨k + 1, rs ++ [⟨r.d, A2, r.d.doc.length⟩], by go_num, by omega, (HB2.out.setCell (by show w.heap.size ≤ w.heap.size; omega) _).setCell (by show w.heap.size ≤ w.heap.size; omega) _, by rw [List.length_append, HRL.out]; rfl, by rw [List.map_append, HM.out, List.take_add_one, HX.out]; rfl, ?_, ?_⟩
        · have h := blk_row (blk_row HK2.out (k * 2) (.int .i64 r.d.id)) (k * 2 + 1) (.slice A2 r.d.doc.length r.d.doc.length)
          rw [show stCells rs ++ ([.int .i64 0, .slice none 0 0] ++ zeros [.int .i64 0, .slice none 0 0] (ds.length - (k + 1))) = stCells rs ++ .int .i64 0 :: .slice none 0 0 :: zeros [.int .i64 0, .slice none 0 0] (ds.length - (k + 1)) by simp, set_mid _ _ _ _ _ HLEN.out,
            show stCells rs ++ .int .i64 r.d.id :: .slice none 0 0 :: zeros [.int .i64 0, .slice none 0 0] (ds.length - (k + 1)) = (stCells rs ++ [.int .i64 r.d.id]) ++ .slice none 0 0 :: zeros [.int .i64 0, .slice none 0 0] (ds.length - (k + 1)) by simp, set_mid _ _ _ _ _ (by simp [HLEN.out])] at h
          rw [h]
          simp [stCells, StR.cells]
        · intro y hy
          have ha : ∀ F : Nat → Prop, (∀ c, F c → c ≠ w.heap.size) → Agree F w2 ((w2.setCell ⟨w.heap.size, k * 2, none⟩ (.int .i64 r.d.id)).setCell ⟨w.heap.size, k * 2 + 1, none⟩ (.slice A2 r.d.doc.length r.d.doc.length)) := fun F hF => Agree.set (Agree.set (Agree.refl _ _) hF _ _) hF _ _
          rcases List.mem_append.1 hy with hy | hy
          · exact ⟨(HRS.out y hy).1, ((HRS.out y hy).2.frame (Agree.of_below HBB.out)).frame (ha _ (fun c h => by have h' : w.heap.size < c := h; omega))⟩
          · obtain rfl : y = ⟨r.d, A2, r.d.doc.length⟩ := by simpa using hy
            refine ⟨Nat.le_refl _, (HR2.out.frame (ha _ (fun c h => by have h' : wr.heap.size ≤ c := h; omega))).mono (fun c h _ => ?_)⟩
            have h' : wr.heap.size ≤ c := h
            omega
      case measure => simp [intOf]; omega
    · obtain rfl : k = ds.length := by omega
      go_wp2
      go_ret
      refine ⟨HB.out, _, rfl, rs, by rw [HM.out, List.take_length], ?_, fun r hr => ⟨(HRS.out r hr).1, (HRS.out r hr).2.mono (fun b h _ => by have h' : w.heap.size < b := h; show w.heap.size ≤ b; omega)⟩⟩
      have h := HK.out
      rw [Nat.sub_self, show zeros [.int .i64 0, .slice none 0 0] 0 = [] from rfl, List.append_nil] at h
      exact (rds_blk h).mono (fun b hb _ => by subst hb; exact Nat.le_refl _)
set_option maxHeartbeats 800000 in
theorem toSession_any (s : SsV) (w : World) :
    Calls Tryz.prog 82 #[.agg #[.int .i64 s.id, .int .i64 s.no, .bool s.fine]] w fun e w' => e = .returned (.agg #[.int .i64 s.id, .int .i64 s.no, .bool s.fine]) ∧ Below w.heap.size w w' := by
  go_enter Tryz.func82, Tryz.ntmps82
  go_wp2
  refine bodyPost_ret (results_cell_row rfl _ _ (w.heap.size + 1) _ _ _ _ rfl (by (repeat (first | with_reducible assumption | (with_reducible refine blk_new _ ?_; (first | rfl | (simp; done) | (simp; omega))) | with_reducible apply block_setCell | (with_reducible refine blk_skip _ _ ?_ ?_; rotate_left; (first | (simp; done) | (simp; omega))) | with_reducible refine blk_old ?_))) Tryz.underlying84 rfl ((info_size infoSession).trans (by simp))) rfl ?_
  refine ⟨rfl, ?_⟩
  repeat (first | exact Below.refl _ _ | refine Below.alloc ?_ (by simp <;> omega) _ | refine Below.setCell ?_ _ _ (by simp))
end Go.Proofs.YtekamdcojabgeaaGreatDoor
