/- The walks of the laws' own functions on operations: szOp, toOp, eqOp. -/
import Derived.Test.YtemcijhpmpdebaaGreatDoorLaw4
namespace Go.Proofs.YtemcijhpmpdebaaGreatDoor
open Go.RowKit
theorem Agree.set {F : Nat → Prop} {w w1 : World} (h : Agree F w w1) {b : Nat} (hb : ∀ c, F c → c ≠ b) (j : Nat) (v : Value) : Agree F w (w1.setCell ⟨b, j, none⟩ v) := h.trans (Agree.of_setCell _ _ _ hb)
structure OpV where
  kind : Int
  id : Int
  session : Int
  no : Int
def OpV.val (o : OpV) (A : Option Addr) (n c : Nat) : Value := .agg #[.int .i64 o.kind, .int .i64 o.id, .slice A n c, .int .i64 o.session, .int .i64 o.no]
set_option maxHeartbeats 800000 in
theorem szOp_any (p : OpV) (l : List Nd) (hl : l.length ≤ 9223372036854775807) (hsz : ∀ x ∈ l, x.small 9223372036854775807) (F : Nat → Prop) (A : Option Addr) (c : Nat) (n : Nat) (hn : n ≤ 1048576) (w : World) (hr : Rds F w A (ndCells l)) :
    Calls Tryz.prog 19 #[p.val A l.length c, .int .i64 (n : Int)] w (SzPost l n w) := by
  have hb0 : ∀ o, Below w.heap.size w (w.alloc o) := fun o => (Below.refl _ _).alloc (Nat.le_refl _) _
  have HC := fun w1 (hb : Below w.heap.size w w1) => szValue_any l hl hsz F A c n hn w1 (hr.below hb)
  have H := Lib.hid HC
  clear HC hr hsz
  unfold OpV.val
  go_enter Tryz.func19, Tryz.ntmps19
  go_wp2_with fail
  refine (H.out _ (hb0 _)).mono ?_
  rintro e w2 ⟨hb2, r, rfl, hr⟩
  have HB2 := Lib.hid (below_then (hb0 _) (hb0 _).size hb2)
  clear hb2
  rcases hr with rfl | ⟨m', rfl, hm', hs⟩
  · go_wp2
    go_ret
    exact ⟨HB2.out, _, rfl, .inl rfl⟩
  · have HSm := Lib.hid hs
    clear hs
    go_wp2
    go_ret
    exact ⟨HB2.out, _, rfl, .inr ⟨m', rfl, hm', HSm.out⟩⟩
theorem infoOp : (Tryz.prog.info? 57).map (fun i => (i.zero, i.size, i.bytes)) = some (some (.agg #[.int .i64 0, .int .i64 0, .slice none 0 0, .int .i64 0, .int .i64 0]), 5, 56) := by kernel_rfl
def ToOPostW (p : OpV) (l : List Nd) (w : World) (e : Ending) (w' : World) : Prop :=
  Below w.heap.size w w' ∧ ∃ A, e = .returned (p.val A l.length l.length) ∧ Own (fun b => w.heap.size ≤ b) w' 100 A (ndCells l)
def ToOPost (p : OpV) (l : List Nd) (w : World) (e : Ending) (w' : World) : Prop :=
  Below w.heap.size w w' ∧ ∃ A, e = .returned (p.val A l.length l.length) ∧ Rds (fun b => w.heap.size ≤ b) w' A (ndCells l)
set_option maxRecDepth 100000 in
set_option maxHeartbeats 1600000 in
theorem toOp_w (p : OpV) (l : List Nd) (hl : l.length ≤ 1000000000) (F : Nat → Prop) (A : Option Addr) (c : Nat) (w : World) (hr : Rds F w A (ndCells l)) :
    Calls Tryz.prog 21 #[p.val A l.length c] w (ToOPostW p l w) := by
  have HR := Lib.hid hr
  clear hr
  unfold OpV.val
  go_enter Tryz.func21, Tryz.ntmps21
  go_wp2_with fail
  obtain ⟨w1, hw⟩ : ∃ w1, w1 = ((w.alloc (.cells #[.int .i64 p.kind, .int .i64 p.id, .slice A l.length c, .int .i64 p.session, .int .i64 p.no] 51)).alloc (.cells #[.int .i64 0, .int .i64 0, .slice none 0 0, .int .i64 0, .int .i64 0] 57)).alloc (.cells #[.int .i64 p.kind, .int .i64 p.id, .slice none 0 0, .int .i64 0, .int .i64 0] 57) := ⟨_, rfl⟩
  have hb1 : Below w.heap.size w w1 := by rw [hw]; exact (((Below.refl _ _).alloc (Nat.le_refl _) _).alloc (by simp) _).alloc (by simp <;> omega) _
  have k0 : w1.heap[w.heap.size]? = some (.cells #[.int .i64 p.kind, .int .i64 p.id, .slice A l.length c, .int .i64 p.session, .int .i64 p.no] 51 (0, 0)) := by rw [hw]; (repeat (first | with_reducible assumption | (with_reducible refine blk_new _ ?_; (first | rfl | (simp; done) | (simp; omega))) | with_reducible apply block_setCell | (with_reducible refine blk_skip _ _ ?_ ?_; rotate_left; (first | (simp; done) | (simp; omega))) | with_reducible refine blk_old ?_))
  have k1 : w1.heap[w.heap.size + 1]? = some (.cells #[.int .i64 0, .int .i64 0, .slice none 0 0, .int .i64 0, .int .i64 0] 57 (0, 0)) := by rw [hw]; (repeat (first | with_reducible assumption | (with_reducible refine blk_new _ ?_; (first | rfl | (simp; done) | (simp; omega))) | with_reducible apply block_setCell | (with_reducible refine blk_skip _ _ ?_ ?_; rotate_left; (first | (simp; done) | (simp; omega))) | with_reducible refine blk_old ?_))
  have k2 : w1.heap[w.heap.size + 1 + 1]? = some (.cells #[.int .i64 p.kind, .int .i64 p.id, .slice none 0 0, .int .i64 0, .int .i64 0] 57 (0, 0)) := by rw [hw]; (repeat (first | with_reducible assumption | (with_reducible refine blk_new _ ?_; (first | rfl | (simp; done) | (simp; omega))) | with_reducible apply block_setCell | (with_reducible refine blk_skip _ _ ?_ ?_; rotate_left; (first | (simp; done) | (simp; omega))) | with_reducible refine blk_old ?_))
  have hs : w1.heap.size = w.heap.size + 3 := by rw [hw]; simp
  rw [← hw]
  clear hw
  refine (toValue_w l hl F A c _ (HR.out.below hb1)).mono ?_
  rintro e w2 ⟨hb2, A2, rfl, hr2⟩
  have K0 := block_below k0 hb2
  have K1 := block_below k1 hb2
  have K2 := block_below k2 hb2
  obtain ⟨a0, a1, a2, a3, a4⟩ := cells5 K0
  obtain ⟨b0, b1, b2, b3, b4⟩ := cells5 K1
  obtain ⟨c0, c1, c2, c3, c4⟩ := cells5 K2
  obtain ⟨f0, f1, f2, f3, f4⟩ := free5 K1
  obtain ⟨g0, g1, g2, g3, g4⟩ := free5 K2
  have HK1 := Lib.hid K1
  have HK2 := Lib.hid K2
  have HB2 := Lib.hid (below_then hb1 hb1.size hb2)
  have HR2 := Lib.hid hr2
  have hs2 := hb2.size
  have hne : w.heap.size + 1 ≠ w.heap.size + 1 + 1 := by omega
  clear K0 K1 K2 k0 k1 k2 hb1 hb2 hr2
  go_wp2
  refine bodyPost_ret (results_cell_row rfl _ _ (w.heap.size + 1) _ _ _ _ rfl (block_setCell (block_setCell (block_setCell (block_setCell (block_setCell ((Below.heap_setCell _ _ _ _ hne).trans ((Below.heap_setCell _ _ _ _ hne).trans ((Below.heap_setCell _ _ _ _ hne).trans HK1.out))) _ _) _ _) _ _) _ _) _ _) Tryz.underlying57 rfl ((info_size infoOp).trans (by simp))) rfl ?_
  refine ⟨?_, A2, rfl, ?_⟩
  · have h := HB2.out
    have e1 : w.heap.size ≤ w.heap.size + 1 := by omega
    have e2 : w.heap.size ≤ w.heap.size + 1 + 1 := by omega
    exact (((((((h.setCell e2 _).setCell e2 _).setCell e2 _).setCell e1 _).setCell e1 _).setCell e1 _).setCell e1 _).setCell e1 _
  · have hr3 := HR2.out
    have n1 : ∀ c, w1.heap.size ≤ c → c ≠ w.heap.size + 1 := fun c h => by omega
    have n2 : ∀ c, w1.heap.size ≤ c → c ≠ w.heap.size + 1 + 1 := fun c h => by omega
    refine Own.mono (F := fun b => w1.heap.size ≤ b) (Own.frame hr3 (Agree.set (Agree.set (Agree.set (Agree.set (Agree.set (Agree.set (Agree.set (Agree.set (Agree.refl _ _) n2 _ _) n2 _ _) n2 _ _) n1 _ _) n1 _ _) n1 _ _) n1 _ _) n1 _ _)) (fun b h _ => ?_)
    have h' : w1.heap.size ≤ b := h
    omega
theorem toOp_any (p : OpV) (l : List Nd) (hl : l.length ≤ 1000000000) (F : Nat → Prop) (A : Option Addr) (c : Nat) (w : World) (hr : Rds F w A (ndCells l)) :
    Calls Tryz.prog 21 #[p.val A l.length c] w (ToOPost p l w) :=
  (toOp_w p l hl F A c w hr).mono fun _ _ ⟨h1, A', h2, h3⟩ => ⟨h1, A', h2, h3.1⟩
set_option maxRecDepth 100000 in
set_option maxHeartbeats 1600000 in
theorem eqOp_any (p : OpV) (l : List Nd) (hl : l.length ≤ 1000000000) (F F2 : Nat → Prop) (A A2 : Option Addr) (c c2 : Nat) (w : World) (hr : Rds F w A (ndCells l)) (hr2 : Rds F2 w A2 (ndCells l)) :
    Calls Tryz.prog 25 #[p.val A l.length c, p.val A2 l.length c2] w fun e w' => e = .returned (.bool true) ∧ Below w.heap.size w w' := by
  have HC := fun w1 (hb : Below w.heap.size w w1) => eqValue_any l l hl rfl F F2 A A2 c c2 w1 (hr.below hb) (hr2.below hb)
  have H := Lib.hid HC
  clear HC hr hr2
  have hb0 : ∀ o o', Below w.heap.size w ((w.alloc o).alloc o') := fun o o' => ((Below.refl _ _).alloc (Nat.le_refl _) _).alloc (by simp) _
  unfold OpV.val
  go_enter Tryz.func25, Tryz.ntmps25
  go_wp2_with fail
  obtain ⟨w1, hw⟩ : ∃ w1, w1 = (w.alloc (.cells #[.int .i64 p.kind, .int .i64 p.id, .slice A l.length c, .int .i64 p.session, .int .i64 p.no] 57)).alloc (.cells #[.int .i64 p.kind, .int .i64 p.id, .slice A2 l.length c2, .int .i64 p.session, .int .i64 p.no] 57) := ⟨_, rfl⟩
  have hb1 : Below w.heap.size w w1 := by rw [hw]; exact hb0 _ _
  have k0 : w1.heap[w.heap.size]? = some (.cells #[.int .i64 p.kind, .int .i64 p.id, .slice A l.length c, .int .i64 p.session, .int .i64 p.no] 57 (0, 0)) := by rw [hw]; (repeat (first | with_reducible assumption | (with_reducible refine blk_new _ ?_; (first | rfl | (simp; done) | (simp; omega))) | with_reducible apply block_setCell | (with_reducible refine blk_skip _ _ ?_ ?_; rotate_left; (first | (simp; done) | (simp; omega))) | with_reducible refine blk_old ?_))
  have k1 : w1.heap[w.heap.size + 1]? = some (.cells #[.int .i64 p.kind, .int .i64 p.id, .slice A2 l.length c2, .int .i64 p.session, .int .i64 p.no] 57 (0, 0)) := by rw [hw]; (repeat (first | with_reducible assumption | (with_reducible refine blk_new _ ?_; (first | rfl | (simp; done) | (simp; omega))) | with_reducible apply block_setCell | (with_reducible refine blk_skip _ _ ?_ ?_; rotate_left; (first | (simp; done) | (simp; omega))) | with_reducible refine blk_old ?_))
  rw [← hw]
  clear hw hb0
  refine (H.out w1 hb1).mono ?_
  rintro e w2 ⟨rfl, hb2⟩
  obtain ⟨a0, a1, a2, a3, a4⟩ := cells5 (block_below k0 hb2)
  obtain ⟨b0, b1, b2, b3, b4⟩ := cells5 (block_below k1 hb2)
  have HB2 := Lib.hid (below_then hb1 hb1.size hb2)
  clear k0 k1 hb1 hb2
  go_wp2
  go_ret
  exact ⟨rfl, HB2.out⟩
end Go.Proofs.YtemcijhpmpdebaaGreatDoor
