/- Rows of operations as the laws handle them: sizes, copies, what is compared, what is written. -/
import Derived.Test.YtemcijhpmpdebaaGreatDoorBs4
import Derived.Test.YtemcijhpmpdebaaGreatDoorMark3
namespace Go.Proofs.YtemcijhpmpdebaaGreatDoor
open Go.RowKit
structure OpD where
  o : OpV
  doc : List Nd
structure OpR where
  d : OpD
  adr : Option Addr
  cap : Nat
def OpR.cells (r : OpR) : List Value := [.int .i64 r.d.o.kind, .int .i64 r.d.o.id, .slice r.adr r.d.doc.length r.cap, .int .i64 r.d.o.session, .int .i64 r.d.o.no]
def opCells (l : List OpR) : List Value := l.flatMap OpR.cells
theorem opCells_length (l : List OpR) : (opCells l).length = l.length * 5 := flat_len OpR.cells 5 (fun _ => rfl) l
/-- A row of operations, each with its nodes. -/
def OpAt (F : Nat → Prop) (w : World) (A : Option Addr) (ds : List OpD) : Prop :=
  ∃ rs : List OpR, rs.map OpR.d = ds ∧ Rds F w A (opCells rs) ∧ ∀ r ∈ rs, r.d.doc.length ≤ r.cap ∧ Rds F w r.adr (ndCells r.d.doc)
theorem OpAt.frame {F : Nat → Prop} {w w1 : World} {A : Option Addr} {ds : List OpD} (h : OpAt F w A ds) (hb : Agree F w w1) : OpAt F w1 A ds := by
  obtain ⟨rs, h1, h2, h3⟩ := h
  exact ⟨rs, h1, h2.frame hb, fun r hr => ⟨(h3 r hr).1, (h3 r hr).2.frame hb⟩⟩
theorem OpAt.mono {F G : Nat → Prop} {w : World} {A : Option Addr} {ds : List OpD} (h : OpAt F w A ds) (hG : ∀ b, F b → b < w.heap.size → G b) : OpAt G w A ds := by
  obtain ⟨rs, h1, h2, h3⟩ := h
  exact ⟨rs, h1, h2.mono hG, fun r hr => ⟨(h3 r hr).1, (h3 r hr).2.mono hG⟩⟩
/-- A row of operations of memory of its own. -/
def OpW (F : Nat → Prop) (w : World) (A : Option Addr) (ds : List OpD) : Prop :=
  ∃ rs : List OpR, rs.map OpR.d = ds ∧ Own F w 57 A (opCells rs) ∧ ∀ r ∈ rs, r.d.doc.length ≤ r.cap ∧ Own F w 100 r.adr (ndCells r.d.doc)
theorem OpW.frame {F : Nat → Prop} {w w1 : World} {A : Option Addr} {ds : List OpD} (h : OpW F w A ds) (hb : Agree F w w1) : OpW F w1 A ds := by
  obtain ⟨rs, h1, h2, h3⟩ := h
  exact ⟨rs, h1, h2.frame hb, fun r hr => ⟨(h3 r hr).1, (h3 r hr).2.frame hb⟩⟩
theorem OpW.mono {F G : Nat → Prop} {w : World} {A : Option Addr} {ds : List OpD} (h : OpW F w A ds) (hG : ∀ b, F b → b < w.heap.size → G b) : OpW G w A ds := by
  obtain ⟨rs, h1, h2, h3⟩ := h
  exact ⟨rs, h1, h2.mono hG, fun r hr => ⟨(h3 r hr).1, (h3 r hr).2.mono hG⟩⟩
theorem OpW.at {F : Nat → Prop} {w : World} {A : Option Addr} {ds : List OpD} (h : OpW F w A ds) : OpAt F w A ds := by
  obtain ⟨rs, h1, h2, h3⟩ := h
  exact ⟨rs, h1, h2.1, fun r hr => ⟨(h3 r hr).1, (h3 r hr).2.1⟩⟩
theorem op_at {F : Nat → Prop} {w : World} {A : Option Addr} {ds : List OpD} (h : OpAt F w A ds) (k : Nat) (hk : k < ds.length) :
    ∃ (b o : Nat) (r : OpR), A = some ⟨b, o, none⟩ ∧ F b ∧ b < w.heap.size ∧ ds[k]? = some r.d ∧ w.cell? ⟨b, o + k * 5, none⟩ = some (.int .i64 r.d.o.kind) ∧ w.cell? ⟨b, o + k * 5 + 1, none⟩ = some (.int .i64 r.d.o.id) ∧ w.cell? ⟨b, o + k * 5 + 2, none⟩ = some (.slice r.adr r.d.doc.length r.cap) ∧ w.cell? ⟨b, o + k * 5 + 3, none⟩ = some (.int .i64 r.d.o.session) ∧ w.cell? ⟨b, o + k * 5 + 4, none⟩ = some (.int .i64 r.d.o.no) ∧ r.d.doc.length ≤ r.cap ∧ Rds F w r.adr (ndCells r.d.doc) := by
  obtain ⟨rs, rfl, h2, h3⟩ := h
  obtain ⟨b, o, r, e, hF, hl, hx, hc⟩ := row_at (cells := OpR.cells) (sz := 5) (fun _ => rfl) (by omega) h2 k (by simpa using hk)
  obtain ⟨h4, h5⟩ := h3 r (List.mem_of_getElem? hx)
  exact ⟨b, o, r, e, hF, hl, by rw [List.getElem?_map, hx]; rfl, hc 0 _ rfl, hc 1 _ rfl, hc 2 _ rfl, hc 3 _ rfl, hc 4 _ rfl, h4, h5⟩
def OpSz (ds : List OpD) (n : Nat) (w : World) (e : Ending) (w' : World) : Prop :=
  Below w.heap.size w w' ∧ ∃ r : Int, e = .returned (.int .i64 r) ∧ (r = -1 ∨ ∃ m : Nat, r = m ∧ m ≤ n ∧ ds.length ≤ n ∧ ∀ d ∈ ds, d.doc.length ≤ n ∧ ∀ x ∈ d.doc, x.small 1048576)
set_option maxRecDepth 100000 in
set_option maxHeartbeats 1600000 in
theorem szOpS_any (ds : List OpD) (hl : ds.length ≤ 9223372036854775807) (hsz : ∀ d ∈ ds, d.doc.length ≤ 9223372036854775807 ∧ ∀ x ∈ d.doc, x.small 9223372036854775807) (F : Nat → Prop) (A : Option Addr) (c : Nat) (n : Nat) (hn : n ≤ 1048576) (w : World) (hr : OpAt F w A ds) :
    Calls Tryz.prog 5 #[.slice A ds.length c, .int .i64 (n : Int)] w (OpSz ds n w) := by
  have e1 : wrap64 ((n : Int) - (ds.length : Int)) = (n : Int) - (ds.length : Int) := by unfold wrap64; omega
  by_cases c1 : ds.length ≤ n
  · have d1 : decide ((n : Int) - (ds.length : Int) < 0) = false := by simp; omega
    have HR := Lib.hid hr
    have HS := Lib.hid hsz
    clear hr hsz
    go_enter Tryz.func5, Tryz.ntmps5
    go_wp2
    go_loopw [1, 5] (fun v i wx => ∃ k m : Nat, v = .int .i64 (m : Int) ∧ i = .int .i64 (k : Int) ∧ k ≤ ds.length ∧ m ≤ n ∧ (∀ d ∈ ds.take k, d.doc.length ≤ n ∧ ∀ x ∈ d.doc, x.small 1048576) ∧ Below w.heap.size w wx) (fun _ i _ => ds.length - (intOf i).toNat)
    case atStart => exact ⟨0, n - ds.length, by go_num, rfl, Nat.zero_le _, by omega, fun x h => by simp at h, Below.refl _ _⟩
    case round =>
      obtain ⟨k, m, rfl, rfl, hk, hm, hall, hbx⟩ := hrel
      have HB := Lib.hid hbx
      have HA := Lib.hid hall
      clear hbx hall
      by_cases hlt : k < ds.length
      · obtain ⟨b, o, r, rfl, hF, hbl, hx, g0, g1, g2, g3, g4, hcp, hrr⟩ := op_at (HR.out.frame (Agree.of_below HB.out)) k hlt
        have hmem : r.d ∈ ds := List.mem_of_getElem? hx
        have HX := Lib.hid hx
        have hc := szOp_any r.d.o r.d.doc (HS.out r.d hmem).1 (HS.out r.d hmem).2 F r.adr r.cap m (by omega) wr hrr
        unfold OpV.val at hc
        have HC := Lib.hid hc
        clear hx hrr hc
        go_wp2_with fail
        refine HC.out.mono ?_
        rintro e w2 ⟨hb2, q, rfl, hq⟩
        have HB2 := Lib.hid (below_then HB.out HB.out.size hb2)
        rcases hq with rfl | ⟨m', rfl, hm', hs⟩
        · go_wp2
          go_ret
          exact ⟨HB2.out, _, rfl, .inl rfl⟩
        · have HSm := Lib.hid hs
          clear hs hb2
          go_wp2
          go_roundw
          case rel =>
            refine ⟨k+1, m', rfl, by go_num, by omega, by omega, fun y hy => ?_, HB2.out⟩
            rw [List.take_add_one, HX.out] at hy
            rcases List.mem_append.1 hy with hy | hy
            · exact HA.out y hy
            · obtain rfl : y = r.d := by simpa using hy
              have := HSm.out.1
              exact ⟨by omega, HSm.out.2⟩
          case measure => simp [intOf]; omega
      · go_wp2
        go_ret
        refine ⟨HB.out, _, rfl, .inr ⟨m, rfl, hm, c1, fun y hy => HA.out y ?_⟩⟩
        rw [List.take_of_length_le (by omega)]; exact hy
  · have d1 : decide ((n : Int) - (ds.length : Int) < 0) = true := by simp; omega
    go_enter Tryz.func5, Tryz.ntmps5
    go_wp2
    go_ret
    exact ⟨Below.refl _ _, _, rfl, .inl rfl⟩
theorem get_off {P z R : List Value} {n j : Nat} (h : P.length = n) (hj : j < z.length) : (P ++ (z ++ R))[n + j]? = z[j]? := by
  rw [List.getElem?_append_right (by omega), h, Nat.add_sub_cancel_left, List.getElem?_append_left hj]
theorem set_off {P z R : List Value} {n j : Nat} {v : Value} (h : P.length = n) (hj : j < z.length) : (P ++ (z ++ R)).set (n + j) v = P ++ (z.set j v ++ R) := by
  rw [List.set_append_right _ _ (by omega), h, Nat.add_sub_cancel_left, List.set_append_left _ _ hj]
def OpFreshW (ds : List OpD) (w : World) (e : Ending) (w' : World) : Prop :=
  Below w.heap.size w w' ∧ ∃ A, e = .returned (.slice A ds.length ds.length) ∧ OpW (fun b => w.heap.size ≤ b) w' A ds
def opZ : List Value := [.int .i64 0, .int .i64 0, .slice none 0 0, .int .i64 0, .int .i64 0]
set_option maxRecDepth 100000 in
set_option maxHeartbeats 1600000 in
theorem toOpS_w (ds : List OpD) (hl : ds.length ≤ 1000000000) (hd : ∀ d ∈ ds, d.doc.length ≤ 1000000000) (F : Nat → Prop) (A : Option Addr) (c : Nat) (w : World) (hr : OpAt F w A ds) :
    Calls Tryz.prog 7 #[.slice A ds.length c] w (OpFreshW ds w) := by
  have hmk := make_rowN (P := Tryz.prog) 30 57 _ 5 56 Tryz.underlying30 infoOp ds.length (by omega) (by omega)
  have hz : madeCells (Value.cells (.agg #[.int .i64 0, .int .i64 0, .slice none 0 0, .int .i64 0, .int .i64 0])) (ds.length * 5) = (zeros opZ ds.length).toArray := made_zeros opZ ds.length
  rw [hz] at hmk
  have HR := Lib.hid hr
  have HD := Lib.hid hd
  clear hr hz hd
  go_enter Tryz.func7, Tryz.ntmps7
  go_wp2
  go_loopw [4] (fun i wx => ∃ (k : Nat) (rs : List OpR), i = .int .i64 (k : Int) ∧ k ≤ ds.length ∧ Below w.heap.size w wx ∧ rs.length = k ∧ rs.map OpR.d = ds.take k ∧ wx.heap[w.heap.size]? = some (.cells (opCells rs ++ zeros opZ (ds.length - k)).toArray 57 (0, 0)) ∧ ∀ r ∈ rs, r.d.doc.length ≤ r.cap ∧ Own (fun b => w.heap.size < b) wx 100 r.adr (ndCells r.d.doc)) (fun i _ => ds.length - (intOf i).toNat)
  case atStart => exact ⟨0, [], rfl, Nat.zero_le _, (Below.refl _ _).alloc (Nat.le_refl _) _, rfl, by simp, by simpa [opCells] using heap_alloc_new w _, fun r h => by simp at h⟩
  case round =>
    obtain ⟨k, rs, rfl, hk, hbx, hrl, hmap, hblk, hrs⟩ := hrel
    clear hmk
    have HB := Lib.hid hbx
    have HK := Lib.hid hblk
    have HM := Lib.hid hmap
    have HRL := Lib.hid hrl
    have HRS := Lib.hid hrs
    have hgl := lt_of_block hblk
    clear hbx hblk hmap hrl hrs
    by_cases hlt : k < ds.length
    · obtain ⟨b, o, r, rfl, hF, hbl, hx, g0, g1, g2, g3, g4, hcp, hrr⟩ := op_at (HR.out.frame (Agree.of_below HB.out)) k hlt
      have HX := Lib.hid hx
      have hc := toOp_w r.d.o r.d.doc (HD.out r.d (List.mem_of_getElem? hx)) F r.adr r.cap wr hrr
      unfold ToOPostW OpV.val at hc
      have HC := Lib.hid hc
      clear hx hrr hc
      go_wp2_with fail
      refine HC.out.mono ?_
      rintro e w2 ⟨hb2, A2, rfl, hr2⟩
      have hk2 := block_below HK.out hb2
      rw [show ds.length - k = (ds.length - (k + 1)) + 1 by omega, zeros_succ] at hk2
      have hlen : (opCells rs).length = k * 5 := by rw [opCells_length, HRL.out]
      have q0 := row_cell hk2 (k * 5 + 0) (.int .i64 0) (get_off hlen (by simp [opZ]))
      have q1 := row_cell hk2 (k * 5 + 1) (.int .i64 0) (get_off hlen (by simp [opZ]))
      have q2 := row_cell hk2 (k * 5 + 2) (.slice none 0 0) (get_off hlen (by simp [opZ]))
      have q3 := row_cell hk2 (k * 5 + 3) (.int .i64 0) (get_off hlen (by simp [opZ]))
      have q4 := row_cell hk2 (k * 5 + 4) (.int .i64 0) (get_off hlen (by simp [opZ]))
      rw [Nat.add_zero] at q0
      have f0 := free_of_block hk2 (k * 5)
      have f1 := free_of_block hk2 (k * 5 + 1)
      have f2 := free_of_block hk2 (k * 5 + 2)
      have f3 := free_of_block hk2 (k * 5 + 3)
      have f4 := free_of_block hk2 (k * 5 + 4)
      have HK2 := Lib.hid hk2
      have HLEN := Lib.hid hlen
      have HBB := Lib.hid hb2
      have HB2 := Lib.hid (below_then HB.out HB.out.size hb2)
      have HR2 := Lib.hid hr2
      clear hk2 hlen hb2 hr2 g0 g1 g2 g3 g4
      go_wp2
      go_roundw
      case rel =>
        have e0 : w.heap.size ≤ w.heap.size := Nat.le_refl _
        refine ⟨k + 1, rs ++ [⟨r.d, A2, r.d.doc.length⟩], by go_num, by omega, ((((HB2.out.setCell e0 _).setCell e0 _).setCell e0 _).setCell e0 _).setCell e0 _, by rw [List.length_append, HRL.out]; rfl, by rw [List.map_append, HM.out, List.take_add_one, HX.out]; rfl, ?_, ?_⟩
        · have h := blk_row (blk_row (blk_row (blk_row (blk_row HK2.out (k * 5) (.int .i64 r.d.o.kind)) (k * 5 + 1) (.int .i64 r.d.o.id)) (k * 5 + 2) (.slice A2 r.d.doc.length r.d.doc.length)) (k * 5 + 3) (.int .i64 r.d.o.session)) (k * 5 + 4) (.int .i64 r.d.o.no)
          rw [show (opCells rs ++ (opZ ++ zeros opZ (ds.length - (k + 1)))).set (k * 5) (.int .i64 r.d.o.kind) = _ from set_off (j := 0) HLEN.out (by simp [opZ]), set_off HLEN.out (by simp [opZ]), set_off HLEN.out (by simp [opZ]), set_off HLEN.out (by simp [opZ]), set_off HLEN.out (by simp [opZ])] at h
          rw [h]
          simp [opCells, OpR.cells, opZ]
        · intro y hy
          have ha : ∀ F : Nat → Prop, (∀ c, F c → c ≠ w.heap.size) → Agree F w2 (((((w2.setCell ⟨w.heap.size, k * 5, none⟩ (.int .i64 r.d.o.kind)).setCell ⟨w.heap.size, k * 5 + 1, none⟩ (.int .i64 r.d.o.id)).setCell ⟨w.heap.size, k * 5 + 2, none⟩ (.slice A2 r.d.doc.length r.d.doc.length)).setCell ⟨w.heap.size, k * 5 + 3, none⟩ (.int .i64 r.d.o.session)).setCell ⟨w.heap.size, k * 5 + 4, none⟩ (.int .i64 r.d.o.no)) := fun F hF => Agree.set (Agree.set (Agree.set (Agree.set (Agree.set (Agree.refl _ _) hF _ _) hF _ _) hF _ _) hF _ _) hF _ _
          rcases List.mem_append.1 hy with hy | hy
          · exact ⟨(HRS.out y hy).1, ((HRS.out y hy).2.frame (Agree.of_below HBB.out)).frame (ha _ (fun c h => by have h' : w.heap.size < c := h; omega))⟩
          · obtain rfl : y = ⟨r.d, A2, r.d.doc.length⟩ := by simpa using hy
            refine ⟨Nat.le_refl _, (HR2.out.frame (ha _ (fun c h => by have h' : wr.heap.size ≤ c := h; omega))).mono (fun c h _ => ?_)⟩
            have h' : wr.heap.size ≤ c := h
            omega
      case measure => simp [intOf]; omega
    · obtain rfl : k = ds.length := by omega
      go_wp2
      go_ret
      refine ⟨HB.out, _, rfl, rs, by rw [HM.out, List.take_length], ?_, fun r hr => ⟨(HRS.out r hr).1, (HRS.out r hr).2.mono (fun b h _ => by have h' : w.heap.size < b := h; show w.heap.size ≤ b; omega)⟩⟩
      have h := HK.out
      rw [Nat.sub_self, show zeros opZ 0 = [] from rfl, List.append_nil] at h
      exact (Own.of_blk h).mono (fun b hb _ => by subst hb; exact Nat.le_refl _)
set_option maxRecDepth 100000 in
set_option maxHeartbeats 1600000 in
theorem eqOpS_any (ds : List OpD) (hl : ds.length ≤ 1000000000) (hd : ∀ d ∈ ds, d.doc.length ≤ 1000000000) (F F2 : Nat → Prop) (A A2 : Option Addr) (c c2 : Nat) (w : World) (hr : OpAt F w A ds) (hr2 : OpAt F2 w A2 ds) :
    Calls Tryz.prog 10 #[.slice A ds.length c, .slice A2 ds.length c2] w fun e w' => e = .returned (.bool true) ∧ Below w.heap.size w w' := by
  have HR := Lib.hid hr
  have HR2 := Lib.hid hr2
  have HD := Lib.hid hd
  clear hr hr2 hd
  go_enter Tryz.func10, Tryz.ntmps10
  go_wp2
  go_loopw [5] (fun i wx => ∃ k : Nat, i = .int .i64 (k : Int) ∧ k ≤ ds.length ∧ Below w.heap.size w wx) (fun i _ => ds.length - (intOf i).toNat)
  case atStart => exact ⟨0, rfl, Nat.zero_le _, Below.refl _ _⟩
  case round =>
    obtain ⟨k, rfl, hk, hbx⟩ := hrel
    have HB := Lib.hid hbx
    clear hbx
    by_cases hlt : k < ds.length
    · obtain ⟨b, o, r, rfl, hF, hbl, hx, g0, g1, g2, g3, g4, hcp, hrr⟩ := op_at (HR.out.frame (Agree.of_below HB.out)) k hlt
      obtain ⟨b2, o2, r2, rfl, hF2, hbl2, hx2, q0, q1, q2, q3, q4, hcp2, hrr2⟩ := op_at (HR2.out.frame (Agree.of_below HB.out)) k hlt
      have hrd : r.d = r2.d := by rw [hx] at hx2; injection hx2
      have hdl := HD.out r.d (List.mem_of_getElem? hx)
      rw [← hrd] at q0 q1 q2 q3 q4 hrr2
      have hc := eqOp_any r.d.o r.d.doc hdl F F2 r.adr r2.adr r.cap r2.cap wr.drew (hrr.frame ⟨Nat.le_refl _, fun _ _ _ => rfl⟩) (hrr2.frame ⟨Nat.le_refl _, fun _ _ _ => rfl⟩)
      unfold OpV.val at hc
      have HC := Lib.hid hc
      clear hx hx2 hrr hrr2 hrd hc
      have b1 : (k : Int) < (ds.length : Int) := by omega
      go_wp2
      go_still_tail 8, (by kernel_rfl)
      have hdr : Below w.heap.size w wr.drew := HB.out.drew
      have HD2 := Lib.hid hdr
      clear hdr
      change wpList _ _ _ _ _ wr.drew
      generalize wr.drew = w2 at HD2 HC ⊢
      go_wp2_with fail
      refine HC.out.mono ?_
      rintro e w3 ⟨rfl, hb3⟩
      have HB3 := Lib.hid (below_then HD2.out HD2.out.size hb3)
      clear hb3
      go_wp2
      go_roundw
      case rel => exact ⟨k+1, by go_num, by omega, HB3.out⟩
      case measure => simp [intOf]; omega
    · go_wp2
      go_ret
      exact ⟨rfl, HB.out⟩
/-- A row of operations that may be written: what is needed of it while it is written. -/
def OpMk (F : Nat → Prop) (w : World) (A : Option Addr) (rs : List OpR) : Prop :=
  (0 < rs.length → ∃ g o cs, A = some ⟨g, o, none⟩ ∧ F g ∧ w.heap[g]? = some (.cells cs 57 (0, 0)) ∧ o + rs.length * 5 ≤ cs.size ∧ ∀ j r, rs[j]? = some r → cs[o + j * 5 + 2]? = some (.slice r.adr r.d.doc.length r.cap)) ∧ ∀ r ∈ rs, WRow F w 100 (r.d.doc.length * 5) r.adr
theorem OpW.mk {F : Nat → Prop} {w : World} {A : Option Addr} {ds : List OpD} (h : OpW F w A ds) : ∃ rs : List OpR, rs.map OpR.d = ds ∧ OpMk F w A rs := by
  obtain ⟨rs, h1, h2, h3⟩ := h
  refine ⟨rs, h1, fun h0 => ?_, fun r hr => by have h := (h3 r hr).2.2; rwa [ndCells_length] at h⟩
  obtain ⟨g, o, cs, e, hF, hh, hs⟩ := h2.2 (by rw [opCells_length]; omega)
  rw [opCells_length] at hs
  refine ⟨g, o, cs, e, hF, hh, hs, fun j r hj => ?_⟩
  have hv : (opCells rs)[j * 5 + 2]? = some (.slice r.adr r.d.doc.length r.cap) := by
    rw [opCells, flat_get OpR.cells 5 (fun _ => rfl) rs j r hj 2 (by omega)]
    rfl
  have hr := h2.1
  rw [e] at hr
  have := hr.at _ _ hv
  rw [cell_of_block hh, ← Nat.add_assoc] at this
  exact this
theorem OpMk.nodes {F F' : Nat → Prop} {w w1 : World} {A : Option Addr} {rs : List OpR} (h : OpMk F w A rs) (hw : Wrote (fun T => T = 100) F' w w1) : OpMk F w1 A rs := by
  refine ⟨fun h0 => ?_, fun r hr => (h.2 r hr).wrote hw⟩
  obtain ⟨g, o, cs, e, hF, hh, hs, hc⟩ := h.1 h0
  exact ⟨g, o, cs, e, hF, hw.other hh (by decide), hs, hc⟩
theorem OpMk.cell {F : Nat → Prop} {w : World} {g o : Nat} {rs : List OpR} (h : OpMk F w (some ⟨g, o, none⟩) rs) {k m : Nat} (hk : k < rs.length) (hm : m < 5) (hm2 : m ≠ 2) (v : Value) : OpMk F (w.setCell ⟨g, o + k * 5 + m, none⟩ v) (some ⟨g, o, none⟩) rs := by
  obtain ⟨g', o', cs, e, hF, hh, hs, hc⟩ := h.1 (by omega)
  injection e with e
  injection e with e1 e2
  subst e1 e2
  refine ⟨fun _ => ⟨g, o, _, rfl, hF, block_setCell hh _ _, by simpa using hs, fun j r hj => ?_⟩, fun r hr => (h.2 r hr).wrote ((Wrote.refl KM F w).set hh (by simp [KM]) hF _ _)⟩
  rw [Array.getElem?_setIfInBounds, if_neg (by omega)]
  exact hc j r hj
set_option maxRecDepth 100000 in
set_option maxHeartbeats 1600000 in
theorem markOpS_any (rs : List OpR) (hn : rs.length ≤ 1048576) (hd : ∀ r ∈ rs, r.d.doc.length ≤ 1048576) (k c : Nat) (hk : k ≤ 1000000) (F : Nat → Prop) (A : Option Addr) (w : World) (hw : OpMk F w A rs) :
    Calls Tryz.prog 11 #[.slice A rs.length c, .int .i64 (k : Int)] w (MkSt F (k + rs.length * 4) rs.length w) := by
  have HM := Lib.hid hw
  have HD := Lib.hid hd
  clear hw hd
  go_enter Tryz.func11, Tryz.ntmps11
  go_wp2
  go_loopw [1, 5] (fun kv iv wx => ∃ i m : Nat, kv = .int .i64 (m : Int) ∧ iv = .int .i64 (i : Int) ∧ i ≤ rs.length ∧ m ≤ k + i * 5242885 ∧ Hid (OpMk F wx A rs) ∧ Hid (Wrote KM F w wx)) (fun _ i _ => rs.length - (intOf i).toNat)
  case atStart => exact ⟨0, k, rfl, rfl, Nat.zero_le _, by omega, HM.out, Wrote.refl _ _ _⟩
  case round =>
    obtain ⟨i, m, rfl, rfl, hi, hm, hinv, hwr⟩ := hrel
    have HI := Lib.hid hinv
    have HW := Lib.hid hwr
    clear hinv hwr HM
    by_cases hlt : i < rs.length
    · obtain ⟨g, o, cs, rfl, hF, hh, hs, hc⟩ := HI.out.1 (by omega)
      obtain ⟨u0, e0⟩ := some_at (cs := cs) (j := o + i * 5) (by omega)
      obtain ⟨u1, e1⟩ := some_at (cs := cs) (j := o + i * 5 + 1) (by omega)
      have hri : rs[i]? = some rs[i] := by simp [hlt]
      generalize rs[i] = r at hri
      have hmem : r ∈ rs := List.mem_of_getElem? hri
      have q0 := (cell_of_block hh _).trans e0
      have q1 := (cell_of_block hh _).trans e1
      have q2 := (cell_of_block hh _).trans (hc i r hri)
      have f0 := free_of_block hh (o + i * 5)
      have f1 := free_of_block hh (o + i * 5 + 1)
      have HI2 := Lib.hid ((show OpMk F (wr.setCell ⟨g, o + i * 5, none⟩ (.int .i64 (m : Int))) (some ⟨g, o, none⟩) rs from HI.out.cell (m := 0) hlt (by omega) (by omega) _).cell (m := 1) hlt (by omega) (by omega) (.int .i64 ((m : Int) + 1)))
      have HW2 := Lib.hid ((HW.out.set hh (by simp [KM]) hF (o + i * 5) (.int .i64 (m : Int))).set (block_setCell hh _ _) (by simp [KM]) hF (o + i * 5 + 1) (.int .i64 ((m : Int) + 1)))
      have hrd := HD.out r hmem
      have HWR := Lib.hid (HI2.out.2 r hmem)
      clear hh hc hF e0 e1 HI HW hs
      go_wp2_with fail
      generalize (wr.setCell ⟨g, o + i * 5, none⟩ (.int .i64 (m : Int))).setCell ⟨g, o + i * 5 + 1, none⟩ (.int .i64 ((m : Int) + 1)) = w1 at HI2 HW2 HWR ⊢
      refine (markNodeS_any r.d.doc.length (m + 2) r.cap (by omega) (by omega) F r.adr w1 HWR.out).mono ?_
      rintro e w2 ⟨rfl, _, hw2⟩
      have HI3 := Lib.hid (HI2.out.nodes hw2)
      have HW3 := Lib.hid (HW2.out.trans (hw2.mono (fun _ h => .inl h) (fun _ h => h)))
      clear hw2 HI2 HW2 HWR q0 q1 q2 f0 f1
      obtain ⟨g', o', cs, e, hF, hh, hs, hc⟩ := HI3.out.1 (by omega)
      injection e with e
      injection e with e1 e2
      subst e1 e2
      obtain ⟨u3, e3⟩ := some_at (cs := cs) (j := o + i * 5 + 3) (by omega)
      obtain ⟨u4, e4⟩ := some_at (cs := cs) (j := o + i * 5 + 4) (by omega)
      have q3 := (cell_of_block hh _).trans e3
      have q4 := (cell_of_block hh _).trans e4
      have f3 := free_of_block hh (o + i * 5 + 3)
      have f4 := free_of_block hh (o + i * 5 + 4)
      obtain ⟨z, hz⟩ : ∃ z, z = m + 2 + 5 * r.d.doc.length := ⟨_, rfl⟩
      have hzb : z ≤ m + 5242882 := by omega
      rw [← hz]
      have HI4 := Lib.hid ((HI3.out.cell (m := 3) hlt (by omega) (by omega) (.int .i64 (z : Int))).cell (m := 4) hlt (by omega) (by omega) (.int .i64 ((z : Int) + 1)))
      have HW4 := Lib.hid ((HW3.out.set hh (by simp [KM]) hF (o + i * 5 + 3) (.int .i64 (z : Int))).set (block_setCell hh _ _) (by simp [KM]) hF (o + i * 5 + 4) (.int .i64 ((z : Int) + 1)))
      clear hh hc hF e3 e4 HI3 HW3 hs hz
      go_wp2
      go_roundw
      case rel => exact ⟨i + 1, z + 2, by go_num, by go_num, by omega, by omega, HI4.out, HW4.out⟩
      case measure => simp [intOf]; omega
    · go_wp2
      go_ret
      obtain rfl : i = rs.length := by omega
      exact ⟨m, rfl, by omega, HW.out⟩
end Go.Proofs.YtemcijhpmpdebaaGreatDoor
