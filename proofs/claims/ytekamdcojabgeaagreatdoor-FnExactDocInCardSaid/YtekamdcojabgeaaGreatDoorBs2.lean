/- Bases as the laws handle them: stored documents, sessions; what is read, what stays; sizes. Bases as the laws handle them: copies. -/
import Derived.Test.YtekamdcojabgeaaGreatDoorOp1
namespace Go.Proofs.YtekamdcojabgeaaGreatDoor
open Go.RowKit
structure StV where
  id : Int
  doc : List Nd
structure StR where
  d : StV
  adr : Option Addr
  cap : Nat
def StR.cells (r : StR) : List Value := [.int .i64 r.d.id, .slice r.adr r.d.doc.length r.cap]
structure SsV where
  id : Int
  no : Int
  fine : Bool
def SsV.cells (s : SsV) : List Value := [.int .i64 s.id, .int .i64 s.no, .bool s.fine]
structure BsV where
  applied : Int
  docs : List StV
  sess : List SsV
def ssCells (l : List SsV) : List Value := l.flatMap SsV.cells
def stCells (l : List StR) : List Value := l.flatMap StR.cells
/-- A row of stored documents, each with its nodes. -/
def StAt (F : Nat → Prop) (w : World) (A : Option Addr) (ds : List StV) : Prop :=
  ∃ rs : List StR, rs.map StR.d = ds ∧ Rds F w A (stCells rs) ∧ ∀ r ∈ rs, r.d.doc.length ≤ r.cap ∧ Rds F w r.adr (ndCells r.d.doc)
theorem StAt.frame {F : Nat → Prop} {w w1 : World} {A : Option Addr} {ds : List StV} (h : StAt F w A ds) (hb : Agree F w w1) : StAt F w1 A ds := by
  obtain ⟨rs, h1, h2, h3⟩ := h
  exact ⟨rs, h1, h2.frame hb, fun r hr => ⟨(h3 r hr).1, (h3 r hr).2.frame hb⟩⟩
theorem StAt.mono {F G : Nat → Prop} {w : World} {A : Option Addr} {ds : List StV} (h : StAt F w A ds) (hG : ∀ b, F b → b < w.heap.size → G b) : StAt G w A ds := by
  obtain ⟨rs, h1, h2, h3⟩ := h
  exact ⟨rs, h1, h2.mono hG, fun r hr => ⟨(h3 r hr).1, (h3 r hr).2.mono hG⟩⟩
/-- A row of stored documents of memory of its own. -/
def StW (F : Nat → Prop) (w : World) (A : Option Addr) (ds : List StV) : Prop :=
  ∃ rs : List StR, rs.map StR.d = ds ∧ Own F w 82 A (stCells rs) ∧ ∀ r ∈ rs, r.d.doc.length ≤ r.cap ∧ Own F w 111 r.adr (ndCells r.d.doc)
theorem StW.frame {F : Nat → Prop} {w w1 : World} {A : Option Addr} {ds : List StV} (h : StW F w A ds) (hb : Agree F w w1) : StW F w1 A ds := by
  obtain ⟨rs, h1, h2, h3⟩ := h
  exact ⟨rs, h1, h2.frame hb, fun r hr => ⟨(h3 r hr).1, (h3 r hr).2.frame hb⟩⟩
theorem StW.mono {F G : Nat → Prop} {w : World} {A : Option Addr} {ds : List StV} (h : StW F w A ds) (hG : ∀ b, F b → b < w.heap.size → G b) : StW G w A ds := by
  obtain ⟨rs, h1, h2, h3⟩ := h
  exact ⟨rs, h1, h2.mono hG, fun r hr => ⟨(h3 r hr).1, (h3 r hr).2.mono hG⟩⟩
theorem StW.at {F : Nat → Prop} {w : World} {A : Option Addr} {ds : List StV} (h : StW F w A ds) : StAt F w A ds := by
  obtain ⟨rs, h1, h2, h3⟩ := h
  exact ⟨rs, h1, h2.1, fun r hr => ⟨(h3 r hr).1, (h3 r hr).2.1⟩⟩
theorem row_at {α : Type} {cells : α → List Value} {sz : Nat} (hsz : ∀ x, (cells x).length = sz) (h0 : 0 < sz) {F : Nat → Prop} {w : World} {A : Option Addr} {l : List α} (hr : Rds F w A (l.flatMap cells)) (k : Nat) (hk : k < l.length) :
    ∃ b o x, A = some ⟨b, o, none⟩ ∧ F b ∧ b < w.heap.size ∧ l[k]? = some x ∧ ∀ j v, (cells x)[j]? = some v → w.cell? ⟨b, o + k * sz + j, none⟩ = some v := by
  have hx : l[k]? = some l[k] := by simp [hk]
  have hlen := flat_len cells sz hsz l
  have hpos : 0 < l.length * sz := Nat.mul_pos (by omega) h0
  obtain ⟨b, o, e, hF, hl, hc⟩ := hr (by intro h; rw [h] at hlen; simp at hlen; omega)
  refine ⟨b, o, l[k], e, hF, hl, hx, fun j v hv => ?_⟩
  have hj : j < sz := by rw [← hsz l[k]]; exact (List.getElem?_eq_some_iff.1 hv).1
  have := hc (k * sz + j) v (by rw [flat_get cells sz hsz l k _ hx j hj]; exact hv)
  rwa [← Nat.add_assoc] at this
theorem st_at {F : Nat → Prop} {w : World} {A : Option Addr} {ds : List StV} (h : StAt F w A ds) (k : Nat) (hk : k < ds.length) :
    ∃ (b o : Nat) (r : StR), A = some ⟨b, o, none⟩ ∧ F b ∧ b < w.heap.size ∧ ds[k]? = some r.d ∧ w.cell? ⟨b, o + k * 2, none⟩ = some (.int .i64 r.d.id) ∧ w.cell? ⟨b, o + k * 2 + 1, none⟩ = some (.slice r.adr r.d.doc.length r.cap) ∧ r.d.doc.length ≤ r.cap ∧ Rds F w r.adr (ndCells r.d.doc) := by
  obtain ⟨rs, rfl, h2, h3⟩ := h
  obtain ⟨b, o, r, e, hF, hl, hx, hc⟩ := row_at (cells := StR.cells) (sz := 2) (fun _ => rfl) (by omega) h2 k (by simpa using hk)
  obtain ⟨h4, h5⟩ := h3 r (List.mem_of_getElem? hx)
  exact ⟨b, o, r, e, hF, hl, by rw [List.getElem?_map, hx]; rfl, hc 0 _ rfl, hc 1 _ rfl, h4, h5⟩
theorem ss_at {F : Nat → Prop} {w : World} {A : Option Addr} {l : List SsV} (h : Rds F w A (ssCells l)) (k : Nat) (hk : k < l.length) :
    ∃ (b o : Nat) (s : SsV), A = some ⟨b, o, none⟩ ∧ F b ∧ b < w.heap.size ∧ l[k]? = some s ∧ w.cell? ⟨b, o + k * 3, none⟩ = some (.int .i64 s.id) ∧ w.cell? ⟨b, o + k * 3 + 1, none⟩ = some (.int .i64 s.no) ∧ w.cell? ⟨b, o + k * 3 + 2, none⟩ = some (.bool s.fine) := by
  obtain ⟨b, o, r, e, hF, hl, hx, hc⟩ := row_at (cells := SsV.cells) (sz := 3) (fun _ => rfl) (by omega) h k hk
  exact ⟨b, o, r, e, hF, hl, hx, hc 0 _ rfl, hc 1 _ rfl, hc 2 _ rfl⟩
def BsV.val (b : BsV) (A1 : Option Addr) (c1 : Nat) (A2 : Option Addr) (c2 : Nat) : Value := .agg #[.int .i64 b.applied, .slice A1 b.docs.length c1, .slice A2 b.sess.length c2]
/-- All that a base holds is of a size that can be read. -/
def BsV.fits (m : Nat) (b : BsV) : Prop := b.docs.length ≤ m ∧ b.sess.length ≤ m ∧ ∀ d ∈ b.docs, d.doc.length ≤ m ∧ ∀ x ∈ d.doc, x.small m
def StSz (ds : List StV) (n : Nat) (w : World) (e : Ending) (w' : World) : Prop :=
  Below w.heap.size w w' ∧ ∃ r : Int, e = .returned (.int .i64 r) ∧ (r = -1 ∨ ∃ m : Nat, r = m ∧ m ≤ n ∧ ds.length ≤ n ∧ ∀ d ∈ ds, d.doc.length ≤ n ∧ ∀ x ∈ d.doc, x.small 1048576)
set_option maxHeartbeats 800000 in
theorem szStored_any (id : Int) (l : List Nd) (hl : l.length ≤ 9223372036854775807) (hsz : ∀ x ∈ l, x.small 9223372036854775807) (F : Nat → Prop) (A : Option Addr) (c : Nat) (n : Nat) (hn : n ≤ 1048576) (w : World) (hr : Rds F w A (ndCells l)) :
    Calls Tryz.prog 80 #[.agg #[.int .i64 id, .slice A l.length c], .int .i64 (n : Int)] w (SzPost l n w) := by
  have hb0 : ∀ o, Below w.heap.size w (w.alloc o) := fun o => (Below.refl _ _).alloc (Nat.le_refl _) _
  have HC := fun w1 (hb : Below w.heap.size w w1) => szValue_any l hl hsz F A c n hn w1 (hr.below hb)
  have H := Lib.hid HC
  clear HC hr hsz
  go_enter Tryz.func80, Tryz.ntmps80
  go_wp2_with fail
  refine (H.out _ (hb0 _)).mono ?_
  rintro e w2 ⟨hb2, r, rfl, hr⟩
  have HB2 := Lib.hid (below_then (hb0 _) (hb0 _).size hb2)
  clear hb2
  rcases hr with rfl | ⟨m', rfl, hm', hs⟩
  · go_wp2
    go_ret
    exact ⟨HB2.out, _, rfl, .inl rfl⟩
  · have HSm := Lib.hid hs
    clear hs
    go_wp2
    go_ret
    exact ⟨HB2.out, _, rfl, .inr ⟨m', rfl, hm', HSm.out⟩⟩
set_option maxRecDepth 100000 in
set_option maxHeartbeats 1600000 in
theorem szStoredS_any (ds : List StV) (hl : ds.length ≤ 9223372036854775807) (hsz : ∀ d ∈ ds, d.doc.length ≤ 9223372036854775807 ∧ ∀ x ∈ d.doc, x.small 9223372036854775807) (F : Nat → Prop) (A : Option Addr) (c : Nat) (n : Nat) (hn : n ≤ 1048576) (w : World) (hr : StAt F w A ds) :
    Calls Tryz.prog 47 #[.slice A ds.length c, .int .i64 (n : Int)] w (StSz ds n w) := by
  have e1 : wrap64 ((n : Int) - (ds.length : Int)) = (n : Int) - (ds.length : Int) := by unfold wrap64; omega
  by_cases c1 : ds.length ≤ n
  · have d1 : decide ((n : Int) - (ds.length : Int) < 0) = false := by simp; omega
    have HR := Lib.hid hr
    have HS := Lib.hid hsz
    clear hr hsz
    go_enter Tryz.func47, Tryz.ntmps47
    go_wp2
    go_loopw [1, 5] (fun v i wx => ∃ k m : Nat, v = .int .i64 (m : Int) ∧ i = .int .i64 (k : Int) ∧ k ≤ ds.length ∧ m ≤ n ∧ (∀ d ∈ ds.take k, d.doc.length ≤ n ∧ ∀ x ∈ d.doc, x.small 1048576) ∧ Below w.heap.size w wx) (fun _ i _ => ds.length - (intOf i).toNat)
    case atStart => exact ⟨0, n - ds.length, by go_num, rfl, Nat.zero_le _, by omega, fun x h => by simp at h, Below.refl _ _⟩
    case round =>
      obtain ⟨k, m, rfl, rfl, hk, hm, hall, hbx⟩ := hrel
      have HB := Lib.hid hbx
      have HA := Lib.hid hall
      clear hbx hall
      by_cases hlt : k < ds.length
      · obtain ⟨b, o, r, rfl, hF, hbl, hx, g0, g1, hcp, hrr⟩ := st_at (HR.out.frame (Agree.of_below HB.out)) k hlt
        have hmem : r.d ∈ ds := List.mem_of_getElem? hx
        have HX := Lib.hid hx
        have HC := Lib.hid (szStored_any r.d.id r.d.doc (HS.out r.d hmem).1 (HS.out r.d hmem).2 F r.adr r.cap m (by omega) wr hrr)
        clear hx hrr
        go_wp2_with fail
        refine HC.out.mono ?_
        rintro e w2 ⟨hb2, q, rfl, hq⟩
        have HB2 := Lib.hid (below_then HB.out HB.out.size hb2)
        rcases hq with rfl | ⟨m', rfl, hm', hs⟩
        · go_wp2
          go_ret
          exact ⟨HB2.out, _, rfl, .inl rfl⟩
        · have HSm := Lib.hid hs
          clear hs hb2
          go_wp2
          go_roundw
          case rel =>
            refine ⟨k+1, m', rfl, by go_num, by omega, by omega, fun y hy => ?_, HB2.out⟩
            rw [List.take_add_one, HX.out] at hy
            rcases List.mem_append.1 hy with hy | hy
            · exact HA.out y hy
            · obtain rfl : y = r.d := by simpa using hy
              have := HSm.out.1
              exact ⟨by omega, HSm.out.2⟩
          case measure => simp [intOf]; omega
      · go_wp2
        go_ret
        refine ⟨HB.out, _, rfl, .inr ⟨m, rfl, hm, c1, fun y hy => HA.out y ?_⟩⟩
        rw [List.take_of_length_le (by omega)]; exact hy
  · have d1 : decide ((n : Int) - (ds.length : Int) < 0) = true := by simp; omega
    go_enter Tryz.func47, Tryz.ntmps47
    go_wp2
    go_ret
    exact ⟨Below.refl _ _, _, rfl, .inl rfl⟩
theorem szSessionS_any (l : List SsV) (hl : l.length ≤ 9223372036854775807) (A : Option Addr) (c : Nat) (n : Nat) (hn : n ≤ 1048576) (w : World) :
    Calls Tryz.prog 48 #[.slice A l.length c, .int .i64 (n : Int)] w fun e w' => Below w.heap.size w w' ∧ ∃ r : Int, e = .returned (.int .i64 r) ∧ (r = -1 ∨ ∃ m : Nat, r = m ∧ m ≤ n ∧ l.length ≤ n) := by
  have e1 : wrap64 ((n : Int) - (l.length : Int)) = (n : Int) - (l.length : Int) := by unfold wrap64; omega
  by_cases c1 : l.length ≤ n
  · have d1 : decide ((n : Int) - (l.length : Int) < 0) = false := by simp; omega
    go_enter Tryz.func48, Tryz.ntmps48
    go_wp2
    go_ret
    exact ⟨Below.refl _ _, _, rfl, .inr ⟨n - l.length, by omega, by omega, c1⟩⟩
  · have d1 : decide ((n : Int) - (l.length : Int) < 0) = true := by simp; omega
    go_enter Tryz.func48, Tryz.ntmps48
    go_wp2
    go_ret
    exact ⟨Below.refl _ _, _, rfl, .inl rfl⟩
def BsSz (b : BsV) (w : World) (e : Ending) (w' : World) : Prop :=
  Below w.heap.size w w' ∧ ∃ r : Int, e = .returned (.int .i64 r) ∧ (r = -1 ∨ ∃ m : Nat, r = m ∧ b.fits 1048576)
set_option maxHeartbeats 1600000 in
theorem szBase_any (b : BsV) (hb : b.fits 9223372036854775807) (F : Nat → Prop) (A1 A2 : Option Addr) (c1 c2 : Nat) (w : World) (hr : StAt F w A1 b.docs) :
    Calls Tryz.prog 16 #[b.val A1 c1 A2 c2, .int .i64 1048576] w (BsSz b w) := by
  have hb0 : Below w.heap.size w (w.alloc (.cells #[.int .i64 b.applied, .slice A1 b.docs.length c1, .slice A2 b.sess.length c2] 42 (0, 0))) := (Below.refl _ _).alloc (Nat.le_refl _) _
  have k0 := heap_alloc_new w (.cells #[.int .i64 b.applied, .slice A1 b.docs.length c1, .slice A2 b.sess.length c2] 42 (0, 0))
  obtain ⟨f1, f2, f3⟩ := hb
  have H := Lib.hid (fun w1 (hb : Below w.heap.size w w1) => szStoredS_any b.docs f1 f3 F A1 c1 1048576 (by omega) w1 (hr.frame (Agree.of_below hb)))
  have HB0 := Lib.hid hb0
  clear hr f3 hb0
  unfold BsV.val
  go_enter Tryz.func16, Tryz.ntmps16
  go_wp2_with fail
  generalize w.alloc (.cells #[.int .i64 b.applied, .slice A1 b.docs.length c1, .slice A2 b.sess.length c2] 42 (0, 0)) = w1 at HB0 k0 ⊢
  refine (H.out _ HB0.out).mono ?_
  rintro e w2 ⟨hb2, r, rfl, hr⟩
  have HB2 := Lib.hid (below_then HB0.out HB0.out.size hb2)
  have x2 := cell_of_block (block_below k0 hb2) 2
  simp at x2
  clear hb2 k0
  rcases hr with rfl | ⟨m', rfl, hm', hd, hs⟩
  · go_wp2
    go_ret
    exact ⟨HB2.out, _, rfl, .inl rfl⟩
  · have HSm := Lib.hid hs
    have HC := Lib.hid (szSessionS_any b.sess f2 A2 c2 m' (by omega) w2)
    clear hs
    go_wp2_with fail
    refine HC.out.mono ?_
    rintro e w3 ⟨hb3, r, rfl, hr⟩
    have HB3 := Lib.hid (below_then HB2.out HB2.out.size hb3)
    clear hb3
    rcases hr with rfl | ⟨m2, rfl, hm2, hd2⟩
    · go_wp2
      go_ret
      exact ⟨HB3.out, _, rfl, .inl rfl⟩
    · go_wp2
      go_ret
      exact ⟨HB3.out, _, rfl, .inr ⟨m2, rfl, hd, by omega, fun d hd' => HSm.out d hd'⟩⟩
end Go.Proofs.YtekamdcojabgeaaGreatDoor
namespace Go.Proofs.YtekamdcojabgeaaGreatDoor
open Go.RowKit
theorem set_mid (a b : List Value) (x v : Value) (n : Nat) (h : a.length = n) : (a ++ x :: b).set n v = a ++ v :: b := by
  subst h
  simp
theorem blk_row {w : World} {b : Nat} {L : List Value} {T : TypeId} (h : w.heap[b]? = some (.cells L.toArray T (0, 0))) (j : Nat) (v : Value) : (w.setCell ⟨b, j, none⟩ v).heap[b]? = some (.cells (L.set j v).toArray T (0, 0)) := by
  rw [block_setCell h]; simp
theorem row_cell {w : World} {b : Nat} {L : List Value} {T : TypeId} (h : w.heap[b]? = some (.cells L.toArray T (0, 0))) (j : Nat) (v : Value) (hj : L[j]? = some v) : w.cell? ⟨b, j, none⟩ = some v := by
  rw [cell_of_block h]; simpa using hj
theorem get_mid (a b : List Value) (x : Value) (n : Nat) (h : a.length = n) : (a ++ x :: b)[n]? = some x := by
  subst h
  simp
/-- A row of m zeros behind what is filled. -/
def zeros (z : List Value) (m : Nat) : List Value := (List.replicate m z).flatten
theorem zeros_succ (z : List Value) (m : Nat) : zeros z (m + 1) = z ++ zeros z m := by simp [zeros, List.replicate_succ]
theorem made_zeros (cs : List Value) (n : Nat) : madeCells cs.toArray (n * cs.length) = (zeros cs n).toArray := madeCells_rep cs n
theorem rds_blk {w : World} {g : Nat} {L : List Value} {T : TypeId} (h : w.heap[g]? = some (.cells L.toArray T (0, 0))) : Rds (fun b => b = g) w (some ⟨g, 0, none⟩) L := fun _ =>
  ⟨g, 0, rfl, rfl, lt_of_block h, fun j v hj => by rw [Nat.zero_add]; exact row_cell h j v hj⟩
theorem infoStored : (Tryz.prog.info? 82).map (fun i => (i.zero, i.size, i.bytes)) = some (some (.agg #[.int .i64 0, .slice none 0 0]), 2, 32) := by kernel_rfl
theorem infoSession : (Tryz.prog.info? 84).map (fun i => (i.zero, i.size, i.bytes)) = some (some (.agg #[.int .i64 0, .int .i64 0, .bool false]), 3, 24) := by kernel_rfl
theorem infoBase : (Tryz.prog.info? 48).map (fun i => (i.zero, i.size, i.bytes)) = some (some (.agg #[.int .i64 0, .slice none 0 0, .slice none 0 0]), 3, 56) := by kernel_rfl
theorem cells2 {w : World} {b : Nat} {v0 v1 : Value} {T : TypeId} (h : w.heap[b]? = some (.cells #[v0, v1] T (0, 0))) : w.cell? ⟨b, 0, none⟩ = some v0 ∧ w.cell? ⟨b, 1, none⟩ = some v1 := by
  simp [cell_of_block h]
theorem cells3 {w : World} {b : Nat} {v0 v1 v2 : Value} {T : TypeId} (h : w.heap[b]? = some (.cells #[v0, v1, v2] T (0, 0))) : w.cell? ⟨b, 0, none⟩ = some v0 ∧ w.cell? ⟨b, 1, none⟩ = some v1 ∧ w.cell? ⟨b, 2, none⟩ = some v2 := by
  simp [cell_of_block h]
def ToStPostW (id : Int) (l : List Nd) (w : World) (e : Ending) (w' : World) : Prop :=
  Below w.heap.size w w' ∧ ∃ A, e = .returned (.agg #[.int .i64 id, .slice A l.length l.length]) ∧ Own (fun b => w.heap.size ≤ b) w' 111 A (ndCells l)
def ToStPost (id : Int) (l : List Nd) (w : World) (e : Ending) (w' : World) : Prop :=
  Below w.heap.size w w' ∧ ∃ A, e = .returned (.agg #[.int .i64 id, .slice A l.length l.length]) ∧ Rds (fun b => w.heap.size ≤ b) w' A (ndCells l)
set_option maxHeartbeats 1600000 in
theorem toStored_w (id : Int) (l : List Nd) (hl : l.length ≤ 1000000000) (F : Nat → Prop) (A : Option Addr) (c : Nat) (w : World) (hr : Rds F w A (ndCells l)) :
    Calls Tryz.prog 81 #[.agg #[.int .i64 id, .slice A l.length c]] w (ToStPostW id l w) := by
  have HR := Lib.hid hr
  clear hr
  go_enter Tryz.func81, Tryz.ntmps81
  go_wp2_with fail
  obtain ⟨w1, hw⟩ : ∃ w1, w1 = ((w.alloc (.cells #[.int .i64 id, .slice A l.length c] 122)).alloc (.cells #[.int .i64 0, .slice none 0 0] 82)).alloc (.cells #[.int .i64 id, .slice none 0 0] 82) := ⟨_, rfl⟩
  have hb1 : Below w.heap.size w w1 := by rw [hw]; exact (((Below.refl _ _).alloc (Nat.le_refl _) _).alloc (by simp) _).alloc (by simp <;> omega) _
  have k1 : w1.heap[w.heap.size + 1]? = some (.cells #[.int .i64 0, .slice none 0 0] 82 (0, 0)) := by rw [hw]; (repeat (first | with_reducible assumption | (with_reducible refine blk_new _ ?_; (first | rfl | (simp; done) | (simp; omega))) | with_reducible apply block_setCell | (with_reducible refine blk_skip _ _ ?_ ?_; rotate_left; (first | (simp; done) | (simp; omega))) | with_reducible refine blk_old ?_))
  have k2 : w1.heap[w.heap.size + 1 + 1]? = some (.cells #[.int .i64 id, .slice none 0 0] 82 (0, 0)) := by rw [hw]; (repeat (first | with_reducible assumption | (with_reducible refine blk_new _ ?_; (first | rfl | (simp; done) | (simp; omega))) | with_reducible apply block_setCell | (with_reducible refine blk_skip _ _ ?_ ?_; rotate_left; (first | (simp; done) | (simp; omega))) | with_reducible refine blk_old ?_))
  have hs : w1.heap.size = w.heap.size + 3 := by rw [hw]; simp
  rw [← hw]
  clear hw
  refine (toValue_w l hl F A c _ (HR.out.below hb1)).mono ?_
  rintro e w2 ⟨hb2, A2, rfl, hr2⟩
  have K1 := block_below k1 hb2
  have K2 := block_below k2 hb2
  obtain ⟨b0, b1⟩ := cells2 K1
  obtain ⟨c0, c1⟩ := cells2 K2
  obtain ⟨f0, f1, _⟩ := free5 K1
  obtain ⟨g0, g1, _⟩ := free5 K2
  have HK1 := Lib.hid K1
  have HB2 := Lib.hid (below_then hb1 hb1.size hb2)
  have HR2 := Lib.hid hr2
  have hs2 := hb2.size
  have hne : w.heap.size + 1 ≠ w.heap.size + 1 + 1 := by omega
  clear K1 K2 k1 k2 hb1 hb2 hr2
  go_wp2
  refine bodyPost_ret (results_cell_row rfl _ _ (w.heap.size + 1) _ _ _ _ rfl (block_setCell (block_setCell ((Below.heap_setCell _ _ _ _ hne).trans HK1.out) _ _) _ _) Tryz.underlying82 rfl ((info_size infoStored).trans (by simp))) rfl ?_
  refine ⟨?_, A2, rfl, ?_⟩
  · have h := HB2.out
    have e1 : w.heap.size ≤ w.heap.size + 1 := by omega
    have e2 : w.heap.size ≤ w.heap.size + 1 + 1 := by omega
    exact ((h.setCell e2 _).setCell e1 _).setCell e1 _
  · have hr3 := HR2.out
    have n1 : ∀ c, w1.heap.size ≤ c → c ≠ w.heap.size + 1 := fun c h => by omega
    have n2 : ∀ c, w1.heap.size ≤ c → c ≠ w.heap.size + 1 + 1 := fun c h => by omega
    refine Own.mono (F := fun b => w1.heap.size ≤ b) (Own.frame hr3 (Agree.set (Agree.set (Agree.set (Agree.refl _ _) n2 _ _) n1 _ _) n1 _ _)) (fun b h _ => ?_)
    have h' : w1.heap.size ≤ b := h
    omega
theorem toStored_any (id : Int) (l : List Nd) (hl : l.length ≤ 1000000000) (F : Nat → Prop) (A : Option Addr) (c : Nat) (w : World) (hr : Rds F w A (ndCells l)) :
    Calls Tryz.prog 81 #[.agg #[.int .i64 id, .slice A l.length c]] w (ToStPost id l w) :=
  (toStored_w id l hl F A c w hr).mono fun _ _ ⟨h1, A', h2, h3⟩ => ⟨h1, A', h2, h3.1⟩
def StFreshW (ds : List StV) (w : World) (e : Ending) (w' : World) : Prop :=
  Below w.heap.size w w' ∧ ∃ A, e = .returned (.slice A ds.length ds.length) ∧ StW (fun b => w.heap.size ≤ b) w' A ds
def StFresh (ds : List StV) (w : World) (e : Ending) (w' : World) : Prop :=
  Below w.heap.size w w' ∧ ∃ A, e = .returned (.slice A ds.length ds.length) ∧ StAt (fun b => w.heap.size ≤ b) w' A ds
theorem stCells_length (l : List StR) : (stCells l).length = l.length * 2 := flat_len StR.cells 2 (fun _ => rfl) l
theorem ssCells_length (l : List SsV) : (ssCells l).length = l.length * 3 := flat_len SsV.cells 3 (fun _ => rfl) l
set_option maxRecDepth 100000 in
set_option maxHeartbeats 1600000 in
theorem toStoredS_w (ds : List StV) (hl : ds.length ≤ 1000000000) (hd : ∀ d ∈ ds, d.doc.length ≤ 1000000000) (F : Nat → Prop) (A : Option Addr) (c : Nat) (w : World) (hr : StAt F w A ds) :
    Calls Tryz.prog 49 #[.slice A ds.length c] w (StFreshW ds w) := by
  have hmk := make_rowN (P := Tryz.prog) 45 82 _ 2 32 Tryz.underlying45 infoStored ds.length (by omega) (by omega)
  have hz : madeCells (Value.cells (.agg #[.int .i64 0, .slice none 0 0])) (ds.length * 2) = (zeros [.int .i64 0, .slice none 0 0] ds.length).toArray := made_zeros [.int .i64 0, .slice none 0 0] ds.length
  rw [hz] at hmk
  have HR := Lib.hid hr
  have HD := Lib.hid hd
  clear hr hz hd
  go_enter Tryz.func49, Tryz.ntmps49
  go_wp2
  go_loopw [4] (fun i wx => ∃ (k : Nat) (rs : List StR), i = .int .i64 (k : Int) ∧ k ≤ ds.length ∧ Below w.heap.size w wx ∧ rs.length = k ∧ rs.map StR.d = ds.take k ∧ wx.heap[w.heap.size]? = some (.cells (stCells rs ++ zeros [.int .i64 0, .slice none 0 0] (ds.length - k)).toArray 82 (0, 0)) ∧ ∀ r ∈ rs, r.d.doc.length ≤ r.cap ∧ Own (fun b => w.heap.size < b) wx 111 r.adr (ndCells r.d.doc)) (fun i _ => ds.length - (intOf i).toNat)
  case atStart => exact ⟨0, [], rfl, Nat.zero_le _, (Below.refl _ _).alloc (Nat.le_refl _) _, rfl, by simp, by simpa [stCells] using heap_alloc_new w _, fun r h => by simp at h⟩
  case round =>
    obtain ⟨k, rs, rfl, hk, hbx, hrl, hmap, hblk, hrs⟩ := hrel
    clear hmk
    have HB := Lib.hid hbx
    have HK := Lib.hid hblk
    have HM := Lib.hid hmap
    have HRL := Lib.hid hrl
    have HRS := Lib.hid hrs
    have hgl := lt_of_block hblk
    clear hbx hblk hmap hrl hrs
    by_cases hlt : k < ds.length
    · obtain ⟨b, o, r, rfl, hF, hbl, hx, g0, g1, hcp, hrr⟩ := st_at (HR.out.frame (Agree.of_below HB.out)) k hlt
      have HX := Lib.hid hx
      have HC := Lib.hid (toStored_w r.d.id r.d.doc (HD.out r.d (List.mem_of_getElem? hx)) F r.adr r.cap wr hrr)
      clear hx hrr
      go_wp2_with fail
      refine HC.out.mono ?_
      rintro e w2 ⟨hb2, A2, rfl, hr2⟩
      have hk2 := block_below HK.out hb2
      rw [show ds.length - k = (ds.length - (k + 1)) + 1 by omega, zeros_succ] at hk2
      have hlen : (stCells rs).length = k * 2 := by rw [stCells_length, HRL.out]
      have q0 := row_cell hk2 (k * 2) (.int .i64 0) (get_mid _ _ _ _ hlen)
      have q1 := row_cell hk2 (k * 2 + 1) (.slice none 0 0) (by
        rw [show stCells rs ++ ([.int .i64 0, .slice none 0 0] ++ zeros [.int .i64 0, .slice none 0 0] (ds.length - (k + 1))) = (stCells rs ++ [.int .i64 0]) ++ .slice none 0 0 :: zeros [.int .i64 0, .slice none 0 0] (ds.length - (k + 1)) by simp]
        exact get_mid _ _ _ _ (by simp [hlen]))
      have f0 := free_of_block hk2 (k * 2)
      have f1 := free_of_block hk2 (k * 2 + 1)
      have HK2 := Lib.hid hk2
      have HLEN := Lib.hid hlen
      have HBB := Lib.hid hb2
      have HB2 := Lib.hid (below_then HB.out HB.out.size hb2)
      have HR2 := Lib.hid hr2
      clear hk2 hlen hb2 hr2 g0 g1
      go_wp2
      go_roundw
      case rel =>
        refine ⟨k + 1, rs ++ [⟨r.d, A2, r.d.doc.length⟩], by go_num, by omega, (HB2.out.setCell (by show w.heap.size ≤ w.heap.size; omega) _).setCell (by show w.heap.size ≤ w.heap.size; omega) _, by rw [List.length_append, HRL.out]; rfl, by rw [List.map_append, HM.out, List.take_add_one, HX.out]; rfl, ?_, ?_⟩
        · have h := blk_row (blk_row HK2.out (k * 2) (.int .i64 r.d.id)) (k * 2 + 1) (.slice A2 r.d.doc.length r.d.doc.length)
          rw [show stCells rs ++ ([.int .i64 0, .slice none 0 0] ++ zeros [.int .i64 0, .slice none 0 0] (ds.length - (k + 1))) = stCells rs ++ .int .i64 0 :: .slice none 0 0 :: zeros [.int .i64 0, .slice none 0 0] (ds.length - (k + 1)) by simp, set_mid _ _ _ _ _ HLEN.out,
            show stCells rs ++ .int .i64 r.d.id :: .slice none 0 0 :: zeros [.int .i64 0, .slice none 0 0] (ds.length - (k + 1)) = (stCells rs ++ [.int .i64 r.d.id]) ++ .slice none 0 0 :: zeros [.int .i64 0, .slice none 0 0] (ds.length - (k + 1)) by simp, set_mid _ _ _ _ _ (by simp [HLEN.out])] at h
          rw [h]
          simp [stCells, StR.cells]
        · intro y hy
          have ha : ∀ F : Nat → Prop, (∀ c, F c → c ≠ w.heap.size) → Agree F w2 ((w2.setCell ⟨w.heap.size, k * 2, none⟩ (.int .i64 r.d.id)).setCell ⟨w.heap.size, k * 2 + 1, none⟩ (.slice A2 r.d.doc.length r.d.doc.length)) := fun F hF => Agree.set (Agree.set (Agree.refl _ _) hF _ _) hF _ _
          rcases List.mem_append.1 hy with hy | hy
          · exact ⟨(HRS.out y hy).1, ((HRS.out y hy).2.frame (Agree.of_below HBB.out)).frame (ha _ (fun c h => by have h' : w.heap.size < c := h; omega))⟩
          · obtain rfl : y = ⟨r.d, A2, r.d.doc.length⟩ := by simpa using hy
            refine ⟨Nat.le_refl _, (HR2.out.frame (ha _ (fun c h => by have h' : wr.heap.size ≤ c := h; omega))).mono (fun c h _ => ?_)⟩
            have h' : wr.heap.size ≤ c := h
            omega
      case measure => simp [intOf]; omega
    · obtain rfl : k = ds.length := by omega
      go_wp2
      go_ret
      refine ⟨HB.out, _, rfl, rs, by rw [HM.out, List.take_length], ?_, fun r hr => ⟨(HRS.out r hr).1, (HRS.out r hr).2.mono (fun b h _ => by have h' : w.heap.size < b := h; show w.heap.size ≤ b; omega)⟩⟩
      have h := HK.out
      rw [Nat.sub_self, show zeros [.int .i64 0, .slice none 0 0] 0 = [] from rfl, List.append_nil] at h
      exact (Own.of_blk h).mono (fun b hb _ => by subst hb; exact Nat.le_refl _)
theorem toStoredS_any (ds : List StV) (hl : ds.length ≤ 1000000000) (hd : ∀ d ∈ ds, d.doc.length ≤ 1000000000) (F : Nat → Prop) (A : Option Addr) (c : Nat) (w : World) (hr : StAt F w A ds) :
    Calls Tryz.prog 49 #[.slice A ds.length c] w (StFresh ds w) :=
  (toStoredS_w ds hl hd F A c w hr).mono fun _ _ ⟨h1, A', h2, h3⟩ => ⟨h1, A', h2, h3.at⟩
set_option maxHeartbeats 800000 in
theorem toSession_any (s : SsV) (w : World) :
    Calls Tryz.prog 82 #[.agg #[.int .i64 s.id, .int .i64 s.no, .bool s.fine]] w fun e w' => e = .returned (.agg #[.int .i64 s.id, .int .i64 s.no, .bool s.fine]) ∧ Below w.heap.size w w' := by
  go_enter Tryz.func82, Tryz.ntmps82
  go_wp2
  refine bodyPost_ret (results_cell_row rfl _ _ (w.heap.size + 1) _ _ _ _ rfl (by (repeat (first | with_reducible assumption | (with_reducible refine blk_new _ ?_; (first | rfl | (simp; done) | (simp; omega))) | with_reducible apply block_setCell | (with_reducible refine blk_skip _ _ ?_ ?_; rotate_left; (first | (simp; done) | (simp; omega))) | with_reducible refine blk_old ?_))) Tryz.underlying84 rfl ((info_size infoSession).trans (by simp))) rfl ?_
  refine ⟨rfl, ?_⟩
  repeat (first | exact Below.refl _ _ | refine Below.alloc ?_ (by simp <;> omega) _ | refine Below.setCell ?_ _ _ (by simp))
end Go.Proofs.YtekamdcojabgeaaGreatDoor
