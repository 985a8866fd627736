/- Bases as the laws handle them: stored documents, sessions; what is read, what stays; sizes. -/
import Derived.Test.YtekamdcojabgeaaGreatDoorOp1
namespace Go.Proofs.YtekamdcojabgeaaGreatDoor
open Go.RowKit
structure StV where
  id : Int
  doc : List Nd
structure StR where
  d : StV
  adr : Option Addr
  cap : Nat
def StR.cells (r : StR) : List Value := [.int .i64 r.d.id, .slice r.adr r.d.doc.length r.cap]
structure SsV where
  id : Int
  no : Int
  fine : Bool
def SsV.cells (s : SsV) : List Value := [.int .i64 s.id, .int .i64 s.no, .bool s.fine]
structure BsV where
  applied : Int
  docs : List StV
  sess : List SsV
def ssCells (l : List SsV) : List Value := l.flatMap SsV.cells
def stCells (l : List StR) : List Value := l.flatMap StR.cells
/-- A row of stored documents, each with its nodes. -/
def StAt (F : Nat → Prop) (w : World) (A : Option Addr) (ds : List StV) : Prop :=
  ∃ rs : List StR, rs.map StR.d = ds ∧ Rds F w A (stCells rs) ∧ ∀ r ∈ rs, r.d.doc.length ≤ r.cap ∧ Rds F w r.adr (ndCells r.d.doc)
theorem StAt.frame {F : Nat → Prop} {w w1 : World} {A : Option Addr} {ds : List StV} (h : StAt F w A ds) (hb : Agree F w w1) : StAt F w1 A ds := by
  obtain ⟨rs, h1, h2, h3⟩ := h
  exact ⟨rs, h1, h2.frame hb, fun r hr => ⟨(h3 r hr).1, (h3 r hr).2.frame hb⟩⟩
theorem StAt.mono {F G : Nat → Prop} {w : World} {A : Option Addr} {ds : List StV} (h : StAt F w A ds) (hG : ∀ b, F b → b < w.heap.size → G b) : StAt G w A ds := by
  obtain ⟨rs, h1, h2, h3⟩ := h
  exact ⟨rs, h1, h2.mono hG, fun r hr => ⟨(h3 r hr).1, (h3 r hr).2.mono hG⟩⟩
theorem row_at {α : Type} {cells : α → List Value} {sz : Nat} (hsz : ∀ x, (cells x).length = sz) (h0 : 0 < sz) {F : Nat → Prop} {w : World} {A : Option Addr} {l : List α} (hr : Rds F w A (l.flatMap cells)) (k : Nat) (hk : k < l.length) :
    ∃ b o x, A = some ⟨b, o, none⟩ ∧ F b ∧ b < w.heap.size ∧ l[k]? = some x ∧ ∀ j v, (cells x)[j]? = some v → w.cell? ⟨b, o + k * sz + j, none⟩ = some v := by
  have hx : l[k]? = some l[k] := by simp [hk]
  have hlen := flat_len cells sz hsz l
  have hpos : 0 < l.length * sz := Nat.mul_pos (by omega) h0
  obtain ⟨b, o, e, hF, hl, hc⟩ := hr (by intro h; rw [h] at hlen; simp at hlen; omega)
  refine ⟨b, o, l[k], e, hF, hl, hx, fun j v hv => ?_⟩
  have hj : j < sz := by rw [← hsz l[k]]; exact (List.getElem?_eq_some_iff.1 hv).1
  have := hc (k * sz + j) v (by rw [flat_get cells sz hsz l k _ hx j hj]; exact hv)
  rwa [← Nat.add_assoc] at this
theorem st_at {F : Nat → Prop} {w : World} {A : Option Addr} {ds : List StV} (h : StAt F w A ds) (k : Nat) (hk : k < ds.length) :
    ∃ (b o : Nat) (r : StR), A = some ⟨b, o, none⟩ ∧ F b ∧ b < w.heap.size ∧ ds[k]? = some r.d ∧ w.cell? ⟨b, o + k * 2, none⟩ = some (.int .i64 r.d.id) ∧ w.cell? ⟨b, o + k * 2 + 1, none⟩ = some (.slice r.adr r.d.doc.length r.cap) ∧ r.d.doc.length ≤ r.cap ∧ Rds F w r.adr (ndCells r.d.doc) := by
  obtain ⟨rs, rfl, h2, h3⟩ := h
  obtain ⟨b, o, r, e, hF, hl, hx, hc⟩ := row_at (cells := StR.cells) (sz := 2) (fun _ => rfl) (by omega) h2 k (by simpa using hk)
  obtain ⟨h4, h5⟩ := h3 r (List.mem_of_getElem? hx)
  exact ⟨b, o, r, e, hF, hl, by rw [List.getElem?_map, hx]; rfl, hc 0 _ rfl, hc 1 _ rfl, h4, h5⟩
theorem ss_at {F : Nat → Prop} {w : World} {A : Option Addr} {l : List SsV} (h : Rds F w A (ssCells l)) (k : Nat) (hk : k < l.length) :
    ∃ (b o : Nat) (s : SsV), A = some ⟨b, o, none⟩ ∧ F b ∧ b < w.heap.size ∧ l[k]? = some s ∧ w.cell? ⟨b, o + k * 3, none⟩ = some (.int .i64 s.id) ∧ w.cell? ⟨b, o + k * 3 + 1, none⟩ = some (.int .i64 s.no) ∧ w.cell? ⟨b, o + k * 3 + 2, none⟩ = some (.bool s.fine) := by
  obtain ⟨b, o, r, e, hF, hl, hx, hc⟩ := row_at (cells := SsV.cells) (sz := 3) (fun _ => rfl) (by omega) h k hk
  exact ⟨b, o, r, e, hF, hl, hx, hc 0 _ rfl, hc 1 _ rfl, hc 2 _ rfl⟩
def BsV.val (b : BsV) (A1 : Option Addr) (c1 : Nat) (A2 : Option Addr) (c2 : Nat) : Value := .agg #[.int .i64 b.applied, .slice A1 b.docs.length c1, .slice A2 b.sess.length c2]
/-- All that a base holds is of a size that can be read. -/
def BsV.fits (m : Nat) (b : BsV) : Prop := b.docs.length ≤ m ∧ b.sess.length ≤ m ∧ ∀ d ∈ b.docs, d.doc.length ≤ m ∧ ∀ x ∈ d.doc, x.small m
def StSz (ds : List StV) (n : Nat) (w : World) (e : Ending) (w' : World) : Prop :=
  Below w.heap.size w w' ∧ ∃ r : Int, e = .returned (.int .i64 r) ∧ (r = -1 ∨ ∃ m : Nat, r = m ∧ m ≤ n ∧ ds.length ≤ n ∧ ∀ d ∈ ds, d.doc.length ≤ n ∧ ∀ x ∈ d.doc, x.small 1048576)
set_option maxHeartbeats 800000 in
theorem szStored_any (id : Int) (l : List Nd) (hl : l.length ≤ 9223372036854775807) (hsz : ∀ x ∈ l, x.small 9223372036854775807) (F : Nat → Prop) (A : Option Addr) (c : Nat) (n : Nat) (hn : n ≤ 1048576) (w : World) (hr : Rds F w A (ndCells l)) :
    Calls Tryz.prog 80 #[.agg #[.int .i64 id, .slice A l.length c], .int .i64 (n : Int)] w (SzPost l n w) := by
  have hb0 : ∀ o, Below w.heap.size w (w.alloc o) := fun o => (Below.refl _ _).alloc (Nat.le_refl _) _
  have HC := fun w1 (hb : Below w.heap.size w w1) => szValue_any l hl hsz F A c n hn w1 (hr.below hb)
  have H := Lib.hid HC
  clear HC hr hsz
  go_enter Tryz.func80, Tryz.ntmps80
  go_wp2_with fail
  refine (H.out _ (hb0 _)).mono ?_
  rintro e w2 ⟨hb2, r, rfl, hr⟩
  have HB2 := Lib.hid (below_then (hb0 _) (hb0 _).size hb2)
  clear hb2
  rcases hr with rfl | ⟨m', rfl, hm', hs⟩
  · go_wp2
    go_ret
    exact ⟨HB2.out, _, rfl, .inl rfl⟩
  · have HSm := Lib.hid hs
    clear hs
    go_wp2
    go_ret
    exact ⟨HB2.out, _, rfl, .inr ⟨m', rfl, hm', HSm.out⟩⟩
set_option maxRecDepth 100000 in
set_option maxHeartbeats 1600000 in
theorem szStoredS_any (ds : List StV) (hl : ds.length ≤ 9223372036854775807) (hsz : ∀ d ∈ ds, d.doc.length ≤ 9223372036854775807 ∧ ∀ x ∈ d.doc, x.small 9223372036854775807) (F : Nat → Prop) (A : Option Addr) (c : Nat) (n : Nat) (hn : n ≤ 1048576) (w : World) (hr : StAt F w A ds) :
    Calls Tryz.prog 47 #[.slice A ds.length c, .int .i64 (n : Int)] w (StSz ds n w) := by
  have e1 : wrap64 ((n : Int) - (ds.length : Int)) = (n : Int) - (ds.length : Int) := by unfold wrap64; omega
  by_cases c1 : ds.length ≤ n
  · have d1 : decide ((n : Int) - (ds.length : Int) < 0) = false := by simp; omega
    have HR := Lib.hid hr
    have HS := Lib.hid hsz
    clear hr hsz
    go_enter Tryz.func47, Tryz.ntmps47
    go_wp2
    go_loopw [1, 5] (fun v i wx => ∃ k m : Nat, v = .int .i64 (m : Int) ∧ i = .int .i64 (k : Int) ∧ k ≤ ds.length ∧ m ≤ n ∧ (∀ d ∈ ds.take k, d.doc.length ≤ n ∧ ∀ x ∈ d.doc, x.small 1048576) ∧ Below w.heap.size w wx) (fun _ i _ => ds.length - (intOf i).toNat)
    case atStart => exact ⟨0, n - ds.length, by go_num, rfl, Nat.zero_le _, by omega, fun x h => by simp at h, Below.refl _ _⟩
    case round =>
      obtain ⟨k, m, rfl, rfl, hk, hm, hall, hbx⟩ := hrel
      have HB := Lib.hid hbx
      have HA := Lib.hid hall
      clear hbx hall
      by_cases hlt : k < ds.length
      · obtain ⟨b, o, r, rfl, hF, hbl, hx, g0, g1, hcp, hrr⟩ := st_at (HR.out.frame (Agree.of_below HB.out)) k hlt
        have hmem : r.d ∈ ds := List.mem_of_getElem? hx
        have HX := Lib.hid hx
        have HC := Lib.hid (szStored_any r.d.id r.d.doc (HS.out r.d hmem).1 (HS.out r.d hmem).2 F r.adr r.cap m (by omega) wr hrr)
        clear hx hrr
        go_wp2_with fail
        refine HC.out.mono ?_
        rintro e w2 ⟨hb2, q, rfl, hq⟩
        have HB2 := Lib.hid (below_then HB.out HB.out.size hb2)
        rcases hq with rfl | ⟨m', rfl, hm', hs⟩
        · go_wp2
          go_ret
          exact ⟨HB2.out, _, rfl, .inl rfl⟩
        · have HSm := Lib.hid hs
          clear hs hb2
          go_wp2
          go_roundw
          case rel =>
            refine ⟨k+1, m', rfl, by go_num, by omega, by omega, fun y hy => ?_, HB2.out⟩
            rw [List.take_add_one, HX.out] at hy
            rcases List.mem_append.1 hy with hy | hy
            · exact HA.out y hy
            · obtain rfl : y = r.d := by simpa using hy
              have := HSm.out.1
              exact ⟨by omega, HSm.out.2⟩
          case measure => simp [intOf]; omega
      · go_wp2
        go_ret
        refine ⟨HB.out, _, rfl, .inr ⟨m, rfl, hm, c1, fun y hy => HA.out y ?_⟩⟩
        rw [List.take_of_length_le (by omega)]; exact hy
  · have d1 : decide ((n : Int) - (ds.length : Int) < 0) = true := by simp; omega
    go_enter Tryz.func47, Tryz.ntmps47
    go_wp2
    go_ret
    exact ⟨Below.refl _ _, _, rfl, .inl rfl⟩
theorem szSessionS_any (l : List SsV) (hl : l.length ≤ 9223372036854775807) (A : Option Addr) (c : Nat) (n : Nat) (hn : n ≤ 1048576) (w : World) :
    Calls Tryz.prog 48 #[.slice A l.length c, .int .i64 (n : Int)] w fun e w' => Below w.heap.size w w' ∧ ∃ r : Int, e = .returned (.int .i64 r) ∧ (r = -1 ∨ ∃ m : Nat, r = m ∧ m ≤ n ∧ l.length ≤ n) := by
  have e1 : wrap64 ((n : Int) - (l.length : Int)) = (n : Int) - (l.length : Int) := by unfold wrap64; omega
  by_cases c1 : l.length ≤ n
  · have d1 : decide ((n : Int) - (l.length : Int) < 0) = false := by simp; omega
    go_enter Tryz.func48, Tryz.ntmps48
    go_wp2
    go_ret
    exact ⟨Below.refl _ _, _, rfl, .inr ⟨n - l.length, by omega, by omega, c1⟩⟩
  · have d1 : decide ((n : Int) - (l.length : Int) < 0) = true := by simp; omega
    go_enter Tryz.func48, Tryz.ntmps48
    go_wp2
    go_ret
    exact ⟨Below.refl _ _, _, rfl, .inl rfl⟩
def BsSz (b : BsV) (w : World) (e : Ending) (w' : World) : Prop :=
  Below w.heap.size w w' ∧ ∃ r : Int, e = .returned (.int .i64 r) ∧ (r = -1 ∨ ∃ m : Nat, r = m ∧ b.fits 1048576)
set_option maxHeartbeats 1600000 in
theorem szBase_any (b : BsV) (hb : b.fits 9223372036854775807) (F : Nat → Prop) (A1 A2 : Option Addr) (c1 c2 : Nat) (w : World) (hr : StAt F w A1 b.docs) :
    Calls Tryz.prog 16 #[b.val A1 c1 A2 c2, .int .i64 1048576] w (BsSz b w) := by
  have hb0 : Below w.heap.size w (w.alloc (.cells #[.int .i64 b.applied, .slice A1 b.docs.length c1, .slice A2 b.sess.length c2] 42 (0, 0))) := (Below.refl _ _).alloc (Nat.le_refl _) _
  have k0 := heap_alloc_new w (.cells #[.int .i64 b.applied, .slice A1 b.docs.length c1, .slice A2 b.sess.length c2] 42 (0, 0))
  obtain ⟨f1, f2, f3⟩ := hb
  have H := Lib.hid (fun w1 (hb : Below w.heap.size w w1) => szStoredS_any b.docs f1 f3 F A1 c1 1048576 (by omega) w1 (hr.frame (Agree.of_below hb)))
  have HB0 := Lib.hid hb0
  clear hr f3 hb0
  unfold BsV.val
  go_enter Tryz.func16, Tryz.ntmps16
  go_wp2_with fail
  generalize w.alloc (.cells #[.int .i64 b.applied, .slice A1 b.docs.length c1, .slice A2 b.sess.length c2] 42 (0, 0)) = w1 at HB0 k0 ⊢
  refine (H.out _ HB0.out).mono ?_
  rintro e w2 ⟨hb2, r, rfl, hr⟩
  have HB2 := Lib.hid (below_then HB0.out HB0.out.size hb2)
  have x2 := cell_of_block (block_below k0 hb2) 2
  simp at x2
  clear hb2 k0
  rcases hr with rfl | ⟨m', rfl, hm', hd, hs⟩
  · go_wp2
    go_ret
    exact ⟨HB2.out, _, rfl, .inl rfl⟩
  · have HSm := Lib.hid hs
    have HC := Lib.hid (szSessionS_any b.sess f2 A2 c2 m' (by omega) w2)
    clear hs
    go_wp2_with fail
    refine HC.out.mono ?_
    rintro e w3 ⟨hb3, r, rfl, hr⟩
    have HB3 := Lib.hid (below_then HB2.out HB2.out.size hb3)
    clear hb3
    rcases hr with rfl | ⟨m2, rfl, hm2, hd2⟩
    · go_wp2
      go_ret
      exact ⟨HB3.out, _, rfl, .inl rfl⟩
    · go_wp2
      go_ret
      exact ⟨HB3.out, _, rfl, .inr ⟨m2, rfl, hd, by omega, fun d hd' => HSm.out d hd'⟩⟩
end Go.Proofs.YtekamdcojabgeaaGreatDoor
