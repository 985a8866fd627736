/- The walk of l1Shape. -/
import Derived.Test.YtcbcndoddikpjaaGreatDoorShape4
import Derived.Deep.DeepCutAuto
import Derived.Deep.CutBlock
import Derived.RegionTactic
import Derived.ChangeAlike
namespace Go.Proofs.YtcbcndoddikpjaaGreatDoor
open Go.RowKit
def ShPost (l : List Nd) (w : World) (e : Ending) (w' : World) : Prop := Below w.heap.size w w' ∧ ∃ r, e = .returned (.bool r) ∧ (r = true ↔ Shape l)
theorem infoBool : (Tryz.prog.info? 4).map (fun i => (i.zero, i.size, i.bytes)) = some (some (.bool false), 1, 1) := by kernel_rfl
structure ShRel (l : List Nd) (A : Option Addr) (c : Nat) (w : World) (k : Nat) (wx : World) : Prop where
  le : k ≤ l.length
  all : ∀ i x, i < k → l[i]? = some x → nodeOK0 x = true ∧ linkOK l i x
  below : Below w.heap.size w wx
  b0 : wx.heap[w.heap.size]? = some (.cells #[.slice A l.length c] 28 (0, 0))
  b1 : wx.heap[w.heap.size + 1]? = some (.cells (dArr l k).toArray 3 (0, 0))
  b2 : wx.heap[w.heap.size + 1 + 1]? = some (.cells (nArr l k).toArray 9 (0, 0))
  b3 : wx.heap[w.heap.size + 1 + 1 + 1]? = some (.cells (sArr l k).toArray 4 (0, 0))
theorem blk_set {w : World} {b : Nat} {L : List Value} {T : TypeId} (h : w.heap[b]? = some (.cells L.toArray T (0, 0))) (j : Nat) (v : Value) : (w.setCell ⟨b, j, none⟩ v).heap[b]? = some (.cells (L.set j v).toArray T (0, 0)) := by
  rw [block_setCell h]; simp
theorem cell_of_row {w : World} {b : Nat} {L : List Value} {T : TypeId} (h : w.heap[b]? = some (.cells L.toArray T (0, 0))) (j : Nat) (v : Value) (hj : L[j]? = some v) : w.cell? ⟨b, j, none⟩ = some v := by
  rw [cell_of_block h]; simpa using hj
theorem dArr_set0 (l : List Nd) (k : Nat) (h : k < l.length) : (dArr l k).set k (.int .i64 ((0 : Nat) : Int)) = dArr l k := (map_set l.length k _ h (by simp) (fun i _ => rfl)).symm
structure ShMid (l : List Nd) (A : Option Addr) (c : Nat) (w : World) (k nb : Nat) (x : Nd) (h : Nat) (wx : World) : Prop where
  below : Below w.heap.size w wx
  b0 : wx.heap[w.heap.size]? = some (.cells #[.slice A l.length c] 28 (0, 0))
  b1 : wx.heap[w.heap.size + 1]? = some (.cells ((dArr l k).set k (.int .i64 (h : Int))).toArray 3 (0, 0))
  b2 : wx.heap[w.heap.size + 1 + 1]? = some (.cells (nArr l k).toArray 9 (0, 0))
  b3 : wx.heap[w.heap.size + 1 + 1 + 1]? = some (.cells (sArr l k).toArray 4 (0, 0))
  bn : wx.heap[nb]? = some (.cells #[.int .i64 x.kind, .int .i64 x.num, .string x.text, .string x.name, .int .i64 x.up] 63 (0, 0))
def AtOK (l : List Nd) (k p : Nat) (ai : Int) : Prop := (ai = -1 ∧ ¬ Anc l (k - 1) p) ∨ ∃ q : Nat, ai = (q : Int) ∧ q < k ∧ (Anc l (k - 1) p ↔ Anc l q p)
theorem shape_no0 {l : List Nd} {k : Nat} {x : Nd} (hx : l[k]? = some x) (h : nodeOK0 x = false) : (false = true ↔ Shape l) :=
  ⟨(fun h => by cases h), fun hs => by have := (hs.1 k x hx).1; rw [h] at this; cases this⟩
theorem shape_no {l : List Nd} {k : Nat} {x : Nd} (hx : l[k]? = some x) (h : ¬ linkOK l k x) : (false = true ↔ Shape l) :=
  ⟨(fun h => by cases h), fun hs => absurd (hs.1 k x hx).2 h⟩
theorem rel_next {l : List Nd} {A : Option Addr} {c : Nat} {w wr wx : World} {k : Nat} {x : Nd} (rel : ShRel l A c w k wr) (hx : l[k]? = some x) (h0 : nodeOK0 x = true) (h1 : linkOK l k x) (hb : Below w.heap.size w wx)
    (b0 : wx.heap[w.heap.size]? = some (.cells #[.slice A l.length c] 28 (0, 0)))
    (b1 : wx.heap[w.heap.size + 1]? = some (.cells (dArr l (k+1)).toArray 3 (0, 0)))
    (b2 : wx.heap[w.heap.size + 1 + 1]? = some (.cells (nArr l (k+1)).toArray 9 (0, 0)))
    (b3 : wx.heap[w.heap.size + 1 + 1 + 1]? = some (.cells (sArr l (k+1)).toArray 4 (0, 0))) : ShRel l A c w (k+1) wx := by
  have hk := (List.getElem?_eq_some_iff.1 hx).1
  refine ⟨by omega, fun i y hi hy => ?_, hb, b0, b1, b2, b3⟩
  by_cases hik : i = k
  · subst hik
    rw [hx] at hy
    injection hy with hy
    subst hy
    exact ⟨h0, h1⟩
  · exact rel.all i y (by omega) hy
theorem name_ne {s : ByteArray} (h : s ≠ emptyB) : s.toList.isEmpty = false := by
  cases he : s.toList.isEmpty
  · rfl
  · exact absurd (empty_eq s he) h
theorem link_no_holds {l : List Nd} {k p : Nat} {x y : Nd} (hk : k ≠ 0) (hp : x.up = (p : Int)) (hy : l[p]? = some y) (hh : holdsB y.kind = false) : ¬ linkOK l k x := by
  rw [linkOK, if_neg hk]
  rintro ⟨p', y', h1, _, h3, h4, _⟩
  obtain rfl : p' = p := by omega
  rw [hy] at h3
  injection h3 with h3
  subst h3
  rw [hh] at h4
  cases h4
theorem link_no_anc {l : List Nd} {k p : Nat} {x : Nd} (hk : k ≠ 0) (hp : x.up = (p : Int)) (hh : ¬ Anc l (k - 1) p) : ¬ linkOK l k x := by
  rw [linkOK, if_neg hk]
  rintro ⟨p', y', h1, _, _, _, h5, _⟩
  obtain rfl : p' = p := by omega
  exact hh h5
theorem link_no_name {l : List Nd} {k p : Nat} {x y : Nd} (hk : k ≠ 0) (hp : x.up = (p : Int)) (hy : l[p]? = some y) (hh : ¬ ((y.kind = 7 → ∀ m, lastN l p k = some m → ltS m x.name = true) ∧ (y.kind ≠ 7 → x.name = emptyB))) : ¬ linkOK l k x := by
  rw [linkOK, if_neg hk]
  rintro ⟨p', y', h1, _, h3, _, _, h6, h7, _⟩
  obtain rfl : p' = p := by omega
  rw [hy] at h3
  injection h3 with h3
  subst h3
  exact hh ⟨h6, h7⟩
theorem link_no_deep {l : List Nd} {k : Nat} {x : Nd} (hk : k ≠ 0) (hh : ¬ dpt l k ≤ 6) : ¬ linkOK l k x := by
  rw [linkOK, if_neg hk]
  rintro ⟨p', y', _, _, _, _, _, _, _, h8⟩
  exact hh h8
theorem link_deep {l : List Nd} {k : Nat} {x : Nd} (hx : l[k]? = some x) (h : linkOK l k x) : dpt l k ≤ 6 := by
  by_cases hk : k = 0
  · rw [linkOK, if_pos hk] at h
    rw [dpt_top hx h.1]
    split <;> omega
  · rw [linkOK, if_neg hk] at h
    obtain ⟨p', y', _, _, _, _, _, _, _, h8⟩ := h
    exact h8
theorem mid_sum {l : List Nd} {A : Option Addr} {c : Nat} {w wr wc : World} {k h : Nat} {x : Nd} {v : Value} (rel : ShRel l A c w k wr) (mid : ShMid l A c w k wr.heap.size x h wc) (hk : k < l.length) (hv : v = .int .i64 (dpt l k : Int)) :
    (wc.setCell ⟨w.heap.size + 1, k, none⟩ v).drew.heap[w.heap.size]? = some (.cells #[.slice A l.length c] 28 (0, 0)) ∧
    (wc.setCell ⟨w.heap.size + 1, k, none⟩ v).drew.heap[w.heap.size + 1]? = some (.cells (dArr l (k + 1)).toArray 3 (0, 0)) ∧
    (wc.setCell ⟨w.heap.size + 1, k, none⟩ v).drew.heap[w.heap.size + 1 + 1]? = some (.cells (nArr l k).toArray 9 (0, 0)) ∧
    (wc.setCell ⟨w.heap.size + 1, k, none⟩ v).drew.heap[w.heap.size + 1 + 1 + 1]? = some (.cells (sArr l k).toArray 4 (0, 0)) ∧
    (wc.setCell ⟨w.heap.size + 1, k, none⟩ v).drew.heap[wr.heap.size]? = some (.cells #[.int .i64 x.kind, .int .i64 x.num, .string x.text, .string x.name, .int .i64 x.up] 63 (0, 0)) ∧
    Below w.heap.size w (wc.setCell ⟨w.heap.size + 1, k, none⟩ v).drew := by
  have h3 := lt_of_block rel.b3
  refine ⟨blk_skip _ _ mid.b0 (by show w.heap.size ≠ w.heap.size + 1; omega), ?_, blk_skip _ _ mid.b2 (by show w.heap.size + 1 + 1 ≠ w.heap.size + 1; omega), blk_skip _ _ mid.b3 (by show w.heap.size + 1 + 1 + 1 ≠ w.heap.size + 1; omega), blk_skip _ _ mid.bn (by show wr.heap.size ≠ w.heap.size + 1; omega), (mid.below.setCell (by show w.heap.size ≤ w.heap.size + 1; omega) _).drew⟩
  have := blk_set mid.b1 k v
  rw [List.set_set, hv, ← dArr_succ l k hk] at this
  rw [hv]
  exact this
theorem link_yes {l : List Nd} {k p : Nat} {x y : Nd} (hk : k ≠ 0) (hp : x.up = (p : Int)) (hpk : p < k) (hy : l[p]? = some y) (hh : holdsB y.kind = true) (ha : Anc l (k - 1) p) (hn : (y.kind = 7 → ∀ m, lastN l p k = some m → ltS m x.name = true) ∧ (y.kind ≠ 7 → x.name = emptyB)) (hd : dpt l k ≤ 6) : linkOK l k x := by
  rw [linkOK, if_neg hk]
  exact ⟨p, y, hp, hpk, hy, hh, ha, hn.1, hn.2, hd⟩
theorem below_drawn {B : Nat} {a w : World} (h : Below B a w) (n : Nat) : Below B a (w.drewN n) := h.trans ⟨rfl, rfl, rfl, Nat.le_refl _, fun _ _ => rfl⟩
theorem fin_below {B : Nat} {a w : World} {b1 b2 j1 j2 n : Nat} {v1 v2 : Value} (h1 : B ≤ b1) (h2 : B ≤ b2) (h : Below B a w) : Below B a (((w.setCell ⟨b1, j1, none⟩ v1).setCell ⟨b2, j2, none⟩ v2).drewN n) := below_drawn ((h.setCell (p := ⟨b1, j1, none⟩) h1 v1).setCell (p := ⟨b2, j2, none⟩) h2 v2) n
theorem fin_map {l : List Nd} {A : Option Addr} {c : Nat} {w wr w2 : World} {k q n : Nat} {x : Nd} (rel : ShRel l A c w k wr) (hx : l[k]? = some x) (h0 : nodeOK0 x = true) (h1 : linkOK l k x)
    (hns : nArr l (k + 1) = (nArr l k).set q (.string x.name) ∧ sArr l (k + 1) = (sArr l k).set q (.bool true))
    (b0 : w2.heap[w.heap.size]? = some (.cells #[.slice A l.length c] 28 (0, 0)))
    (b1 : w2.heap[w.heap.size + 1]? = some (.cells (dArr l (k+1)).toArray 3 (0, 0)))
    (b2 : w2.heap[w.heap.size + 1 + 1]? = some (.cells (nArr l k).toArray 9 (0, 0)))
    (b3 : w2.heap[w.heap.size + 1 + 1 + 1]? = some (.cells (sArr l k).toArray 4 (0, 0))) (hb : Below w.heap.size w w2) :
    ShRel l A c w (k+1) (((w2.setCell ⟨w.heap.size + 1 + 1, q, none⟩ (.string x.name)).setCell ⟨w.heap.size + 1 + 1 + 1, q, none⟩ (.bool true)).drewN n) := by
  refine rel_next rel hx h0 h1 (fin_below (by omega) (by omega) hb) ?_ ?_ ?_ ?_
  · exact blk_skip _ _ (blk_skip _ _ b0 (by show w.heap.size ≠ w.heap.size + 1 + 1; omega)) (by show w.heap.size ≠ w.heap.size + 1 + 1 + 1; omega)
  · exact blk_skip _ _ (blk_skip _ _ b1 (by show w.heap.size + 1 ≠ w.heap.size + 1 + 1; omega)) (by show w.heap.size + 1 ≠ w.heap.size + 1 + 1 + 1; omega)
  · have := blk_skip ⟨w.heap.size + 1 + 1 + 1, q, none⟩ (.bool true) (blk_set b2 q (.string x.name)) (by show w.heap.size + 1 + 1 ≠ w.heap.size + 1 + 1 + 1; omega)
    rw [← hns.1] at this
    exact this
  · have := blk_set (blk_skip ⟨w.heap.size + 1 + 1, q, none⟩ (.string x.name) b3 (by show w.heap.size + 1 + 1 + 1 ≠ w.heap.size + 1 + 1; omega)) q (.bool true)
    rw [← hns.2] at this
    exact this
set_option maxRecDepth 100000 in
set_option maxHeartbeats 4000000 in
theorem sShape_any (l : List Nd) (hl : l.length ≤ 1000000000) (hsz : ∀ x ∈ l, x.text.size ≤ 9223372036854775807 ∧ x.name.size ≤ 9223372036854775807) (F : Nat → Prop) (A : Option Addr) (c : Nat) (w : World) (hr : Rds F w A (ndCells l)) :
    Calls Tryz.prog 37 #[.agg #[.slice A l.length c]] w (ShPost l w) := by
  have hm1 := make_rowN (P := Tryz.prog) 64 3 _ 1 8 Tryz.underlying64 infoInt l.length (by omega) (by omega)
  have hm2 := make_rowN (P := Tryz.prog) 37 9 _ 1 16 Tryz.underlying37 Tryz.infoStr l.length (by omega) (by omega)
  have hm3 := make_rowN (P := Tryz.prog) 86 4 _ 1 1 Tryz.underlying86 infoBool l.length (by omega) (by omega)
  rw [made_one _ rfl, ← dArr_zero] at hm1
  rw [made_one _ rfl] at hm2
  change ∀ w : World, _ = Go.Result.ok _ (w.alloc (.cells (List.replicate l.length (Value.string emptyB)).toArray _)) at hm2
  rw [← nArr_zero] at hm2
  rw [made_one _ rfl, ← sArr_zero] at hm3
  have HR := Lib.hid hr
  have HS := Lib.hid hsz
  clear hr hsz
  go_enter Tryz.func37, Tryz.ntmps37
  go_wp2
  go_loopw [24] (fun i wx => ∃ k : Nat, i = .int .i64 (k : Int) ∧ ShRel l A c w k wx) (fun i _ => l.length - (intOf i).toNat)
  case atStart =>
    refine ⟨0, rfl, Nat.zero_le _, fun i x h => by omega, ((((Below.refl _ _).alloc (Nat.le_refl _) _).alloc (by simp) _).alloc (by simp; omega) _).alloc (by simp; omega) _, ?_, ?_, ?_, ?_⟩
    · (repeat (first | with_reducible assumption | (with_reducible refine blk_new _ ?_; (first | rfl | (simp; done) | (simp; omega))) | with_reducible apply block_setCell | (with_reducible refine blk_skip _ _ ?_ ?_; rotate_left; (first | (simp; done) | (simp; omega))) | with_reducible refine blk_old ?_))
    · (repeat (first | with_reducible assumption | (with_reducible refine blk_new _ ?_; (first | rfl | (simp; done) | (simp; omega))) | with_reducible apply block_setCell | (with_reducible refine blk_skip _ _ ?_ ?_; rotate_left; (first | (simp; done) | (simp; omega))) | with_reducible refine blk_old ?_))
    · (repeat (first | with_reducible assumption | (with_reducible refine blk_new _ ?_; (first | rfl | (simp; done) | (simp; omega))) | with_reducible apply block_setCell | (with_reducible refine blk_skip _ _ ?_ ?_; rotate_left; (first | (simp; done) | (simp; omega))) | with_reducible refine blk_old ?_))
    · (repeat (first | with_reducible assumption | (with_reducible refine blk_new _ ?_; (first | rfl | (simp; done) | (simp; omega))) | with_reducible apply block_setCell | (with_reducible refine blk_skip _ _ ?_ ?_; rotate_left; (first | (simp; done) | (simp; omega))) | with_reducible refine blk_old ?_))
  case round =>
    obtain ⟨k, rfl, rel⟩ := hrel
    clear hm1 hm2 hm3
    have hk := rel.le
    have hsz3 : w.heap.size + 1 + 1 + 1 < wr.heap.size := lt_of_block rel.b3
    have REL := Lib.hid rel
    clear rel
    by_cases hlt : k < l.length
    · obtain ⟨b, o, x, rfl, hF, hbl, hx, g0, g1, g2, g3, g4⟩ := nd_at (HR.out.frame (Agree.of_below REL.out.below)) k hlt
      have hxs := HS.out x (List.mem_of_getElem? hx)
      have HX := Lib.hid hx
      clear hx
      have hnb := heap_alloc_new wr (.cells #[.int .i64 x.kind, .int .i64 x.num, .string x.text, .string x.name, .int .i64 x.up] 63 (0, 0))
      have hbn : Below wr.heap.size wr (wr.alloc (.cells #[.int .i64 x.kind, .int .i64 x.num, .string x.text, .string x.name, .int .i64 x.up] 63 (0, 0))) := (Below.refl _ _).alloc (Nat.le_refl _) _
      go_upto_region 7 with fail
      generalize wr.alloc (.cells #[.int .i64 x.kind, .int .i64 x.num, .string x.text, .string x.name, .int .i64 x.up] 63 (0, 0)) = w1 at hnb hbn ⊢
      obtain ⟨d0, d1, d2, d3, d4⟩ := cells5 hnb
      have HNB := Lib.hid hnb
      have HBN := Lib.hid hbn
      clear hnb hbn
      go_cut [70] (fun s70 wx' => s70 = .bool (!nodeOK0 x) ∧ wx' = w1)
      case first =>
        --<first
        go_wp2_with (first | (go_at_call 60; refine (sIn_any _ _ _ _).mono ?_; rintro e w' ⟨rfl, rfl⟩) | (go_at_call 61; refine (sNumber_any _ _).mono ?_; rintro e w' ⟨rfl, rfl⟩) | (go_at_call 62; refine (sPrinted_any _ _ (by first | exact hxs.1 | exact hxs.2)).mono ?_; rintro e w' ⟨rfl, rfl⟩))
        all_goals
          go_meet
          refine ⟨congrArg Value.bool ?_, rfl⟩
          clear g0 g1 g2 g3 g4
          simp_all [nodeOK0] <;> omega
        -->first
      case rest =>
        obtain ⟨rfl, rfl⟩ := hcut
        have e0 := block_below REL.out.b0 HBN.out
        have e1 := block_below REL.out.b1 HBN.out
        have e2 := block_below REL.out.b2 HBN.out
        have e3 := block_below REL.out.b3 HBN.out
        have HB1 := Lib.hid (below_then REL.out.below REL.out.below.size HBN.out)
        have E0 := Lib.hid e0
        have E1 := Lib.hid e1
        have E2 := Lib.hid e2
        have E3 := Lib.hid e3
        clear e0 e1 e2 e3
        cases hok : nodeOK0 x
        · have HOK := Lib.hid hok
          go_wp2
          go_ret
          exact ⟨HB1.out, false, rfl, shape_no0 HX.out HOK.out⟩
        · go_upto_if 73 with (go_at_call 63; refine (sHolds_any _ _).mono ?_; rintro e w' ⟨rfl, rfl⟩)
          obtain ⟨h, hh, hh1⟩ : ∃ h : Nat, h = (if holdsB x.kind then 1 else 0) ∧ h ≤ 1 := ⟨_, rfl, by split <;> omega⟩
          have HH := Lib.hid hh
          have HOK := Lib.hid hok
          clear hh hok
          go_cut [] (fun wx => ShMid l (some ⟨b, o, none⟩) c w k wr.heap.size x h wx)
          case first =>
            --<mid
            have q := cell_of_row E1.out k _ (dArr_get l k k hlt)
            rw [if_neg (Nat.lt_irrefl k)] at q
            have f := free_of_block E1.out k
            cases hhx : holdsB x.kind
            · have HHX := Lib.hid hhx
              go_wp2_with fail
              go_meet
              have h0 : h = 0 := by rw [HH.out, HHX.out]; rfl
              exact ⟨HB1.out, E0.out, by rw [h0, dArr_set0 l k hlt]; exact E1.out, E2.out, E3.out, HNB.out⟩
            · have HHX := Lib.hid hhx
              go_wp2_with fail
              go_meet
              have h1 : h = 1 := by rw [HH.out, HHX.out]; rfl
              refine ⟨HB1.out.setCell (by show w.heap.size ≤ w.heap.size + 1; omega) _, ?_, by rw [h1]; exact blk_set E1.out k _, ?_, ?_, ?_⟩
              · exact blk_skip _ _ E0.out (by show w.heap.size ≠ w.heap.size + 1; omega)
              · exact blk_skip _ _ E2.out (by show w.heap.size + 1 + 1 ≠ w.heap.size + 1; omega)
              · exact blk_skip _ _ E3.out (by show w.heap.size + 1 + 1 + 1 ≠ w.heap.size + 1; omega)
              · have := REL.out.below.size
                have h3 := lt_of_block REL.out.b3
                exact blk_skip _ _ HNB.out (by show wr.heap.size ≠ w.heap.size + 1; omega)
            -->mid
          case rest =>
            have MID := Lib.hid hcut
            obtain ⟨m0, m1, m2, m3, m4⟩ := cells5 hcut.bn
            have v0 := cell_of_block hcut.b0 0
            simp at v0
            clear hcut d0 d1 d2 d3 d4 g0 g1 g2 g3 g4
            by_cases hk0 : k = 0
            · skip
              --<k0
              have hkb : ((k : Int) == 0) = true := by simp [hk0]
              have HK0 := Lib.hid hk0
              clear hk0
              by_cases hup : x.up = -1
              · have hub : (x.up != -1) = false := by simp [hup]
                rw [hup] at m4
                have HUP := Lib.hid hup
                clear hup
                by_cases hnm : x.name = emptyB
                · have hnb : x.name.toList.isEmpty = true := by rw [hnm, ByteArray.toList_eq]; rfl
                  have HNM := Lib.hid hnm
                  clear hnm hub
                  go_wp2
                  refine ⟨?_, ?_⟩
                  · have hl0 : linkOK l k x := by rw [linkOK, if_pos HK0.out]; exact ⟨HUP.out, HNM.out⟩
                    have hd := dpt_top HX.out HUP.out
                    obtain ⟨q1, q2⟩ := nArr_top l k x HX.out HUP.out
                    exact ⟨k + 1, by go_num, rel_next REL.out HX.out HOK.out hl0 MID.out.below MID.out.b0 (by rw [dArr_succ l k hlt, hd, ← HH.out]; exact MID.out.b1) (by rw [q1]; exact MID.out.b2) (by rw [q2]; exact MID.out.b3)⟩
                  · simp [intOf]; omega
                · have hnb : x.name.toList.isEmpty = false := name_ne hnm
                  have HNM := Lib.hid hnm
                  clear hnm
                  go_wp2
                  go_ret
                  exact ⟨MID.out.below, false, rfl, shape_no HX.out (by rw [linkOK, if_pos HK0.out]; exact fun h => HNM.out h.2)⟩
              · have hub : (x.up != -1) = true := by simp [hup]
                have HUP := Lib.hid hup
                clear hup
                go_wp2
                go_ret
                exact ⟨MID.out.below, false, rfl, shape_no HX.out (by rw [linkOK, if_pos HK0.out]; exact fun h => HUP.out h.1)⟩
              -->k0
            · have hkb : ((k : Int) == 0) = false := by simp; omega
              by_cases hup : 0 ≤ x.up ∧ x.up ≤ (k : Int) - 1
              · obtain ⟨p, hp⟩ : ∃ p : Nat, x.up = (p : Int) := ⟨x.up.toNat, by omega⟩
                have hpk : p < k := by omega
                have hin : (decide (0 ≤ (p : Int)) && decide ((p : Int) ≤ (k : Int) - 1)) = true := by simp; omega
                rw [hp] at m4
                have HP := Lib.hid hp
                have HK0 := Lib.hid hk0
                clear hup hp hk0
                have hpl : p < l.length := by omega
                have hpl' : (p : Int) < (l.length : Int) := by omega
                have hkl' : (k : Int) < (l.length : Int) := by omega
                obtain ⟨y, hy, y0, y1, y2, y3, y4⟩ := nd_at2 (HR.out.frame (Agree.of_below MID.out.below)) p hpl
                have HY := Lib.hid hy
                clear hy y1 y2 y3 y4 m0 m1 m2
                cases hyh : holdsB y.kind
                · have HYH := Lib.hid hyh
                  go_wp2_with (first | (go_at_call 60; refine (sIn_any _ _ _ _).mono ?_; rintro e w' ⟨rfl, rfl⟩) | (go_at_call 63; refine (sHolds_any _ _).mono ?_; rintro e w' ⟨rfl, rfl⟩))
                  go_ret
                  exact ⟨MID.out.below, false, rfl, shape_no HX.out (link_no_holds HK0.out HP.out HY.out HYH.out)⟩
                · go_wp2_with (first | (go_at_call 60; refine (sIn_any _ _ _ _).mono ?_; rintro e w' ⟨rfl, rfl⟩) | (go_at_call 63; refine (sHolds_any _ _).mono ?_; rintro e w' ⟨rfl, rfl⟩))
                  have HYH := Lib.hid hyh
                  clear hyh hin hkb
                  go_loop [8] (fun a => ∃ ai : Int, a = .int .i64 ai ∧ -1 ≤ ai ∧ ai < (k : Int) ∧ AtOK l k p ai) (fun a => (intOf a + 1).toNat)
                  case atStart => exact ⟨_, rfl, by omega, by omega, .inr ⟨k - 1, by omega, by omega, Iff.rfl⟩⟩
                  case round =>
                    obtain ⟨ai, rfl, hai0, hai1, hat⟩ := hrel
                    rcases hat with ⟨hai, hna⟩ | ⟨q, hai, hqk, hiff⟩
                    · subst hai
                      have b1 : ((-1 : Int) != (p : Int)) = true := by simp
                      go_wp2
                      go_ret
                      exact ⟨MID.out.below, false, rfl, shape_no HX.out (link_no_anc HK0.out HP.out hna)⟩
                    · subst hai
                      by_cases hqp : q = p
                      · have HA : Hid (Anc l (k - 1) p) := Lib.hid (hiff.2 (hqp ▸ Anc.refl _))
                        subst hqp
                        obtain ⟨hy0, hyl⟩ := REL.out.all q y hpk HY.out
                        have hd6 : dpt l q ≤ 6 := link_deep HY.out hyl
                        have hdk : dpt l k = h + dpt l q := by rw [dpt_up HX.out HP.out hpk, HH.out]
                        obtain ⟨dq, hdq⟩ : ∃ dq, dq = dpt l q := ⟨_, rfl⟩
                        have c1 := cell_of_row MID.out.b1 k (.int .i64 (h : Int)) (by rw [List.getElem?_set_self (by simp [dArr]; exact hlt)])
                        have c2 := cell_of_row MID.out.b1 q (.int .i64 (dq : Int)) (by rw [List.getElem?_set_ne (by omega), dArr_get l k q hpl, if_pos hpk, hdq])
                        have f1 := free_of_block MID.out.b1 k
                        rw [← hdq] at hd6 hdk
                        have hs : IntKind.i64.wrap ((h : Int) + (dq : Int)) = ((h + dq : Nat) : Int) := by rw [IntWalk.i64_in _ (by omega)]; omega
                        have HS1 := Lib.hid hs
                        have HDK := Lib.hid hdk
                        clear hyl hy0 hdq hs hdk
                        go_wp2
                        go_region
                        go_upto_region 22 with fail
                        obtain ⟨n0, n1, n2, n3, n4, hb2⟩ := mid_sum (v := .int .i64 ((h : Int) + (dq : Int))) (REL.out) MID.out hlt (by rw [HDK.out]; simp)
                        generalize (wc.setCell ⟨w.heap.size + 1, k, none⟩ (.int .i64 ((h : Int) + (dq : Int)))).drew = w2 at n0 n1 n2 n3 n4 hb2 ⊢
                        clear c1 c2 f1 y0 m3 m4 v0
                        obtain ⟨y', hy', y0, _, _, _, _⟩ := nd_at2 (HR.out.frame (Agree.of_below hb2)) q hpl
                        rw [HY.out] at hy'
                        injection hy' with hy'
                        subst hy'
                        have N0 := Lib.hid n0
                        have N1 := Lib.hid n1
                        have N2 := Lib.hid n2
                        have N3 := Lib.hid n3
                        have N4 := Lib.hid n4
                        have HB2 := Lib.hid hb2
                        obtain ⟨_, _, _, m3, m4⟩ := cells5 n4
                        rw [HP.out] at m4
                        have v0 := cell_of_block n0 0
                        simp at v0
                        have c1 := cell_of_row n1 k _ (dArr_get l (k + 1) k hlt)
                        rw [if_pos (Nat.lt_succ_self k), HDK.out] at c1
                        have s2 := cell_of_row n2 q _ (nArr_get l k q hpl)
                        have s3 := cell_of_row n3 q _ (sArr_get l k q hpl)
                        have f2 := free_of_block n2 q
                        have f3 := free_of_block n3 q
                        clear n0 n1 n2 n3 n4 hb2
                        by_cases h7 : y.kind = 7
                        · have hns := nArr_map l k q x y HX.out HP.out hpk HY.out h7
                          have hlm := lastM_map (i := k) HY.out h7
                          rw [h7] at y0
                          have HNS := Lib.hid hns
                          have HLM := Lib.hid hlm
                          have H7 := Lib.hid h7
                          clear hns hlm h7
                          cases hm : lastM l q k with
                          | none =>
                            rw [hm] at s2 s3
                            have HM := Lib.hid hm
                            clear hm
                            by_cases hdp : h + dq ≤ 6
                            all_goals
                              go_wp2
                              go_quiet (fail)
                              go_wp2
                            · refine ⟨⟨k + 1, by go_num, fin_map REL.out HX.out HOK.out (link_yes HK0.out HP.out hpk HY.out HYH.out HA.out ⟨fun _ m hm => (by rw [← HLM.out, HM.out] at hm; cases hm), fun h => absurd H7.out h⟩ (by rw [HDK.out]; exact hdp)) HNS.out N0.out N1.out N2.out N3.out HB2.out⟩, by simp [intOf]; omega⟩
                            · go_ret
                              exact ⟨fin_below (by show w.heap.size ≤ w.heap.size + 1 + 1; omega) (by show w.heap.size ≤ w.heap.size + 1 + 1 + 1; omega) HB2.out, false, rfl, shape_no HX.out (link_no_deep HK0.out (by rw [HDK.out]; exact hdp))⟩
                          | some m =>
                            rw [hm] at s2 s3
                            have HM := Lib.hid hm
                            clear hm
                            cases hlt2 : ltS m x.name
                            · have hlt3 : Op.bytesLess m.toList x.name.toList = false := hlt2
                              have HLT := Lib.hid hlt2
                              clear hlt2
                              go_wp2
                              go_quiet (fail)
                              go_wp2
                              go_ret
                              exact ⟨below_drawn HB2.out _, false, rfl, shape_no HX.out (link_no_name HK0.out HP.out HY.out (fun h => by have := h.1 H7.out m (by rw [← HLM.out, HM.out]); rw [HLT.out] at this; cases this))⟩
                            · have hlt3 : Op.bytesLess m.toList x.name.toList = true := hlt2
                              have HLT := Lib.hid hlt2
                              clear hlt2
                              by_cases hdp : h + dq ≤ 6
                              all_goals
                                go_wp2
                                go_quiet (fail)
                                go_wp2
                              · refine ⟨⟨k + 1, by go_num, fin_map REL.out HX.out HOK.out (link_yes HK0.out HP.out hpk HY.out HYH.out HA.out ⟨fun _ m' hm => (by rw [← HLM.out, HM.out] at hm; injection hm with hm; subst hm; exact HLT.out), fun h => absurd H7.out h⟩ (by rw [HDK.out]; exact hdp)) HNS.out N0.out N1.out N2.out N3.out HB2.out⟩, by simp [intOf]; omega⟩
                              · go_ret
                                exact ⟨fin_below (by show w.heap.size ≤ w.heap.size + 1 + 1; omega) (by show w.heap.size ≤ w.heap.size + 1 + 1 + 1; omega) HB2.out, false, rfl, shape_no HX.out (link_no_deep HK0.out (by rw [HDK.out]; exact hdp))⟩
                        · have h7b : ((y.kind : Int) == 7) = false := by simpa using h7
                          have hns := nArr_list l k q x y HX.out HP.out hpk HY.out h7
                          have HNS := Lib.hid hns
                          have H7 := Lib.hid h7
                          clear hns h7
                          by_cases hnm : x.name = emptyB
                          · have hnb : x.name.toList.isEmpty = true := by rw [hnm, ByteArray.toList_eq]; rfl
                            have HNM := Lib.hid hnm
                            clear hnm
                            by_cases hdp : h + dq ≤ 6
                            all_goals go_wp2
                            · refine ⟨⟨k + 1, by go_num, rel_next REL.out HX.out HOK.out (link_yes HK0.out HP.out hpk HY.out HYH.out HA.out ⟨fun h => absurd h H7.out, fun _ => HNM.out⟩ (by rw [HDK.out]; exact hdp)) HB2.out N0.out N1.out (by rw [HNS.out.1]; exact N2.out) (by rw [HNS.out.2]; exact N3.out)⟩, by simp [intOf]; omega⟩
                            · go_ret
                              exact ⟨HB2.out, false, rfl, shape_no HX.out (link_no_deep HK0.out (by rw [HDK.out]; exact hdp))⟩
                          · have hnb : x.name.toList.isEmpty = false := name_ne hnm
                            have HNM := Lib.hid hnm
                            clear hnm
                            go_wp2
                            go_ret
                            exact ⟨HB2.out, false, rfl, shape_no HX.out (link_no_name HK0.out HP.out HY.out (fun h => HNM.out (h.2 H7.out)))⟩
                      · have hq1 : ((q : Int) != (p : Int)) = true := by simp; omega
                        have hql : q < l.length := by omega
                        have hql' : (q : Int) < (l.length : Int) := by omega
                        obtain ⟨z, hz, z0, z1, z2, z3, z4⟩ := nd_at2 (HR.out.frame (Agree.of_below MID.out.below)) q hql
                        have hzl := (REL.out.all q z (by omega) hz).2
                        have hnx : (z.up = -1 ∧ ¬ Anc l (k - 1) p) ∨ ∃ q' : Nat, z.up = (q' : Int) ∧ q' < q ∧ (Anc l (k - 1) p ↔ Anc l q' p) := by
                          by_cases hq0 : q = 0
                          · rw [linkOK, if_pos hq0] at hzl
                            exact .inl ⟨hzl.1, fun h => Anc.zero hz hzl.1 hqp (hiff.1 h)⟩
                          · obtain ⟨q', r1, r2, _⟩ := link_up hzl (by omega)
                            exact .inr ⟨q', r1, r2, hiff.trans (Anc.up_iff hz r1 hqp)⟩
                        have HN := Lib.hid hnx
                        clear hz hzl hnx hiff z0 z1 z2 z3
                        go_wp2
                        refine ⟨⟨z.up, rfl, ?_, ?_, ?_⟩, ?_⟩
                        · rcases HN.out with ⟨h, _⟩ | ⟨q', h, h', _⟩ <;> omega
                        · rcases HN.out with ⟨h, _⟩ | ⟨q', h, h', _⟩ <;> omega
                        · rcases HN.out with ⟨h, h'⟩ | ⟨q', h, h', h''⟩
                          · exact .inl ⟨h, h'⟩
                          · exact .inr ⟨q', h, by omega, h''⟩
                        · simp only [intOf]; rcases HN.out with ⟨h, _⟩ | ⟨q', h, h', _⟩ <;> omega
              · have hin : (decide (0 ≤ x.up) && decide (x.up ≤ (k : Int) - 1)) = false := by rw [Bool.and_eq_false_iff]; simp; omega
                have HUP := Lib.hid hup
                have HK0 := Lib.hid hk0
                clear hup hk0
                go_wp2_with (go_at_call 60; refine (sIn_any _ _ _ _).mono ?_; rintro e w' ⟨rfl, rfl⟩)
                go_ret
                exact ⟨MID.out.below, false, rfl, shape_no HX.out (by rw [linkOK, if_neg HK0.out]; rintro ⟨p, y, h1, h2, _⟩; exact HUP.out (by omega))⟩
    · have hkl : k = l.length := by omega
      have HKL := Lib.hid hkl
      have v0 := cell_of_block REL.out.b0 0
      simp at v0
      clear hkl
      go_wp2_with (go_at_call 60; refine (sIn_any _ _ _ _).mono ?_; rintro e w' ⟨rfl, rfl⟩)
      go_ret
      refine ⟨REL.out.below, _, rfl, ?_⟩
      constructor
      · intro h
        simp at h
        exact ⟨fun i x hx => REL.out.all i x (by have := (List.getElem?_eq_some_iff.1 hx).1; rw [HKL.out]; exact this) hx, by omega, by omega⟩
      · rintro ⟨_, h1, h2⟩
        simp
        omega
end Go.Proofs.YtcbcndoddikpjaaGreatDoor
