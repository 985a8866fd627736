/- The reference's JoinPatches. -/
import Derived.Test.YteeppdobeeodiaaGreatDoorSp8
import Derived.Test.YteeppdobeeodiaaGreatDoorSp3
namespace Go.Proofs.YteeppdobeeodiaaGreatDoor
open Go.RowKit
/-- The memory behind 'x, ok := l4Join(l1Tree(p, 0), l1Tree(q, 0))'. -/
def JCut2 (w w3 : World) (tp tq : Tree) (v6 v7 : Value) (wx : World) : Prop := ∃ gx cs f, v6 = .pointer (some ⟨gx, 0, none⟩) ∧ v7 = .bool f ∧ w3.heap.size ≤ gx ∧ wx.heap[gx]? = some (.cells cs.toArray 44 (0, 0)) ∧ Below w3.heap.size w3 wx ∧ SJOpt (fun b => w.heap.size ≤ b) wx cs f (Tree.join tp tq)
def zeroB : Obj := .cells #[.int .i64 0, .int .i64 0, .string ⟨#[]⟩, .slice none 0 0, .slice none 0 0] 44 (0, 0)
/-- The rows that the two trees lie in. -/
def F2 (a b c d : Nat) : Nat → Prop := fun k => a ≤ k ∧ k < b ∨ c ≤ k ∧ k < d
theorem js_late {w w3 w6 : World} {a b c d N : Nat} {tp tq : Tree} {f : Bool} {a0 a1 a2 a3 a4 : Value} (hs : w.heap.size ≤ w3.heap.size) (hb : Below w3.heap.size w3 w6) (ha : w3.heap.size ≤ a) (hc : w3.heap.size ≤ c) (hN : w3.heap.size ≤ N) (ho : SJOpt (Nw (F2 a b c d) N) w6 [a0, a1, a2, a3, a4] f (Tree.join tp tq)) :
    JCut2 w w3 tp tq (.pointer (some ⟨w6.heap.size, 0, none⟩)) (.bool f) (w6.alloc (.cells #[a0, a1, a2, a3, a4] 44 (0, 0))) := by
  refine ⟨w6.heap.size, [a0, a1, a2, a3, a4], f, rfl, rfl, hb.size, heap_alloc_new _ _, hb.alloc hb.size _, ho.frame (Agree.of_below ((Below.refl _ _).alloc (Nat.le_refl _) _)) (fun k h _ => ?_)⟩
  rcases h with ⟨h | h, _⟩ | h <;> omega
theorem js_early {w w3 w6 : World} {a b c d N g : Nat} {tp tq : Tree} {f : Bool} {a0 a1 a2 a3 a4 : Value} (hs : w.heap.size ≤ w3.heap.size) (hz : w6.heap[g]? = some zeroB) (hb : Below w3.heap.size w3 w6) (ha : w3.heap.size ≤ a) (hc : w3.heap.size ≤ c) (_hN : w3.heap.size ≤ N) (hg : w3.heap.size ≤ g)
    (h1 : g < a ∨ b ≤ g) (h2 : g < c ∨ d ≤ g) (h3 : g < N) (ho : SJOpt (Nw (F2 a b c d) N) w6 [a0, a1, a2, a3, a4] f (Tree.join tp tq)) :
    JCut2 w w3 tp tq (.pointer (some ⟨g, 0, none⟩)) (.bool f) (((((w6.setCell ⟨g, 0, none⟩ a0).setCell ⟨g, 1, none⟩ a1).setCell ⟨g, 2, none⟩ a2).setCell ⟨g, 3, none⟩ a3).setCell ⟨g, 4, none⟩ a4) := by
  have h5 := block_setCell (block_setCell (block_setCell (block_setCell (block_setCell hz 0 a0) 1 a1) 2 a2) 3 a3) 4 a4
  have hne : ∀ k, Nw (F2 a b c d) N k → k ≠ g := fun k h => by
    rcases h with ⟨h | h, _⟩ | h <;> omega
  refine ⟨g, [a0, a1, a2, a3, a4], f, rfl, rfl, hg, h5, below_set5 hb hg _ _ _ _ _, ho.frame ((((((Agree.refl _ w6).set hne 0 a0).set hne 1 a1).set hne 2 a2).set hne 3 a3).set hne 4 a4) (fun k h _ => ?_)⟩
  rcases h with ⟨h | h, _⟩ | h <;> omega
theorem LtPost.shape {t : Tree} {w0 w : World} {fi : FuncId} {args : Array Value} (hb : Below w0.heap.size w0 w) (h : Calls Tryz.prog fi args w (LtPost t w)) :
    Calls Tryz.prog fi args w (fun e w' => ∃ Z1 g1 Z2 g2, e = .returned (.agg #[.int .i64 t.kind, .int .i64 t.num, .string t.text, .slice Z1 t.names.length g1, .slice Z2 t.kids.length g2]) ∧ Below w.heap.size w w' ∧ Below w0.heap.size w0 w' ∧ ∃ a, a = w.heap.size ∧ LtAt (fun b => a ≤ b ∧ b < w'.heap.size) w' [.int .i64 t.kind, .int .i64 t.num, .string t.text, .slice Z1 t.names.length g1, .slice Z2 t.kids.length g2] t) := by
  refine h.mono ?_
  rintro e w' ⟨cs, rfl, hb', ho⟩
  have ho' := ho.frame (G := fun b => w.heap.size ≤ b ∧ b < w'.heap.size) (Agree.refl _ _) (fun b h h' => ⟨h, h'⟩)
  obtain ⟨Z1, g1, Z2, g2, rs, rfl, _⟩ := ho.open
  exact ⟨Z1, g1, Z2, g2, rfl, hb', below_then hb hb.size hb', _, rfl, ho'⟩
set_option maxRecDepth 100000 in
set_option maxHeartbeats 16000000 in
theorem sJoinPatches_any (lp lq : List Nd) (hp : lp.length ≤ 1000000000) (hq : lq.length ≤ 1000000000) (hsp : SzNd lp) (hsq : SzNd lq) (F : Nat → Prop) (A1 A2 : Option Addr) (c1 c2 : Nat) (w : World) (hr1 : Rds F w A1 (ndCells lp)) (hr2 : Rds F w A2 (ndCells lq)) :
    Calls Tryz.prog 7 #[.agg #[.slice A1 lp.length c1], .agg #[.slice A2 lq.length c2]] w (TwoPost Tree.join lp lq w) := by
  have HG1 := Lib.hid (fun W (hb : Below w.heap.size w W) => sGoodValue_any lp hp hsp F A1 c1 W (hr1.frame (Agree.of_below hb)))
  have HG2 := Lib.hid (fun W (hb : Below w.heap.size w W) => sGoodValue_any lq hq hsq F A2 c2 W (hr2.frame (Agree.of_below hb)))
  have HR1 := Lib.hid (fun W (hb : Below w.heap.size w W) => hr1.frame (w1 := W) (Agree.of_below hb))
  have HR2 := Lib.hid (fun W (hb : Below w.heap.size w W) => hr2.frame (w1 := W) (Agree.of_below hb))
  clear hr1 hr2 hsp hsq
  obtain ⟨w1, hw⟩ : ∃ w1, w1 = ((w.alloc (.cells #[.slice A1 lp.length c1] 25 (0, 0))).alloc (.cells #[.slice A2 lq.length c2] 25 (0, 0))).alloc (.cells #[.slice none 0 0] 25 (0, 0)) := ⟨_, rfl⟩
  have hb1 : Below w.heap.size w w1 := by rw [hw]; exact (((Below.refl _ _).alloc (Nat.le_refl _) _).alloc (by simp) _).alloc (by simp <;> omega) _
  have kp : w1.heap[w.heap.size]? = some (.cells #[.slice A1 lp.length c1] 25 (0, 0)) := by rw [hw]; (repeat (first | with_reducible assumption | (with_reducible refine blk_new _ ?_; (first | rfl | (simp; done) | (simp; omega))) | with_reducible apply block_setCell | (with_reducible refine blk_skip _ _ ?_ ?_; rotate_left; (first | (simp; done) | (simp; omega))) | with_reducible refine blk_old ?_))
  have kq : w1.heap[w.heap.size + 1]? = some (.cells #[.slice A2 lq.length c2] 25 (0, 0)) := by rw [hw]; (repeat (first | with_reducible assumption | (with_reducible refine blk_new _ ?_; (first | rfl | (simp; done) | (simp; omega))) | with_reducible apply block_setCell | (with_reducible refine blk_skip _ _ ?_ ?_; rotate_left; (first | (simp; done) | (simp; omega))) | with_reducible refine blk_old ?_))
  have kr : w1.heap[w.heap.size + 1 + 1]? = some (.cells #[.slice none 0 0] 25 (0, 0)) := by rw [hw]; (repeat (first | with_reducible assumption | (with_reducible refine blk_new _ ?_; (first | rfl | (simp; done) | (simp; omega))) | with_reducible apply block_setCell | (with_reducible refine blk_skip _ _ ?_ ?_; rotate_left; (first | (simp; done) | (simp; omega))) | with_reducible refine blk_old ?_))
  have hs1 : w1.heap.size = w.heap.size + 3 := by rw [hw]; simp
  have HW := Lib.hid hw
  have HB1 := Lib.hid hb1
  have HKP := Lib.hid kp
  have HKQ := Lib.hid kq
  have HKR := Lib.hid kr
  clear hw hb1 kp kq kr
  have hle : w.heap.size ≤ (⟨w.heap.size + 1 + 1, 0, none⟩ : Addr).block := by show w.heap.size ≤ w.heap.size + 1 + 1; omega
  have HNONE := Lib.hid (fun (h : (∀ t, ¬ IsGood lp t) ∨ ∀ t, ¬ IsGood lq t) (wx : World) (hb : Below w.heap.size w wx) (u : Value) => show TwoPost Tree.join lp lq w (.returned (.tuple #[.agg #[.slice none 0 0], .bool false])) (wx.setCell ⟨w.heap.size + 1 + 1, 0, none⟩ u) from
      ⟨[], _, false, rfl, two_none h, NdOwn.nil (hb.setCell (p := ⟨w.heap.size + 1 + 1, 0, none⟩) hle _)⟩)
  clear hle
  go_enter Tryz.func7, Tryz.ntmps7
  go_wp2_with fail
  rw [← HW.out]
  clear HW
  refine (HG1.out w1 HB1.out).mono ?_
  rintro e w2 ⟨hb2, g1, rfl, hg1⟩
  have HB2 := Lib.hid (below_then HB1.out HB1.out.size hb2)
  have HKP2 := Lib.hid (block_below HKP.out hb2)
  have HKQ2 := Lib.hid (block_below HKQ.out hb2)
  have HKR2 := Lib.hid (block_below HKR.out hb2)
  clear hb2 HKP HKQ HKR HB1
  cases g1
  · have r0 := cell_of_block HKR2.out 0
    have f0 := free_of_block HKR2.out 0
    simp at r0
    have HG1F := Lib.hid (show ∀ t, ¬ IsGood lp t from fun t h => by have := hg1.2 ⟨t, h⟩; cases this)
    clear hg1
    go_wp2
    refine bodyPost_ret (results_row_one rfl _ _ (w.heap.size + 1 + 1) _ _ _ _ rfl (block_setCell HKR2.out _ _) Tryz.underlying25 rfl ((info_size infoValue).trans (by simp))) rfl ?_
    exact HNONE.out (.inl HG1F.out) _ HB2.out _
  · obtain ⟨tp, htp⟩ := hg1.1 rfl
    have HTP := Lib.hid htp
    clear hg1 htp
    have xq := cell_of_block HKQ2.out 0
    simp at xq
    go_wp2_with fail
    refine (HG2.out w2 HB2.out).mono ?_
    rintro e w3 ⟨hb3, g2, rfl, hg2⟩
    have HB3 := Lib.hid (below_then HB2.out HB2.out.size hb3)
    have HKP3 := Lib.hid (block_below HKP2.out hb3)
    have HKQ3 := Lib.hid (block_below HKQ2.out hb3)
    have HKR3 := Lib.hid (block_below HKR2.out hb3)
    clear hb3 HKP2 HKQ2 HKR2 HB2 xq HG1 HG2
    cases g2
    · have r0 := cell_of_block HKR3.out 0
      have f0 := free_of_block HKR3.out 0
      simp at r0
      have HG2F := Lib.hid (show ∀ t, ¬ IsGood lq t from fun t h => by have := hg2.2 ⟨t, h⟩; cases this)
      clear hg2
      go_wp2
      refine bodyPost_ret (results_row_one rfl _ _ (w.heap.size + 1 + 1) _ _ _ _ rfl (block_setCell HKR3.out _ _) Tryz.underlying25 rfl ((info_size infoValue).trans (by simp))) rfl ?_
      exact HNONE.out (.inr HG2F.out) _ HB3.out _
    · obtain ⟨tq, htq⟩ := hg2.1 rfl
      have HTQ := Lib.hid htq
      clear hg2 htq
      have hs3 := HB3.out.size
      obtain ⟨np1, np2⟩ := HTP.out.count
      obtain ⟨nq1, nq2⟩ := HTQ.out.count
      have HT1 := Lib.hid (fun W (hb : Below w3.heap.size w3 W) => LtPost.shape hb (sTree_any tp HTP.out.2.1 lp (by omega) 0 (Sub.of_flat HTP.out.1) F A1 c1 W (HR1.out W (below_then HB3.out hs3 hb))))
      have HT2 := Lib.hid (fun W (hb : Below w3.heap.size w3 W) => LtPost.shape hb (sTree_any tq HTQ.out.2.1 lq (by omega) 0 (Sub.of_flat HTQ.out.1) F A2 c2 W (HR2.out W (below_then HB3.out hs3 hb))))
      have HT3 := Lib.hid (fun W (hb : Below w3.heap.size w3 W) (F : Nat → Prop) (pc qc : List Value) (h1 : LtAt F W pc tp) (h2 : LtAt F W qc tq) => SJoinPost.shape hb (sJoin_any tq HTQ.out.2.1 tp F pc qc W HTP.out.2.1 (by omega) h1 h2))
      have HKEEP := Lib.hid (fun W (hb : Below w3.heap.size w3 W) => show W.cell? ⟨w.heap.size, 0, none⟩ = some (.slice A1 lp.length c1) ∧ W.cell? ⟨w.heap.size + 1, 0, none⟩ = some (.slice A2 lq.length c2) from
        ⟨cell_of_block ((hb.block _ (lt_of_block HKP3.out)).trans HKP3.out) 0, cell_of_block ((hb.block _ (lt_of_block HKQ3.out)).trans HKQ3.out) 0⟩)
      clear np1 np2 nq1 nq2
      go_upto_region 3 with fail
      go_cut [6, 7] (fun v6 v7 wx => JCut2 w w3 tp tq v6 v7 wx)
      case first =>
        have HD0 := Lib.hid (show Below w3.heap.size w3 w3.drew from (Below.refl _ _).drew)
        have HD1 := Lib.hid (fun o => show Below w3.heap.size w3 (w3.drew.alloc o) from (Below.refl _ _).drew.alloc (Nat.le_refl _) o)
        have HD5 := Lib.hid (fun o => show Below w3.heap.size w3 (w3.alloc o).drew from ((Below.refl _ _).alloc (Nat.le_refl _) o).drew)
        have HD6 := Lib.hid (fun (W : World) (o : Obj) (W' : World) (hb : Below (W.alloc o).drew.heap.size (W.alloc o).drew W') => show W'.heap[W.heap.size]? = some o from (hb.block _ (by show W.heap.size < (W.alloc o).heap.size; simp)).trans (heap_alloc_new W o))
        have HD2 := Lib.hid (fun (W : World) (o : Obj) => show Below W.heap.size W (W.alloc o) from (Below.refl _ _).alloc (Nat.le_refl _) o)
        have HD3 := Lib.hid (fun (W : World) (o : Obj) (W' : World) (hb : Below (W.alloc o).heap.size (W.alloc o) W') => show W'.heap[W.heap.size]? = some o from (hb.block _ (by simp)).trans (heap_alloc_new W o))
        have HD4 := Lib.hid (fun (W : World) (o : Obj) (W' : World) (hb : Below (W.alloc o).heap.size (W.alloc o) W') => show Below W.heap.size W W' from below_then ((Below.refl _ _).alloc (Nat.le_refl _) o) (by simp) hb)
        go_region_held3 (fun W => W.cell? ⟨w.heap.size, 0, none⟩ = some (.slice A1 lp.length c1) ∧ W.cell? ⟨w.heap.size + 1, 0, none⟩ = some (.slice A2 lq.length c2))
          (exact HKEEP.out _ (by with_reducible first | exact below_set5 hx3 hx2.size _ _ _ _ _ | exact below_set5 hx3 hx1.size _ _ _ _ _ | exact below_set5 hx3 (Nat.le_refl _) _ _ _ _ _ | exact hx3 | exact hx3.alloc hx3.size _ | exact hx2 | exact hx2.alloc hx2.size _ | exact hx1 | exact hx1.alloc hx1.size _ | exact HD0.out | exact HD1.out _ | exact HD5.out _))
          (first
            | (go_at_call 24; have hf1 := hl1.frame (G := F2 a1 w4.heap.size a2 w5.heap.size) (Agree.of_below hb24) (fun k h _ => Or.inl h); have hf2 := hl2.frame (G := F2 a1 w4.heap.size a2 w5.heap.size) (Agree.refl _ _) (fun k h _ => Or.inr h); refine (HT3.out _ (by with_reducible first | exact hx3 | exact hx3.alloc hx3.size _ | exact hx2 | exact hx2.alloc hx2.size _ | exact hx1 | exact hx1.alloc hx1.size _ | exact HD0.out | exact HD1.out _ | exact HD5.out _) (F2 a1 w4.heap.size a2 w5.heap.size) _ _ (by with_reducible first | exact hf1 | exact hf1.below (HD2.out _ _)) (by with_reducible first | exact hf2 | exact hf2.below (HD2.out _ _))).mono ?_; rintro e w6 ⟨zk, zn, zt, Z1, l1, g1, Z2, l2, g2, f, rfl, hb3, hx3, hopt⟩; (first | (have hz6 := (hb3.block _ (lt_of_block hz5)).trans hz5; have z0 := cell_of_block hz6 0; have f0 := free_of_block hz6 0; have z1 := cell_of_block hz6 1; have f1 := free_of_block hz6 1; have z2 := cell_of_block hz6 2; have f2 := free_of_block hz6 2; have z3 := cell_of_block hz6 3; have f3 := free_of_block hz6 3; have z4 := cell_of_block hz6 4; have f4 := free_of_block hz6 4; simp at z0 z1 z2 z3 z4) | (have hz6 := HD3.out _ _ _ hb3; have z0 := cell_of_block hz6 0; have f0 := free_of_block hz6 0; have z1 := cell_of_block hz6 1; have f1 := free_of_block hz6 1; have z2 := cell_of_block hz6 2; have f2 := free_of_block hz6 2; have z3 := cell_of_block hz6 3; have f3 := free_of_block hz6 3; have z4 := cell_of_block hz6 4; have f4 := free_of_block hz6 4; simp at z0 z1 z2 z3 z4) | skip))
            | (go_at_call 25; have hx1' := hx1; refine (HT2.out _ (by with_reducible first | exact hx3 | exact hx3.alloc hx3.size _ | exact hx2 | exact hx2.alloc hx2.size _ | exact hx1 | exact hx1.alloc hx1.size _ | exact HD0.out | exact HD1.out _ | exact HD5.out _)).mono ?_; rintro e w5 ⟨X1, x1, X2, x2, rfl, hb2, hx2, a2, ha2, hl2⟩; have hb24 : Below w4.heap.size w4 w5 := (by with_reducible first | exact hb2 | exact HD4.out _ _ _ hb2); (first | have hz5 := (hb2.block _ (lt_of_block hz4)).trans hz4 | have hz5 := HD3.out _ _ _ hb2 | skip))
            | (go_at_call 25; refine (HT1.out _ (by with_reducible first | exact hx3 | exact hx3.alloc hx3.size _ | exact hx2 | exact hx2.alloc hx2.size _ | exact hx1 | exact hx1.alloc hx1.size _ | exact HD0.out | exact HD1.out _ | exact HD5.out _)).mono ?_; rintro e w4 ⟨Y1, y1, Y2, y2, rfl, hb1, hx1, a1, ha1, hl1⟩; (first | have hz4 := HD3.out _ _ _ hb1 | have hz4 := HD6.out _ _ _ hb1 | skip)))
        all_goals
          go_wp2
          go_meet
          have q1 : w3.heap.size ≤ a1 := by rw [ha1]; first | exact Nat.le_refl _ | (show w3.heap.size ≤ (w3.alloc _).heap.size; simp)
          have q2 : w4.heap.size ≤ a2 := by rw [ha2]; first | exact Nat.le_refl _ | simp
          have s1 := hx1.size
          have s2 := hx2.size
          have s3 := hb24.size
          first
            | (have hh := js_early (g := w5.heap.size) hs3 hz6 hx3 q1 (Nat.le_trans s1 q2) (by simp; omega) s2 (.inr s3) (.inr (Nat.le_refl _)) (by simp) hopt; exact hh)
            | (have hh := js_early (g := w4.heap.size) hs3 hz6 hx3 q1 (Nat.le_trans s1 q2) s2 s1 (.inr (Nat.le_refl _)) (.inl (by rw [ha2]; simp)) (by have h5 := hb2.size; simp at h5; omega) hopt; exact hh)
            | (have hh := js_early (g := w3.heap.size) hs3 hz6 hx3 q1 (Nat.le_trans s1 q2) s2 (Nat.le_refl _) (.inl (by rw [ha1]; show w3.heap.size < (w3.alloc _).heap.size; simp)) (.inl (by have h : (w3.alloc (.cells #[.int .i64 0, .int .i64 0, .string ⟨#[]⟩, .slice none 0 0, .slice none 0 0] 44 (0, 0))).heap.size ≤ w4.heap.size := hb1.size; simp at h; omega)) (by have h : (w3.alloc (.cells #[.int .i64 0, .int .i64 0, .string ⟨#[]⟩, .slice none 0 0, .slice none 0 0] 44 (0, 0))).heap.size ≤ w4.heap.size := hb1.size; simp at h; omega) hopt; exact hh)
            | (have hh := js_late hs3 hx3 q1 (Nat.le_trans s1 q2) s2 hopt; exact hh)
      case rest =>
        obtain ⟨gx, zcs, f, rfl, rfl, hgx, hgk, hb4, hopt⟩ := hcut
        have hk4 := block_below HKR3.out hb4
        have r0 := cell_of_block hk4 0
        have f0 := free_of_block hk4 0
        simp at r0
        have HB4 := Lib.hid (below_then HB3.out hs3 hb4)
        have HK4 := Lib.hid hk4
        have HGK := Lib.hid hgk
        have hgl := lt_of_block hgk
        clear hk4 hb4 hgk HT1 HT2 HT3 HKEEP
        cases hj : Tree.join tp tq with
        | none =>
          rw [hj] at hopt
          obtain ⟨rfl, rfl⟩ := hopt
          have HJN := Lib.hid hj
          clear hj
          go_wp2
          refine bodyPost_ret (results_row_one rfl _ _ (w.heap.size + 1 + 1) _ _ _ _ rfl (block_setCell HK4.out _ _) Tryz.underlying25 rfl ((info_size infoValue).trans (by simp))) rfl ?_
          exact ⟨[], _, false, rfl, told_res HTP.out HTQ.out (.inr ⟨rfl, rfl, by rw [HJN.out]; rfl⟩), NdOwn.nil (HB4.out.setCell (p := ⟨w.heap.size + 1 + 1, 0, none⟩) (by show w.heap.size ≤ w.heap.size + 1 + 1; omega) _)⟩
        | some t =>
          rw [hj] at hopt
          obtain ⟨rfl, hzt⟩ := hopt
          obtain ⟨hzo, hzc⟩ := join_ok tq tp t HTP.out.2.1 HTQ.out.2.1 hj
          obtain ⟨np1, np2⟩ := HTP.out.count
          obtain ⟨nq1, nq2⟩ := HTQ.out.count
          have HTL := Lib.hid (sTell_any t hzo (by omega) _ zcs wc hzt)
          obtain ⟨G1, h1, G2, h2, rs4, e4, _⟩ := hzt.open
          subst e4
          have HJN := Lib.hid hj
          have x0 := cell_of_block HGK.out 0
          have x1 := cell_of_block HGK.out 1
          have x2 := cell_of_block HGK.out 2
          have x3 := cell_of_block HGK.out 3
          have x4 := cell_of_block HGK.out 4
          simp at x0 x1 x2 x3 x4
          clear hj hzt hzo hzc np1 np2 nq1 nq2
          go_wp2_with fail
          refine HTL.out.mono ?_
          rintro e w5 ⟨l, u, f, rfl, htold, hown⟩
          obtain ⟨A5, c5, rfl⟩ := hown.shape
          have hk5 := block_below HK4.out hown.1
          have x5 := cell_of_block hk5 0
          have f5 := free_of_block hk5 0
          simp at x5
          have HK5 := Lib.hid hk5
          have HO5 := Lib.hid hown
          have HTD := Lib.hid htold
          have hgb := lt_of_block HK4.out
          clear hown htold hk5 HTL x0 x1 x2 x3 x4
          go_wp2
          refine bodyPost_ret (results_row_one rfl _ _ (w.heap.size + 1 + 1) _ _ _ _ rfl (block_setCell HK5.out _ _) Tryz.underlying25 rfl ((info_size infoValue).trans (by simp))) rfl ?_
          exact ⟨l, _, f, rfl, told_res HTP.out HTQ.out (by rw [HJN.out]; exact HTD.out), NdOwn.cell HB4.out HO5.out (by omega) hgb _⟩
end Go.Proofs.YteeppdobeeodiaaGreatDoor
