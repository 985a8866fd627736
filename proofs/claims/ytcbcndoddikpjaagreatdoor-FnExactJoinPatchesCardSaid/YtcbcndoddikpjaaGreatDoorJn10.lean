/- The program's JoinPatches. -/
import Derived.Test.YtcbcndoddikpjaaGreatDoorJn7
import Derived.Test.YtcbcndoddikpjaaGreatDoorJn9
import Derived.Deep.DeepCutAuto
import Derived.Deep.CutBlock
namespace Go.Proofs.YtcbcndoddikpjaaGreatDoor
open Go.RowKit
/-- What a function of two values tells, that does op on the trees. -/
def TwoYes (op : Tree → Tree → Option Tree) (lp lq l : List Nd) : Prop := ∃ tp tq t, IsGood lp tp ∧ IsGood lq tq ∧ op tp tq = some t ∧ t.good = true ∧ l = t.flat emptyB (-1) 0
def TwoRes (op : Tree → Tree → Option Tree) (lp lq l : List Nd) (f : Bool) : Prop := (f = true ∧ TwoYes op lp lq l) ∨ (f = false ∧ l = [] ∧ ∀ l', ¬ TwoYes op lp lq l')
theorem isGood_one {l : List Nd} {t t' : Tree} (h : IsGood l t) (h' : IsGood l t') : t = t' := flat_inj h.1 h.2.1 h'.1 h'.2.1
section
variable {op : Tree → Tree → Option Tree} {lp lq l l' : List Nd} {f f' : Bool}
theorem TwoYes.one (h : TwoYes op lp lq l) (h' : TwoYes op lp lq l') : l = l' := by
  obtain ⟨tp, tq, t, h1, h2, h3, _, rfl⟩ := h
  obtain ⟨tp', tq', t', g1, g2, g3, _, rfl⟩ := h'
  obtain rfl := isGood_one h1 g1
  obtain rfl := isGood_one h2 g2
  rw [h3] at g3
  injection g3 with g3
  rw [g3]
theorem TwoRes.one (h : TwoRes op lp lq l f) (h' : TwoRes op lp lq l' f') : l = l' ∧ f = f' := by
  rcases h with ⟨rfl, h⟩ | ⟨rfl, rfl, h⟩
  · rcases h' with ⟨rfl, h'⟩ | ⟨rfl, rfl, h'⟩
    · exact ⟨h.one h', rfl⟩
    · exact absurd h (h' _)
  · rcases h' with ⟨rfl, h'⟩ | ⟨rfl, rfl, h'⟩
    · exact absurd h' (h _)
    · exact ⟨rfl, rfl⟩
theorem told_res {tp tq : Tree} (hp : IsGood lp tp) (hq : IsGood lq tq) (h : Told (op tp tq) l f) : TwoRes op lp lq l f := by
  rcases h with ⟨rfl, t, h1, h2, h3⟩ | ⟨rfl, rfl, h1⟩
  · exact .inl ⟨rfl, tp, tq, t, hp, hq, h1, h2, h3⟩
  · refine .inr ⟨rfl, rfl, ?_⟩
    rintro l' ⟨tp', tq', t', g1, g2, g3, g4, _⟩
    obtain rfl := isGood_one hp g1
    obtain rfl := isGood_one hq g2
    rw [g3] at h1
    exact absurd g4 (by rw [show t'.good = false from h1]; simp)
theorem two_none (h : (∀ t, ¬ IsGood lp t) ∨ ∀ t, ¬ IsGood lq t) : TwoRes op lp lq [] false := by
  refine .inr ⟨rfl, rfl, ?_⟩
  rintro l' ⟨tp, tq, _, h1, h2, _⟩
  rcases h with h | h
  · exact h _ h1
  · exact h _ h2
end
def TwoPost (op : Tree → Tree → Option Tree) (lp lq : List Nd) (w : World) (e : Ending) (w' : World) : Prop := ∃ l v f, e = .returned (.tuple #[.agg #[v], .bool f]) ∧ TwoRes op lp lq l f ∧ NdOwn l w v w'
def SzNd (l : List Nd) : Prop := ∀ x ∈ l, x.text.size ≤ 9223372036854775807 ∧ x.name.size ≤ 9223372036854775807
def JpCut (lp lq : List Nd) (w w1 : World) (v1 v2 : Value) (wx : World) : Prop := ∃ o1 o2, OptAt (fun b => w.heap.size ≤ b) wx v1 o1 ∧ OptAt (fun b => w.heap.size ≤ b) wx v2 o2 ∧ ValOf lp o1 ∧ ValOf lq o2 ∧ Below w1.heap.size w1 wx
theorem OptAt.frame {F G : Nat → Prop} {w w1 : World} {v : Value} {o : Option Tree} (h : OptAt F w v o) (hb : Agree F w w1) (hG : ∀ b, F b → b < w.heap.size → G b) : OptAt G w1 v o := by
  cases o with
  | none => exact h
  | some t => exact TreeAt.frame hb hG (show TreeAt F w v t from h)
theorem jp_cut {lp lq : List Nd} {w w1 w2 w3 : World} {v1 v2 : Value} {o1 o2 : Option Tree} (h1 : Below w.heap.size w w1) (hb2 : Below w1.drew.heap.size w1.drew w2) (hb3 : Below w2.heap.size w2 w3) (ho1 : OptAt (fun b => w1.drew.heap.size ≤ b) w2 v1 o1) (hv1 : ValOf lp o1) (ho2 : OptAt (fun b => w2.heap.size ≤ b) w3 v2 o2) (hv2 : ValOf lq o2) : JpCut lp lq w w1 v1 v2 w3 := by
  have hs : w.heap.size ≤ w1.heap.size := h1.size
  have hs2 : w1.heap.size ≤ w2.heap.size := hb2.size
  have e : w1.drew.heap.size = w1.heap.size := rfl
  have hb12 : Below w1.heap.size w1 w2 := below_then (Below.refl _ _).drew (Nat.le_refl _) hb2
  exact ⟨o1, o2, ho1.frame (Agree.of_below hb3) (fun b h _ => by have h' : w1.drew.heap.size ≤ b := h; show w.heap.size ≤ b; omega), ho2.frame (Agree.refl _ _) (fun b h _ => by have h' : w2.heap.size ≤ b := h; show w.heap.size ≤ b; omega), hv1, hv2, below_then hb12 hs2 hb3⟩
set_option maxRecDepth 100000 in
set_option maxHeartbeats 4000000 in
theorem joinPatches_any (lp lq : List Nd) (hp : lp.length ≤ 1000000000) (hq : lq.length ≤ 1000000000) (hsp : SzNd lp) (hsq : SzNd lq) (F : Nat → Prop) (A1 A2 : Option Addr) (c1 c2 : Nat) (hc1 : lp.length ≤ c1) (hc2 : lq.length ≤ c2) (w : World) (hr1 : Rds F w A1 (ndCells lp)) (hr2 : Rds F w A2 (ndCells lq)) (htab : Tabs w.heap.size w) :
    Calls Tryz.prog 9 #[.agg #[.slice A1 lp.length c1], .agg #[.slice A2 lq.length c2]] w (TwoPost Tree.join lp lq w) := by
  have H1 := Lib.hid (fun W (hb : Below w.heap.size w W) => valOf_any lp (by omega) hsp F A1 c1 hc1 W (hr1.frame (Agree.of_below hb)) ((htab.below hb).mono hb.size))
  have H2 := Lib.hid (fun W (hb : Below w.heap.size w W) => valOf_any lq (by omega) hsq F A2 c2 hc2 W (hr2.frame (Agree.of_below hb)) ((htab.below hb).mono hb.size))
  have HT := Lib.hid (fun W (hb : Below w.heap.size w W) => (htab.below hb).mono hb.size)
  clear hr1 hr2 htab hsp hsq
  obtain ⟨w1, hw⟩ : ∃ w1, w1 = ((w.alloc (.cells #[.slice A1 lp.length c1] 28 (0, 0))).alloc (.cells #[.slice A2 lq.length c2] 28 (0, 0))).alloc (.cells #[.slice none 0 0] 28 (0, 0)) := ⟨_, rfl⟩
  have hb1 : Below w.heap.size w w1 := by rw [hw]; exact (((Below.refl _ _).alloc (Nat.le_refl _) _).alloc (by simp) _).alloc (by simp <;> omega) _
  have kp : w1.heap[w.heap.size]? = some (.cells #[.slice A1 lp.length c1] 28 (0, 0)) := by rw [hw]; (repeat (first | with_reducible assumption | (with_reducible refine blk_new _ ?_; (first | rfl | (simp; done) | (simp; omega))) | with_reducible apply block_setCell | (with_reducible refine blk_skip _ _ ?_ ?_; rotate_left; (first | (simp; done) | (simp; omega))) | with_reducible refine blk_old ?_))
  have kq : w1.heap[w.heap.size + 1]? = some (.cells #[.slice A2 lq.length c2] 28 (0, 0)) := by rw [hw]; (repeat (first | with_reducible assumption | (with_reducible refine blk_new _ ?_; (first | rfl | (simp; done) | (simp; omega))) | with_reducible apply block_setCell | (with_reducible refine blk_skip _ _ ?_ ?_; rotate_left; (first | (simp; done) | (simp; omega))) | with_reducible refine blk_old ?_))
  have kr : w1.heap[w.heap.size + 1 + 1]? = some (.cells #[.slice none 0 0] 28 (0, 0)) := by rw [hw]; (repeat (first | with_reducible assumption | (with_reducible refine blk_new _ ?_; (first | rfl | (simp; done) | (simp; omega))) | with_reducible apply block_setCell | (with_reducible refine blk_skip _ _ ?_ ?_; rotate_left; (first | (simp; done) | (simp; omega))) | with_reducible refine blk_old ?_))
  have hs1 : w1.heap.size = w.heap.size + 3 := by rw [hw]; simp
  have HW := Lib.hid hw
  have xp : w1.cell? ⟨w.heap.size, 0, none⟩ = some (.slice A1 lp.length c1) := cell_of_block kp 0
  have xq : w1.cell? ⟨w.heap.size + 1, 0, none⟩ = some (.slice A2 lq.length c2) := cell_of_block kq 0
  have HB1 := Lib.hid hb1
  have HKQ := Lib.hid kq
  have HKR := Lib.hid kr
  clear hw hb1 kp kq kr
  go_enter Tryz.func9, Tryz.ntmps9
  go_wp2_with fail
  rw [← HW.out]
  clear HW
  go_cut [6, 7] (fun x y wx => ∃ v1 v2, x = v1 ∧ y = v2 ∧ JpCut lp lq w w1 v1 v2 wx)
  case first =>
    refine wp_region_any (by kernel_rfl) ?_
    change wpAny _ _ _ _ _ _ _ (World.drew _)
    (refine wpAny_ready (rs := [0, 2]) (by kernel_rfl) (by simp) ?_; refine AllReady.cons rfl (fun K hK => ?_) (AllReady.cons rfl (fun K hK => ?_) (AllReady.nil)))
    · go_simp
      refine hK _ _ ?_
      clear hK K
      (refine wpAny_ready (rs := [1, 2]) (by kernel_rfl) (by simp) ?_; refine AllReady.cons rfl (fun K hK => ?_) (AllReady.cons rfl (fun K hK => ?_) (AllReady.nil)))
      · go_simp
        refine (H1.out _ (by exact HB1.out.drew)).mono ?_
        rintro e w2 ⟨hb2, o1, v1, rfl, ho1, hv1⟩
        have hkq2 := (hb2.block _ (lt_of_block HKQ.out)).trans HKQ.out
        have xq2 : w2.cell? ⟨w.heap.size + 1, 0, none⟩ = some (.slice A2 lq.length c2) := cell_of_block hkq2 0
        have hb12 : Below w.heap.size w w2 := below_then HB1.out.drew HB1.out.size hb2
        go_simp
        refine hK _ _ ?_
        clear hK K
        (refine wpAny_ready (rs := [2]) (by kernel_rfl) (by simp) ?_; refine AllReady.cons rfl (fun K hK => ?_) (AllReady.nil))
        go_simp
        refine hK _ _ ?_
        clear hK K
        (refine wpAny_ready (rs := [3]) (by kernel_rfl) (by simp) ?_; refine AllReady.cons rfl (fun K hK => ?_) (AllReady.nil))
        go_simp
        refine (H2.out _ hb12).mono ?_
        rintro e w3 ⟨hb3, o2, v2, rfl, ho2, hv2⟩
        have hcut : JpCut lp lq w w1 v1 v2 w3 := jp_cut HB1.out hb2 hb3 ho1 hv1 ho2 hv2
        clear hb2 hb3 ho1 hv1 ho2 hv2 hb12 hkq2 xq2
        go_simp
        refine hK _ _ ?_
        clear hK K
        (refine wpAny_take (i := 4) (v := ?_) rfl (by kernel_rfl) (by kernel_rfl) (by kernel_rfl) (fun _ _ _ h => h) (Or.inl ⟨rfl, ?_⟩) ?_; rotate_left 1; (focus (intro w; go_simp; try (with_reducible rfl))); change wpAny _ _ _ _ _ _ (Act.put _ (some 6) _) _; simp only [Act.put, List.setIfInBounds_toArray, List.set_cons_zero, List.set_cons_succ])
        (refine wpAny_take (i := 5) (v := ?_) rfl (by kernel_rfl) (by kernel_rfl) (by kernel_rfl) (fun _ _ _ h => h) (Or.inl ⟨rfl, ?_⟩) ?_; rotate_left 1; (focus (intro w; go_simp; try (with_reducible rfl))); change wpAny _ _ _ _ _ _ (Act.put _ (some 7) _) _; simp only [Act.put, List.setIfInBounds_toArray, List.set_cons_zero, List.set_cons_succ])
        refine wpAny_done (by kernel_rfl) ?_ _
        go_wp2
        go_meet
        exact ⟨_, _, rfl, rfl, hcut⟩
      · go_simp
        refine hK _ _ ?_
        clear hK K
        (refine wpAny_ready (rs := [1]) (by kernel_rfl) (by simp) ?_; refine AllReady.cons rfl (fun K hK => ?_) (AllReady.nil))
        go_simp
        refine (H1.out _ (by exact HB1.out.drew)).mono ?_
        rintro e w2 ⟨hb2, o1, v1, rfl, ho1, hv1⟩
        have hkq2 := (hb2.block _ (lt_of_block HKQ.out)).trans HKQ.out
        have xq2 : w2.cell? ⟨w.heap.size + 1, 0, none⟩ = some (.slice A2 lq.length c2) := cell_of_block hkq2 0
        have hb12 : Below w.heap.size w w2 := below_then HB1.out.drew HB1.out.size hb2
        go_simp
        refine hK _ _ ?_
        clear hK K
        (refine wpAny_ready (rs := [3]) (by kernel_rfl) (by simp) ?_; refine AllReady.cons rfl (fun K hK => ?_) (AllReady.nil))
        go_simp
        refine (H2.out _ hb12).mono ?_
        rintro e w3 ⟨hb3, o2, v2, rfl, ho2, hv2⟩
        have hcut : JpCut lp lq w w1 v1 v2 w3 := jp_cut HB1.out hb2 hb3 ho1 hv1 ho2 hv2
        clear hb2 hb3 ho1 hv1 ho2 hv2 hb12 hkq2 xq2
        go_simp
        refine hK _ _ ?_
        clear hK K
        (refine wpAny_take (i := 4) (v := ?_) rfl (by kernel_rfl) (by kernel_rfl) (by kernel_rfl) (fun _ _ _ h => h) (Or.inl ⟨rfl, ?_⟩) ?_; rotate_left 1; (focus (intro w; go_simp; try (with_reducible rfl))); change wpAny _ _ _ _ _ _ (Act.put _ (some 6) _) _; simp only [Act.put, List.setIfInBounds_toArray, List.set_cons_zero, List.set_cons_succ])
        (refine wpAny_take (i := 5) (v := ?_) rfl (by kernel_rfl) (by kernel_rfl) (by kernel_rfl) (fun _ _ _ h => h) (Or.inl ⟨rfl, ?_⟩) ?_; rotate_left 1; (focus (intro w; go_simp; try (with_reducible rfl))); change wpAny _ _ _ _ _ _ (Act.put _ (some 7) _) _; simp only [Act.put, List.setIfInBounds_toArray, List.set_cons_zero, List.set_cons_succ])
        refine wpAny_done (by kernel_rfl) ?_ _
        go_wp2
        go_meet
        exact ⟨_, _, rfl, rfl, hcut⟩
    · go_simp
      refine hK _ _ ?_
      clear hK K
      (refine wpAny_ready (rs := [0]) (by kernel_rfl) (by simp) ?_; refine AllReady.cons rfl (fun K hK => ?_) (AllReady.nil))
      go_simp
      refine hK _ _ ?_
      clear hK K
      (refine wpAny_ready (rs := [1]) (by kernel_rfl) (by simp) ?_; refine AllReady.cons rfl (fun K hK => ?_) (AllReady.nil))
      go_simp
      refine (H1.out _ (by exact HB1.out.drew)).mono ?_
      rintro e w2 ⟨hb2, o1, v1, rfl, ho1, hv1⟩
      have hkq2 := (hb2.block _ (lt_of_block HKQ.out)).trans HKQ.out
      have xq2 : w2.cell? ⟨w.heap.size + 1, 0, none⟩ = some (.slice A2 lq.length c2) := cell_of_block hkq2 0
      have hb12 : Below w.heap.size w w2 := below_then HB1.out.drew HB1.out.size hb2
      go_simp
      refine hK _ _ ?_
      clear hK K
      (refine wpAny_ready (rs := [3]) (by kernel_rfl) (by simp) ?_; refine AllReady.cons rfl (fun K hK => ?_) (AllReady.nil))
      go_simp
      refine (H2.out _ hb12).mono ?_
      rintro e w3 ⟨hb3, o2, v2, rfl, ho2, hv2⟩
      have hcut : JpCut lp lq w w1 v1 v2 w3 := jp_cut HB1.out hb2 hb3 ho1 hv1 ho2 hv2
      clear hb2 hb3 ho1 hv1 ho2 hv2 hb12 hkq2 xq2
      go_simp
      refine hK _ _ ?_
      clear hK K
      (refine wpAny_take (i := 4) (v := ?_) rfl (by kernel_rfl) (by kernel_rfl) (by kernel_rfl) (fun _ _ _ h => h) (Or.inl ⟨rfl, ?_⟩) ?_; rotate_left 1; (focus (intro w; go_simp; try (with_reducible rfl))); change wpAny _ _ _ _ _ _ (Act.put _ (some 6) _) _; simp only [Act.put, List.setIfInBounds_toArray, List.set_cons_zero, List.set_cons_succ])
      (refine wpAny_take (i := 5) (v := ?_) rfl (by kernel_rfl) (by kernel_rfl) (by kernel_rfl) (fun _ _ _ h => h) (Or.inl ⟨rfl, ?_⟩) ?_; rotate_left 1; (focus (intro w; go_simp; try (with_reducible rfl))); change wpAny _ _ _ _ _ _ (Act.put _ (some 7) _) _; simp only [Act.put, List.setIfInBounds_toArray, List.set_cons_zero, List.set_cons_succ])
      refine wpAny_done (by kernel_rfl) ?_ _
      go_wp2
      go_meet
      exact ⟨_, _, rfl, rfl, hcut⟩
  case rest =>
    obtain ⟨v1, v2, e1, e2, o1, o2, ho1, ho2, hv1, hv2, hb3⟩ := hcut
    replace e1 := e1.symm
    replace e2 := e2.symm
    subst e1 e2
    have hb13 : Below w.heap.size w wc := below_then HB1.out HB1.out.size hb3
    have hs3 : w1.heap.size ≤ wc.heap.size := hb3.size
    have hk3 := block_below HKR.out hb3
    have x3 := cell_of_block hk3 0
    have f3 := free_of_block hk3 0
    simp at x3
    have HK3 := Lib.hid hk3
    have HB13 := Lib.hid hb13
    have HO1 := Lib.hid ho1
    have HO2 := Lib.hid ho2
    have HV1 := Lib.hid hv1
    have HV2 := Lib.hid hv2
    clear hb3 hb13 hk3 ho1 ho2 hv1 hv2 xp xq
    have hnone : ((∀ t, ¬ IsGood lp t) ∨ ∀ t, ¬ IsGood lq t) → ∀ u, TwoPost Tree.join lp lq w (.returned (.tuple #[.agg #[.slice none 0 0], .bool false])) (wc.setCell ⟨w.heap.size + 1 + 1, 0, none⟩ u) := fun h u =>
      ⟨[], _, false, rfl, two_none h, NdOwn.nil (HB13.out.setCell (p := ⟨w.heap.size + 1 + 1, 0, none⟩) (by show w.heap.size ≤ w.heap.size + 1 + 1; omega) _)⟩
    have HNONE := Lib.hid hnone
    clear hnone
    cases o1 with
    | none =>
      obtain rfl : v1 = .pointer none := HO1.out
      have heq := run_eql_nil_nil_val
      go_wp2
      refine bodyPost_ret (results_row_one rfl _ _ (w.heap.size + 1 + 1) _ _ _ _ rfl (block_setCell HK3.out _ _) Tryz.underlying28 rfl ((info_size infoValue).trans (by simp))) rfl ?_
      exact HNONE.out (.inl (HV1.out.2 rfl)) _
    | some tp =>
      have htp : TreeAt (fun b => w.heap.size ≤ b) wc v1 tp := HO1.out
      obtain ⟨bp, _, _, _, _, _, rfl, _⟩ := htp.open
      have heq1 := run_eql_ptr_nil bp
      have HTP := Lib.hid htp
      clear htp
      cases o2 with
      | none =>
        obtain rfl : v2 = .pointer none := HO2.out
        have heq := run_eql_nil_nil_val
        go_wp2
        refine bodyPost_ret (results_row_one rfl _ _ (w.heap.size + 1 + 1) _ _ _ _ rfl (block_setCell HK3.out _ _) Tryz.underlying28 rfl ((info_size infoValue).trans (by simp))) rfl ?_
        exact HNONE.out (.inr (HV2.out.2 rfl)) _
      | some tq =>
        have htq : TreeAt (fun b => w.heap.size ≤ b) wc v2 tq := HO2.out
        obtain ⟨bq, _, _, _, _, _, rfl, _⟩ := htq.open
        have heq2 := run_eql_ptr_nil bq
        have gp := HV1.out.1 tp rfl
        have gq := HV2.out.1 tq rfl
        have np := gp.count.2
        have nq := gq.count.2
        have HGP := Lib.hid gp
        have HGQ := Lib.hid gq
        have HJ := Lib.hid (join_any tq gq.2.1 tp (fun b => w.heap.size ≤ b) _ _ wc gp.2.1 (by omega) HTP.out htq)
        clear htq gp gq
        go_wp2_with fail
        refine HJ.out.mono ?_
        rintro e w4 ⟨rv, rfl, hb4, hopt⟩
        have hok : ∀ t, Tree.join tp tq = some t → t.shaped ∧ t.sized ∧ t.count ≤ 1000000000 := fun t ht => by
          obtain ⟨h1, h2⟩ := join_ok tq tp t HGP.out.2.1 HGQ.out.2.1 ht
          exact ⟨Tree.ok_shaped t h1, Tree.ok_sized t h1 (by omega), by omega⟩
        have hb14 := below_then HB13.out HB13.out.size hb4
        have HTO := Lib.hid (told_any (Tree.join tp tq) hok _ rv w4 hopt (HT.out w4 hb14))
        have hk4 := block_below HK3.out hb4
        have HK4 := Lib.hid hk4
        have HB14 := Lib.hid hb14
        have hs4 := hb4.size
        clear hok hb4 hopt hb14 hk4 x3 f3 HNONE HJ
        go_wp2_with fail
        refine HTO.out.mono ?_
        rintro e w5 ⟨l, u, f, rfl, htold, hown⟩
        obtain ⟨A5, c5, rfl⟩ := hown.shape
        have hk5 := block_below HK4.out hown.1
        have x5 := cell_of_block hk5 0
        have f5 := free_of_block hk5 0
        simp at x5
        have HK5 := Lib.hid hk5
        have HO5 := Lib.hid hown
        have HTD := Lib.hid htold
        clear hown htold hk5 HTO
        go_wp2
        refine bodyPost_ret (results_row_one rfl _ _ (w.heap.size + 1 + 1) _ _ _ _ rfl (block_setCell HK5.out _ _) Tryz.underlying28 rfl ((info_size infoValue).trans (by simp))) rfl ?_
        exact ⟨l, _, f, rfl, told_res HGP.out HGQ.out HTD.out, NdOwn.cell HB14.out HO5.out (by omega) (by omega) _⟩
end Go.Proofs.YtcbcndoddikpjaaGreatDoor
