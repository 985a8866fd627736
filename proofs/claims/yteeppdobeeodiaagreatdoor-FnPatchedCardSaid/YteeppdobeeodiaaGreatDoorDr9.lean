/- The draws' values: NumberOf, (*l1Cur).value. The draws' values that may be spoilt: (*l1Cur).maybe. The draws of the laws of patches: (*l1Cur).mapValue, DrawApplyPatch, DrawJoinPatches, DrawIsClean. The draws of the laws of patches: DrawApplyPatch, DrawJoinPatches, DrawIsClean. -/
import Derived.Test.YteeppdobeeodiaaGreatDoorDr5
import Derived.Test.YteeppdobeeodiaaGreatDoorSp3
namespace Go.Proofs.YteeppdobeeodiaaGreatDoor
open Go.RowKit
theorem mtree_any : ∀ d, MapDr d := fun d => by
  induction d with
  | zero => exact mtree_step 0 (fun d' h => by omega)
  | succ d ih => exact mtree_step (d + 1) (fun d' h => by
      obtain rfl : d' = d := by omega
      exact ih)
/-- A row of nodes of the draw's own. -/
def RowOf (L : List Nd) (base : Nat) (v : Value) (w : World) : Prop := ∃ A c, v = .slice A L.length c ∧ L.length ≤ c ∧ w.ownsRow base 50 5 (.slice A L.length c) L.length (ndCells L)
def SmallL (L : List Nd) : Prop := L.length ≤ 80 ∧ ∀ x ∈ L, x.text.size ≤ 24 ∧ x.name.size ≤ 24
def numNode (n : Int) : Nd := ⟨4, n, emptyB, emptyB, -1⟩
set_option maxRecDepth 100000 in
theorem numberOf_any (n : Nat) (hn : n ≤ 1000) (w : World) : Calls Tryz.prog 111 #[.int .i64 (n : Int)] w (fun e w' => ∃ v, e = .returned (.agg #[v]) ∧ RowOf [numNode n] w.heap.size v w' ∧ Below w.heap.size w w') := by
  have hb1 := (Below.refl w.heap.size w).alloc (Nat.le_refl _) (.cells #[.slice none 0 0] 25 (0, 0))
  have k1 := heap_alloc_new w (.cells #[.slice none 0 0] 25 (0, 0))
  have hs1 : (w.alloc (.cells #[.slice none 0 0] 25 (0, 0))).heap.size = w.heap.size + 1 := by simp
  have HK := Lib.hid k1
  have HB := Lib.hid hb1
  have h1 : (-1000000000 : Int) ≤ (n : Int) := by omega
  have h2 : (n : Int) ≤ 1000000000 := by omega
  clear k1 hb1
  go_enter Tryz.func111, Tryz.ntmps111
  go_wp2_with fail
  refine (sNumber_any _ _).mono ?_
  rintro e w' ⟨rfl, rfl⟩
  generalize w.alloc (.cells #[.slice none 0 0] 25 (0, 0)) = w1 at HK HB hs1 ⊢
  have x0 := cell_of_block HK.out 0
  have f0 := free_of_block HK.out 0
  simp at x0
  go_wp2
  rw [← hs1]
  refine bodyPost_ret (results_cell_row rfl _ _ w.heap.size _ _ _ _ rfl (block_below (block_setCell HK.out 0 _) ((Below.refl _ _).alloc (Nat.le_refl _) _)) Tryz.underlying25 rfl ((info_size infoValue).trans (by simp))) rfl ?_
  have hsz : ∀ u, (w1.setCell ⟨w.heap.size, 0, none⟩ u).heap.size = w1.heap.size := fun u => by simp [World.setCell]
  refine ⟨_, rfl, ⟨some ⟨w1.heap.size, 0, none⟩, 1, rfl, by simp, by simp [ndCells, Nd.cells], .inr ⟨w1.heap.size, 1, (numNode n).cells.toArray, rfl, by omega, ?_, by simp, by simp [maxLen], by simp [Nd.cells], by simp [ndCells, Nd.cells]⟩⟩, (HB.out.setCell (p := ⟨w.heap.size, 0, none⟩) (Nat.le_refl _) _).alloc (by rw [hsz]; omega) _⟩
  have h := heap_alloc_new (w1.setCell ⟨w.heap.size, 0, none⟩ (.slice (some ⟨w1.heap.size, 0, none⟩) 1 1)) (.cells (numNode n).cells.toArray 50 (0, 0))
  rw [hsz] at h
  exact h
def DrawVal (k : Nat) (A : Option Addr) (c : Nat) (l : List Int) (K a : Nat) (w : World) (n0 : Nat) (e : Ending) (w' : World) : Prop :=
  ∃ L v, e = .returned (.agg #[v]) ∧ n0 ≤ L.length ∧ SmallL L ∧ RowOf L w.heap.size v w' ∧ Moved k A c l K a w w'
theorem RowOf.set {L : List Nd} {base g : Nat} {v : Value} {w : World} (h : RowOf L base v w) (hg : g < base) (u : Value) : RowOf L base v (w.setCell ⟨g, 0, none⟩ u) := by
  obtain ⟨A, c, rfl, hc, ho⟩ := h
  exact ⟨A, c, rfl, hc, own_agree ho (Agree.of_setCell (F := fun b => b ≠ g) _ _ _ (fun _ h => h)) (fun k hk e => by have := (own_base ho k hk).1; omega)⟩
theorem RowOf.below {L : List Nd} {base : Nat} {v : Value} {w w1 : World} (h : RowOf L base v w) (hb : Below w.heap.size w w1) : RowOf L base v w1 := by
  obtain ⟨A, c, rfl, hc, ho⟩ := h
  exact ⟨A, c, rfl, hc, own_below ho hb⟩
theorem RowOf.weaken {L : List Nd} {base base' : Nat} {v : Value} {w : World} (h : RowOf L base v w) (hb : base' ≤ base) : RowOf L base' v w := by
  obtain ⟨A, c, rfl, hc, ho⟩ := h
  exact ⟨A, c, rfl, hc, own_weaken ho hb⟩
theorem RowOf.kept {L : List Nd} {base k : Nat} {v : Value} {w w1 : World} (h : RowOf L base v w) (ha : Agree (fun b => b ≠ k) w w1) (hk : k < base) : RowOf L base v w1 := by
  obtain ⟨A, c, rfl, hc, ho⟩ := h
  exact ⟨A, c, rfl, hc, own_agree ho ha (fun q hq e => by have := (own_base ho q hq).1; omega)⟩
theorem NdOwn.rowOf {L : List Nd} {w w1 : World} {v : Value} (h : NdOwn L w v w1) : RowOf L w.heap.size v w1 := by
  obtain ⟨_, A, c, rfl, hc, _, ho⟩ := h
  exact ⟨A, c, rfl, hc, ho⟩
theorem RowOf.rds {L : List Nd} {base : Nat} {v : Value} {w : World} (h : RowOf L base v w) : ∃ A c, v = .slice A L.length c ∧ L.length ≤ c ∧ Rds (fun b => base ≤ b) w A (ndCells L) := by
  obtain ⟨A, c, rfl, hc, ho⟩ := h
  exact ⟨A, c, rfl, hc, Rds.of_own ho⟩
theorem told_small {t : Tree} {L : List Nd} {f : Bool} (hok : t.ok = true) (h : Told (some t) L f) : SmallL L ∧ (f = true → 1 ≤ L.length) := by
  rcases h with ⟨rfl, t', h1, h2, rfl⟩ | ⟨rfl, rfl, _⟩
  · injection h1 with h1
    subst h1
    unfold Tree.good at h2
    simp only [Bool.and_eq_true, decide_eq_true_eq] at h2
    have hl := Tree.flat_length t emptyB (-1) 0
    have hc := t.count_eq
    exact ⟨⟨by omega, fun x hx => flat_sz t hok emptyB (-1) 0 (Nat.zero_le _) x hx⟩, fun _ => by omega⟩
  · exact ⟨⟨by simp, fun x hx => by cases hx⟩, fun h => by cases h⟩
set_option maxRecDepth 100000 in
set_option maxHeartbeats 4000000 in
theorem drValue_any (k : Nat) (A : Option Addr) (c : Nat) (l : List Int) (a : Nat) (w : World) (hcur : Cur k A c l a w) (hbig : a + 4000 ≤ 4611686018427387904) :
    Calls Tryz.prog 85 #[.pointer (some ⟨k, 0, none⟩)] w (DrawVal k A c l 4000 a w 1) := by
  have hck := hcur.lt
  have hb1 := (Below.refl w.heap.size w).alloc (Nat.le_refl _) (.cells #[.slice none 0 0] 25 (0, 0))
  have hm1 := Moved.of_below hcur hb1
  have HKR := Lib.hid (heap_alloc_new w (.cells #[.slice none 0 0] 25 (0, 0)))
  have HP := Lib.hid (pick_q 5 (by omega) (by omega) hm1 (by omega))
  have hs1 : (w.alloc (.cells #[.slice none 0 0] 25 (0, 0))).heap.size = w.heap.size + 1 := by simp
  clear hcur hb1 hm1
  go_enter Tryz.func85, Tryz.ntmps85
  go_wp2_with fail
  refine HP.out.mono ?_
  rintro e wa ⟨⟨x, rfl, hx⟩, hm, hag⟩
  have hRk : w.heap.size ≠ k := by omega
  have HKA := Lib.hid (block_agree HKR.out hag hRk)
  have h4x : 4 ^ x ≤ 256 := Nat.pow_le_pow_right (n := 4) (by omega) (show x ≤ 4 by omega)
  have HT := Lib.hid (tree_q (tree_any x) (by omega) hm (by omega))
  clear hm hag HP HKR
  go_wp2_with fail
  refine HT.out.mono ?_
  rintro e wb ⟨⟨cs, t, rfl, hok, hcnt, hlt⟩, hm, hag⟩
  have HKB := Lib.hid (block_agree HKA.out hag hRk)
  have HMB := Lib.hid hm
  obtain ⟨D1, e1, D2, e2, rsO, rfl, _⟩ := id hlt.open
  have HTL := Lib.hid (sTell_any t hok (by omega) _ _ wb hlt)
  have HOK := Lib.hid hok
  clear hm hag HT HKA hlt hcnt hok
  go_wp2_with fail
  refine HTL.out.mono ?_
  rintro e wc ⟨L, v, f, rfl, htold, hown⟩
  have HSM := Lib.hid (told_small HOK.out htold)
  have HRO := Lib.hid hown.rowOf
  have HKC := Lib.hid (block_below HKB.out hown.1)
  have HMC := Lib.hid (HMB.out.below hown.1)
  have hRb : w.heap.size < wb.heap.size := lt_of_block HKB.out
  obtain ⟨A5, c5, rfl⟩ := hown.shape
  have hbv := (Below.refl wc.heap.size wc).alloc (Nat.le_refl _) (.cells #[.slice A5 L.length c5] 25 (0, 0))
  have HKV := Lib.hid (heap_alloc_new wc (.cells #[.slice A5 L.length c5] 25 (0, 0)))
  have HKD := Lib.hid (block_below HKC.out hbv)
  have HMD := Lib.hid (HMC.out.below hbv)
  have HRD := Lib.hid (HRO.out.below hbv)
  have hVs := hown.1.size
  clear htold hown hbv HTL HKC HKB HMB
  cases f
  · have HP9 := Lib.hid (pick_q 9 (by omega) (by omega) HMD.out (by omega))
    go_wp2_with fail
    generalize wc.alloc (.cells #[.slice A5 L.length c5] 25 (0, 0)) = wd at HKV HKD HMD HRD HP9 ⊢
    refine HP9.out.mono ?_
    rintro e we ⟨⟨n, rfl, hn⟩, hm, hag⟩
    have HKE := Lib.hid (block_agree HKD.out hag hRk)
    have HVE := Lib.hid (block_agree HKV.out hag (show wc.heap.size ≠ k by omega))
    have HME := Lib.hid hm
    clear hm hag HP9
    go_wp2_with fail
    refine (numberOf_any n (by omega) we).mono ?_
    rintro e wf ⟨v2, rfl, hrow, hb⟩
    have HKF := Lib.hid (block_below HKE.out hb)
    have HVF := Lib.hid (block_below HVE.out hb)
    have HMF := Lib.hid (HME.out.below hb)
    have HRF := Lib.hid hrow
    have hse := HME.out.size
    obtain ⟨A6, c6, rfl, _⟩ := id hrow
    clear hrow hb
    have hne : wc.heap.size ≠ w.heap.size := by omega
    have y0 := cell_of_block HVF.out 0
    have g0 := free_of_block HVF.out 0
    have x0 := cell_of_block HKF.out 0
    have f0 := free_of_block HKF.out 0
    simp at x0 y0
    have hk2 := block_agree HKF.out (Agree.of_setCell (F := fun b => b ≠ wc.heap.size) wf ⟨wc.heap.size, 0, none⟩ (.slice A6 [numNode n].length c6) (fun _ h => h)) (Ne.symm hne)
    have x1 := cell_of_block hk2 0
    have f1 := free_of_block hk2 0
    simp at x1 f1
    have HK2 := Lib.hid hk2
    have hwe : w.heap.size < we.heap.size := lt_of_block HKE.out
    have hwce : wc.heap.size < we.heap.size := lt_of_block HVE.out
    clear hk2
    go_wp2
    refine bodyPost_ret (results_cell_row rfl _ _ w.heap.size _ _ _ _ rfl (block_setCell HK2.out 0 _) Tryz.underlying25 rfl ((info_size infoValue).trans (by simp))) rfl ?_
    exact ⟨[numNode n], _, rfl, by simp, ⟨by simp, fun x hx => by simp at hx; subst hx; exact (show emptyB.size ≤ 24 ∧ emptyB.size ≤ 24 by decide)⟩, ((HRF.out.set hwce _).set hwe _).weaken (by omega), ((HMF.out.set hck (by omega) 0 _).set hck (Nat.le_refl _) 0 _).more (by omega)⟩
  · have x0 := cell_of_block HKD.out 0
    have f0 := free_of_block HKD.out 0
    have y0 := cell_of_block HKV.out 0
    simp at x0 y0
    go_wp2
    refine bodyPost_ret (results_cell_row rfl _ _ w.heap.size _ _ _ _ rfl (block_setCell HKD.out 0 _) Tryz.underlying25 rfl ((info_size infoValue).trans (by simp))) rfl ?_
    exact ⟨L, _, rfl, by simpa using HSM.out.2, HSM.out.1, (HRD.out.set hRb _).weaken (by omega), (HMD.out.set hck (Nat.le_refl _) 0 _).more (by omega)⟩
end Go.Proofs.YteeppdobeeodiaaGreatDoor
namespace Go.Proofs.YteeppdobeeodiaaGreatDoor
open Go.RowKit
theorem ndc_set : ∀ (L : List Nd) (j f : Nat) (x x' : Nd) (u : Value), L[j]? = some x → f < 5 → x'.cells = x.cells.set f u → ndCells (L.set j x') = (ndCells L).set (j * 5 + f) u
  | [], j, f, x, x', u, h, _, _ => by simp at h
  | y :: L, j, f, x, x', u, h, hf, hx => by
    have h5 : ∀ z : Nd, z.cells.length = 5 := fun z => rfl
    cases j with
    | zero =>
      simp at h
      subst h
      rw [List.set_cons_zero]
      simp only [ndCells, List.flatMap_cons, Nat.zero_mul, Nat.zero_add]
      rw [List.set_append_left _ _ (by rw [h5]; exact hf), hx]
    | succ j =>
      simp at h
      rw [List.set_cons_succ]
      have ih := ndc_set L j f x x' u h hf hx
      simp only [ndCells, List.flatMap_cons] at ih ⊢
      rw [ih, List.set_append_right _ _ (by rw [h5]; omega), h5]
      congr 2
      omega
theorem RowOf.at {L : List Nd} {base : Nat} {v : Value} {w : World} (h : RowOf L base v w) (j : Nat) (x : Nd) (hj : L[j]? = some x) : ∃ g c, v = .slice (some ⟨g, 0, none⟩) L.length c ∧ base ≤ g ∧ g < w.heap.size := by
  obtain ⟨A, c, rfl, hc, ho⟩ := h
  have hl := (List.getElem?_eq_some_iff.1 hj).1
  obtain ⟨g, rfl, h1, h2, _⟩ := own_open ho (by omega)
  exact ⟨g, c, rfl, h1, h2⟩
theorem RowOf.write {L : List Nd} {base g c : Nat} {w : World} (h : RowOf L base (.slice (some ⟨g, 0, none⟩) L.length c) w) (j f : Nat) (x : Nd) (hj : L[j]? = some x) (hf : f < 5) :
    (∃ u0, w.cell? ⟨g, j * 5 + f, none⟩ = some u0) ∧ w.frozen? ⟨g, j * 5 + f, none⟩ = false ∧ ∀ (x' : Nd) (u : Value), x'.cells = x.cells.set f u → RowOf (L.set j x') base (.slice (some ⟨g, 0, none⟩) L.length c) (w.setCell ⟨g, j * 5 + f, none⟩ u) := by
  obtain ⟨A, c', e, hc, ho⟩ := h
  injection e with e1 _ e3
  subst e1 e3
  have hl := (List.getElem?_eq_some_iff.1 hj).1
  obtain ⟨g', e', _, _, hcell⟩ := own_open ho (by omega)
  injection e' with e'
  injection e' with e'
  subst e'
  rcases ho.2 with ⟨_, h0⟩ | ⟨g', cap, cur, e, hb, hk, hnc, hcm, hcs, htk⟩
  · omega
  · injection e with e1 _ e3
    injection e1 with e1
    injection e1 with e1
    subst e1 e3
    have hlen := ndCells_length L
    refine ⟨⟨(ndCells L)[j * 5 + f]'(by omega), hcell _ _ (by simp)⟩, free_of_block hk _, fun x' u hx => ?_⟩
    have hs := ndc_set L j f x x' u hj hf hx
    refine ⟨some ⟨g, 0, none⟩, c, by rw [List.length_set], by rw [List.length_set]; exact hc, ?_⟩
    rw [List.length_set, hs]
    refine ⟨by rw [List.length_set]; exact ho.1, .inr ⟨g, c, _, rfl, hb, block_setCell hk _ u, hnc, hcm, by simpa using hcs, ?_⟩⟩
    rw [Array.toList_setIfInBounds, List.take_set, htk]
def zzNames : List ByteArray := [⟨#[]⟩, ⟨#[97]⟩, ⟨#[122, 122]⟩]
theorem zz_ok : ∀ s ∈ zzNames, s.size ≤ 24 := by
  intro s hs
  simp only [zzNames, List.mem_cons, List.not_mem_nil, or_false] at hs
  rcases hs with rfl | rfl | rfl <;> decide
theorem maybe_q {k : Nat} {A : Option Addr} {c : Nat} {l : List Int} {K a : Nat} {w w1 : World} (h : Moved k A c l K a w w1) (ha : a + K + 4000 ≤ 4611686018427387904) :
    Calls Tryz.prog 85 #[.pointer (some ⟨k, 0, none⟩)] w1 (fun e w2 => (∃ L v, e = .returned (.agg #[v]) ∧ 1 ≤ L.length ∧ SmallL L ∧ RowOf L w1.heap.size v w2) ∧ Moved k A c l (K + 4000) a w w2 ∧ Agree (fun b => b ≠ k) w1 w2) :=
  h.call (fun a' _ _ hc => (drValue_any k A c l a' w1 hc (by omega)).mono (fun e w2 ⟨L, v, h1, h2, h3, h4, h5⟩ => ⟨⟨L, v, h1, h2, h3, h4⟩, h5⟩))
set_option maxRecDepth 100000 in
set_option maxHeartbeats 4000000 in
theorem maybe_any (k : Nat) (A : Option Addr) (c : Nat) (l : List Int) (a : Nat) (w : World) (hcur : Cur k A c l a w) (hbig : a + 5000 ≤ 4611686018427387904) :
    Calls Tryz.prog 52 #[.pointer (some ⟨k, 0, none⟩)] w (DrawVal k A c l 5000 a w 1) := by
  have hck := hcur.lt
  have hb1 := (Below.refl w.heap.size w).alloc (Nat.le_refl _) (.cells #[.slice none 0 0] 25 (0, 0))
  have hm1 := Moved.of_below hcur hb1
  have HKR := Lib.hid (heap_alloc_new w (.cells #[.slice none 0 0] 25 (0, 0)))
  have HV := Lib.hid (maybe_q hm1 (by omega))
  have hs1 : (w.alloc (.cells #[.slice none 0 0] 25 (0, 0))).heap.size = w.heap.size + 1 := by simp
  have hRk : w.heap.size ≠ k := by omega
  clear hcur hb1 hm1
  go_enter Tryz.func52, Tryz.ntmps52
  go_wp2_with fail
  refine HV.out.mono ?_
  rintro e wa ⟨⟨L, v, rfl, hl1, hsm, hrow⟩, hm, hag⟩
  obtain ⟨j0, hj0⟩ : ∃ x, L[0]? = some x := ⟨L[0], by simp⟩
  obtain ⟨g, c5, rfl, hgb, hgl⟩ := hrow.at 0 j0 hj0
  have hRa := hag.size
  have hbv := (Below.refl wa.heap.size wa).alloc (Nat.le_refl _) (.cells #[.slice (some ⟨g, 0, none⟩) L.length c5] 25 (0, 0))
  have HKA := Lib.hid (block_below (block_agree HKR.out hag hRk) hbv)
  have HVA := Lib.hid (heap_alloc_new wa (.cells #[.slice (some ⟨g, 0, none⟩) L.length c5] 25 (0, 0)))
  have HMA := Lib.hid (hm.below hbv)
  have HRA := Lib.hid (hrow.below hbv)
  have HSM := Lib.hid hsm
  have HO := Lib.hid (one_q 12 (by omega) (by omega) HMA.out (by omega))
  clear hm hag hrow hbv HV HKR hj0 hsm
  go_wp2_with fail
  generalize wa.alloc (.cells #[.slice (some ⟨g, 0, none⟩) L.length c5] 25 (0, 0)) = wb at HKA HVA HMA HRA HO ⊢
  generalize wa.heap.size = V at *
  refine HO.out.mono ?_
  rintro e wc ⟨⟨b, rfl⟩, hm, hag⟩
  have hVk : V ≠ k := by omega
  have hVR : V ≠ w.heap.size := by omega
  have HKC := Lib.hid (block_agree HKA.out hag hRk)
  have HVC := Lib.hid (block_agree HVA.out hag hVk)
  have HRC := Lib.hid (HRA.out.kept hag (by omega))
  have HMC := Lib.hid hm
  clear hm hag HO
  cases b
  · have y0 := cell_of_block HVC.out 0
    have x0 := cell_of_block HKC.out 0
    have f0 := free_of_block HKC.out 0
    simp at x0 y0
    go_wp2
    refine bodyPost_ret (results_cell_row rfl _ _ w.heap.size _ _ _ _ rfl (block_setCell HKC.out 0 _) Tryz.underlying25 rfl ((info_size infoValue).trans (by simp))) rfl ?_
    exact ⟨L, _, rfl, hl1, HSM.out, (HRC.out.set (by omega) _).weaken (by omega), (HMC.out.set hck (Nat.le_refl _) 0 _).more (by omega)⟩
  · have hl80 := HSM.out.1
    have HPK := Lib.hid (pick_q L.length hl1 (by omega) HMC.out (by omega))
    have y0 := cell_of_block HVC.out 0
    simp at y0
    go_wp2_with fail
    refine HPK.out.mono ?_
    rintro e wd ⟨⟨j, rfl, hj⟩, hm, hag⟩
    have HKD := Lib.hid (block_agree HKC.out hag hRk)
    have HVD := Lib.hid (block_agree HVC.out hag hVk)
    have HRD := Lib.hid (HRC.out.kept hag (by omega))
    have HP4 := Lib.hid (pick_q 4 (by omega) (by omega) hm (by omega))
    clear hm hag HPK y0
    go_wp2_with fail
    refine HP4.out.mono ?_
    rintro e we ⟨⟨x, rfl, hx⟩, hm, hag⟩
    have HKE := Lib.hid (block_agree HKD.out hag hRk)
    have HVE := Lib.hid (block_agree HVD.out hag hVk)
    have HRE := Lib.hid (HRD.out.kept hag (by omega))
    have HME := Lib.hid hm
    have hweS := hm.size
    have HDW := Lib.hid (show Below we.heap.size we we.drew from (Below.refl _ _).drew)
    obtain ⟨xj, hxj⟩ : ∃ xj, L[j]? = some xj := ⟨L[j], by simp [hj]⟩
    have HXJ := Lib.hid hxj
    have HXS := Lib.hid (HSM.out.2 xj (List.mem_of_getElem? hxj))
    have HKEEP := Lib.hid (fun (W : World) (hv : W.heap[V]? = some (.cells #[.slice (some ⟨g, 0, none⟩) L.length c5] 25 (0, 0))) => show W.cell? ⟨V, 0, none⟩ = some (.slice (some ⟨g, 0, none⟩) L.length c5) from cell_of_block hv 0)
    have hgV : g ≠ V := by omega
    have hgR : g ≠ w.heap.size := by omega
    have hgk : g ≠ k := by omega
    clear hm hag HP4 hxj
    rcases (show x = 0 ∨ x = 1 ∨ x = 2 ∨ x = 3 by omega) with rfl | rfl | rfl | rfl
    · go_wp2
      refine till_region 7 (fun W => W.cell? ⟨V, 0, none⟩ = some (.slice (some ⟨g, 0, none⟩) L.length c5)) (by kernel_rfl) ?_ (fun hHeld => ?_)
      · exact HKEEP.out _ (block_below HVE.out HDW.out)
      (refine Till.pure (i := 0) (u := ?_) rfl (by kernel_rfl) (by kernel_rfl) (by kernel_rfl) (by decide) (fun _ _ _ h => h) (Or.inl ⟨by rfl, ?_⟩) (fun _ => hHeld) ?_; rotate_left 1; (focus (intro w _; go_simp; try (with_reducible rfl))); change Till _ _ _ _ _ _ _ _ (Act.put _ (some 26) _) _; simp only [Act.put, List.setIfInBounds_toArray, List.set_cons_zero, List.set_cons_succ])
      (refine Till.load (i := 1) (u := ?_) rfl (by kernel_rfl) (by kernel_rfl) (by kernel_rfl) (by kernel_rfl) (by kernel_rfl) (fun _ _ _ h => h) (Or.inl ⟨by rfl, ?_⟩) hHeld ?_; rotate_left 1; (focus (intro w hSw; (try dsimp only at hSw); go_split_ands; go_simp; try (with_reducible rfl))); change Till _ _ _ _ _ _ _ _ (Act.put _ (some 27) _) _; simp only [Act.put, List.setIfInBounds_toArray, List.set_cons_zero, List.set_cons_succ])
      (refine Till.pure (i := 2) (u := ?_) rfl (by kernel_rfl) (by kernel_rfl) (by kernel_rfl) (by decide) (fun _ _ _ h => h) (Or.inl ⟨by rfl, ?_⟩) (fun _ => hHeld) ?_; rotate_left 1; (focus (intro w _; go_simp; try (with_reducible rfl))); change Till _ _ _ _ _ _ _ _ (Act.put _ (some 28) _) _; simp only [Act.put, List.setIfInBounds_toArray, List.set_cons_zero, List.set_cons_succ])
      (refine Till.pure (i := 3) (u := ?_) rfl (by kernel_rfl) (by kernel_rfl) (by kernel_rfl) (by decide) (fun _ _ _ h => h) (Or.inl ⟨by rfl, ?_⟩) (fun _ => hHeld) ?_; rotate_left 1; (focus (intro w _; go_simp; try (with_reducible rfl))); change Till _ _ _ _ _ _ _ _ (Act.put _ (some 29) _) _; simp only [Act.put, List.setIfInBounds_toArray, List.set_cons_zero, List.set_cons_succ])
      have HBB := HDW
      (refine Till.one (i := 4) (by kernel_rfl) rfl (fun K hK => ?_))
      go_simp
      refine (pick_q 9 (by omega) (by omega) (HME.out.below HDW.out) (by omega)).mono ?_
      rintro e wf ⟨⟨y, rfl, hy⟩, hm, hag⟩
      have HVF := Lib.hid (block_agree (block_below HVE.out HBB.out) hag hVk)
      have HKF := Lib.hid (block_agree (block_below HKE.out HBB.out) hag hRk)
      have HRF := Lib.hid ((HRE.out.below HBB.out).kept hag (by omega))
      have HMF := Lib.hid hm
      clear hm hag
      go_simp
      refine hK.out _ _ (HKEEP.out _ HVF.out) (fun hHeld => ?_)
      clear hK K
      (refine Till.pure (i := 5) (u := ?_) rfl (by kernel_rfl) (by kernel_rfl) (by kernel_rfl) (by decide) (fun _ _ _ h => h) (Or.inl ⟨by rfl, ?_⟩) (fun _ => hHeld) ?_; rotate_left 1; (focus (intro w _; go_simp; try (with_reducible rfl))); change Till _ _ _ _ _ _ _ _ (Act.put _ (some 31) _) _; simp only [Act.put, List.setIfInBounds_toArray, List.set_cons_zero, List.set_cons_succ])
      (refine Till.pure (i := 6) (u := ?_) rfl (by kernel_rfl) (by kernel_rfl) (by kernel_rfl) (by decide) (fun _ _ _ h => h) (Or.inl ⟨by rfl, ?_⟩) (fun _ => hHeld) ?_; rotate_left 1; (focus (intro w _; go_simp; try (with_reducible rfl))); change Till _ _ _ _ _ _ _ _ (Act.put _ (some 32) _) _; simp only [Act.put, List.setIfInBounds_toArray, List.set_cons_zero, List.set_cons_succ])
      obtain ⟨⟨u0, hu0⟩, hfr, hwr⟩ := HRF.out.write j 0 xj HXJ.out (by omega)
      have HWR := Lib.hid hwr
      clear hwr
      try simp only [Nat.add_zero] at hu0 hfr HWR
      (refine Till.last (by kernel_rfl) rfl (by kernel_rfl) (fun K hK => ?_))
      go_simp
      refine hK.out _ _ ?_
      clear hK K
      refine wpAny_done (by kernel_rfl) ?_ _
      have hk2 := block_agree HVF.out (Agree.of_setCell (F := fun b => b ≠ g) wf ⟨g, j * 5 + 0, none⟩ (.int .i64 (y : Int)) (fun _ h => h)) (Ne.symm hgV)
      have hk3 := block_agree HKF.out (Agree.of_setCell (F := fun b => b ≠ g) wf ⟨g, j * 5 + 0, none⟩ (.int .i64 (y : Int)) (fun _ h => h)) (Ne.symm hgR)
      try simp only [Nat.add_zero] at hk2 hk3
      have y2 := cell_of_block hk2 0
      have x2 := cell_of_block hk3 0
      have f2 := free_of_block hk3 0
      simp at x2 y2 f2
      have HK3 := Lib.hid hk3
      clear hk2 hk3
      go_wp2
      refine bodyPost_ret (results_cell_row rfl _ _ w.heap.size _ _ _ _ rfl (block_setCell HK3.out 0 _) Tryz.underlying25 rfl ((info_size infoValue).trans (by simp))) rfl ?_
      refine ⟨L.set j ({ xj with kind := (y : Int) }), _, rfl, by rw [List.length_set]; exact hl1, ⟨by rw [List.length_set]; exact hl80, fun z hz => ?_⟩, ((HWR.out ({ xj with kind := (y : Int) }) (.int .i64 (y : Int)) rfl).set (by omega) _).weaken (by omega), ((HMF.out.set hck (by omega) _ _).set hck (Nat.le_refl _) 0 _).more (by omega)⟩
      rcases List.mem_or_eq_of_mem_set hz with hz | rfl
      · exact HSM.out.2 z hz
      · exact HXS.out
    · go_wp2
      refine till_region 8 (fun W => W.cell? ⟨V, 0, none⟩ = some (.slice (some ⟨g, 0, none⟩) L.length c5)) (by kernel_rfl) ?_ (fun hHeld => ?_)
      · exact HKEEP.out _ (block_below HVE.out HDW.out)
      (refine Till.pure (i := 0) (u := ?_) rfl (by kernel_rfl) (by kernel_rfl) (by kernel_rfl) (by decide) (fun _ _ _ h => h) (Or.inl ⟨by rfl, ?_⟩) (fun _ => hHeld) ?_; rotate_left 1; (focus (intro w _; go_simp; try (with_reducible rfl))); change Till _ _ _ _ _ _ _ _ (Act.put _ (some 35) _) _; simp only [Act.put, List.setIfInBounds_toArray, List.set_cons_zero, List.set_cons_succ])
      (refine Till.load (i := 1) (u := ?_) rfl (by kernel_rfl) (by kernel_rfl) (by kernel_rfl) (by kernel_rfl) (by kernel_rfl) (fun _ _ _ h => h) (Or.inl ⟨by rfl, ?_⟩) hHeld ?_; rotate_left 1; (focus (intro w hSw; (try dsimp only at hSw); go_split_ands; go_simp; try (with_reducible rfl))); change Till _ _ _ _ _ _ _ _ (Act.put _ (some 36) _) _; simp only [Act.put, List.setIfInBounds_toArray, List.set_cons_zero, List.set_cons_succ])
      (refine Till.pure (i := 2) (u := ?_) rfl (by kernel_rfl) (by kernel_rfl) (by kernel_rfl) (by decide) (fun _ _ _ h => h) (Or.inl ⟨by rfl, ?_⟩) (fun _ => hHeld) ?_; rotate_left 1; (focus (intro w _; go_simp; try (with_reducible rfl))); change Till _ _ _ _ _ _ _ _ (Act.put _ (some 37) _) _; simp only [Act.put, List.setIfInBounds_toArray, List.set_cons_zero, List.set_cons_succ])
      (refine Till.pure (i := 3) (u := ?_) rfl (by kernel_rfl) (by kernel_rfl) (by kernel_rfl) (by decide) (fun _ _ _ h => h) (Or.inl ⟨by rfl, ?_⟩) (fun _ => hHeld) ?_; rotate_left 1; (focus (intro w _; go_simp; try (with_reducible rfl))); change Till _ _ _ _ _ _ _ _ (Act.put _ (some 38) _) _; simp only [Act.put, List.setIfInBounds_toArray, List.set_cons_zero, List.set_cons_succ])
      have HBB := HDW
      (refine Till.one (i := 4) (by kernel_rfl) rfl (fun K hK => ?_))
      go_simp
      refine (pick_q 4 (by omega) (by omega) (HME.out.below HDW.out) (by omega)).mono ?_
      rintro e wf ⟨⟨y, rfl, hy⟩, hm, hag⟩
      have HVF := Lib.hid (block_agree (block_below HVE.out HBB.out) hag hVk)
      have HKF := Lib.hid (block_agree (block_below HKE.out HBB.out) hag hRk)
      have HRF := Lib.hid ((HRE.out.below HBB.out).kept hag (by omega))
      have HMF := Lib.hid hm
      clear hm hag
      go_simp
      refine hK.out _ _ (HKEEP.out _ HVF.out) (fun hHeld => ?_)
      clear hK K
      (refine Till.pure (i := 5) (u := ?_) rfl (by kernel_rfl) (by kernel_rfl) (by kernel_rfl) (by decide) (fun _ _ _ h => h) (Or.inl ⟨by rfl, ?_⟩) (fun _ => hHeld) ?_; rotate_left 1; (focus (intro w _; go_simp; try (with_reducible rfl))); change Till _ _ _ _ _ _ _ _ (Act.put _ (some 40) _) _; simp only [Act.put, List.setIfInBounds_toArray, List.set_cons_zero, List.set_cons_succ])
      (refine Till.pure (i := 6) (u := ?_) rfl (by kernel_rfl) (by kernel_rfl) (by kernel_rfl) (by decide) (fun _ _ _ h => h) (Or.inl ⟨by rfl, ?_⟩) (fun _ => hHeld) ?_; rotate_left 1; (focus (intro w _; go_simp; try (with_reducible rfl))); change Till _ _ _ _ _ _ _ _ (Act.put _ (some 41) _) _; simp only [Act.put, List.setIfInBounds_toArray, List.set_cons_zero, List.set_cons_succ])
      (refine Till.pure (i := 7) (u := ?_) rfl (by kernel_rfl) (by kernel_rfl) (by kernel_rfl) (by decide) (fun _ _ _ h => h) (Or.inl ⟨by rfl, ?_⟩) (fun _ => hHeld) ?_; rotate_left 1; (focus (intro w _; go_simp; try (with_reducible rfl))); change Till _ _ _ _ _ _ _ _ (Act.put _ (some 42) _) _; simp only [Act.put, List.setIfInBounds_toArray, List.set_cons_zero, List.set_cons_succ])
      obtain ⟨⟨u0, hu0⟩, hfr, hwr⟩ := HRF.out.write j 4 xj HXJ.out (by omega)
      have HWR := Lib.hid hwr
      clear hwr
      try simp only [Nat.add_zero] at hu0 hfr HWR
      (refine Till.last (by kernel_rfl) rfl (by kernel_rfl) (fun K hK => ?_))
      go_simp
      refine hK.out _ _ ?_
      clear hK K
      refine wpAny_done (by kernel_rfl) ?_ _
      have hk2 := block_agree HVF.out (Agree.of_setCell (F := fun b => b ≠ g) wf ⟨g, j * 5 + 4, none⟩ (.int .i64 ((y : Int) - 1)) (fun _ h => h)) (Ne.symm hgV)
      have hk3 := block_agree HKF.out (Agree.of_setCell (F := fun b => b ≠ g) wf ⟨g, j * 5 + 4, none⟩ (.int .i64 ((y : Int) - 1)) (fun _ h => h)) (Ne.symm hgR)
      try simp only [Nat.add_zero] at hk2 hk3
      have y2 := cell_of_block hk2 0
      have x2 := cell_of_block hk3 0
      have f2 := free_of_block hk3 0
      simp at x2 y2 f2
      have HK3 := Lib.hid hk3
      clear hk2 hk3
      go_wp2
      refine bodyPost_ret (results_cell_row rfl _ _ w.heap.size _ _ _ _ rfl (block_setCell HK3.out 0 _) Tryz.underlying25 rfl ((info_size infoValue).trans (by simp))) rfl ?_
      refine ⟨L.set j ({ xj with up := (y : Int) - 1 }), _, rfl, by rw [List.length_set]; exact hl1, ⟨by rw [List.length_set]; exact hl80, fun z hz => ?_⟩, ((HWR.out ({ xj with up := (y : Int) - 1 }) (.int .i64 ((y : Int) - 1)) rfl).set (by omega) _).weaken (by omega), ((HMF.out.set hck (by omega) _ _).set hck (Nat.le_refl _) 0 _).more (by omega)⟩
      rcases List.mem_or_eq_of_mem_set hz with hz | rfl
      · exact HSM.out.2 z hz
      · exact HXS.out
    · go_wp2
      refine till_region 8 (fun W => W.cell? ⟨V, 0, none⟩ = some (.slice (some ⟨g, 0, none⟩) L.length c5)) (by kernel_rfl) ?_ (fun hHeld => ?_)
      · exact HKEEP.out _ (block_below HVE.out HDW.out)
      (refine Till.pure (i := 0) (u := ?_) rfl (by kernel_rfl) (by kernel_rfl) (by kernel_rfl) (by decide) (fun _ _ _ h => h) (Or.inl ⟨by rfl, ?_⟩) (fun _ => hHeld) ?_; rotate_left 1; (focus (intro w _; go_simp; try (with_reducible rfl))); change Till _ _ _ _ _ _ _ _ (Act.put _ (some 45) _) _; simp only [Act.put, List.setIfInBounds_toArray, List.set_cons_zero, List.set_cons_succ])
      (refine Till.load (i := 1) (u := ?_) rfl (by kernel_rfl) (by kernel_rfl) (by kernel_rfl) (by kernel_rfl) (by kernel_rfl) (fun _ _ _ h => h) (Or.inl ⟨by rfl, ?_⟩) hHeld ?_; rotate_left 1; (focus (intro w hSw; (try dsimp only at hSw); go_split_ands; go_simp; try (with_reducible rfl))); change Till _ _ _ _ _ _ _ _ (Act.put _ (some 46) _) _; simp only [Act.put, List.setIfInBounds_toArray, List.set_cons_zero, List.set_cons_succ])
      (refine Till.pure (i := 2) (u := ?_) rfl (by kernel_rfl) (by kernel_rfl) (by kernel_rfl) (by decide) (fun _ _ _ h => h) (Or.inl ⟨by rfl, ?_⟩) (fun _ => hHeld) ?_; rotate_left 1; (focus (intro w _; go_simp; try (with_reducible rfl))); change Till _ _ _ _ _ _ _ _ (Act.put _ (some 47) _) _; simp only [Act.put, List.setIfInBounds_toArray, List.set_cons_zero, List.set_cons_succ])
      (refine Till.pure (i := 3) (u := ?_) rfl (by kernel_rfl) (by kernel_rfl) (by kernel_rfl) (by decide) (fun _ _ _ h => h) (Or.inl ⟨by rfl, ?_⟩) (fun _ => hHeld) ?_; rotate_left 1; (focus (intro w _; go_simp; try (with_reducible rfl))); change Till _ _ _ _ _ _ _ _ (Act.put _ (some 48) _) _; simp only [Act.put, List.setIfInBounds_toArray, List.set_cons_zero, List.set_cons_succ])
      (refine Till.one (i := 4) (by kernel_rfl) rfl (fun K hK => ?_))
      go_simp
      have HBB := Lib.hid (HDW.out.alloc (Nat.le_refl _) (.cells (strs zzNames).toArray 9 (0, 0)))
      refine hK.out _ _ (HKEEP.out _ (block_below HVE.out HBB.out)) (fun hHeld => ?_)
      clear hK K
      (refine Till.one (i := 5) (by kernel_rfl) rfl (fun K hK => ?_))
      go_simp
      refine (of_q zzNames (by decide) (by decide) (d := 3) (HME.out.below HBB.out) (by omega) (heap_alloc_new we.drew _) (by show we.heap.size ≠ k; omega)).mono ?_
      rintro e wf ⟨⟨s, rfl, hs⟩, hm, hag⟩
      have hss := zz_ok s hs
      have HVF := Lib.hid (block_agree (block_below HVE.out HBB.out) hag hVk)
      have HKF := Lib.hid (block_agree (block_below HKE.out HBB.out) hag hRk)
      have HRF := Lib.hid ((HRE.out.below HBB.out).kept hag (by omega))
      have HMF := Lib.hid hm
      clear hm hag
      go_simp
      refine hK.out _ _ (HKEEP.out _ HVF.out) (fun hHeld => ?_)
      clear hK K
      (refine Till.pure (i := 6) (u := ?_) rfl (by kernel_rfl) (by kernel_rfl) (by kernel_rfl) (by decide) (fun _ _ _ h => h) (Or.inl ⟨by rfl, ?_⟩) (fun _ => hHeld) ?_; rotate_left 1; (focus (intro w _; go_simp; try (with_reducible rfl))); change Till _ _ _ _ _ _ _ _ (Act.put _ (some 51) _) _; simp only [Act.put, List.setIfInBounds_toArray, List.set_cons_zero, List.set_cons_succ])
      (refine Till.pure (i := 7) (u := ?_) rfl (by kernel_rfl) (by kernel_rfl) (by kernel_rfl) (by decide) (fun _ _ _ h => h) (Or.inl ⟨by rfl, ?_⟩) (fun _ => hHeld) ?_; rotate_left 1; (focus (intro w _; go_simp; try (with_reducible rfl))); change Till _ _ _ _ _ _ _ _ (Act.put _ (some 52) _) _; simp only [Act.put, List.setIfInBounds_toArray, List.set_cons_zero, List.set_cons_succ])
      obtain ⟨⟨u0, hu0⟩, hfr, hwr⟩ := HRF.out.write j 3 xj HXJ.out (by omega)
      have HWR := Lib.hid hwr
      clear hwr
      try simp only [Nat.add_zero] at hu0 hfr HWR
      (refine Till.last (by kernel_rfl) rfl (by kernel_rfl) (fun K hK => ?_))
      go_simp
      refine hK.out _ _ ?_
      clear hK K
      refine wpAny_done (by kernel_rfl) ?_ _
      have hk2 := block_agree HVF.out (Agree.of_setCell (F := fun b => b ≠ g) wf ⟨g, j * 5 + 3, none⟩ (.string s) (fun _ h => h)) (Ne.symm hgV)
      have hk3 := block_agree HKF.out (Agree.of_setCell (F := fun b => b ≠ g) wf ⟨g, j * 5 + 3, none⟩ (.string s) (fun _ h => h)) (Ne.symm hgR)
      try simp only [Nat.add_zero] at hk2 hk3
      have y2 := cell_of_block hk2 0
      have x2 := cell_of_block hk3 0
      have f2 := free_of_block hk3 0
      simp at x2 y2 f2
      have HK3 := Lib.hid hk3
      clear hk2 hk3
      go_wp2
      refine bodyPost_ret (results_cell_row rfl _ _ w.heap.size _ _ _ _ rfl (block_setCell HK3.out 0 _) Tryz.underlying25 rfl ((info_size infoValue).trans (by simp))) rfl ?_
      refine ⟨L.set j ({ xj with name := s }), _, rfl, by rw [List.length_set]; exact hl1, ⟨by rw [List.length_set]; exact hl80, fun z hz => ?_⟩, ((HWR.out ({ xj with name := s }) (.string s) rfl).set (by omega) _).weaken (by omega), ((HMF.out.set hck (by omega) _ _).set hck (Nat.le_refl _) 0 _).more (by omega)⟩
      rcases List.mem_or_eq_of_mem_set hz with hz | rfl
      · exact HSM.out.2 z hz
      · exact ⟨HXS.out.1, hss⟩
    · go_wp2
      refine till_region 8 (fun W => W.cell? ⟨V, 0, none⟩ = some (.slice (some ⟨g, 0, none⟩) L.length c5)) (by kernel_rfl) ?_ (fun hHeld => ?_)
      · exact HKEEP.out _ (block_below HVE.out HDW.out)
      (refine Till.pure (i := 0) (u := ?_) rfl (by kernel_rfl) (by kernel_rfl) (by kernel_rfl) (by decide) (fun _ _ _ h => h) (Or.inl ⟨by rfl, ?_⟩) (fun _ => hHeld) ?_; rotate_left 1; (focus (intro w _; go_simp; try (with_reducible rfl))); change Till _ _ _ _ _ _ _ _ (Act.put _ (some 16) _) _; simp only [Act.put, List.setIfInBounds_toArray, List.set_cons_zero, List.set_cons_succ])
      (refine Till.load (i := 1) (u := ?_) rfl (by kernel_rfl) (by kernel_rfl) (by kernel_rfl) (by kernel_rfl) (by kernel_rfl) (fun _ _ _ h => h) (Or.inl ⟨by rfl, ?_⟩) hHeld ?_; rotate_left 1; (focus (intro w hSw; (try dsimp only at hSw); go_split_ands; go_simp; try (with_reducible rfl))); change Till _ _ _ _ _ _ _ _ (Act.put _ (some 17) _) _; simp only [Act.put, List.setIfInBounds_toArray, List.set_cons_zero, List.set_cons_succ])
      (refine Till.pure (i := 2) (u := ?_) rfl (by kernel_rfl) (by kernel_rfl) (by kernel_rfl) (by decide) (fun _ _ _ h => h) (Or.inl ⟨by rfl, ?_⟩) (fun _ => hHeld) ?_; rotate_left 1; (focus (intro w _; go_simp; try (with_reducible rfl))); change Till _ _ _ _ _ _ _ _ (Act.put _ (some 18) _) _; simp only [Act.put, List.setIfInBounds_toArray, List.set_cons_zero, List.set_cons_succ])
      (refine Till.pure (i := 3) (u := ?_) rfl (by kernel_rfl) (by kernel_rfl) (by kernel_rfl) (by decide) (fun _ _ _ h => h) (Or.inl ⟨by rfl, ?_⟩) (fun _ => hHeld) ?_; rotate_left 1; (focus (intro w _; go_simp; try (with_reducible rfl))); change Till _ _ _ _ _ _ _ _ (Act.put _ (some 19) _) _; simp only [Act.put, List.setIfInBounds_toArray, List.set_cons_zero, List.set_cons_succ])
      (refine Till.one (i := 4) (by kernel_rfl) rfl (fun K hK => ?_))
      go_simp
      have HBB := Lib.hid (HDW.out.alloc (Nat.le_refl _) (.cells (ints [1, 1000000001]).toArray 3 (0, 0)))
      refine hK.out _ _ (HKEEP.out _ (block_below HVE.out HBB.out)) (fun hHeld => ?_)
      clear hK K
      (refine Till.one (i := 5) (by kernel_rfl) rfl (fun K hK => ?_))
      go_simp
      refine (among_q [1, 1000000001] (by decide) (by decide) (d := 2) (HME.out.below HBB.out) (by omega) (heap_alloc_new we.drew _) (by show we.heap.size ≠ k; omega)).mono ?_
      rintro e wf ⟨⟨s, rfl, hs⟩, hm, hag⟩
      have HVF := Lib.hid (block_agree (block_below HVE.out HBB.out) hag hVk)
      have HKF := Lib.hid (block_agree (block_below HKE.out HBB.out) hag hRk)
      have HRF := Lib.hid ((HRE.out.below HBB.out).kept hag (by omega))
      have HMF := Lib.hid hm
      clear hm hag
      go_simp
      refine hK.out _ _ (HKEEP.out _ HVF.out) (fun hHeld => ?_)
      clear hK K
      (refine Till.pure (i := 6) (u := ?_) rfl (by kernel_rfl) (by kernel_rfl) (by kernel_rfl) (by decide) (fun _ _ _ h => h) (Or.inl ⟨by rfl, ?_⟩) (fun _ => hHeld) ?_; rotate_left 1; (focus (intro w _; go_simp; try (with_reducible rfl))); change Till _ _ _ _ _ _ _ _ (Act.put _ (some 22) _) _; simp only [Act.put, List.setIfInBounds_toArray, List.set_cons_zero, List.set_cons_succ])
      (refine Till.pure (i := 7) (u := ?_) rfl (by kernel_rfl) (by kernel_rfl) (by kernel_rfl) (by decide) (fun _ _ _ h => h) (Or.inl ⟨by rfl, ?_⟩) (fun _ => hHeld) ?_; rotate_left 1; (focus (intro w _; go_simp; try (with_reducible rfl))); change Till _ _ _ _ _ _ _ _ (Act.put _ (some 23) _) _; simp only [Act.put, List.setIfInBounds_toArray, List.set_cons_zero, List.set_cons_succ])
      obtain ⟨⟨u0, hu0⟩, hfr, hwr⟩ := HRF.out.write j 1 xj HXJ.out (by omega)
      have HWR := Lib.hid hwr
      clear hwr
      try simp only [Nat.add_zero] at hu0 hfr HWR
      (refine Till.last (by kernel_rfl) rfl (by kernel_rfl) (fun K hK => ?_))
      go_simp
      refine hK.out _ _ ?_
      clear hK K
      refine wpAny_done (by kernel_rfl) ?_ _
      have hk2 := block_agree HVF.out (Agree.of_setCell (F := fun b => b ≠ g) wf ⟨g, j * 5 + 1, none⟩ (.int .i64 s) (fun _ h => h)) (Ne.symm hgV)
      have hk3 := block_agree HKF.out (Agree.of_setCell (F := fun b => b ≠ g) wf ⟨g, j * 5 + 1, none⟩ (.int .i64 s) (fun _ h => h)) (Ne.symm hgR)
      try simp only [Nat.add_zero] at hk2 hk3
      have y2 := cell_of_block hk2 0
      have x2 := cell_of_block hk3 0
      have f2 := free_of_block hk3 0
      simp at x2 y2 f2
      have HK3 := Lib.hid hk3
      clear hk2 hk3
      go_wp2
      refine bodyPost_ret (results_cell_row rfl _ _ w.heap.size _ _ _ _ rfl (block_setCell HK3.out 0 _) Tryz.underlying25 rfl ((info_size infoValue).trans (by simp))) rfl ?_
      refine ⟨L.set j ({ xj with num := s }), _, rfl, by rw [List.length_set]; exact hl1, ⟨by rw [List.length_set]; exact hl80, fun z hz => ?_⟩, ((HWR.out ({ xj with num := s }) (.int .i64 s) rfl).set (by omega) _).weaken (by omega), ((HMF.out.set hck (by omega) _ _).set hck (Nat.le_refl _) 0 _).more (by omega)⟩
      rcases List.mem_or_eq_of_mem_set hz with hz | rfl
      · exact HSM.out.2 z hz
      · exact HXS.out
end Go.Proofs.YteeppdobeeodiaaGreatDoor
namespace Go.Proofs.YteeppdobeeodiaaGreatDoor
open Go.RowKit
theorem maybeV_q {k : Nat} {A : Option Addr} {c : Nat} {l : List Int} {K a : Nat} {w w1 : World} (h : Moved k A c l K a w w1) (ha : a + K + 5000 ≤ 4611686018427387904) :
    Calls Tryz.prog 52 #[.pointer (some ⟨k, 0, none⟩)] w1 (fun e w2 => (∃ L v, e = .returned (.agg #[v]) ∧ 1 ≤ L.length ∧ SmallL L ∧ RowOf L w1.heap.size v w2) ∧ Moved k A c l (K + 5000) a w w2 ∧ Agree (fun b => b ≠ k) w1 w2) :=
  h.call (fun a' _ _ hc => (maybe_any k A c l a' w1 hc (by omega)).mono (fun e w2 ⟨L, v, h1, h2, h3, h4, h5⟩ => ⟨⟨L, v, h1, h2, h3, h4⟩, h5⟩))
set_option maxRecDepth 100000 in
set_option maxHeartbeats 4000000 in
theorem mapValue_any (k : Nat) (A : Option Addr) (c : Nat) (l : List Int) (a : Nat) (w : World) (hcur : Cur k A c l a w) (hbig : a + 6000 ≤ 4611686018427387904) :
    Calls Tryz.prog 27 #[.pointer (some ⟨k, 0, none⟩)] w (DrawVal k A c l 6000 a w 0) := by
  have hck := hcur.lt
  have hb1 := (Below.refl w.heap.size w).alloc (Nat.le_refl _) (.cells #[.slice none 0 0] 25 (0, 0))
  have hm1 := Moved.of_below hcur hb1
  have HKR := Lib.hid (heap_alloc_new w (.cells #[.slice none 0 0] 25 (0, 0)))
  have HT := Lib.hid (mtree_q (mtree_any 2) (by decide) hm1 (by omega))
  have hRk : w.heap.size ≠ k := by omega
  clear hcur hb1 hm1
  go_enter Tryz.func27, Tryz.ntmps27
  go_wp2_with fail
  refine HT.out.mono ?_
  rintro e wb ⟨⟨cs, t, rfl, hok, hcnt, hlt⟩, hm, hag⟩
  have hcnt' : t.count ≤ 64 := hcnt
  have HKB := Lib.hid (block_agree HKR.out hag hRk)
  have HMB := Lib.hid (hm.more (K2 := 896) (by omega))
  obtain ⟨D1, e1, D2, e2, rsO, rfl, _⟩ := id hlt.open
  have HTL := Lib.hid (sTell_any t hok (by omega) _ _ wb hlt)
  have HOK := Lib.hid hok
  clear hm hag HT HKR hlt hcnt hok
  go_wp2_with fail
  refine HTL.out.mono ?_
  rintro e wc ⟨L, v, f, rfl, htold, hown⟩
  have HSM := Lib.hid (told_small HOK.out htold)
  have HRO := Lib.hid hown.rowOf
  have HKC := Lib.hid (block_below HKB.out hown.1)
  have HMC := Lib.hid (HMB.out.below hown.1)
  have hRb : w.heap.size < wb.heap.size := lt_of_block HKB.out
  obtain ⟨A5, c5, rfl⟩ := hown.shape
  have hbv := (Below.refl wc.heap.size wc).alloc (Nat.le_refl _) (.cells #[.slice A5 L.length c5] 25 (0, 0))
  have HKV := Lib.hid (heap_alloc_new wc (.cells #[.slice A5 L.length c5] 25 (0, 0)))
  have HKD := Lib.hid (block_below HKC.out hbv)
  have HMD := Lib.hid (HMC.out.below hbv)
  have HRD := Lib.hid (HRO.out.below hbv)
  have hVs := hown.1.size
  have HP8 := Lib.hid (one_q 8 (by omega) (by omega) HMD.out (by omega))
  clear htold hown hbv HTL HKC HKB HMB
  go_wp2_with fail
  generalize wc.alloc (.cells #[.slice A5 L.length c5] 25 (0, 0)) = wd at HKV HKD HMD HRD HP8 ⊢
  refine HP8.out.mono ?_
  rintro e we ⟨⟨b, rfl⟩, hm, hag⟩
  have HKE := Lib.hid (block_agree HKD.out hag hRk)
  have HVE := Lib.hid (block_agree HKV.out hag (show wc.heap.size ≠ k by omega))
  have HRE := Lib.hid (HRD.out.kept hag (by omega))
  have HME := Lib.hid hm
  clear hm hag HP8
  cases b
  · have x0 := cell_of_block HKE.out 0
    have f0 := free_of_block HKE.out 0
    have y0 := cell_of_block HVE.out 0
    simp at x0 y0
    go_wp2
    refine bodyPost_ret (results_cell_row rfl _ _ w.heap.size _ _ _ _ rfl (block_setCell HKE.out 0 _) Tryz.underlying25 rfl ((info_size infoValue).trans (by simp))) rfl ?_
    exact ⟨L, _, rfl, Nat.zero_le _, HSM.out.1, (HRE.out.set hRb _).weaken (by omega), (HME.out.set hck (Nat.le_refl _) 0 _).more (by omega)⟩
  · have HQ := Lib.hid (maybeV_q HME.out (by omega))
    go_wp2_with fail
    refine HQ.out.mono ?_
    rintro e wf ⟨⟨L2, v2, rfl, _, hsm2, hrow⟩, hm, hag⟩
    have HKF := Lib.hid (block_agree HKE.out hag hRk)
    have HVF := Lib.hid (block_agree HVE.out hag (show wc.heap.size ≠ k by omega))
    have HMF := Lib.hid hm
    have HRF := Lib.hid hrow
    have HSM2 := Lib.hid hsm2
    have hse := HME.out.size
    obtain ⟨A6, c6, rfl, _⟩ := id hrow
    have hne : wc.heap.size ≠ w.heap.size := by omega
    have hwe : w.heap.size < we.heap.size := lt_of_block HKE.out
    have hwce : wc.heap.size < we.heap.size := lt_of_block HVE.out
    clear hrow hm hag hsm2 HQ
    have y0 := cell_of_block HVF.out 0
    have g0 := free_of_block HVF.out 0
    have x0 := cell_of_block HKF.out 0
    have f0 := free_of_block HKF.out 0
    simp at x0 y0
    have hk2 := block_agree HKF.out (Agree.of_setCell (F := fun b => b ≠ wc.heap.size) wf ⟨wc.heap.size, 0, none⟩ (.slice A6 L2.length c6) (fun _ h => h)) (Ne.symm hne)
    have x1 := cell_of_block hk2 0
    have f1 := free_of_block hk2 0
    simp at x1 f1
    have HK2 := Lib.hid hk2
    clear hk2
    go_wp2
    refine bodyPost_ret (results_cell_row rfl _ _ w.heap.size _ _ _ _ rfl (block_setCell HK2.out 0 _) Tryz.underlying25 rfl ((info_size infoValue).trans (by simp))) rfl ?_
    exact ⟨L2, _, rfl, Nat.zero_le _, HSM2.out, ((HRF.out.set hwce _).set hwe _).weaken (by omega), ((HMF.out.set hck (by omega) 0 _).set hck (Nat.le_refl _) 0 _).more (by omega)⟩
theorem mapV_q {k : Nat} {A : Option Addr} {c : Nat} {l : List Int} {K a : Nat} {w w1 : World} (h : Moved k A c l K a w w1) (ha : a + K + 6000 ≤ 4611686018427387904) :
    Calls Tryz.prog 27 #[.pointer (some ⟨k, 0, none⟩)] w1 (fun e w2 => (∃ L v, e = .returned (.agg #[v]) ∧ SmallL L ∧ RowOf L w1.heap.size v w2) ∧ Moved k A c l (K + 6000) a w w2 ∧ Agree (fun b => b ≠ k) w1 w2) :=
  h.call (fun a' _ _ hc => (mapValue_any k A c l a' w1 hc (by omega)).mono (fun e w2 ⟨L, v, h1, _, h3, h4, h5⟩ => ⟨⟨L, v, h1, h3, h4⟩, h5⟩))
end Go.Proofs.YteeppdobeeodiaaGreatDoor
namespace Go.Proofs.YteeppdobeeodiaaGreatDoor
open Go.RowKit
theorem results_row_two {P : Program} {fn : Func} {p q : Tmp} {ty : TypeId} (h : fn.results = #[.cell p ty, .cell q ty]) (tmps : Array Value) (w : World) (g1 g2 : Nat) (t : TypeId) (c1 c2 : Array Value) (fr : Nat × Nat) (d : TypeDesc)
    (hp : tmps.getD p undef = .pointer (some ⟨g1, 0, none⟩)) (hq : tmps.getD q undef = .pointer (some ⟨g2, 0, none⟩)) (hg1 : w.heap[g1]? = some (.cells c1 t fr)) (hg2 : w.heap[g2]? = some (.cells c2 t fr))
    (hu : P.underlying ty = some d) (hd : (match d with | .struct _ | .array _ _ => true | _ => false) = true) (hi1 : (P.info? ty).map (·.size) = some c1.size) (hi2 : (P.info? ty).map (·.size) = some c2.size) :
    (results fn tmps).run P w = .ok (.tuple #[.agg c1, .agg c2]) w := by
  have hp' : tmps[p]?.getD undef = .pointer (some ⟨g1, 0, none⟩) := by simpa using hp
  have hq' : tmps[q]?.getD undef = .pointer (some ⟨g2, 0, none⟩) := by simpa using hq
  simp [results, h, hp', hq', asAddr, run_loadVar_row w g1 t ty c1 fr d hg1 hu hd hi1, run_loadVar_row w g2 t ty c2 fr d hg2 hu hd hi2]
def DrawTwo (w : World) (e : Ending) (w' : World) : Prop := ∃ L1 v1 L2 v2, e = .returned (.tuple #[.agg #[v1], .agg #[v2]]) ∧ SmallL L1 ∧ SmallL L2 ∧ RowOf L1 w.heap.size v1 w' ∧ RowOf L2 w.heap.size v2 w' ∧ Below w.heap.size w w'
/-- A cursor that is made. -/
theorem cur_new {F : Nat → Prop} {A : Option Addr} {c : Nat} {l : List Int} {w : World} (hr : Rds F w A (u8s l)) (hc : l.length ≤ c) (hl : l.length ≤ 9223372036854775807) (hb : ∀ x ∈ l, 0 ≤ x ∧ x ≤ 255) : Cur w.heap.size A c l 0 (w.alloc (.cells #[.slice A l.length c, .int .i64 0, .int .u64 0] 54 (0, 0))) :=
  ⟨⟨0, heap_alloc_new _ _⟩, (hr.mono (G := fun b => b < w.heap.size) (fun _b _ hb => hb)).frame (Agree.of_below ((Below.refl _ _).alloc (Nat.le_refl _) _)), hc, hl, hb⟩
set_option maxRecDepth 100000 in
set_option maxHeartbeats 4000000 in
theorem drawApply_any (F : Nat → Prop) (A : Option Addr) (c : Nat) (l : List Int) (w : World) (hr : Rds F w A (u8s l)) (hc : l.length ≤ c) (hl : l.length ≤ 9223372036854775807) (hb : ∀ x ∈ l, 0 ≤ x ∧ x ≤ 255) :
    Calls Tryz.prog 18 #[.slice A l.length c] w (DrawTwo w) := by
  obtain ⟨w2, hw2⟩ : ∃ w2, w2 = (w.alloc (.cells #[.slice none 0 0] 25 (0, 0))).alloc (.cells #[.slice none 0 0] 25 (0, 0)) := ⟨_, rfl⟩
  have hs2 : w2.heap.size = w.heap.size + 2 := by rw [hw2]; simp
  have hb2 : Below w.heap.size w w2 := by rw [hw2]; exact ((Below.refl _ _).alloc (Nat.le_refl _) _).alloc (by simp) _
  have h1 : w2.heap[w.heap.size]? = some (.cells #[.slice none 0 0] 25 (0, 0)) := by rw [hw2]; (repeat (first | with_reducible assumption | (with_reducible refine blk_new _ ?_; (first | rfl | (simp; done) | (simp; omega))) | with_reducible apply block_setCell | (with_reducible refine blk_skip _ _ ?_ ?_; rotate_left; (first | (simp; done) | (simp; omega))) | with_reducible refine blk_old ?_))
  have h2 : w2.heap[w.heap.size + 1]? = some (.cells #[.slice none 0 0] 25 (0, 0)) := by rw [hw2]; (repeat (first | with_reducible assumption | (with_reducible refine blk_new _ ?_; (first | rfl | (simp; done) | (simp; omega))) | with_reducible apply block_setCell | (with_reducible refine blk_skip _ _ ?_ ?_; rotate_left; (first | (simp; done) | (simp; omega))) | with_reducible refine blk_old ?_))
  have hbk := (Below.refl w2.heap.size w2).alloc (Nat.le_refl _) (.cells #[.slice A l.length c, .int .i64 0, .int .u64 0] 54 (0, 0))
  have hcur := cur_new (hr.frame (Agree.of_below hb2)) hc hl hb
  have HM0 := Lib.hid (Moved.refl hcur)
  have HK1 := Lib.hid (block_below h1 hbk)
  have HK2 := Lib.hid (block_below h2 hbk)
  have HB3 := Lib.hid (below_then hb2 hb2.size hbk)
  have HW := Lib.hid hw2
  have HV1 := Lib.hid (mapV_q HM0.out (by omega))
  have hs3 : (w2.alloc (.cells #[.slice A l.length c, .int .i64 0, .int .u64 0] 54 (0, 0))).heap.size = w.heap.size + 3 := by simp [hs2]
  clear hr hw2 hb2 h1 h2 hbk hcur hb
  go_enter Tryz.func18, Tryz.ntmps18
  go_wp2_with fail
  rw [← HW.out]
  rw [show w.heap.size + 1 + 1 = w2.heap.size by omega]
  generalize w2.alloc (.cells #[.slice A l.length c, .int .i64 0, .int .u64 0] 54 (0, 0)) = w3 at HM0 HK1 HK2 HB3 HV1 hs3 ⊢
  clear HW
  generalize w2.heap.size = k at *
  have hk1 : w.heap.size + 1 < k := by omega
  have hk3 : k < w3.heap.size := by omega
  clear hs2 hs3
  refine HV1.out.mono ?_
  rintro e w4 ⟨⟨L1, v1, rfl, hsm1, hr1⟩, hm, hag⟩
  have HV2 := Lib.hid (mapV_q hm (by omega))
  have HK1b := Lib.hid (block_agree HK1.out hag (show w.heap.size ≠ k by omega))
  have HK2b := Lib.hid (block_agree HK2.out hag (show w.heap.size + 1 ≠ k by omega))
  have HR1 := Lib.hid hr1
  have HS1 := Lib.hid hsm1
  obtain ⟨A6, c6, rfl, _⟩ := id hr1
  have hs4 := hag.size
  clear hm hag hr1 hsm1 HV1 HK1 HK2
  go_wp2_with fail
  refine HV2.out.mono ?_
  rintro e w5 ⟨⟨L2, v2, rfl, hsm2, hr2⟩, hm, hag⟩
  have HK1c := Lib.hid (block_agree HK1b.out hag (show w.heap.size ≠ k by omega))
  have HK2c := Lib.hid (block_agree HK2b.out hag (show w.heap.size + 1 ≠ k by omega))
  have HR1c := Lib.hid (HR1.out.kept hag (by omega))
  have HR2 := Lib.hid hr2
  have HS2 := Lib.hid hsm2
  have HMZ := Lib.hid hm
  obtain ⟨A7, c7, rfl, _⟩ := id hr2
  clear hm hag hr2 hsm2 HV2 HK1b HK2b HR1
  have x1 := cell_of_block HK1c.out 0
  have f1 := free_of_block HK1c.out 0
  simp at x1
  have hne : w.heap.size + 1 ≠ w.heap.size := by omega
  have hk2 := block_agree HK2c.out (Agree.of_setCell (F := fun b => b ≠ w.heap.size) w5 ⟨w.heap.size, 0, none⟩ (.slice A6 L1.length c6) (fun _ h => h)) hne
  have x2 := cell_of_block hk2 0
  have f2 := free_of_block hk2 0
  simp at x2 f2
  have HKR2 := Lib.hid (block_setCell hk2 0 (.slice A7 L2.length c7))
  have HKR1 := Lib.hid (block_agree (block_setCell HK1c.out 0 (.slice A6 L1.length c6)) (Agree.of_setCell (F := fun b => b ≠ w.heap.size + 1) _ ⟨w.heap.size + 1, 0, none⟩ (.slice A7 L2.length c7) (fun _ h => h)) (Ne.symm hne))
  clear hk2
  go_wp2
  refine bodyPost_ret (results_row_two rfl _ _ w.heap.size (w.heap.size + 1) _ _ _ _ _ rfl rfl HKR1.out HKR2.out Tryz.underlying25 rfl ((info_size infoValue).trans (by simp)) ((info_size infoValue).trans (by simp))) rfl ?_
  have hsz : w.heap.size + 1 < w3.heap.size := by omega
  refine ⟨L1, _, L2, _, rfl, HS1.out, HS2.out, ((HR1c.out.set (by omega) _).set (by omega) _).weaken (by omega), ((HR2.out.set (by omega) _).set (by omega) _).weaken (by omega), ?_⟩
  exact ((HB3.out.trans (HMZ.out.1.mono (by omega))).setCell (p := ⟨w.heap.size, 0, none⟩) (Nat.le_refl _) _).setCell (p := ⟨w.heap.size + 1, 0, none⟩) (by show w.heap.size ≤ w.heap.size + 1; omega) _
set_option maxRecDepth 100000 in
set_option maxHeartbeats 4000000 in
theorem drawJoin_any (F : Nat → Prop) (A : Option Addr) (c : Nat) (l : List Int) (w : World) (hr : Rds F w A (u8s l)) (hc : l.length ≤ c) (hl : l.length ≤ 9223372036854775807) (hb : ∀ x ∈ l, 0 ≤ x ∧ x ≤ 255) :
    Calls Tryz.prog 5 #[.slice A l.length c] w (DrawTwo w) := by
  obtain ⟨w2, hw2⟩ : ∃ w2, w2 = (w.alloc (.cells #[.slice none 0 0] 25 (0, 0))).alloc (.cells #[.slice none 0 0] 25 (0, 0)) := ⟨_, rfl⟩
  have hs2 : w2.heap.size = w.heap.size + 2 := by rw [hw2]; simp
  have hb2 : Below w.heap.size w w2 := by rw [hw2]; exact ((Below.refl _ _).alloc (Nat.le_refl _) _).alloc (by simp) _
  have h1 : w2.heap[w.heap.size]? = some (.cells #[.slice none 0 0] 25 (0, 0)) := by rw [hw2]; (repeat (first | with_reducible assumption | (with_reducible refine blk_new _ ?_; (first | rfl | (simp; done) | (simp; omega))) | with_reducible apply block_setCell | (with_reducible refine blk_skip _ _ ?_ ?_; rotate_left; (first | (simp; done) | (simp; omega))) | with_reducible refine blk_old ?_))
  have h2 : w2.heap[w.heap.size + 1]? = some (.cells #[.slice none 0 0] 25 (0, 0)) := by rw [hw2]; (repeat (first | with_reducible assumption | (with_reducible refine blk_new _ ?_; (first | rfl | (simp; done) | (simp; omega))) | with_reducible apply block_setCell | (with_reducible refine blk_skip _ _ ?_ ?_; rotate_left; (first | (simp; done) | (simp; omega))) | with_reducible refine blk_old ?_))
  have HD := Lib.hid (drawApply_any F A c l w2 (hr.frame (Agree.of_below hb2)) hc hl hb)
  have HW := Lib.hid hw2
  have HB2 := Lib.hid hb2
  have HK1 := Lib.hid h1
  have HK2 := Lib.hid h2
  have hk : w.heap.size + 1 < w2.heap.size := by omega
  clear hr hw2 hb2 h1 h2 hb hs2
  go_enter Tryz.func5, Tryz.ntmps5
  go_wp2_with fail
  rw [← HW.out]
  clear HW
  refine HD.out.mono ?_
  rintro e w5 ⟨L1, v1, L2, v2, rfl, hsm1, hsm2, hr1, hr2, hbz⟩
  obtain ⟨A6, c6, rfl, _⟩ := id hr1
  obtain ⟨A7, c7, rfl, _⟩ := id hr2
  have HK1c := Lib.hid (block_below HK1.out hbz)
  have HK2c := Lib.hid (block_below HK2.out hbz)
  have HR1 := Lib.hid hr1
  have HR2 := Lib.hid hr2
  have HS1 := Lib.hid hsm1
  have HS2 := Lib.hid hsm2
  have HBZ := Lib.hid (below_then HB2.out HB2.out.size hbz)
  clear hsm1 hsm2 hr1 hr2 hbz HD HK1 HK2
  have x1 := cell_of_block HK1c.out 0
  have f1 := free_of_block HK1c.out 0
  simp at x1
  have hne : w.heap.size + 1 ≠ w.heap.size := by omega
  have hk2 := block_agree HK2c.out (Agree.of_setCell (F := fun b => b ≠ w.heap.size) w5 ⟨w.heap.size, 0, none⟩ (.slice A6 L1.length c6) (fun _ h => h)) hne
  have x2 := cell_of_block hk2 0
  have f2 := free_of_block hk2 0
  simp at x2 f2
  have HKR2 := Lib.hid (block_setCell hk2 0 (.slice A7 L2.length c7))
  have HKR1 := Lib.hid (block_agree (block_setCell HK1c.out 0 (.slice A6 L1.length c6)) (Agree.of_setCell (F := fun b => b ≠ w.heap.size + 1) _ ⟨w.heap.size + 1, 0, none⟩ (.slice A7 L2.length c7) (fun _ h => h)) (Ne.symm hne))
  clear hk2
  go_wp2
  refine bodyPost_ret (results_row_two rfl _ _ w.heap.size (w.heap.size + 1) _ _ _ _ _ rfl rfl HKR1.out HKR2.out Tryz.underlying25 rfl ((info_size infoValue).trans (by simp)) ((info_size infoValue).trans (by simp))) rfl ?_
  refine ⟨L1, _, L2, _, rfl, HS1.out, HS2.out, ((HR1.out.set (by omega) _).set (by omega) _).weaken (by omega), ((HR2.out.set (by omega) _).set (by omega) _).weaken (by omega), ?_⟩
  exact (HBZ.out.setCell (p := ⟨w.heap.size, 0, none⟩) (Nat.le_refl _) _).setCell (p := ⟨w.heap.size + 1, 0, none⟩) (by show w.heap.size ≤ w.heap.size + 1; omega) _
def DrawOne (w : World) (e : Ending) (w' : World) : Prop := ∃ L v, e = .returned (.agg #[v]) ∧ SmallL L ∧ RowOf L w.heap.size v w' ∧ Below w.heap.size w w'
set_option maxRecDepth 100000 in
set_option maxHeartbeats 4000000 in
theorem drawIsClean_any (F : Nat → Prop) (A : Option Addr) (c : Nat) (l : List Int) (w : World) (hr : Rds F w A (u8s l)) (hc : l.length ≤ c) (hl : l.length ≤ 9223372036854775807) (hb : ∀ x ∈ l, 0 ≤ x ∧ x ≤ 255) :
    Calls Tryz.prog 9 #[.slice A l.length c] w (DrawOne w) := by
  obtain ⟨w2, hw2⟩ : ∃ w2, w2 = w.alloc (.cells #[.slice none 0 0] 25 (0, 0)) := ⟨_, rfl⟩
  have hs2 : w2.heap.size = w.heap.size + 1 := by rw [hw2]; simp
  have hb2 : Below w.heap.size w w2 := by rw [hw2]; exact (Below.refl _ _).alloc (Nat.le_refl _) _
  have h1 : w2.heap[w.heap.size]? = some (.cells #[.slice none 0 0] 25 (0, 0)) := by rw [hw2]; (repeat (first | with_reducible assumption | (with_reducible refine blk_new _ ?_; (first | rfl | (simp; done) | (simp; omega))) | with_reducible apply block_setCell | (with_reducible refine blk_skip _ _ ?_ ?_; rotate_left; (first | (simp; done) | (simp; omega))) | with_reducible refine blk_old ?_))
  have hbk := (Below.refl w2.heap.size w2).alloc (Nat.le_refl _) (.cells #[.slice A l.length c, .int .i64 0, .int .u64 0] 54 (0, 0))
  have hcur := cur_new (hr.frame (Agree.of_below hb2)) hc hl hb
  have HM0 := Lib.hid (Moved.refl hcur)
  have HK1 := Lib.hid (block_below h1 hbk)
  have HB3 := Lib.hid (below_then hb2 hb2.size hbk)
  have HW := Lib.hid hw2
  have HV1 := Lib.hid (mapV_q HM0.out (by omega))
  have hs3 : (w2.alloc (.cells #[.slice A l.length c, .int .i64 0, .int .u64 0] 54 (0, 0))).heap.size = w.heap.size + 2 := by simp [hs2]
  clear hr hw2 hb2 h1 hbk hcur hb
  go_enter Tryz.func9, Tryz.ntmps9
  go_wp2_with fail
  rw [← HW.out]
  rw [show w.heap.size + 1 = w2.heap.size by omega]
  generalize w2.alloc (.cells #[.slice A l.length c, .int .i64 0, .int .u64 0] 54 (0, 0)) = w3 at HM0 HK1 HB3 HV1 hs3 ⊢
  clear HW
  generalize w2.heap.size = k at *
  have hk1 : w.heap.size < k := by omega
  have hk3 : k < w3.heap.size := by omega
  clear hs2 hs3
  refine HV1.out.mono ?_
  rintro e w4 ⟨⟨L1, v1, rfl, hsm1, hr1⟩, hm, hag⟩
  have HK1b := Lib.hid (block_agree HK1.out hag (show w.heap.size ≠ k by omega))
  have HR1 := Lib.hid hr1
  have HS1 := Lib.hid hsm1
  have HMZ := Lib.hid hm
  obtain ⟨A6, c6, rfl, _⟩ := id hr1
  clear hm hag hr1 hsm1 HV1 HK1
  have x1 := cell_of_block HK1b.out 0
  have f1 := free_of_block HK1b.out 0
  simp at x1
  go_wp2
  refine bodyPost_ret (results_cell_row rfl _ _ w.heap.size _ _ _ _ rfl (block_setCell HK1b.out 0 _) Tryz.underlying25 rfl ((info_size infoValue).trans (by simp))) rfl ?_
  exact ⟨L1, _, rfl, HS1.out, (HR1.out.set (by omega) _).weaken (by omega), (HB3.out.trans (HMZ.out.1.mono (by omega))).setCell (p := ⟨w.heap.size, 0, none⟩) (Nat.le_refl _) _⟩
end Go.Proofs.YteeppdobeeodiaaGreatDoor
