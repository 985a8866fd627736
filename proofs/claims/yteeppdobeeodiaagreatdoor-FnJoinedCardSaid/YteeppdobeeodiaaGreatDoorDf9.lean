/- The program's CleanOf. -/
import Derived.Test.YteeppdobeeodiaaGreatDoorSp18
import Derived.Test.YteeppdobeeodiaaGreatDoorDf7
import Derived.Test.YteeppdobeeodiaaGreatDoorText1
namespace Go.Proofs.YteeppdobeeodiaaGreatDoor
open Go.RowKit
theorem clean_deepL (ks : List Tree) (ih : ∀ x ∈ ks, x.clean.deep ≤ x.deep) : ∀ ns, Tree.deepL (Tree.cleanL ns ks).2 ≤ Tree.deepL ks := by
  induction ks with
  | nil => intro ns; simp [Tree.cleanL]
  | cons x ks ihk =>
    intro ns
    have h1 := ihk (fun y hy => ih y (List.mem_cons_of_mem _ hy)) ns.tail
    have h2 := ih x (by simp)
    rw [Tree.cleanL]
    split
    · simp only [Tree.deepL]
      omega
    · simp only [Tree.deepL]
      omega
theorem deep_eq' (t : Tree) : t.deep = Tree.deepL t.kids + (if holdsB t.kind then 1 else 0) := by
  cases t
  rfl
theorem clean_deep : ∀ t : Tree, t.clean.deep ≤ t.deep := Tree.ind fun t ih => by
  rw [Tree.clean_eq]
  split
  · next hk =>
    have h := clean_deepL t.kids ih t.names
    rw [deep_eq', deep_eq' t, hk]
    simp only [Tree.kids_mk, Tree.kind_mk]
    exact Nat.add_le_add_right h _
  · exact Nat.le_refl _
theorem pieces_first (map : Bool) (ns : List ByteArray) (ks : List Tree) (f : Bool) : (Tree.pieces map f ns ks).length ≤ (Tree.pieces map false ns ks).length := by
  cases f
  · exact Nat.le_refl _
  · cases ks with
    | nil => simp [Tree.pieces]
    | cons x ks =>
      simp only [Tree.pieces, if_true, Bool.false_eq_true, if_false, List.length_append, List.length_nil, List.length_cons]
      omega
theorem clean_pieces (ks : List Tree) (ih : ∀ x ∈ ks, x.clean.wr.length ≤ x.wr.length) : ∀ (f : Bool) (ns : List ByteArray), (Tree.pieces true f (Tree.cleanL ns ks).1 (Tree.cleanL ns ks).2).length ≤ (Tree.pieces true f ns ks).length := by
  induction ks with
  | nil => intro f ns; simp [Tree.cleanL, Tree.pieces]
  | cons x ks ihk =>
    intro f ns
    have h1 := fun f => ihk (fun y hy => ih y (List.mem_cons_of_mem _ hy)) f ns.tail
    have h2 := ih x (by simp)
    rw [Tree.cleanL]
    split
    · have h3 := h1 f
      have h4 := pieces_first true ns.tail ks f
      simp only [Tree.pieces, List.length_append]
      omega
    · have h3 := h1 false
      have e : (⟨#[]⟩ : ByteArray) = emptyB := rfl
      simp only [Tree.pieces, List.length_append, List.headD_cons, List.tail_cons, e]
      omega
theorem clean_wr : ∀ t : Tree, t.clean.wr.length ≤ t.wr.length := Tree.ind fun t ih => by
  rw [Tree.clean_eq]
  split
  · next hk =>
    have h := clean_pieces t.kids ih true t.names
    rw [Tree.wr_eq t, hk, Tree.wr_eq]
    simp only [Tree.kind_mk, Tree.names_mk, Tree.kids_mk, show ¬ ((7 : Int) = 1) by decide, show ¬ ((7 : Int) = 2) by decide, show ¬ ((7 : Int) = 3) by decide, show ¬ ((7 : Int) = 4) by decide, show ¬ ((7 : Int) = 5) by decide, show ¬ ((7 : Int) = 6) by decide, if_false, if_true, List.length_cons, List.length_append, List.length_nil]
    omega
  · exact Nat.le_refl _
/-- What is cleaned of a good value is good. -/
theorem clean_good {t : Tree} (ho : t.ok = true) (h : t.good = true) : t.clean.good = true := by
  obtain ⟨h1, h2⟩ := clean_ok t ho
  have hd := clean_deep t
  have hw := clean_wr t
  unfold Tree.good at h ⊢
  simp only [Bool.and_eq_true, decide_eq_true_eq] at h ⊢
  exact ⟨⟨⟨t.clean.ok_bounded h1, by omega⟩, by omega⟩, by omega⟩
set_option maxRecDepth 100000 in
set_option maxHeartbeats 4000000 in
theorem cleanOf_any (l : List Nd) (hl : l.length ≤ 1000000000) (hsz : SzNd l) (F : Nat → Prop) (A : Option Addr) (c : Nat) (hc : l.length ≤ c) (w : World) (hr : Rds F w A (ndCells l)) (htab : Tabs w.heap.size w) :
    Calls Tryz.prog 13 #[.agg #[.slice A l.length c]] w (CoPost l w) := by
  obtain ⟨w1, hw⟩ : ∃ w1, w1 = (w.alloc (.cells #[.slice A l.length c] 25 (0, 0))).alloc (.cells #[.slice none 0 0] 25 (0, 0)) := ⟨_, rfl⟩
  have hb1 : Below w.heap.size w w1 := by rw [hw]; exact ((Below.refl _ _).alloc (Nat.le_refl _) _).alloc (by simp) _
  have kr : w1.heap[w.heap.size + 1]? = some (.cells #[.slice none 0 0] 25 (0, 0)) := by rw [hw]; (repeat (first | with_reducible assumption | (with_reducible refine blk_new _ ?_; (first | rfl | (simp; done) | (simp; omega))) | with_reducible apply block_setCell | (with_reducible refine blk_skip _ _ ?_ ?_; rotate_left; (first | (simp; done) | (simp; omega))) | with_reducible refine blk_old ?_))
  have hs1 : w1.heap.size = w.heap.size + 2 := by rw [hw]; simp
  have HT := Lib.hid (fun W (hb : Below w.heap.size w W) => (htab.below hb).mono hb.size)
  have HV := Lib.hid (fun W (hb : Below w.heap.size w W) => valOf_any l (by omega) hsz F A c hc W (hr.frame (Agree.of_below hb)) (HT.out W hb))
  have HB1 := Lib.hid hb1
  have HW := Lib.hid hw
  have HKR := Lib.hid kr
  clear hr hsz hb1 htab hw kr
  go_enter Tryz.func13, Tryz.ntmps13
  go_wp2_with fail
  rw [← HW.out]
  clear HW
  refine (HV.out w1 HB1.out).mono ?_
  rintro e w2 ⟨hb2, o1, v1, rfl, ho1, hv1⟩
  have HB2 := Lib.hid (below_then HB1.out HB1.out.size hb2)
  have HKR2 := Lib.hid (block_below HKR.out hb2)
  have HO := Lib.hid ho1
  have HV1 := Lib.hid hv1
  have hs2 := hb2.size
  clear hb2 ho1 hv1 HKR
  cases o1 with
  | none =>
    obtain rfl : v1 = .pointer none := HO.out
    have heq := run_eql_nil_nil_val
    have r0 := cell_of_block HKR2.out 0
    have f0 := free_of_block HKR2.out 0
    simp at r0
    go_wp2
    refine bodyPost_ret (results_row_one rfl _ _ (w.heap.size + 1) _ _ _ _ rfl (block_setCell HKR2.out _ _) Tryz.underlying25 rfl ((info_size infoValue).trans (by simp))) rfl ?_
    exact ⟨[], _, false, rfl, .inr ⟨rfl, rfl, HV1.out.2 rfl⟩, NdOwn.nil (HB2.out.setCell (p := ⟨w.heap.size + 1, 0, none⟩) (by show w.heap.size ≤ w.heap.size + 1; omega) _)⟩
  | some t =>
    have htp : TreeAt _ w2 v1 t := HO.out
    obtain ⟨bp, _, _, _, _, _, rfl, _⟩ := htp.open
    have heq1 := run_eql_ptr_nil bp
    have gt := HV1.out.1 t rfl
    have HGT := Lib.hid gt
    have n2 := gt.count.2
    have HOK := Lib.hid (clean_ok t gt.2.1)
    have HCL := Lib.hid (clean_any t gt.2.1 n2 _ _ w2 htp)
    clear htp gt
    go_wp2_with fail
    refine HCL.out.mono ?_
    rintro e w3 ⟨cv, rfl, hb3, hct⟩
    have HB3 := Lib.hid (below_then HB2.out HB2.out.size hb3)
    have HKR3 := Lib.hid (block_below HKR2.out hb3)
    have hok : ∀ t', some t.clean = some t' → t'.shaped ∧ t'.sized ∧ t'.count ≤ 1000000000 := fun t' ht => by
      injection ht with ht
      subst ht
      obtain ⟨h1, h2⟩ := HOK.out
      exact ⟨Tree.ok_shaped _ h1, Tree.ok_sized _ h1 (by omega), by omega⟩
    have HTO := Lib.hid (told_any (some t.clean) hok _ cv w3 hct (HT.out w3 HB3.out))
    have hs3 := hb3.size
    clear hb3 hct HCL hok HKR2
    go_wp2_with fail
    refine HTO.out.mono ?_
    rintro e w5 ⟨l', u, f, rfl, htold, hown⟩
    obtain ⟨A5, c5, rfl⟩ := hown.shape
    have HK5 := Lib.hid (block_below HKR3.out hown.1)
    have x5 := cell_of_block HK5.out 0
    have f5 := free_of_block HK5.out 0
    simp at x5
    have HO5 := Lib.hid hown
    have HTD := Lib.hid (show f = true ∧ l' = t.clean.flat emptyB (-1) 0 from by
      rcases htold with ⟨h1, t', h2, _, h3⟩ | ⟨_, _, h3⟩
      · injection h2 with h2
        subst h2
        exact ⟨h1, h3⟩
      · have h4 : t.clean.good = false := h3
        rw [clean_good HGT.out.2.1 HGT.out.2.2] at h4
        cases h4)
    clear hown htold HTO HKR3
    go_wp2
    refine bodyPost_ret (results_row_one rfl _ _ (w.heap.size + 1) _ _ _ _ rfl (block_setCell HK5.out _ _) Tryz.underlying25 rfl ((info_size infoValue).trans (by simp))) rfl ?_
    exact ⟨l', _, f, rfl, .inl ⟨HTD.out.1, t, HGT.out, HTD.out.2⟩, NdOwn.cell HB3.out HO5.out (by omega) (by omega) _⟩
end Go.Proofs.YteeppdobeeodiaaGreatDoor
