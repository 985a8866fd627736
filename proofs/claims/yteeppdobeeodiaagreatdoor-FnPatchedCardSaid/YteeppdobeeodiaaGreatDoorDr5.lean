/- The draws' trees: (*l1Cur).tree. The draws' maps: (*l1Cur).mapTree. -/
import Derived.Test.YteeppdobeeodiaaGreatDoorDr3
import Derived.Test.YteeppdobeeodiaaGreatDoorHk
import Derived.Test.YteeppdobeeodiaaGreatDoorDf1
namespace Go.Proofs.YteeppdobeeodiaaGreatDoor
open Go.RowKit
section
variable {k : Nat} {A : Option Addr} {c : Nat} {l : List Int} {K K1 K2 a : Nat} {w w1 w2 : World}
/-- A call behind a move: its contract is asked for every number that the cursor may have read. -/
theorem Moved.call {f : FuncId} {args : Array Value} {Q : Ending → World → Prop} (h : Moved k A c l K1 a w w1) (hc : ∀ a', a ≤ a' → a' ≤ a + K1 → Cur k A c l a' w1 → Calls Tryz.prog f args w1 (fun e w2 => Q e w2 ∧ Moved k A c l K2 a' w1 w2)) :
    Calls Tryz.prog f args w1 (fun e w2 => Q e w2 ∧ Moved k A c l (K1 + K2) a w w2 ∧ Agree (fun b => b ≠ k) w1 w2) := by
  obtain ⟨h1, h2, a', h3, h4, h5⟩ := h
  refine (hc a' h3 h4 h5).mono ?_
  rintro e w2 ⟨hq, hm⟩
  refine ⟨hq, ?_, hm.2.1⟩
  obtain ⟨g1, g2, a'', g3, g4, g5⟩ := hm
  refine ⟨h1.trans g1, ⟨Nat.le_trans h2.size g2.size, fun b hb hl => ?_⟩, a'', by omega, by omega, g5⟩
  rw [g2.block b hb (Nat.lt_of_lt_of_le hl h2.size), h2.block b hb hl]
theorem pick_q (n : Nat) (hn : 1 ≤ n) (hn2 : n ≤ 200) (h : Moved k A c l K a w w1) (ha : a + K + 1 ≤ 4611686018427387904) :
    Calls Tryz.prog 57 #[.pointer (some ⟨k, 0, none⟩), .int .i64 (n : Int)] w1 (fun e w2 => (∃ x : Nat, e = .returned (.int .i64 (x : Int)) ∧ x < n) ∧ Moved k A c l (K + 2) a w w2 ∧ Agree (fun b => b ≠ k) w1 w2) :=
  h.call (fun a' _ _ hc => (pick_any n hn hn2 k A c l a' w1 hc (by omega)).mono (fun e w2 ⟨x, h1, h2, h3⟩ => ⟨⟨x, h1, h2⟩, h3⟩))
theorem one_q (n : Nat) (hn : 1 ≤ n) (hn2 : n ≤ 200) (h : Moved k A c l K a w w1) (ha : a + K + 1 ≤ 4611686018427387904) :
    Calls Tryz.prog 34 #[.pointer (some ⟨k, 0, none⟩), .int .i64 (n : Int)] w1 (fun e w2 => (∃ x : Bool, e = .returned (.bool x)) ∧ Moved k A c l (K + 2) a w w2 ∧ Agree (fun b => b ≠ k) w1 w2) :=
  h.call (fun a' _ _ hc => (one_any n hn hn2 k A c l a' w1 hc (by omega)).mono (fun e w2 ⟨x, h1, h3⟩ => ⟨⟨x, h1⟩, h3⟩))
theorem plain_q (h : Moved k A c l K a w w1) (ha : a + K + 1 ≤ 4611686018427387904) :
    Calls Tryz.prog 110 #[.pointer (some ⟨k, 0, none⟩)] w1 (fun e w2 => (∃ s, e = .returned (.string s) ∧ strOK s = true) ∧ Moved k A c l (K + 2) a w w2 ∧ Agree (fun b => b ≠ k) w1 w2) :=
  h.call (fun a' _ _ hc => (plain_any k A c l a' w1 hc (by omega)).mono (fun e w2 ⟨x, h1, h2, h3⟩ => ⟨⟨x, h1, h2⟩, h3⟩))
theorem of_q (ls : List ByteArray) (h1 : 1 ≤ ls.length) (h2 : ls.length ≤ 200) {g d : Nat} {T : TypeId} (h : Moved k A c l K a w w1) (ha : a + K + 1 ≤ 4611686018427387904) (hg : w1.heap[g]? = some (.cells (strs ls).toArray T (0, 0))) (hgk : g ≠ k) :
    Calls Tryz.prog 86 #[.pointer (some ⟨k, 0, none⟩), .slice (some ⟨g, 0, none⟩) ls.length d] w1 (fun e w2 => (∃ s, e = .returned (.string s) ∧ s ∈ ls) ∧ Moved k A c l (K + 2) a w w2 ∧ Agree (fun b => b ≠ k) w1 w2) :=
  h.call (fun a' _ _ hc => (of_any ls h1 h2 _ _ d k A c l a' w1 hc (by omega) (rds_blk hg) (fun b e => by subst e; exact hgk)).mono (fun e w2 ⟨x, h1, h2, h3⟩ => ⟨⟨x, h1, h2⟩, h3⟩))
theorem among_q (ls : List Int) (h1 : 1 ≤ ls.length) (h2 : ls.length ≤ 200) {g d : Nat} {T : TypeId} (h : Moved k A c l K a w w1) (ha : a + K + 1 ≤ 4611686018427387904) (hg : w1.heap[g]? = some (.cells (ints ls).toArray T (0, 0))) (hgk : g ≠ k) :
    Calls Tryz.prog 87 #[.pointer (some ⟨k, 0, none⟩), .slice (some ⟨g, 0, none⟩) ls.length d] w1 (fun e w2 => (∃ s, e = .returned (.int .i64 s) ∧ s ∈ ls) ∧ Moved k A c l (K + 2) a w w2 ∧ Agree (fun b => b ≠ k) w1 w2) :=
  h.call (fun a' _ _ hc => (among_any ls h1 h2 _ _ d k A c l a' w1 hc (by omega) (rds_blk hg) (fun b e => by subst e; exact hgk)).mono (fun e w2 ⟨x, h1, h2, h3⟩ => ⟨⟨x, h1, h2⟩, h3⟩))
end
theorem tree_q {k : Nat} {A : Option Addr} {c : Nat} {l : List Int} {K a d : Nat} {w w1 : World} (ih : TreeDr d) (hd : 4 ^ d ≤ 1000) (h : Moved k A c l K a w w1) (ha : a + K + 12 * 4 ^ d ≤ 4611686018427387904) :
    Calls Tryz.prog 84 #[.pointer (some ⟨k, 0, none⟩), .int .i64 (d : Int)] w1 (fun e w2 => (∃ cs t, e = .returned (.agg cs.toArray) ∧ t.ok = true ∧ t.count ≤ 4 ^ d ∧ LtAt (fun b => w1.heap.size ≤ b) w2 cs t) ∧ Moved k A c l (K + 12 * 4 ^ d) a w w2 ∧ Agree (fun b => b ≠ k) w1 w2) :=
  h.call (fun a' _ _ hc => (ih k A c l a' w1 hc hd (by omega)).mono (fun e w2 ⟨cs, t, h1, h2, h3, h4, h5⟩ => ⟨⟨cs, t, h1, h2, h3, h4⟩, h5⟩))
def hasN (ns : List ByteArray) (s : ByteArray) : Bool := ns.any (fun o => o.toList == s.toList)
theorem hasN_step {ns : List ByteArray} {s o : ByteArray} {j : Nat} (h : ns[j]? = some o) : hasN (ns.take (j + 1)) s = (hasN (ns.take j) s || (o.toList == s.toList)) := by
  rw [List.take_add_one, h]
  simp [hasN]
theorem hasN_iff {ns : List ByteArray} {s : ByteArray} : hasN ns s = true ↔ s ∈ ns := by
  simp only [hasN, List.any_eq_true, beq_iff_eq]
  exact ⟨fun ⟨o, h1, h2⟩ => by rw [← ba_eq h2]; exact h1, fun h => ⟨s, h, rfl⟩⟩
theorem five_of' : ∀ (l : List Value), l.length = 5 → ∃ x0 x1 x2 x3 x4, l = [x0, x1, x2, x3, x4]
  | [x0, x1, x2, x3, x4], _ => ⟨x0, x1, x2, x3, x4, rfl⟩
theorem okL_app (ks ls : List Tree) : Tree.okL (ks ++ ls) = (Tree.okL ks && Tree.okL ls) := by
  induction ks with
  | nil => simp [Tree.okL]
  | cons x ks ih => simp [Tree.okL, ih, Bool.and_assoc]
theorem countL_app (ks ls : List Tree) : Tree.countL (ks ++ ls) = Tree.countL ks + Tree.countL ls := by
  induction ks with
  | nil => simp [Tree.countL]
  | cons x ks ih => simp [Tree.countL, ih, Nat.add_assoc]
def PutU (F : Nat → Prop) (t z : Tree) (w : World) (e : Ending) (w' : World) : Prop := ∃ cs' t', e = .returned (.agg cs'.toArray) ∧ Below w.heap.size w w' ∧ LtAt (Nw F w.heap.size) w' cs' t' ∧ t'.ok = true ∧ t'.kind = t.kind ∧ t'.count = t.count + z.count ∧ ∀ u ∈ t'.names, u ∈ t.names ∨ t.kind = 7
theorem sPutU (t : Tree) (s : ByteArray) (z : Tree) (hk : t.kind = 6 ∨ t.kind = 7) (ht : t.ok = true) (hs : strOK s = true) (hn : s ∉ t.names) (hz : z.ok = true) (hl : t.kids.length ≤ 1000000) (F : Nat → Prop) (cs xs : List Value) (w : World) (h : LtAt F w cs t) (hx : LtAt F w xs z) :
    Calls Tryz.prog 48 #[.agg cs.toArray, .string s, .agg xs.toArray] w (PutU F t z w) := by
  have hc := t.count_eq
  rcases hk with hk | hk
  · refine (sPutL_any t s z hk hl F cs xs w h hx).mono ?_
    rintro e w' ⟨cs', rfl, hb, hlt⟩
    have hok : (Tree.mk 6 0 emptyB [] (t.kids ++ [z])).ok = true := by
      have h1 := leaf_ok (k := 6) (n := 0) (s := emptyB) (by omega) (by omega) (.inr rfl) (.inr rfl) (by decide) (by decide)
      have h2 : Tree.okL t.kids = true := by
        cases t
        simp [Tree.ok] at ht
        exact ht.2
      simp only [Tree.ok, Tree.okL, Bool.and_true, Bool.and_eq_true] at h1 ⊢
      refine ⟨⟨h1.1, by simp [holdsB]⟩, by rw [okL_app, h2]; simp [Tree.okL, hz]⟩
    exact ⟨cs', _, rfl, hb, hlt, hok, hk.symm, by simp only [Tree.count, countL_app, Tree.countL]; omega, fun u hu => by cases hu⟩
  · have hm := Tree.ok_map ht hk
    have hf : t.names[insPos t.names s]? ≠ some s := fun e => hn (List.mem_of_getElem? e)
    refine (sPut_any t s z hk hm hf hl F cs xs w h hx).mono ?_
    rintro e w' ⟨cs', rfl, hb, hlt⟩
    exact ⟨cs', _, rfl, hb, hlt, (hm.ins hf hs hz).tree, hk.symm, by simp only [Tree.count, countL_ins]; omega, fun u _ => .inr hk⟩
/-- The blocks that the tree in the making may lie in. -/
def Nt (B R V : Nat) : Nat → Prop := fun b => B ≤ b ∧ b ≠ R ∧ b ≠ V
structure TInv (k : Nat) (A : Option Addr) (c : Nat) (l : List Int) (a : Nat) (w wx : World) (V : Nat) (K : Int) (M cnt : Nat) (ocs : List Value) (t : Tree) (ro : Obj) : Prop where
  mv : Moved k A c l M a w wx
  vb : wx.heap[V]? = some (.cells ocs.toArray 44 (0, 0))
  rb : wx.heap[w.heap.size]? = some ro
  lt : LtAt (Nt w.heap.size w.heap.size V) wx ocs t
  ok : t.ok = true
  kd : t.kind = K
  cn : t.count ≤ cnt
section
variable {k : Nat} {A : Option Addr} {c : Nat} {l : List Int} {a : Nat} {w wx w2 : World} {V : Nat} {K : Int} {M M' cnt : Nat} {ocs : List Value} {t : Tree} {ro : Obj}
theorem TInv.to (h : TInv k A c l a w wx V K M cnt ocs t ro) (hk : k < w.heap.size) (hV : w.heap.size < V) (hm : Moved k A c l M' a w w2) (hag : Agree (fun b => b ≠ k) wx w2) : TInv k A c l a w w2 V K M' cnt ocs t ro :=
  ⟨hm, block_agree h.vb hag (by omega), block_agree h.rb hag (by omega), h.lt.frame ⟨hag.size, fun b hb hl => hag.block b (by have := hb.1; omega) hl⟩ (fun _ h _ => h), h.ok, h.kd, h.cn⟩
theorem TInv.below (h : TInv k A c l a w wx V K M cnt ocs t ro) (hb : Below wx.heap.size wx w2) : TInv k A c l a w w2 V K M cnt ocs t ro :=
  ⟨h.mv.below hb, block_below h.vb hb, block_below h.rb hb, h.lt.below hb, h.ok, h.kd, h.cn⟩
theorem TInv.weak (h : TInv k A c l a w wx V K M cnt ocs t ro) (hM : M ≤ M') {cnt' : Nat} (hc : cnt ≤ cnt') : TInv k A c l a w wx V K M' cnt' ocs t ro :=
  ⟨h.mv.more hM, h.vb, h.rb, h.lt, h.ok, h.kd, Nat.le_trans h.cn hc⟩
theorem TInv.store {t' : Tree} {a0 a1 a2 a3 a4 : Value} {N cnt' : Nat} (h : TInv k A c l a w wx V K M cnt ocs t ro) (hk : k < w.heap.size) (hV : w.heap.size < V) (hb : Below wx.heap.size wx w2) (hN : V < N) (hlt : LtAt (Nw (Nt w.heap.size w.heap.size V) N) w2 [a0, a1, a2, a3, a4] t') (hok : t'.ok = true) (hkd : t'.kind = t.kind) (hc : t'.count ≤ cnt') :
    TInv k A c l a w (((((w2.setCell ⟨V, 0, none⟩ a0).setCell ⟨V, 1, none⟩ a1).setCell ⟨V, 2, none⟩ a2).setCell ⟨V, 3, none⟩ a3).setCell ⟨V, 4, none⟩ a4) V K M cnt' [a0, a1, a2, a3, a4] t' ro := by
  have h2 := h.below hb
  have h5 := block_setCell (block_setCell (block_setCell (block_setCell (block_setCell h2.vb 0 a0) 1 a1) 2 a2) 3 a3) 4 a4
  have hA : ∀ G : Nat → Prop, (∀ c, G c → c ≠ V) → Agree G w2 (((((w2.setCell ⟨V, 0, none⟩ a0).setCell ⟨V, 1, none⟩ a1).setCell ⟨V, 2, none⟩ a2).setCell ⟨V, 3, none⟩ a3).setCell ⟨V, 4, none⟩ a4) :=
    fun G hG => (((((Agree.refl G w2).set hG 0 a0).set hG 1 a1).set hG 2 a2).set hG 3 a3).set hG 4 a4
  refine ⟨h2.mv.set5 hk (by omega) _ _ _ _ _, ?_, block_agree h2.rb (hA (fun c => c ≠ V) (fun _ h => h)) (by omega), hlt.frame (hA _ (fun c hc e => ?_)) (fun b hb' _ => ?_), hok, hkd.trans h.kd, hc⟩
  · rw [h5]
    obtain ⟨x0, x1, x2, x3, x4, e5⟩ := five_of' ocs h.lt.length
    rw [e5]
    rfl
  · subst e
    rcases hc with ⟨hc, _⟩ | hc
    · exact hc.2.2 rfl
    · omega
  · rcases hb' with hb' | hb'
    · exact hb'.1
    · exact ⟨by omega, by omega, by omega⟩
end
set_option maxRecDepth 100000 in
set_option maxHeartbeats 8000000 in
theorem tree_any : ∀ d, TreeDr d := fun d => by
  induction d with
  | zero =>
    intro k A c l a w hcur h300 hbig
    obtain ⟨P, hP⟩ : ∃ P, P = 4 ^ 0 := ⟨_, rfl⟩
    have hP1 : 1 ≤ P := by rw [hP]; exact Nat.one_le_pow _ _ (by omega)
    rw [← hP] at hbig h300 ⊢
    have HPE := Lib.hid hP
    have hck := hcur.lt
    have hb1 := (Below.refl w.heap.size w).alloc (Nat.le_refl _) (.cells #[.int .i64 0, .int .i64 0, .string ⟨#[]⟩, .slice none 0 0, .slice none 0 0] 44 (0, 0))
    have HM1 := Lib.hid (Moved.of_below hcur hb1)
    have HKR := Lib.hid (heap_alloc_new w (.cells #[.int .i64 0, .int .i64 0, .string ⟨#[]⟩, .slice none 0 0, .slice none 0 0] 44 (0, 0)))
    have hs1 : (w.alloc (.cells #[.int .i64 0, .int .i64 0, .string ⟨#[]⟩, .slice none 0 0, .slice none 0 0] 44 (0, 0))).heap.size = w.heap.size + 1 := by simp
    clear hP hcur hb1
    go_enter Tryz.func84, Tryz.ntmps84
    have HMA := HM1
    have HRA := HKR
    have HP6 := Lib.hid (pick_q 6 (by omega) (by omega) HMA.out (by omega))
    go_wp2_with fail
    refine HP6.out.mono ?_
    rintro e wb ⟨⟨x, rfl, hx⟩, hm, hag⟩
    have HRB := Lib.hid (block_agree HRA.out hag (show w.heap.size ≠ k by omega))
    have HMB := Lib.hid hm
    clear hm hag HP6
    rcases (show x = 0 ∨ x = 1 ∨ x = 2 ∨ x = 3 ∨ x = 4 ∨ x = 5 by omega) with rfl | rfl | rfl | rfl | rfl | rfl
    · have hag : Agree (fun b => b ≠ k) wb wb := Agree.refl _ _
      have hm := HMB.out
      have HRZ := Lib.hid (block_agree HRB.out hag (show w.heap.size ≠ k by omega))
      have HMZ := Lib.hid hm
      clear hag hm
      have r0 := cell_of_block HRZ.out 0
      have r1 := cell_of_block HRZ.out 1
      have r2 := cell_of_block HRZ.out 2
      have r3 := cell_of_block HRZ.out 3
      have r4 := cell_of_block HRZ.out 4
      simp at r0 r1 r2 r3 r4
      have f0 := free_of_block HRZ.out 0
      have f1 := free_of_block HRZ.out 1
      have f2 := free_of_block HRZ.out 2
      have f3 := free_of_block HRZ.out 3
      have f4 := free_of_block HRZ.out 4
      go_wp2
      refine bodyPost_ret (results_cell_row rfl _ _ w.heap.size _ _ _ _ rfl (block_setCell (block_setCell (block_setCell (block_setCell (block_setCell HRZ.out _ _) _ _) _ _) _ _) _ _) Tryz.underlying44 rfl ((info_size infoL1V).trans (by simp))) rfl ?_
      refine ⟨[.int .i64 (1), .int .i64 (0), .string ⟨#[]⟩, .slice none 0 0, .slice none 0 0], .mk (1) (0) ⟨#[]⟩ [] [], rfl, leaf_ok (by omega) (by omega) (.inr rfl) (.inr rfl) (by decide) (by decide), by simp [Tree.count, Tree.countL]; omega, LtAt.leaf _ _ _, (HMZ.out.set5 hck (Nat.le_refl _) _ _ _ _ _).more (by omega)⟩
    · have HP2 := Lib.hid (pick_q 2 (by omega) (by omega) HMB.out (by omega))
      go_wp2_with fail
      refine HP2.out.mono ?_
      rintro e wc ⟨⟨y, rfl, hy⟩, hm, hag⟩
      have HRZ := Lib.hid (block_agree HRB.out hag (show w.heap.size ≠ k by omega))
      have HMZ := Lib.hid hm
      clear hag hm
      have r0 := cell_of_block HRZ.out 0
      have r1 := cell_of_block HRZ.out 1
      have r2 := cell_of_block HRZ.out 2
      have r3 := cell_of_block HRZ.out 3
      have r4 := cell_of_block HRZ.out 4
      simp at r0 r1 r2 r3 r4
      have f0 := free_of_block HRZ.out 0
      have f1 := free_of_block HRZ.out 1
      have f2 := free_of_block HRZ.out 2
      have f3 := free_of_block HRZ.out 3
      have f4 := free_of_block HRZ.out 4
      go_wp2
      refine bodyPost_ret (results_cell_row rfl _ _ w.heap.size _ _ _ _ rfl (block_setCell (block_setCell (block_setCell (block_setCell (block_setCell HRZ.out _ _) _ _) _ _) _ _) _ _) Tryz.underlying44 rfl ((info_size infoL1V).trans (by simp))) rfl ?_
      refine ⟨[.int .i64 (3 - (y : Int)), .int .i64 (0), .string ⟨#[]⟩, .slice none 0 0, .slice none 0 0], .mk (3 - (y : Int)) (0) ⟨#[]⟩ [] [], rfl, leaf_ok (by omega) (by omega) (.inr rfl) (.inr rfl) (by decide) (by decide), by simp [Tree.count, Tree.countL]; omega, LtAt.leaf _ _ _, (HMZ.out.set5 hck (Nat.le_refl _) _ _ _ _ _).more (by omega)⟩
    · have hbl := (Below.refl wb.heap.size wb).alloc (Nat.le_refl _) (.cells (ints leafNums).toArray 3 (0, 0))
      have HAM := Lib.hid (among_q leafNums (by decide) (by decide) (d := 9) (HMB.out.below hbl) (by omega) (heap_alloc_new wb (.cells (ints leafNums).toArray 3 (0, 0))) (by have := HMB.out.size; omega))
      have HRC := Lib.hid (block_below HRB.out hbl)
      clear hbl
      go_wp2_with fail
      refine HAM.out.mono ?_
      rintro e wc ⟨⟨n, rfl, hn⟩, hm, hag⟩
      have hnn := nums_ok n hn
      have HRZ := Lib.hid (block_agree HRC.out hag (show w.heap.size ≠ k by omega))
      have HMZ := Lib.hid hm
      clear hag hm
      have r0 := cell_of_block HRZ.out 0
      have r1 := cell_of_block HRZ.out 1
      have r2 := cell_of_block HRZ.out 2
      have r3 := cell_of_block HRZ.out 3
      have r4 := cell_of_block HRZ.out 4
      simp at r0 r1 r2 r3 r4
      have f0 := free_of_block HRZ.out 0
      have f1 := free_of_block HRZ.out 1
      have f2 := free_of_block HRZ.out 2
      have f3 := free_of_block HRZ.out 3
      have f4 := free_of_block HRZ.out 4
      go_wp2
      refine bodyPost_ret (results_cell_row rfl _ _ w.heap.size _ _ _ _ rfl (block_setCell (block_setCell (block_setCell (block_setCell (block_setCell HRZ.out _ _) _ _) _ _) _ _) _ _) Tryz.underlying44 rfl ((info_size infoL1V).trans (by simp))) rfl ?_
      refine ⟨[.int .i64 (4), .int .i64 (n), .string ⟨#[]⟩, .slice none 0 0, .slice none 0 0], .mk (4) (n) ⟨#[]⟩ [] [], rfl, leaf_ok (by omega) (by omega) (.inl rfl) (.inr rfl) hnn (by decide), by simp [Tree.count, Tree.countL]; omega, LtAt.leaf _ _ _, (HMZ.out.set5 hck (Nat.le_refl _) _ _ _ _ _).more (by omega)⟩
    · have hbl := (Below.refl wb.heap.size wb).alloc (Nat.le_refl _) (.cells (ints leafNums).toArray 3 (0, 0))
      have HAM := Lib.hid (among_q leafNums (by decide) (by decide) (d := 9) (HMB.out.below hbl) (by omega) (heap_alloc_new wb (.cells (ints leafNums).toArray 3 (0, 0))) (by have := HMB.out.size; omega))
      have HRC := Lib.hid (block_below HRB.out hbl)
      clear hbl
      go_wp2_with fail
      refine HAM.out.mono ?_
      rintro e wc ⟨⟨n, rfl, hn⟩, hm, hag⟩
      have hnn := nums_ok n hn
      have HRZ := Lib.hid (block_agree HRC.out hag (show w.heap.size ≠ k by omega))
      have HMZ := Lib.hid hm
      clear hag hm
      have r0 := cell_of_block HRZ.out 0
      have r1 := cell_of_block HRZ.out 1
      have r2 := cell_of_block HRZ.out 2
      have r3 := cell_of_block HRZ.out 3
      have r4 := cell_of_block HRZ.out 4
      simp at r0 r1 r2 r3 r4
      have f0 := free_of_block HRZ.out 0
      have f1 := free_of_block HRZ.out 1
      have f2 := free_of_block HRZ.out 2
      have f3 := free_of_block HRZ.out 3
      have f4 := free_of_block HRZ.out 4
      go_wp2
      refine bodyPost_ret (results_cell_row rfl _ _ w.heap.size _ _ _ _ rfl (block_setCell (block_setCell (block_setCell (block_setCell (block_setCell HRZ.out _ _) _ _) _ _) _ _) _ _) Tryz.underlying44 rfl ((info_size infoL1V).trans (by simp))) rfl ?_
      refine ⟨[.int .i64 (4), .int .i64 (n), .string ⟨#[]⟩, .slice none 0 0, .slice none 0 0], .mk (4) (n) ⟨#[]⟩ [] [], rfl, leaf_ok (by omega) (by omega) (.inl rfl) (.inr rfl) hnn (by decide), by simp [Tree.count, Tree.countL]; omega, LtAt.leaf _ _ _, (HMZ.out.set5 hck (Nat.le_refl _) _ _ _ _ _).more (by omega)⟩
    · have HPL := Lib.hid (plain_q HMB.out (by omega))
      go_wp2_with fail
      refine HPL.out.mono ?_
      rintro e wc ⟨⟨s, rfl, hs⟩, hm, hag⟩
      have HRZ := Lib.hid (block_agree HRB.out hag (show w.heap.size ≠ k by omega))
      have HMZ := Lib.hid hm
      clear hag hm
      have r0 := cell_of_block HRZ.out 0
      have r1 := cell_of_block HRZ.out 1
      have r2 := cell_of_block HRZ.out 2
      have r3 := cell_of_block HRZ.out 3
      have r4 := cell_of_block HRZ.out 4
      simp at r0 r1 r2 r3 r4
      have f0 := free_of_block HRZ.out 0
      have f1 := free_of_block HRZ.out 1
      have f2 := free_of_block HRZ.out 2
      have f3 := free_of_block HRZ.out 3
      have f4 := free_of_block HRZ.out 4
      go_wp2
      refine bodyPost_ret (results_cell_row rfl _ _ w.heap.size _ _ _ _ rfl (block_setCell (block_setCell (block_setCell (block_setCell (block_setCell HRZ.out _ _) _ _) _ _) _ _) _ _) Tryz.underlying44 rfl ((info_size infoL1V).trans (by simp))) rfl ?_
      refine ⟨[.int .i64 (5), .int .i64 (0), .string s, .slice none 0 0, .slice none 0 0], .mk (5) (0) s [] [], rfl, leaf_ok (by omega) (by omega) (.inr rfl) (.inl rfl) (by decide) hs, by simp [Tree.count, Tree.countL]; omega, LtAt.leaf _ _ _, (HMZ.out.set5 hck (Nat.le_refl _) _ _ _ _ _).more (by omega)⟩
    · have HPL := Lib.hid (plain_q HMB.out (by omega))
      go_wp2_with fail
      refine HPL.out.mono ?_
      rintro e wc ⟨⟨s, rfl, hs⟩, hm, hag⟩
      have HRZ := Lib.hid (block_agree HRB.out hag (show w.heap.size ≠ k by omega))
      have HMZ := Lib.hid hm
      clear hag hm
      have r0 := cell_of_block HRZ.out 0
      have r1 := cell_of_block HRZ.out 1
      have r2 := cell_of_block HRZ.out 2
      have r3 := cell_of_block HRZ.out 3
      have r4 := cell_of_block HRZ.out 4
      simp at r0 r1 r2 r3 r4
      have f0 := free_of_block HRZ.out 0
      have f1 := free_of_block HRZ.out 1
      have f2 := free_of_block HRZ.out 2
      have f3 := free_of_block HRZ.out 3
      have f4 := free_of_block HRZ.out 4
      go_wp2
      refine bodyPost_ret (results_cell_row rfl _ _ w.heap.size _ _ _ _ rfl (block_setCell (block_setCell (block_setCell (block_setCell (block_setCell HRZ.out _ _) _ _) _ _) _ _) _ _) Tryz.underlying44 rfl ((info_size infoL1V).trans (by simp))) rfl ?_
      refine ⟨[.int .i64 (5), .int .i64 (0), .string s, .slice none 0 0, .slice none 0 0], .mk (5) (0) s [] [], rfl, leaf_ok (by omega) (by omega) (.inr rfl) (.inl rfl) (by decide) hs, by simp [Tree.count, Tree.countL]; omega, LtAt.leaf _ _ _, (HMZ.out.set5 hck (Nat.le_refl _) _ _ _ _ _).more (by omega)⟩
  | succ d ih =>
    intro k A c l a w hcur h300 hbig
    obtain ⟨P, hP⟩ : ∃ P, P = 4 ^ (d + 1) := ⟨_, rfl⟩
    have hP1 : 1 ≤ P := by rw [hP]; exact Nat.one_le_pow _ _ (by omega)
    rw [← hP] at hbig h300 ⊢
    have HPE := Lib.hid hP
    have hck := hcur.lt
    have hb1 := (Below.refl w.heap.size w).alloc (Nat.le_refl _) (.cells #[.int .i64 0, .int .i64 0, .string ⟨#[]⟩, .slice none 0 0, .slice none 0 0] 44 (0, 0))
    have HM1 := Lib.hid (Moved.of_below hcur hb1)
    have HKR := Lib.hid (heap_alloc_new w (.cells #[.int .i64 0, .int .i64 0, .string ⟨#[]⟩, .slice none 0 0, .slice none 0 0] 44 (0, 0)))
    have hs1 : (w.alloc (.cells #[.int .i64 0, .int .i64 0, .string ⟨#[]⟩, .slice none 0 0, .slice none 0 0] 44 (0, 0))).heap.size = w.heap.size + 1 := by simp
    clear hP hcur hb1
    have h4 : P = 4 * 4 ^ d := by rw [HPE.out, Nat.pow_succ, Nat.mul_comm]
    obtain ⟨p, hp⟩ : ∃ p, p = 4 ^ d := ⟨_, rfl⟩
    rw [← hp] at h4
    have HPD := Lib.hid hp
    have hd : ¬ ((d + 1 : Nat) : Int) ≤ 0 := by omega
    clear hp
    have HO := Lib.hid (one_q 2 (by omega) (by omega) HM1.out (by omega))
    go_enter Tryz.func84, Tryz.ntmps84
    go_wp2_with fail
    refine HO.out.mono ?_
    rintro e wa ⟨⟨b, rfl⟩, hm, hag⟩
    have HRA := Lib.hid (block_agree HKR.out hag (show w.heap.size ≠ k by omega))
    have HMA := Lib.hid hm
    clear hm hag HO
    cases b
    case true =>
      have HP6 := Lib.hid (pick_q 6 (by omega) (by omega) HMA.out (by omega))
      go_wp2_with fail
      refine HP6.out.mono ?_
      rintro e wb ⟨⟨x, rfl, hx⟩, hm, hag⟩
      have HRB := Lib.hid (block_agree HRA.out hag (show w.heap.size ≠ k by omega))
      have HMB := Lib.hid hm
      clear hm hag HP6
      rcases (show x = 0 ∨ x = 1 ∨ x = 2 ∨ x = 3 ∨ x = 4 ∨ x = 5 by omega) with rfl | rfl | rfl | rfl | rfl | rfl
      · have hag : Agree (fun b => b ≠ k) wb wb := Agree.refl _ _
        have hm := HMB.out
        have HRZ := Lib.hid (block_agree HRB.out hag (show w.heap.size ≠ k by omega))
        have HMZ := Lib.hid hm
        clear hag hm
        have r0 := cell_of_block HRZ.out 0
        have r1 := cell_of_block HRZ.out 1
        have r2 := cell_of_block HRZ.out 2
        have r3 := cell_of_block HRZ.out 3
        have r4 := cell_of_block HRZ.out 4
        simp at r0 r1 r2 r3 r4
        have f0 := free_of_block HRZ.out 0
        have f1 := free_of_block HRZ.out 1
        have f2 := free_of_block HRZ.out 2
        have f3 := free_of_block HRZ.out 3
        have f4 := free_of_block HRZ.out 4
        go_wp2
        refine bodyPost_ret (results_cell_row rfl _ _ w.heap.size _ _ _ _ rfl (block_setCell (block_setCell (block_setCell (block_setCell (block_setCell HRZ.out _ _) _ _) _ _) _ _) _ _) Tryz.underlying44 rfl ((info_size infoL1V).trans (by simp))) rfl ?_
        refine ⟨[.int .i64 (1), .int .i64 (0), .string ⟨#[]⟩, .slice none 0 0, .slice none 0 0], .mk (1) (0) ⟨#[]⟩ [] [], rfl, leaf_ok (by omega) (by omega) (.inr rfl) (.inr rfl) (by decide) (by decide), by simp [Tree.count, Tree.countL]; omega, LtAt.leaf _ _ _, (HMZ.out.set5 hck (Nat.le_refl _) _ _ _ _ _).more (by omega)⟩
      · have HP2 := Lib.hid (pick_q 2 (by omega) (by omega) HMB.out (by omega))
        go_wp2_with fail
        refine HP2.out.mono ?_
        rintro e wc ⟨⟨y, rfl, hy⟩, hm, hag⟩
        have HRZ := Lib.hid (block_agree HRB.out hag (show w.heap.size ≠ k by omega))
        have HMZ := Lib.hid hm
        clear hag hm
        have r0 := cell_of_block HRZ.out 0
        have r1 := cell_of_block HRZ.out 1
        have r2 := cell_of_block HRZ.out 2
        have r3 := cell_of_block HRZ.out 3
        have r4 := cell_of_block HRZ.out 4
        simp at r0 r1 r2 r3 r4
        have f0 := free_of_block HRZ.out 0
        have f1 := free_of_block HRZ.out 1
        have f2 := free_of_block HRZ.out 2
        have f3 := free_of_block HRZ.out 3
        have f4 := free_of_block HRZ.out 4
        go_wp2
        refine bodyPost_ret (results_cell_row rfl _ _ w.heap.size _ _ _ _ rfl (block_setCell (block_setCell (block_setCell (block_setCell (block_setCell HRZ.out _ _) _ _) _ _) _ _) _ _) Tryz.underlying44 rfl ((info_size infoL1V).trans (by simp))) rfl ?_
        refine ⟨[.int .i64 (3 - (y : Int)), .int .i64 (0), .string ⟨#[]⟩, .slice none 0 0, .slice none 0 0], .mk (3 - (y : Int)) (0) ⟨#[]⟩ [] [], rfl, leaf_ok (by omega) (by omega) (.inr rfl) (.inr rfl) (by decide) (by decide), by simp [Tree.count, Tree.countL]; omega, LtAt.leaf _ _ _, (HMZ.out.set5 hck (Nat.le_refl _) _ _ _ _ _).more (by omega)⟩
      · have hbl := (Below.refl wb.heap.size wb).alloc (Nat.le_refl _) (.cells (ints leafNums).toArray 3 (0, 0))
        have HAM := Lib.hid (among_q leafNums (by decide) (by decide) (d := 9) (HMB.out.below hbl) (by omega) (heap_alloc_new wb (.cells (ints leafNums).toArray 3 (0, 0))) (by have := HMB.out.size; omega))
        have HRC := Lib.hid (block_below HRB.out hbl)
        clear hbl
        go_wp2_with fail
        refine HAM.out.mono ?_
        rintro e wc ⟨⟨n, rfl, hn⟩, hm, hag⟩
        have hnn := nums_ok n hn
        have HRZ := Lib.hid (block_agree HRC.out hag (show w.heap.size ≠ k by omega))
        have HMZ := Lib.hid hm
        clear hag hm
        have r0 := cell_of_block HRZ.out 0
        have r1 := cell_of_block HRZ.out 1
        have r2 := cell_of_block HRZ.out 2
        have r3 := cell_of_block HRZ.out 3
        have r4 := cell_of_block HRZ.out 4
        simp at r0 r1 r2 r3 r4
        have f0 := free_of_block HRZ.out 0
        have f1 := free_of_block HRZ.out 1
        have f2 := free_of_block HRZ.out 2
        have f3 := free_of_block HRZ.out 3
        have f4 := free_of_block HRZ.out 4
        go_wp2
        refine bodyPost_ret (results_cell_row rfl _ _ w.heap.size _ _ _ _ rfl (block_setCell (block_setCell (block_setCell (block_setCell (block_setCell HRZ.out _ _) _ _) _ _) _ _) _ _) Tryz.underlying44 rfl ((info_size infoL1V).trans (by simp))) rfl ?_
        refine ⟨[.int .i64 (4), .int .i64 (n), .string ⟨#[]⟩, .slice none 0 0, .slice none 0 0], .mk (4) (n) ⟨#[]⟩ [] [], rfl, leaf_ok (by omega) (by omega) (.inl rfl) (.inr rfl) hnn (by decide), by simp [Tree.count, Tree.countL]; omega, LtAt.leaf _ _ _, (HMZ.out.set5 hck (Nat.le_refl _) _ _ _ _ _).more (by omega)⟩
      · have hbl := (Below.refl wb.heap.size wb).alloc (Nat.le_refl _) (.cells (ints leafNums).toArray 3 (0, 0))
        have HAM := Lib.hid (among_q leafNums (by decide) (by decide) (d := 9) (HMB.out.below hbl) (by omega) (heap_alloc_new wb (.cells (ints leafNums).toArray 3 (0, 0))) (by have := HMB.out.size; omega))
        have HRC := Lib.hid (block_below HRB.out hbl)
        clear hbl
        go_wp2_with fail
        refine HAM.out.mono ?_
        rintro e wc ⟨⟨n, rfl, hn⟩, hm, hag⟩
        have hnn := nums_ok n hn
        have HRZ := Lib.hid (block_agree HRC.out hag (show w.heap.size ≠ k by omega))
        have HMZ := Lib.hid hm
        clear hag hm
        have r0 := cell_of_block HRZ.out 0
        have r1 := cell_of_block HRZ.out 1
        have r2 := cell_of_block HRZ.out 2
        have r3 := cell_of_block HRZ.out 3
        have r4 := cell_of_block HRZ.out 4
        simp at r0 r1 r2 r3 r4
        have f0 := free_of_block HRZ.out 0
        have f1 := free_of_block HRZ.out 1
        have f2 := free_of_block HRZ.out 2
        have f3 := free_of_block HRZ.out 3
        have f4 := free_of_block HRZ.out 4
        go_wp2
        refine bodyPost_ret (results_cell_row rfl _ _ w.heap.size _ _ _ _ rfl (block_setCell (block_setCell (block_setCell (block_setCell (block_setCell HRZ.out _ _) _ _) _ _) _ _) _ _) Tryz.underlying44 rfl ((info_size infoL1V).trans (by simp))) rfl ?_
        refine ⟨[.int .i64 (4), .int .i64 (n), .string ⟨#[]⟩, .slice none 0 0, .slice none 0 0], .mk (4) (n) ⟨#[]⟩ [] [], rfl, leaf_ok (by omega) (by omega) (.inl rfl) (.inr rfl) hnn (by decide), by simp [Tree.count, Tree.countL]; omega, LtAt.leaf _ _ _, (HMZ.out.set5 hck (Nat.le_refl _) _ _ _ _ _).more (by omega)⟩
      · have HPL := Lib.hid (plain_q HMB.out (by omega))
        go_wp2_with fail
        refine HPL.out.mono ?_
        rintro e wc ⟨⟨s, rfl, hs⟩, hm, hag⟩
        have HRZ := Lib.hid (block_agree HRB.out hag (show w.heap.size ≠ k by omega))
        have HMZ := Lib.hid hm
        clear hag hm
        have r0 := cell_of_block HRZ.out 0
        have r1 := cell_of_block HRZ.out 1
        have r2 := cell_of_block HRZ.out 2
        have r3 := cell_of_block HRZ.out 3
        have r4 := cell_of_block HRZ.out 4
        simp at r0 r1 r2 r3 r4
        have f0 := free_of_block HRZ.out 0
        have f1 := free_of_block HRZ.out 1
        have f2 := free_of_block HRZ.out 2
        have f3 := free_of_block HRZ.out 3
        have f4 := free_of_block HRZ.out 4
        go_wp2
        refine bodyPost_ret (results_cell_row rfl _ _ w.heap.size _ _ _ _ rfl (block_setCell (block_setCell (block_setCell (block_setCell (block_setCell HRZ.out _ _) _ _) _ _) _ _) _ _) Tryz.underlying44 rfl ((info_size infoL1V).trans (by simp))) rfl ?_
        refine ⟨[.int .i64 (5), .int .i64 (0), .string s, .slice none 0 0, .slice none 0 0], .mk (5) (0) s [] [], rfl, leaf_ok (by omega) (by omega) (.inr rfl) (.inl rfl) (by decide) hs, by simp [Tree.count, Tree.countL]; omega, LtAt.leaf _ _ _, (HMZ.out.set5 hck (Nat.le_refl _) _ _ _ _ _).more (by omega)⟩
      · have HPL := Lib.hid (plain_q HMB.out (by omega))
        go_wp2_with fail
        refine HPL.out.mono ?_
        rintro e wc ⟨⟨s, rfl, hs⟩, hm, hag⟩
        have HRZ := Lib.hid (block_agree HRB.out hag (show w.heap.size ≠ k by omega))
        have HMZ := Lib.hid hm
        clear hag hm
        have r0 := cell_of_block HRZ.out 0
        have r1 := cell_of_block HRZ.out 1
        have r2 := cell_of_block HRZ.out 2
        have r3 := cell_of_block HRZ.out 3
        have r4 := cell_of_block HRZ.out 4
        simp at r0 r1 r2 r3 r4
        have f0 := free_of_block HRZ.out 0
        have f1 := free_of_block HRZ.out 1
        have f2 := free_of_block HRZ.out 2
        have f3 := free_of_block HRZ.out 3
        have f4 := free_of_block HRZ.out 4
        go_wp2
        refine bodyPost_ret (results_cell_row rfl _ _ w.heap.size _ _ _ _ rfl (block_setCell (block_setCell (block_setCell (block_setCell (block_setCell HRZ.out _ _) _ _) _ _) _ _) _ _) Tryz.underlying44 rfl ((info_size infoL1V).trans (by simp))) rfl ?_
        refine ⟨[.int .i64 (5), .int .i64 (0), .string s, .slice none 0 0, .slice none 0 0], .mk (5) (0) s [] [], rfl, leaf_ok (by omega) (by omega) (.inr rfl) (.inl rfl) (by decide) hs, by simp [Tree.count, Tree.countL]; omega, LtAt.leaf _ _ _, (HMZ.out.set5 hck (Nat.le_refl _) _ _ _ _ _).more (by omega)⟩
    case false =>
      have HP2 := Lib.hid (pick_q 2 (by omega) (by omega) HMA.out (by omega))
      go_wp2_with fail
      refine HP2.out.mono ?_
      rintro e wb ⟨⟨y, rfl, hy⟩, hm, hag⟩
      have HRB := Lib.hid (block_agree HRA.out hag (show w.heap.size ≠ k by omega))
      have HMB := Lib.hid hm
      have hVw : w.heap.size < wb.heap.size := lt_of_block HRB.out
      clear hm hag HP2
      obtain ⟨K, hK⟩ : ∃ K : Int, K = 6 + (y : Int) := ⟨_, rfl⟩
      have hbv := (Below.refl wb.heap.size wb).alloc (Nat.le_refl _) (.cells #[.int .i64 (6 + (y : Int)), .int .i64 0, .string ⟨#[]⟩, .slice none 0 0, .slice none 0 0] 44 (0, 0))
      have HP4 := Lib.hid (pick_q 4 (by omega) (by omega) (HMB.out.below hbv) (by omega))
      have HI0 := Lib.hid (show TInv k A c l a w (wb.alloc (.cells #[.int .i64 (6 + (y : Int)), .int .i64 0, .string ⟨#[]⟩, .slice none 0 0, .slice none 0 0] 44 (0, 0))) wb.heap.size K 4 1 [.int .i64 (6 + (y : Int)), .int .i64 0, .string ⟨#[]⟩, .slice none 0 0, .slice none 0 0] (.mk K 0 emptyB [] []) (.cells #[.int .i64 0, .int .i64 0, .string ⟨#[]⟩, .slice none 0 0, .slice none 0 0] 44 (0, 0)) from
        ⟨HMB.out.below hbv, heap_alloc_new _ _, block_below HRB.out hbv, by rw [← hK]; exact LtAt.leaf _ _ _, leaf_ok (by omega) (by omega) (.inr rfl) (.inr rfl) (by decide) (by decide), rfl, by simp [Tree.count, Tree.countL]⟩)
      have hK67 : K = 6 ∨ K = 7 := by omega
      clear hbv
      go_wp2_with fail
      refine HP4.out.mono ?_
      rintro e wc ⟨⟨n0, rfl, hn0⟩, hm, hag⟩
      have HIC := Lib.hid (HI0.out.to hck hVw hm hag)
      clear hm hag HP4 HI0 HRB HMB HRA HMA
      generalize wb.heap.size = V at hVw HIC ⊢
      have HTQ := Lib.hid (fun (K1 : Nat) (W : World) (h : Moved k A c l K1 a w W) (hK : K1 ≤ 8 + 2 * (2 + 12 * p)) => tree_q ih (show 4 ^ d ≤ 1000 by rw [← HPD.out]; omega) h (show a + K1 + 12 * 4 ^ d ≤ 4611686018427387904 by rw [← HPD.out]; omega))
      have hd9 : (d : Int) ≤ 1000 := by
        have h1 := Nat.lt_pow_self (n := d) (show 1 < 4 by omega)
        rw [← HPD.out] at h1
        omega
      have HWR := Lib.hid (show IntKind.i64.wrap (d : Int) = (d : Int) from by rw [IntKind.wrap_i64]; omega)
      clear hK hy ih hs1 hd
      go_wp2
      go_loopw [6] (fun nv wx => ∃ (q : Nat) (ocs : List Value) (t : Tree), nv = .int .i64 ((n0 : Int) - (q : Int)) ∧ q ≤ n0 ∧ Hid (TInv k A c l a w wx V K (6 + q * (2 + 12 * p)) (1 + q * p) ocs t (.cells #[.int .i64 0, .int .i64 0, .string ⟨#[]⟩, .slice none 0 0, .slice none 0 0] 44 (0, 0)))) (fun nv _ => (intOf nv).toNat)
      case atStart => exact ⟨0, _, _, by simp, Nat.zero_le _, HIC.out.weak (by omega) (by omega)⟩
      case round =>
        clear HIC
        obtain ⟨q, ocs, t, rfl, hq, hinv⟩ := hrel
        have HI := Lib.hid (show TInv k A c l a w wr V K (6 + q * (2 + 12 * p)) (1 + q * p) ocs t (.cells #[.int .i64 0, .int .i64 0, .string ⟨#[]⟩, .slice none 0 0, .slice none 0 0] 44 (0, 0)) from hinv)
        have hqm : q * (2 + 12 * p) ≤ 3 * (2 + 12 * p) := Nat.mul_le_mul_right _ (by omega)
        have hqp : q * p ≤ 3 * p := Nat.mul_le_mul_right _ (by omega)
        clear hinv
        by_cases hlt : q < n0
        · have hqm2 : q * (2 + 12 * p) ≤ 2 * (2 + 12 * p) := Nat.mul_le_mul_right _ (by omega)
          have hpos : (0 : Int) < (n0 : Int) - (q : Int) := by omega
          have hbl := (Below.refl wr.heap.size wr).alloc (Nat.le_refl _) (.cells (strs keyNames).toArray 9 (0, 0))
          have HOF := Lib.hid (of_q keyNames (by decide) (by decide) (d := 6) (HI.out.mv.below hbl) (by omega) (heap_alloc_new wr (.cells (strs keyNames).toArray 9 (0, 0))) (by have := HI.out.mv.size; omega))
          have HIB := Lib.hid (HI.out.below hbl)
          clear hbl
          go_wp2_with fail
          refine HOF.out.mono ?_
          rintro e wd ⟨⟨s, rfl, hs⟩, hm, hag⟩
          have HID := Lib.hid (HIB.out.to hck hVw hm hag)
          have HSK := Lib.hid (key_ok s hs)
          clear hm hag hs HOF HIB
          obtain ⟨D1, e1, D2, e2, rsO, eO, g1, g2, hr1, hr2, hts⟩ := HID.out.lt.open
          obtain rfl : ocs = [.int .i64 t.kind, .int .i64 t.num, .string t.text, .slice D1 t.names.length e1, .slice D2 t.kids.length e2] := eO
          have hkl := Tree.kids_le_count t.kids
          have htc := t.count_eq
          have hcn := HID.out.cn
          have hkl2 : t.kids.length ≤ 1000000000000000000 := by omega
          have hnl : t.names.length ≤ 1000000000000000000 := by
            rcases hK67 with h | h
            · have := ok_nonames HID.out.ok (by rw [HID.out.kd]; omega)
              rw [this]
              simp
            · have := (Tree.ok_map HID.out.ok (by rw [HID.out.kd]; omega)).len
              omega
          have HR1 := Lib.hid hr1
          have p3 := cell_of_block HID.out.vb 3
          simp at p3
          clear hr1 hr2 hts htc hcn hkl hkl2
          go_wp2
          go_loopw [8, 54] (fun hv jv wy => ∃ j : Nat, jv = .int .i64 (j : Int) ∧ hv = .bool (hasN (t.names.take j) s) ∧ j ≤ t.names.length ∧ wd = wy) (fun _ jv _ => t.names.length - (intOf jv).toNat)
          case atStart => exact ⟨0, rfl, by simp [hasN], Nat.zero_le _, rfl⟩
          case round =>
            obtain ⟨j, rfl, rfl, hj, rfl⟩ := hrel
            by_cases hjl : j < t.names.length
            · obtain ⟨bn, on, o, rfl, hbn, n0', ho, _⟩ := name_at HR1.out j hjl
              have HST := Lib.hid (hasN_step (s := s) ho)
              cases hin : hasN (t.names.take j) s
              · cases hos : (o.toList == s.toList)
                · have HNX := Lib.hid (show hasN (t.names.take (j + 1)) s = false by rw [HST.out, hin, hos]; rfl)
                  clear hin ho
                  go_wp2
                  go_roundw
                  case rel => exact ⟨j + 1, by go_num, by rw [HNX.out], by omega, trivial⟩
                  case measure => simp [intOf]; omega
                · have HNX := Lib.hid (show hasN (t.names.take (j + 1)) s = true by rw [HST.out, hin, hos]; rfl)
                  clear hin ho
                  go_wp2
                  go_roundw
                  case rel => exact ⟨j + 1, by go_num, by rw [HNX.out], by omega, trivial⟩
                  case measure => simp [intOf]; omega
              · have HNX := Lib.hid (show hasN (t.names.take (j + 1)) s = true by rw [HST.out, hin]; rfl)
                clear hin ho
                go_wp2
                go_roundw
                case rel => exact ⟨j + 1, by go_num, by rw [HNX.out], by omega, trivial⟩
                case measure => simp [intOf]; omega
            · obtain rfl : j = t.names.length := by omega
              rw [List.take_length]
              have hq1 : (q + 1) * (2 + 12 * p) = q * (2 + 12 * p) + (2 + 12 * p) := Nat.succ_mul _ _
              have hq2 : (q + 1) * p = q * p + p := Nat.succ_mul _ _
              cases hmem : hasN t.names s
              case true =>
                have hk7 : t.kind = 7 := by
                  rcases hK67 with h | h
                  · have := ok_nonames HID.out.ok (by rw [HID.out.kd]; omega)
                    rw [this] at hmem
                    cases hmem
                  · rw [HID.out.kd, h]
                have p0 := cell_of_block HID.out.vb 0
                simp at p0
                rw [hk7] at p0
                clear hmem hk7
                go_wp2
                go_roundw
                case rel => exact ⟨q + 1, _, t, by congr 1; omega, by omega, HID.out.weak (by omega) (by omega)⟩
                case measure => simp [intOf]; omega
              case false =>
                have hnot : s ∉ t.names := fun h => by
                  rw [hasN_iff.2 h] at hmem
                  cases hmem
                have hk67 : t.kind = 6 ∨ t.kind = 7 := by rw [HID.out.kd]; exact hK67
                have hkl := Tree.kids_le_count t.kids
                have htc := t.count_eq
                have hcn := HID.out.cn
                have HCN := Lib.hid hcn
                have HKEEP := Lib.hid (fun (W : World) (hv : W.heap[V]? = some (.cells [.int .i64 t.kind, .int .i64 t.num, .string t.text, .slice D1 t.names.length e1, .slice D2 t.kids.length e2].toArray 44 (0, 0))) => show W.cell? ⟨V, 0, none⟩ = some (.int .i64 t.kind) ∧ W.cell? ⟨V, 1, none⟩ = some (.int .i64 t.num) ∧ W.cell? ⟨V, 2, none⟩ = some (.string t.text) ∧ W.cell? ⟨V, 3, none⟩ = some (.slice D1 t.names.length e1) ∧ W.cell? ⟨V, 4, none⟩ = some (.slice D2 t.kids.length e2) from ⟨cell_of_block hv 0, cell_of_block hv 1, cell_of_block hv 2, cell_of_block hv 3, cell_of_block hv 4⟩)
                have HDRW := Lib.hid (show Below wd.heap.size wd wd.drew from (Below.refl _ _).drew)
                have HIE := Lib.hid (HID.out.below HDRW.out)
                have HTR := Lib.hid (HTQ.out _ wd.drew HIE.out.mv (by omega))
                have HVL := Lib.hid (lt_of_block HID.out.vb)
                have HPU := Lib.hid (fun (W : World) (zc : List Value) (z : Tree) (h : LtAt (Nt w.heap.size w.heap.size V) W [.int .i64 t.kind, .int .i64 t.num, .string t.text, .slice D1 t.names.length e1, .slice D2 t.kids.length e2] t) (hz : LtAt (Nt w.heap.size w.heap.size V) W zc z) (hzo : z.ok = true) => sPutU t s z hk67 HID.out.ok HSK.out hnot hzo (by omega) (Nt w.heap.size w.heap.size V) _ zc W h hz)
                clear hmem hkl htc hcn hnot hk67 p3
                go_wp2
                refine till_region 7 (fun W => W.cell? ⟨V, 0, none⟩ = some (.int .i64 t.kind) ∧ W.cell? ⟨V, 1, none⟩ = some (.int .i64 t.num) ∧ W.cell? ⟨V, 2, none⟩ = some (.string t.text) ∧ W.cell? ⟨V, 3, none⟩ = some (.slice D1 t.names.length e1) ∧ W.cell? ⟨V, 4, none⟩ = some (.slice D2 t.kids.length e2)) (by kernel_rfl) ?_ (fun hHeld => ?_)
                · exact HKEEP.out _ HIE.out.vb
                (refine Till.load (i := 0) (u := ?_) rfl (by kernel_rfl) (by kernel_rfl) (by kernel_rfl) (by kernel_rfl) (by kernel_rfl) (fun _ _ _ h => h) (Or.inl ⟨by rfl, ?_⟩) hHeld ?_; rotate_left 1; (focus (intro w hSw; (try dsimp only at hSw); go_split_ands; go_simp; try (with_reducible rfl))); change Till _ _ _ _ _ _ _ _ (Act.put _ (some 72) _) _; simp only [Act.put, List.setIfInBounds_toArray, List.set_cons_zero, List.set_cons_succ])
                (refine Till.pure (i := 1) (u := ?_) rfl (by kernel_rfl) (by kernel_rfl) (by kernel_rfl) (by decide) (fun _ _ _ h => h) (Or.inl ⟨by rfl, ?_⟩) (fun _ => hHeld) ?_; rotate_left 1; (focus (intro w _; go_simp; try (with_reducible rfl))); change Till _ _ _ _ _ _ _ _ (Act.put _ (some 73) _) _; simp only [Act.put, List.setIfInBounds_toArray, List.set_cons_zero, List.set_cons_succ])
                (refine Till.pure (i := 2) (u := ?_) rfl (by kernel_rfl) (by kernel_rfl) (by kernel_rfl) (by decide) (fun _ _ _ h => h) (Or.inl ⟨by rfl, ?_⟩) (fun _ => hHeld) ?_; rotate_left 1; (focus (intro w _; go_simp; try (with_reducible rfl))); change Till _ _ _ _ _ _ _ _ (Act.put _ (some 74) _) _; simp only [Act.put, List.setIfInBounds_toArray, List.set_cons_zero, List.set_cons_succ])
                (refine Till.pure (i := 3) (u := ?_) rfl (by kernel_rfl) (by kernel_rfl) (by kernel_rfl) (by decide) (fun _ _ _ h => h) (Or.inl ⟨by rfl, ?_⟩) (fun _ => hHeld) ?_; rotate_left 1; (focus (intro w _; go_simp; try (with_reducible rfl))); change Till _ _ _ _ _ _ _ _ (Act.put _ (some 75) _) _; simp only [Act.put, List.setIfInBounds_toArray, List.set_cons_zero, List.set_cons_succ])
                (refine Till.pure (i := 4) (u := ?_) rfl (by kernel_rfl) (by kernel_rfl) (by kernel_rfl) (by decide) (fun _ _ _ h => h) (Or.inl ⟨by rfl, ?_⟩) (fun _ => hHeld) ?_; rotate_left 1; (focus (intro w _; go_simp; try (with_reducible rfl))); change Till _ _ _ _ _ _ _ _ (Act.put _ (some 76) _) _; simp only [Act.put, List.setIfInBounds_toArray, List.set_cons_zero, List.set_cons_succ])
                (refine Till.one (i := 5) (by kernel_rfl) rfl (fun K hK => ?_))
                go_simp
                rw [HWR.out]
                refine HTR.out.mono ?_
                rintro e w3 ⟨⟨zc, z, rfl, hzo, hzc, hzl⟩, hm, hag⟩
                have HI3 := Lib.hid (HIE.out.to hck hVw hm hag)
                have HZ := Lib.hid (hzl.frame (G := Nt w.heap.size w.heap.size V) (Agree.refl _ _) (fun b h _ => by
                  have h1 := HVL.out
                  have h2 : wd.heap.size ≤ b := h
                  exact ⟨by omega, by omega, by omega⟩))
                obtain ⟨G1, y1, G2, y2, rs5, e5, _⟩ := hzl.open
                subst e5
                have HZC := Lib.hid (show z.count ≤ p by rw [HPD.out]; exact hzc)
                have HZK := Lib.hid hzo
                clear hzl hm hag hzc hzo
                go_simp
                refine hK.out _ _ (HKEEP.out _ HI3.out.vb) (fun hHeld => ?_)
                clear hK
                (refine Till.one (i := 6) (by kernel_rfl) rfl (fun K hK => ?_))
                go_simp
                refine (HPU.out w3 _ z HI3.out.lt HZ.out HZK.out).mono ?_
                rintro e w4 ⟨cs', t', rfl, hb4, hlt4, hok4, hkd4, hcn4, _⟩
                obtain ⟨M1, m1, M2, m2, rs6, e6, _⟩ := hlt4.open
                subst e6
                have HN := Lib.hid (HI3.out.store hck hVw hb4 (lt_of_block HI3.out.vb) hlt4 hok4 hkd4 (show t'.count ≤ 1 + (q + 1) * p by have h1 := HZC.out; have h2 := HCN.out; omega))
                have HV4 := Lib.hid (block_below HI3.out.vb hb4)
                clear hb4 hlt4 hok4 hkd4 hcn4
                go_simp
                refine hK.out _ _ (HKEEP.out _ HV4.out) (fun hHeld => ?_)
                clear hK
                have p0 := cell_of_block HV4.out 0
                have p1 := cell_of_block HV4.out 1
                have p2 := cell_of_block HV4.out 2
                have p3 := cell_of_block HV4.out 3
                have p4 := cell_of_block HV4.out 4
                simp at p0 p1 p2 p3 p4
                have f0 := free_of_block HV4.out 0
                have f1 := free_of_block HV4.out 1
                have f2 := free_of_block HV4.out 2
                have f3 := free_of_block HV4.out 3
                have f4 := free_of_block HV4.out 4
                (refine Till.last (by kernel_rfl) rfl (by kernel_rfl) (fun K hK => ?_))
                go_simp
                refine hK.out _ _ ?_
                clear hK
                refine wpAny_done (by kernel_rfl) ?_ _
                go_wp2
                go_roundw
                case rel => exact ⟨q + 1, _, t', by congr 1; omega, by omega, HN.out.weak (by rw [← HPD.out]; omega) (Nat.le_refl _)⟩
                case measure => simp [intOf]; omega
        · obtain rfl : q = n0 := by omega
          have hnp : ¬ (0 : Int) < (q : Int) - (q : Int) := by omega
          obtain ⟨D1, e1, D2, e2, rsO, eO, _⟩ := HI.out.lt.open
          obtain rfl : ocs = [.int .i64 t.kind, .int .i64 t.num, .string t.text, .slice D1 t.names.length e1, .slice D2 t.kids.length e2] := eO
          have p0 := cell_of_block HI.out.vb 0
          have p1 := cell_of_block HI.out.vb 1
          have p2 := cell_of_block HI.out.vb 2
          have p3 := cell_of_block HI.out.vb 3
          have p4 := cell_of_block HI.out.vb 4
          simp at p0 p1 p2 p3 p4
          have r0 := cell_of_block HI.out.rb 0
          have r1 := cell_of_block HI.out.rb 1
          have r2 := cell_of_block HI.out.rb 2
          have r3 := cell_of_block HI.out.rb 3
          have r4 := cell_of_block HI.out.rb 4
          simp at r0 r1 r2 r3 r4
          have f0 := free_of_block HI.out.rb 0
          have f1 := free_of_block HI.out.rb 1
          have f2 := free_of_block HI.out.rb 2
          have f3 := free_of_block HI.out.rb 3
          have f4 := free_of_block HI.out.rb 4
          have HRZ := Lib.hid HI.out.rb
          go_wp2
          refine bodyPost_ret (results_cell_row rfl _ _ w.heap.size _ _ _ _ rfl (block_setCell (block_setCell (block_setCell (block_setCell (block_setCell HRZ.out _ _) _ _) _ _) _ _) _ _) Tryz.underlying44 rfl ((info_size infoL1V).trans (by simp))) rfl ?_
          have hne : ∀ b, Nt w.heap.size w.heap.size V b → b ≠ w.heap.size := fun b h => h.2.1
          exact ⟨[.int .i64 t.kind, .int .i64 t.num, .string t.text, .slice D1 t.names.length e1, .slice D2 t.kids.length e2], rfl, t, HI.out.ok, by have := HI.out.cn; omega, HI.out.lt.frame ((((((Agree.refl _ wr).set hne 0 _).set hne 1 _).set hne 2 _).set hne 3 _).set hne 4 _) (fun b h _ => h.1), (HI.out.mv.set5 hck (Nat.le_refl _) _ _ _ _ _).more (by omega)⟩
end Go.Proofs.YteeppdobeeodiaaGreatDoor
namespace Go.Proofs.YteeppdobeeodiaaGreatDoor
open Go.RowKit
def abc : List ByteArray := [⟨#[97]⟩, ⟨#[98]⟩, ⟨#[99]⟩]
theorem abc_ok : ∀ s ∈ abc, strOK s = true := by
  intro s hs
  simp only [abc, List.mem_cons, List.not_mem_nil, or_false] at hs
  rcases hs with rfl | rfl | rfl <;> decide
theorem abc_fresh {q : Nat} {s : ByteArray} (h : abc[q]? = some s) : s ∉ abc.take q := by
  have hq : q < 3 := by have := (List.getElem?_eq_some_iff.1 h).1; simpa [abc] using this
  rcases (show q = 0 ∨ q = 1 ∨ q = 2 by omega) with rfl | rfl | rfl <;> simp [abc] at h <;> subst h <;> simp [abc] <;> decide
theorem _root_.List.mem_of_mem_take_succ {α : Type} {l : List α} {n : Nat} {x : α} (h : x ∈ l.take n) : x ∈ l.take (n + 1) := by
  rw [List.take_add_one]
  exact List.mem_append_left _ h
theorem Agree.of_set5 {w : World} (V : Nat) (a0 a1 a2 a3 a4 : Value) : Agree (fun c => c ≠ V) w (((((w.setCell ⟨V, 0, none⟩ a0).setCell ⟨V, 1, none⟩ a1).setCell ⟨V, 2, none⟩ a2).setCell ⟨V, 3, none⟩ a3).setCell ⟨V, 4, none⟩ a4) :=
  (((((Agree.refl _ w).set (fun _ h => h) 0 a0).set (fun _ h => h) 1 a1).set (fun _ h => h) 2 a2).set (fun _ h => h) 3 a3).set (fun _ h => h) 4 a4
set_option maxRecDepth 100000 in
theorem sNull3_any (w : World) : Calls Tryz.prog 58 #[] w (fun e w' => e = .returned (.agg #[.int .i64 1, .int .i64 0, .string ⟨#[]⟩, .slice none 0 0, .slice none 0 0]) ∧ Below w.heap.size w w') := by
  have hb1 : ∀ o, Below w.heap.size w (w.alloc o) := fun o => (Below.refl _ _).alloc (Nat.le_refl _) o
  have HB := Lib.hid hb1
  clear hb1
  go_enter Tryz.func58, Tryz.ntmps58
  go_wp2
  refine bodyPost_ret (results_cell_row rfl _ _ w.heap.size _ _ _ _ rfl (heap_alloc_new _ _) Tryz.underlying44 rfl ((info_size infoL1V).trans (by simp))) rfl ?_
  exact ⟨rfl, HB.out _⟩
def MapDr (d : Nat) : Prop := ∀ (k : Nat) (A : Option Addr) (c : Nat) (l : List Int) (a : Nat) (w : World), Cur k A c l a w → 4 ^ d ≤ 1000 → a + 56 * 4 ^ d ≤ 4611686018427387904 →
  Calls Tryz.prog 51 #[.pointer (some ⟨k, 0, none⟩), .int .i64 (d : Int)] w (fun e w' => ∃ cs t, e = .returned (.agg cs.toArray) ∧ t.ok = true ∧ t.count ≤ 4 ^ (d + 1) ∧ LtAt (fun b => w.heap.size ≤ b) w' cs t ∧ Moved k A c l (56 * 4 ^ d) a w w')
theorem mtree_q {k : Nat} {A : Option Addr} {c : Nat} {l : List Int} {K a d : Nat} {w w1 : World} (ih : MapDr d) (hd : 4 ^ d ≤ 1000) (h : Moved k A c l K a w w1) (ha : a + K + 56 * 4 ^ d ≤ 4611686018427387904) :
    Calls Tryz.prog 51 #[.pointer (some ⟨k, 0, none⟩), .int .i64 (d : Int)] w1 (fun e w2 => (∃ cs t, e = .returned (.agg cs.toArray) ∧ t.ok = true ∧ t.count ≤ 4 ^ (d + 1) ∧ LtAt (fun b => w1.heap.size ≤ b) w2 cs t) ∧ Moved k A c l (K + 56 * 4 ^ d) a w w2 ∧ Agree (fun b => b ≠ k) w1 w2) :=
  h.call (fun a' _ _ hc => (ih k A c l a' w1 hc hd (by omega)).mono (fun e w2 ⟨cs, t, h1, h2, h3, h4, h5⟩ => ⟨⟨cs, t, h1, h2, h3, h4⟩, h5⟩))
set_option maxRecDepth 100000 in
set_option maxHeartbeats 8000000 in
theorem mtree_step (d : Nat) (hih : ∀ d', d = d' + 1 → MapDr d') : MapDr d := by
  intro k A c l a w hcur h300 hbig
  have h4 : 4 ^ (d + 1) = 4 * 4 ^ d := by rw [Nat.pow_succ, Nat.mul_comm]
  rw [h4]
  have hd9 : (d : Int) ≤ 1000 := by
    have h1 := Nat.lt_pow_self (n := d) (show 1 < 4 by omega)
    omega
  have hp1 : 1 ≤ 4 ^ d := Nat.one_le_pow _ _ (by omega)
  have HIHM := Lib.hid (fun (d' : Nat) (hd : d = d' + 1) (K1 : Nat) (W : World) (h : Moved k A c l K1 a w W) (hK : K1 ≤ 2 + 2 * (2 + 14 * 4 ^ d)) => mtree_q (hih d' hd) (show 4 ^ d' ≤ 1000 by rw [hd, Nat.pow_succ] at h300; omega) h (show a + K1 + 56 * 4 ^ d' ≤ 4611686018427387904 by rw [hd, Nat.pow_succ] at hbig hK hp1; omega))
  have HPE := Lib.hid (show ∀ d', d = d' + 1 → 4 ^ (d' + 1) = 4 ^ d ∧ 56 * 4 ^ d' = 14 * 4 ^ d from fun d' hd => ⟨by rw [hd], by rw [hd, Nat.pow_succ]; omega⟩)
  have HCTQ := Lib.hid (fun (K1 : Nat) (W : World) (h : Moved k A c l K1 a w W) (hK : a + K1 + 12 ≤ 4611686018427387904) => tree_q (tree_any 0) (by decide) h (show a + K1 + 12 * 4 ^ 0 ≤ 4611686018427387904 by omega))
  generalize 4 ^ d = p at *
  have hck := hcur.lt
  have hb1 := (Below.refl w.heap.size w).alloc (Nat.le_refl _) (.cells #[.int .i64 0, .int .i64 0, .string ⟨#[]⟩, .slice none 0 0, .slice none 0 0] 44 (0, 0))
  have hs1 : (w.alloc (.cells #[.int .i64 0, .int .i64 0, .string ⟨#[]⟩, .slice none 0 0, .slice none 0 0] 44 (0, 0))).heap.size = w.heap.size + 1 := by simp
  have hM1 := Moved.of_below hcur hb1
  have hb2 := (Below.refl (w.alloc (.cells #[.int .i64 0, .int .i64 0, .string ⟨#[]⟩, .slice none 0 0, .slice none 0 0] 44 (0, 0))).heap.size (w.alloc (.cells #[.int .i64 0, .int .i64 0, .string ⟨#[]⟩, .slice none 0 0, .slice none 0 0] 44 (0, 0)))).alloc (Nat.le_refl _) (.cells #[.int .i64 7, .int .i64 0, .string ⟨#[]⟩, .slice none 0 0, .slice none 0 0] 44 (0, 0))
  have hs2 : ((w.alloc (.cells #[.int .i64 0, .int .i64 0, .string ⟨#[]⟩, .slice none 0 0, .slice none 0 0] 44 (0, 0))).alloc (.cells #[.int .i64 7, .int .i64 0, .string ⟨#[]⟩, .slice none 0 0, .slice none 0 0] 44 (0, 0))).heap.size = w.heap.size + 1 + 1 := by simp
  have hb3 := (Below.refl ((w.alloc (.cells #[.int .i64 0, .int .i64 0, .string ⟨#[]⟩, .slice none 0 0, .slice none 0 0] 44 (0, 0))).alloc (.cells #[.int .i64 7, .int .i64 0, .string ⟨#[]⟩, .slice none 0 0, .slice none 0 0] 44 (0, 0))).heap.size ((w.alloc (.cells #[.int .i64 0, .int .i64 0, .string ⟨#[]⟩, .slice none 0 0, .slice none 0 0] 44 (0, 0))).alloc (.cells #[.int .i64 7, .int .i64 0, .string ⟨#[]⟩, .slice none 0 0, .slice none 0 0] 44 (0, 0)))).alloc (Nat.le_refl _) (.cells (strs abc).toArray 9 (0, 0))
  have HI0 := Lib.hid (show TInv k A c l a w (((w.alloc (.cells #[.int .i64 0, .int .i64 0, .string ⟨#[]⟩, .slice none 0 0, .slice none 0 0] 44 (0, 0))).alloc (.cells #[.int .i64 7, .int .i64 0, .string ⟨#[]⟩, .slice none 0 0, .slice none 0 0] 44 (0, 0))).alloc (.cells (strs abc).toArray 9 (0, 0))) (w.heap.size + 1) 7 0 1 [.int .i64 7, .int .i64 0, .string ⟨#[]⟩, .slice none 0 0, .slice none 0 0] (.mk 7 0 emptyB [] []) (.cells #[.int .i64 0, .int .i64 0, .string ⟨#[]⟩, .slice none 0 0, .slice none 0 0] 44 (0, 0)) from
    ⟨(hM1.below hb2).below hb3, block_below (by rw [← hs1]; exact heap_alloc_new _ _) hb3, block_below (block_below (heap_alloc_new _ _) hb2) hb3, LtAt.leaf _ _ _, leaf_ok (by omega) (by omega) (.inr rfl) (.inr rfl) (by decide) (by decide), rfl, by simp [Tree.count, Tree.countL]⟩)
  have HG0 := Lib.hid (show (((w.alloc (.cells #[.int .i64 0, .int .i64 0, .string ⟨#[]⟩, .slice none 0 0, .slice none 0 0] 44 (0, 0))).alloc (.cells #[.int .i64 7, .int .i64 0, .string ⟨#[]⟩, .slice none 0 0, .slice none 0 0] 44 (0, 0))).alloc (.cells (strs abc).toArray 9 (0, 0))).heap[w.heap.size + 1 + 1]? = some (.cells (strs abc).toArray 9 (0, 0)) by rw [← hs2]; exact heap_alloc_new _ _)
  have hgk : w.heap.size + 1 + 1 ≠ k := by omega
  have hVw : w.heap.size < w.heap.size + 1 := by omega
  have hgv : w.heap.size + 1 + 1 ≠ w.heap.size + 1 := by omega
  clear hcur hb1 hb2 hb3 hs1 hs2 hM1 hih h4
  go_enter Tryz.func51, Tryz.ntmps51
  go_wp2
  generalize hV : w.heap.size + 1 = V at hVw hgv hgk HI0 HG0 ⊢
  generalize hG : V + 1 = g at hgv hgk HG0 ⊢
  clear hV hG
  go_loopw [11] (fun iv wx => ∃ (q : Nat) (ocs : List Value) (t : Tree), iv = .int .i64 (q : Int) ∧ q ≤ 3 ∧ Hid (TInv k A c l a w wx V 7 (q * (2 + 14 * p)) (1 + q * p) ocs t (.cells #[.int .i64 0, .int .i64 0, .string ⟨#[]⟩, .slice none 0 0, .slice none 0 0] 44 (0, 0)) ∧ (∀ u ∈ t.names, u ∈ abc.take q) ∧ wx.heap[g]? = some (.cells (strs abc).toArray 9 (0, 0)))) (fun iv _ => 3 - (intOf iv).toNat)
  case atStart => exact ⟨0, _, .mk 7 0 emptyB [] [], rfl, by omega, HI0.out.weak (by omega) (by omega), fun u hu => (by simp at hu), HG0.out⟩
  case round =>
    clear HI0 HG0
    obtain ⟨q, ocs, t, rfl, hq, hinv⟩ := hrel
    have HI := Lib.hid (show TInv k A c l a w wr V 7 (q * (2 + 14 * p)) (1 + q * p) ocs t (.cells #[.int .i64 0, .int .i64 0, .string ⟨#[]⟩, .slice none 0 0, .slice none 0 0] 44 (0, 0)) from hinv.1)
    have HNT := Lib.hid (show ∀ u ∈ t.names, u ∈ abc.take q from hinv.2.1)
    have HG := Lib.hid (show wr.heap[g]? = some (.cells (strs abc).toArray 9 (0, 0)) from hinv.2.2)
    have hqm : q * (2 + 14 * p) ≤ 3 * (2 + 14 * p) := Nat.mul_le_mul_right _ (by omega)
    have hqp : q * p ≤ 3 * p := Nat.mul_le_mul_right _ (by omega)
    clear hinv
    by_cases hlt : q < 3
    · have hqm2 : q * (2 + 14 * p) ≤ 2 * (2 + 14 * p) := Nat.mul_le_mul_right _ (by omega)
      obtain ⟨s, hs⟩ : ∃ s, abc[q]? = some s := ⟨abc[q]'(by simpa [abc] using hlt), by simp [abc, hlt]⟩
      have hcell := cell_of_block HG.out q
      have hce : (strs abc).toArray[q]? = some (.string s) := by simp [strs, hs]
      rw [hce] at hcell
      have HSK := Lib.hid (abc_ok s (List.mem_of_getElem? hs))
      have HSF := Lib.hid (abc_fresh hs)
      have HS1 := Lib.hid (show s ∈ abc.take (q + 1) by rw [List.take_add_one, hs]; simp)
      have HP := Lib.hid (pick_q 4 (by omega) (by omega) HI.out.mv (by omega))
      clear hs hce
      go_wp2_with fail
      refine HP.out.mono ?_
      rintro e wd ⟨⟨x, rfl, hx⟩, hm, hag⟩
      have HID := Lib.hid (HI.out.to hck hVw hm hag)
      have HGD := Lib.hid (block_agree HG.out hag hgk)
      clear hm hag HP hcell
      obtain ⟨D1, e1, D2, e2, rsO, eO, _⟩ := HID.out.lt.open
      obtain rfl : ocs = [.int .i64 t.kind, .int .i64 t.num, .string t.text, .slice D1 t.names.length e1, .slice D2 t.kids.length e2] := eO
      have HTK := Lib.hid (HID.out.kd)
      have HMK := Lib.hid (Tree.ok_map HID.out.ok HTK.out)
      have HFR := Lib.hid (show t.names[insPos t.names s]? ≠ some s from fun e => HSF.out (HNT.out s (List.mem_of_getElem? e)))
      have HNM := Lib.hid (show ∀ u ∈ ins (insPos t.names s) s t.names, u ∈ abc.take (q + 1) from fun u hu => by
        rcases mem_ins hu with rfl | hu
        · exact HS1.out
        · exact List.mem_of_mem_take_succ (HNT.out u hu))
      have HTE := Lib.hid t.count_eq
      have HCN := Lib.hid HID.out.cn
      have hq1 : (q + 1) * (2 + 14 * p) = q * (2 + 14 * p) + (2 + 14 * p) := Nat.succ_mul _ _
      have hq2 : (q + 1) * p = q * p + p := Nat.succ_mul _ _
      have HKEEP := Lib.hid (fun (W : World) (hv : W.heap[V]? = some (.cells [.int .i64 t.kind, .int .i64 t.num, .string t.text, .slice D1 t.names.length e1, .slice D2 t.kids.length e2].toArray 44 (0, 0))) => show W.cell? ⟨V, 0, none⟩ = some (.int .i64 t.kind) ∧ W.cell? ⟨V, 1, none⟩ = some (.int .i64 t.num) ∧ W.cell? ⟨V, 2, none⟩ = some (.string t.text) ∧ W.cell? ⟨V, 3, none⟩ = some (.slice D1 t.names.length e1) ∧ W.cell? ⟨V, 4, none⟩ = some (.slice D2 t.kids.length e2) from ⟨cell_of_block hv 0, cell_of_block hv 1, cell_of_block hv 2, cell_of_block hv 3, cell_of_block hv 4⟩)
      have HPU := Lib.hid (fun (W : World) (zc : List Value) (z : Tree) (h : LtAt (Nt w.heap.size w.heap.size V) W [.int .i64 t.kind, .int .i64 t.num, .string t.text, .slice D1 t.names.length e1, .slice D2 t.kids.length e2] t) (hz : LtAt (Nt w.heap.size w.heap.size V) W zc z) => sPut_any t s z HTK.out HMK.out HFR.out (by have h1 := HTE.out; have h2 := HCN.out; have h3 := Tree.kids_le_count t.kids; omega) (Nt w.heap.size w.heap.size V) _ zc W h hz)
      rcases (show x = 0 ∨ x = 1 ∨ x = 2 ∨ x = 3 by omega) with rfl | rfl | rfl | rfl
      · have HCT := Lib.hid (HCTQ.out _ wd.drew (HID.out.below (show Below wd.heap.size wd wd.drew from (Below.refl _ _).drew)).mv (by omega))
        have HDRW := Lib.hid (show Below wd.heap.size wd wd.drew from (Below.refl _ _).drew)
        have HIE := Lib.hid (HID.out.below HDRW.out)
        have HVL := Lib.hid (lt_of_block HID.out.vb)
        go_wp2
        refine till_region 5 (fun W => W.cell? ⟨V, 0, none⟩ = some (.int .i64 t.kind) ∧ W.cell? ⟨V, 1, none⟩ = some (.int .i64 t.num) ∧ W.cell? ⟨V, 2, none⟩ = some (.string t.text) ∧ W.cell? ⟨V, 3, none⟩ = some (.slice D1 t.names.length e1) ∧ W.cell? ⟨V, 4, none⟩ = some (.slice D2 t.kids.length e2)) (by kernel_rfl) ?_ (fun hHeld => ?_)
        · exact HKEEP.out _ HIE.out.vb
        (refine Till.load (i := 0) (u := ?_) rfl (by kernel_rfl) (by kernel_rfl) (by kernel_rfl) (by kernel_rfl) (by kernel_rfl) (fun _ _ _ h => h) (Or.inl ⟨by rfl, ?_⟩) hHeld ?_; rotate_left 1; (focus (intro w hSw; (try dsimp only at hSw); go_split_ands; go_simp; try (with_reducible rfl))); change Till _ _ _ _ _ _ _ _ (Act.put _ (some 19) _) _; simp only [Act.put, List.setIfInBounds_toArray, List.set_cons_zero, List.set_cons_succ])
        (refine Till.pure (i := 1) (u := ?_) rfl (by kernel_rfl) (by kernel_rfl) (by kernel_rfl) (by decide) (fun _ _ _ h => h) (Or.inl ⟨by rfl, ?_⟩) (fun _ => hHeld) ?_; rotate_left 1; (focus (intro w _; go_simp; try (with_reducible rfl))); change Till _ _ _ _ _ _ _ _ (Act.put _ (some 20) _) _; simp only [Act.put, List.setIfInBounds_toArray, List.set_cons_zero, List.set_cons_succ])
        (refine Till.pure (i := 2) (u := ?_) rfl (by kernel_rfl) (by kernel_rfl) (by kernel_rfl) (by decide) (fun _ _ _ h => h) (Or.inl ⟨by rfl, ?_⟩) (fun _ => hHeld) ?_; rotate_left 1; (focus (intro w _; go_simp; try (with_reducible rfl))); change Till _ _ _ _ _ _ _ _ (Act.put _ (some 21) _) _; simp only [Act.put, List.setIfInBounds_toArray, List.set_cons_zero, List.set_cons_succ])
        (refine Till.one (i := 3) (by kernel_rfl) rfl (fun K hK => ?_))
        go_simp
        refine HCT.out.mono ?_
        rintro e w3 ⟨⟨zc, z, rfl, hzo, hzc', hzl⟩, hm, hag⟩
        have hzc : z.count ≤ p := by have h1 : z.count ≤ 1 := hzc'; omega
        have HI3 := Lib.hid (HIE.out.to hck hVw hm hag)
        have HG3 := Lib.hid (block_agree (block_below HGD.out HDRW.out) hag hgk)
        have HZ := Lib.hid (hzl.frame (G := Nt w.heap.size w.heap.size V) (Agree.refl _ _) (fun b h _ => by
          have h1 := HVL.out
          have h2 : wd.heap.size ≤ b := h
          exact ⟨by omega, by omega, by omega⟩))
        obtain ⟨G1, y1, G2, y2, rs5, e5, _⟩ := hzl.open
        subst e5
        have HZK := Lib.hid hzo
        have HZC := Lib.hid hzc
        clear hzl hm hag hzc hzo
        go_simp
        refine hK.out _ _ (HKEEP.out _ HI3.out.vb) (fun hHeld => ?_)
        clear hK
        (refine Till.one (i := 4) (by kernel_rfl) rfl (fun K hK => ?_))
        go_simp
        refine (HPU.out w3 _ z HI3.out.lt HZ.out).mono ?_
        rintro e w4 ⟨cs', rfl, hb4, hlt4⟩
        obtain ⟨M1, m1, M2, m2, rs6, e6, _⟩ := hlt4.open
        subst e6
        have HN := Lib.hid (HI3.out.store hck hVw hb4 (lt_of_block HI3.out.vb) hlt4 (HMK.out.ins HFR.out HSK.out HZK.out).tree HTK.out.symm (show _ ≤ 1 + (q + 1) * p by have h1 := HZC.out; have h2 := HCN.out; have h3 := HTE.out; simp only [Tree.count, countL_ins]; omega))
        have HV4 := Lib.hid (block_below HI3.out.vb hb4)
        have HG4 := Lib.hid (fun a0 a1 a2 a3 a4 => block_agree (block_below HG3.out hb4) (Agree.of_set5 V a0 a1 a2 a3 a4) hgv)
        clear hb4 hlt4
        go_simp
        refine hK.out _ _ (HKEEP.out _ HV4.out) (fun hHeld => ?_)
        clear hK
        have p0 := cell_of_block HV4.out 0
        have p1 := cell_of_block HV4.out 1
        have p2 := cell_of_block HV4.out 2
        have p3 := cell_of_block HV4.out 3
        have p4 := cell_of_block HV4.out 4
        simp at p0 p1 p2 p3 p4
        have f0 := free_of_block HV4.out 0
        have f1 := free_of_block HV4.out 1
        have f2 := free_of_block HV4.out 2
        have f3 := free_of_block HV4.out 3
        have f4 := free_of_block HV4.out 4
        (refine Till.last (by kernel_rfl) rfl (by kernel_rfl) (fun K hK => ?_))
        go_simp
        refine hK.out _ _ ?_
        clear hK
        refine wpAny_done (by kernel_rfl) ?_ _
        go_wp2
        go_roundw
        case rel => exact ⟨q + 1, _, _, by go_num, by omega, HN.out.weak (by rw [hq1]; omega) (Nat.le_refl _), fun u hu => HNM.out u hu, HG4.out _ _ _ _ _⟩
        case measure => simp [intOf]; omega
      · by_cases hd0 : d = 0
        · have hd1 : ¬ (0 : Int) < (d : Int) := by omega
          clear hd0
          go_wp2
          go_roundw
          case rel => exact ⟨q + 1, _, t, by go_num, by omega, HID.out.weak (by rw [hq1]; omega) (by rw [hq2]; omega), fun u hu => List.mem_of_mem_take_succ (HNT.out u hu), HGD.out⟩
          case measure => simp [intOf]; omega
        · obtain ⟨d', hdd⟩ : ∃ d', d = d' + 1 := ⟨d - 1, by omega⟩
          have hd1 : (0 : Int) < (d : Int) := by omega
          have HE1 := Lib.hid (HPE.out d' hdd).1
          have HE2 := Lib.hid (HPE.out d' hdd).2
          have HWR := Lib.hid (show IntKind.i64.wrap ((d : Int) - 1) = (d' : Int) from by rw [IntKind.wrap_i64]; omega)
          have HCM := Lib.hid (HIHM.out d' hdd _ wd.drew (HID.out.below (show Below wd.heap.size wd wd.drew from (Below.refl _ _).drew)).mv (by omega))
          rw [HE1.out, HE2.out] at HCM
          clear hd0 hdd
          have HDRW := Lib.hid (show Below wd.heap.size wd wd.drew from (Below.refl _ _).drew)
          have HIE := Lib.hid (HID.out.below HDRW.out)
          have HVL := Lib.hid (lt_of_block HID.out.vb)
          go_wp2
          refine till_region 7 (fun W => W.cell? ⟨V, 0, none⟩ = some (.int .i64 t.kind) ∧ W.cell? ⟨V, 1, none⟩ = some (.int .i64 t.num) ∧ W.cell? ⟨V, 2, none⟩ = some (.string t.text) ∧ W.cell? ⟨V, 3, none⟩ = some (.slice D1 t.names.length e1) ∧ W.cell? ⟨V, 4, none⟩ = some (.slice D2 t.kids.length e2)) (by kernel_rfl) ?_ (fun hHeld => ?_)
          · exact HKEEP.out _ HIE.out.vb
          (refine Till.load (i := 0) (u := ?_) rfl (by kernel_rfl) (by kernel_rfl) (by kernel_rfl) (by kernel_rfl) (by kernel_rfl) (fun _ _ _ h => h) (Or.inl ⟨by rfl, ?_⟩) hHeld ?_; rotate_left 1; (focus (intro w hSw; (try dsimp only at hSw); go_split_ands; go_simp; try (with_reducible rfl))); change Till _ _ _ _ _ _ _ _ (Act.put _ (some 28) _) _; simp only [Act.put, List.setIfInBounds_toArray, List.set_cons_zero, List.set_cons_succ])
          (refine Till.pure (i := 1) (u := ?_) rfl (by kernel_rfl) (by kernel_rfl) (by kernel_rfl) (by decide) (fun _ _ _ h => h) (Or.inl ⟨by rfl, ?_⟩) (fun _ => hHeld) ?_; rotate_left 1; (focus (intro w _; go_simp; try (with_reducible rfl))); change Till _ _ _ _ _ _ _ _ (Act.put _ (some 29) _) _; simp only [Act.put, List.setIfInBounds_toArray, List.set_cons_zero, List.set_cons_succ])
          (refine Till.pure (i := 2) (u := ?_) rfl (by kernel_rfl) (by kernel_rfl) (by kernel_rfl) (by decide) (fun _ _ _ h => h) (Or.inl ⟨by rfl, ?_⟩) (fun _ => hHeld) ?_; rotate_left 1; (focus (intro w _; go_simp; try (with_reducible rfl))); change Till _ _ _ _ _ _ _ _ (Act.put _ (some 30) _) _; simp only [Act.put, List.setIfInBounds_toArray, List.set_cons_zero, List.set_cons_succ])
          (refine Till.pure (i := 3) (u := ?_) rfl (by kernel_rfl) (by kernel_rfl) (by kernel_rfl) (by decide) (fun _ _ _ h => h) (Or.inl ⟨by rfl, ?_⟩) (fun _ => hHeld) ?_; rotate_left 1; (focus (intro w _; go_simp; try (with_reducible rfl))); change Till _ _ _ _ _ _ _ _ (Act.put _ (some 31) _) _; simp only [Act.put, List.setIfInBounds_toArray, List.set_cons_zero, List.set_cons_succ])
          (refine Till.pure (i := 4) (u := ?_) rfl (by kernel_rfl) (by kernel_rfl) (by kernel_rfl) (by decide) (fun _ _ _ h => h) (Or.inl ⟨by rfl, ?_⟩) (fun _ => hHeld) ?_; rotate_left 1; (focus (intro w _; go_simp; try (with_reducible rfl))); change Till _ _ _ _ _ _ _ _ (Act.put _ (some 32) _) _; simp only [Act.put, List.setIfInBounds_toArray, List.set_cons_zero, List.set_cons_succ])
          (refine Till.one (i := 5) (by kernel_rfl) rfl (fun K hK => ?_))
          go_simp
          rw [HWR.out]
          refine HCM.out.mono ?_
          rintro e w3 ⟨⟨zc, z, rfl, hzo, hzc, hzl⟩, hm, hag⟩
          have HI3 := Lib.hid (HIE.out.to hck hVw hm hag)
          have HG3 := Lib.hid (block_agree (block_below HGD.out HDRW.out) hag hgk)
          have HZ := Lib.hid (hzl.frame (G := Nt w.heap.size w.heap.size V) (Agree.refl _ _) (fun b h _ => by
            have h1 := HVL.out
            have h2 : wd.heap.size ≤ b := h
            exact ⟨by omega, by omega, by omega⟩))
          obtain ⟨G1, y1, G2, y2, rs5, e5, _⟩ := hzl.open
          subst e5
          have HZK := Lib.hid hzo
          have HZC := Lib.hid hzc
          clear hzl hm hag hzc hzo
          go_simp
          refine hK.out _ _ (HKEEP.out _ HI3.out.vb) (fun hHeld => ?_)
          clear hK
          (refine Till.one (i := 6) (by kernel_rfl) rfl (fun K hK => ?_))
          go_simp
          refine (HPU.out w3 _ z HI3.out.lt HZ.out).mono ?_
          rintro e w4 ⟨cs', rfl, hb4, hlt4⟩
          obtain ⟨M1, m1, M2, m2, rs6, e6, _⟩ := hlt4.open
          subst e6
          have HN := Lib.hid (HI3.out.store hck hVw hb4 (lt_of_block HI3.out.vb) hlt4 (HMK.out.ins HFR.out HSK.out HZK.out).tree HTK.out.symm (show _ ≤ 1 + (q + 1) * p by have h1 := HZC.out; have h2 := HCN.out; have h3 := HTE.out; simp only [Tree.count, countL_ins]; omega))
          have HV4 := Lib.hid (block_below HI3.out.vb hb4)
          have HG4 := Lib.hid (fun a0 a1 a2 a3 a4 => block_agree (block_below HG3.out hb4) (Agree.of_set5 V a0 a1 a2 a3 a4) hgv)
          clear hb4 hlt4
          go_simp
          refine hK.out _ _ (HKEEP.out _ HV4.out) (fun hHeld => ?_)
          clear hK
          have p0 := cell_of_block HV4.out 0
          have p1 := cell_of_block HV4.out 1
          have p2 := cell_of_block HV4.out 2
          have p3 := cell_of_block HV4.out 3
          have p4 := cell_of_block HV4.out 4
          simp at p0 p1 p2 p3 p4
          have f0 := free_of_block HV4.out 0
          have f1 := free_of_block HV4.out 1
          have f2 := free_of_block HV4.out 2
          have f3 := free_of_block HV4.out 3
          have f4 := free_of_block HV4.out 4
          (refine Till.last (by kernel_rfl) rfl (by kernel_rfl) (fun K hK => ?_))
          go_simp
          refine hK.out _ _ ?_
          clear hK
          refine wpAny_done (by kernel_rfl) ?_ _
          go_wp2
          go_roundw
          case rel => exact ⟨q + 1, _, _, by go_num, by omega, HN.out.weak (by rw [hq1]; omega) (Nat.le_refl _), fun u hu => HNM.out u hu, HG4.out _ _ _ _ _⟩
          case measure => simp [intOf]; omega
      · have HO := Lib.hid (one_q 2 (by omega) (by omega) HID.out.mv (by omega))
        go_wp2_with fail
        refine HO.out.mono ?_
        rintro e we ⟨⟨b, rfl⟩, hm, hag⟩
        have HIF := Lib.hid (HID.out.to hck hVw hm hag)
        have HGF := Lib.hid (block_agree HGD.out hag hgk)
        clear hm hag HO
        cases b
        · skip
          go_wp2
          go_roundw
          case rel => exact ⟨q + 1, _, t, by go_num, by omega, HIF.out.weak (by rw [hq1]; omega) (by rw [hq2]; omega), fun u hu => List.mem_of_mem_take_succ (HNT.out u hu), HGF.out⟩
          case measure => simp [intOf]; omega
        · skip
          have HDRW := Lib.hid (show Below we.heap.size we we.drew from (Below.refl _ _).drew)
          have HIE := Lib.hid (HIF.out.below HDRW.out)
          have HVL := Lib.hid (lt_of_block HIF.out.vb)
          go_wp2
          refine till_region 4 (fun W => W.cell? ⟨V, 0, none⟩ = some (.int .i64 t.kind) ∧ W.cell? ⟨V, 1, none⟩ = some (.int .i64 t.num) ∧ W.cell? ⟨V, 2, none⟩ = some (.string t.text) ∧ W.cell? ⟨V, 3, none⟩ = some (.slice D1 t.names.length e1) ∧ W.cell? ⟨V, 4, none⟩ = some (.slice D2 t.kids.length e2)) (by kernel_rfl) ?_ (fun hHeld => ?_)
          · exact HKEEP.out _ HIE.out.vb
          (refine Till.load (i := 0) (u := ?_) rfl (by kernel_rfl) (by kernel_rfl) (by kernel_rfl) (by kernel_rfl) (by kernel_rfl) (fun _ _ _ h => h) (Or.inl ⟨by rfl, ?_⟩) hHeld ?_; rotate_left 1; (focus (intro w hSw; (try dsimp only at hSw); go_split_ands; go_simp; try (with_reducible rfl))); change Till _ _ _ _ _ _ _ _ (Act.put _ (some 39) _) _; simp only [Act.put, List.setIfInBounds_toArray, List.set_cons_zero, List.set_cons_succ])
          (refine Till.pure (i := 1) (u := ?_) rfl (by kernel_rfl) (by kernel_rfl) (by kernel_rfl) (by decide) (fun _ _ _ h => h) (Or.inl ⟨by rfl, ?_⟩) (fun _ => hHeld) ?_; rotate_left 1; (focus (intro w _; go_simp; try (with_reducible rfl))); change Till _ _ _ _ _ _ _ _ (Act.put _ (some 40) _) _; simp only [Act.put, List.setIfInBounds_toArray, List.set_cons_zero, List.set_cons_succ])
          (refine Till.one (i := 2) (by kernel_rfl) rfl (fun K hK => ?_))
          go_simp
          refine (sNull3_any _).mono ?_
          rintro e w3 ⟨rfl, hb3⟩
          have hm := HIE.out.mv.below hb3
          have hag : Agree (fun b => b ≠ k) we.drew w3 := Agree.of_below hb3
          obtain ⟨z, hz⟩ : ∃ z, z = nullT := ⟨_, rfl⟩
          have hzo : z.ok = true := by rw [hz]; exact null_ok
          have hzc : z.count ≤ p := by rw [hz, null_count]; omega
          have hzl : LtAt (fun b => we.heap.size ≤ b) w3 [.int .i64 1, .int .i64 0, .string ⟨#[]⟩, .slice none 0 0, .slice none 0 0] z := by rw [hz]; exact LtAt.leaf _ _ _
          clear hb3 hz
          have HI3 := Lib.hid (HIE.out.to hck hVw hm hag)
          have HG3 := Lib.hid (block_agree (block_below HGF.out HDRW.out) hag hgk)
          have HZ := Lib.hid (hzl.frame (G := Nt w.heap.size w.heap.size V) (Agree.refl _ _) (fun b h _ => by
            have h1 := HVL.out
            have h2 : we.heap.size ≤ b := h
            exact ⟨by omega, by omega, by omega⟩))
          have HZK := Lib.hid hzo
          have HZC := Lib.hid hzc
          clear hzl hm hag hzc hzo
          go_simp
          refine hK.out _ _ (HKEEP.out _ HI3.out.vb) (fun hHeld => ?_)
          clear hK
          (refine Till.one (i := 3) (by kernel_rfl) rfl (fun K hK => ?_))
          go_simp
          refine (HPU.out w3 _ z HI3.out.lt HZ.out).mono ?_
          rintro e w4 ⟨cs', rfl, hb4, hlt4⟩
          obtain ⟨M1, m1, M2, m2, rs6, e6, _⟩ := hlt4.open
          subst e6
          have HN := Lib.hid (HI3.out.store hck hVw hb4 (lt_of_block HI3.out.vb) hlt4 (HMK.out.ins HFR.out HSK.out HZK.out).tree HTK.out.symm (show _ ≤ 1 + (q + 1) * p by have h1 := HZC.out; have h2 := HCN.out; have h3 := HTE.out; simp only [Tree.count, countL_ins]; omega))
          have HV4 := Lib.hid (block_below HI3.out.vb hb4)
          have HG4 := Lib.hid (fun a0 a1 a2 a3 a4 => block_agree (block_below HG3.out hb4) (Agree.of_set5 V a0 a1 a2 a3 a4) hgv)
          clear hb4 hlt4
          go_simp
          refine hK.out _ _ (HKEEP.out _ HV4.out) (fun hHeld => ?_)
          clear hK
          have p0 := cell_of_block HV4.out 0
          have p1 := cell_of_block HV4.out 1
          have p2 := cell_of_block HV4.out 2
          have p3 := cell_of_block HV4.out 3
          have p4 := cell_of_block HV4.out 4
          simp at p0 p1 p2 p3 p4
          have f0 := free_of_block HV4.out 0
          have f1 := free_of_block HV4.out 1
          have f2 := free_of_block HV4.out 2
          have f3 := free_of_block HV4.out 3
          have f4 := free_of_block HV4.out 4
          (refine Till.last (by kernel_rfl) rfl (by kernel_rfl) (fun K hK => ?_))
          go_simp
          refine hK.out _ _ ?_
          clear hK
          refine wpAny_done (by kernel_rfl) ?_ _
          go_wp2
          go_roundw
          case rel => exact ⟨q + 1, _, _, by go_num, by omega, HN.out.weak (by rw [hq1]; omega) (Nat.le_refl _), fun u hu => HNM.out u hu, HG4.out _ _ _ _ _⟩
          case measure => simp [intOf]; omega
      · skip
        go_wp2
        go_roundw
        case rel => exact ⟨q + 1, _, t, by go_num, by omega, HID.out.weak (by rw [hq1]; omega) (by rw [hq2]; omega), fun u hu => List.mem_of_mem_take_succ (HNT.out u hu), HGD.out⟩
        case measure => simp [intOf]; omega
    · obtain rfl : q = 3 := by omega
      obtain ⟨D1, e1, D2, e2, rsO, eO, _⟩ := HI.out.lt.open
      obtain rfl : ocs = [.int .i64 t.kind, .int .i64 t.num, .string t.text, .slice D1 t.names.length e1, .slice D2 t.kids.length e2] := eO
      have p0 := cell_of_block HI.out.vb 0
      have p1 := cell_of_block HI.out.vb 1
      have p2 := cell_of_block HI.out.vb 2
      have p3 := cell_of_block HI.out.vb 3
      have p4 := cell_of_block HI.out.vb 4
      simp at p0 p1 p2 p3 p4
      have r0 := cell_of_block HI.out.rb 0
      have r1 := cell_of_block HI.out.rb 1
      have r2 := cell_of_block HI.out.rb 2
      have r3 := cell_of_block HI.out.rb 3
      have r4 := cell_of_block HI.out.rb 4
      simp at r0 r1 r2 r3 r4
      have f0 := free_of_block HI.out.rb 0
      have f1 := free_of_block HI.out.rb 1
      have f2 := free_of_block HI.out.rb 2
      have f3 := free_of_block HI.out.rb 3
      have f4 := free_of_block HI.out.rb 4
      have HRZ := Lib.hid HI.out.rb
      go_wp2
      refine bodyPost_ret (results_cell_row rfl _ _ w.heap.size _ _ _ _ rfl (block_setCell (block_setCell (block_setCell (block_setCell (block_setCell HRZ.out _ _) _ _) _ _) _ _) _ _) Tryz.underlying44 rfl ((info_size infoL1V).trans (by simp))) rfl ?_
      have hne : ∀ b, Nt w.heap.size w.heap.size V b → b ≠ w.heap.size := fun b h => h.2.1
      first
        | exact ⟨[.int .i64 t.kind, .int .i64 t.num, .string t.text, .slice D1 t.names.length e1, .slice D2 t.kids.length e2], rfl, t, HI.out.ok, by have := HI.out.cn; omega, HI.out.lt.frame ((((((Agree.refl _ wr).set hne 0 _).set hne 1 _).set hne 2 _).set hne 3 _).set hne 4 _) (fun b h _ => h.1), (HI.out.mv.set5 hck (Nat.le_refl _) _ _ _ _ _).more (by omega)⟩
        | exact ⟨[.int .i64 t.kind, .int .i64 t.num, .string t.text, .slice D1 t.names.length e1, .slice D2 t.kids.length e2], t, rfl, HI.out.ok, by have := HI.out.cn; omega, HI.out.lt.frame ((((((Agree.refl _ wr).set hne 0 _).set hne 1 _).set hne 2 _).set hne 3 _).set hne 4 _) (fun b h _ => h.1), (HI.out.mv.set5 hck (Nat.le_refl _) _ _ _ _ _).more (by omega)⟩
end Go.Proofs.YteeppdobeeodiaaGreatDoor
