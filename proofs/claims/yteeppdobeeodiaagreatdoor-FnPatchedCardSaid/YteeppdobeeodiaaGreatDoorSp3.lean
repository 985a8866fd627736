/- The reference's l1Flat, l1Of. The reference's l1Of, l1Tell. -/
import Derived.Test.YteeppdobeeodiaaGreatDoorSp1
import Derived.Test.YteeppdobeeodiaaGreatDoorJn9
import Derived.Test.YteeppdobeeodiaaGreatDoorSpec3
namespace Go.Proofs.YteeppdobeeodiaaGreatDoor
open Go.RowKit
def FlatPost (base : Nat) (xs : List Nd) (v : Value) (w : World) (e : Ending) (w' : World) : Prop :=
  ∃ A c, e = .returned (.slice A xs.length c) ∧ w'.ownsRow base 50 5 (.slice A xs.length c) xs.length (ndCells xs) ∧ Below base w w' ∧ (∀ k, k < w.heap.size → v.ownBlock ≠ some k → w'.heap[k]? = w.heap[k]?) ∧ ∀ k, (Value.slice A xs.length c).ownBlock = some k → v.ownBlock = some k ∨ w.heap.size ≤ k
structure FInv (base : Nat) (l : List Nd) (v : Value) (vc : Array Value) (w wx : World) (A' : Option Addr) (c' : Nat) : Prop where
  own : wx.ownsRow base 50 5 (.slice A' l.length c') l.length (ndCells l)
  bel : Below base w wx
  blk : wx.heap[w.heap.size]? = some (.cells vc 44 (0, 0))
  old : ∀ k, k < w.heap.size → v.ownBlock ≠ some k → wx.heap[k]? = w.heap[k]?
  who : ∀ k, (Value.slice A' l.length c').ownBlock = some k → v.ownBlock = some k ∨ w.heap.size ≤ k
theorem FInv.next {base : Nat} {l l' : List Nd} {v : Value} {vc : Array Value} {w wx w4 : World} {A' A4 : Option Addr} {c' c4 : Nat} (h : FInv base l v vc w wx A' c') (hbase : base ≤ w.heap.size) (o : Obj)
    (ho : w4.ownsRow base 50 5 (.slice A4 l'.length c4) l'.length (ndCells l')) (hb : Below base (wx.alloc o) w4) (hk : ∀ k, k < (wx.alloc o).heap.size → (Value.slice A' l.length c').ownBlock ≠ some k → w4.heap[k]? = (wx.alloc o).heap[k]?)
    (hw : ∀ k, (Value.slice A4 l'.length c4).ownBlock = some k → (Value.slice A' l.length c').ownBlock = some k ∨ (wx.alloc o).heap.size ≤ k) : FInv base l' v vc w w4 A4 c4 := by
  have hsz := h.bel.size
  have hs : (wx.alloc o).heap.size = wx.heap.size + 1 := by simp
  have hbx : base ≤ wx.heap.size := Nat.le_trans hbase hsz
  have hn := own_not_at h.own h.blk (by decide)
  refine ⟨ho, (h.bel.trans ((Below.refl base wx).alloc hbx o)).trans hb, ?_, fun k hk1 hk2 => ?_, fun k hk1 => ?_⟩
  · have hlt := lt_of_block h.blk
    rw [hk _ (by omega) (fun e => hn _ e rfl), Go.heap_alloc_old wx o hlt]
    exact h.blk
  · rw [hk k (by omega) (fun e => by rcases h.who k e with e | e; exact hk2 e; omega), Go.heap_alloc_old wx o (by omega)]
    exact h.old k hk1 hk2
  · rcases hw k hk1 with e | e
    · exact h.who k e
    · exact .inr (by omega)
def FlatSpec (t : Tree) : Prop := t.shaped → ∀ (base : Nat) (xs : List Nd) (A : Option Addr) (c : Nat) (name : ByteArray) (up : Int) (F : Nat → Prop) (cs : List Value) (w : World), LtAt F w cs t → (∀ b, F b → b < base) → base ≤ w.heap.size → xs.length + t.count ≤ 1000000000 →
  w.ownsRow base 50 5 (.slice A xs.length c) xs.length (ndCells xs) → Calls Tryz.prog 56 #[.agg cs.toArray, .string name, .int .i64 up, .slice A xs.length c] w (FlatPost base (xs ++ t.flat name up xs.length) (.slice A xs.length c) w)
set_option maxRecDepth 100000 in
set_option maxHeartbeats 4000000 in
theorem sFlat_any : ∀ t, FlatSpec t := Tree.ind fun t ih hsh base xs A c name up F cs w ht hF hbase hsize ho => by
  obtain ⟨A1, c1, A2, c2, rs, rfl, g3, g4, r3, r4, hts⟩ := ht.open
  have hcnt := t.count_eq
  have hk0 := heap_alloc_new w (.cells #[.int .i64 t.kind, .int .i64 t.num, .string t.text, .slice A1 t.names.length c1, .slice A2 t.kids.length c2] 44 (0, 0))
  have hb0 : Below w.heap.size w (w.alloc (.cells #[.int .i64 t.kind, .int .i64 t.num, .string t.text, .slice A1 t.names.length c1, .slice A2 t.kids.length c2] 44 (0, 0))) := (Below.refl _ _).alloc (Nat.le_refl _) _
  have hs0 : (w.alloc (.cells #[.int .i64 t.kind, .int .i64 t.num, .string t.text, .slice A1 t.names.length c1, .slice A2 t.kids.length c2] 44 (0, 0))).heap.size = w.heap.size + 1 := by simp
  have HO := Lib.hid (own_below ho hb0)
  have HTS := Lib.hid hts
  have R3 := Lib.hid r3
  have R4 := Lib.hid r4
  have HIH := Lib.hid ih
  rw [Tree.shaped_eq] at hsh
  have HSH := Lib.hid hsh
  have HFF := Lib.hid hF
  have HB0 := Lib.hid hb0
  have HK0 := Lib.hid hk0
  have HOW := Lib.hid (fun k hk => (own_base ho k hk).2)
  clear ho hts r3 r4 ht ih hsh hF hb0 hk0
  go_enter Tryz.func56, Tryz.ntmps56
  go_wp2_with (at_builtin; refine append_one base rfl (.tmp 15) (.tmp 25) 23 50 _ 5 56 rfl Tryz.underlying23 infoNode rfl (by decide) (by decide) (.slice A xs.length c) xs.length (ndCells xs) [.int .i64 t.kind, .int .i64 t.num, .string t.text, .string name, .int .i64 up] rfl rfl (by simp) (by simp [Value.oneCell']) rfl HO.out (by simp; omega) (by omega) ?_; intro A3 c3 w1 hc3 hown1 hg1 hat1; have hk1 := (hg1.block w.heap.size (by simp) (fun e => by have := HOW.out _ e.symm; omega)).trans HK0.out; have HK1 := Lib.hid hk1; have y4 := (cells5 HK1.out).2.2.2.2; have HH1 := Lib.hid hown1; have HG1 := Lib.hid hg1; have HAT := Lib.hid hat1; clear hk1 hown1 hg1 hat1)
  have hc1 : (ndsAt t name up xs 0).length = xs.length + 1 := by rw [ndsAt_length]; simp [Tree.countL]
  have hinv0 : FInv base (ndsAt t name up xs 0) (.slice A xs.length c) #[.int .i64 t.kind, .int .i64 t.num, .string t.text, .slice A1 t.names.length c1, .slice A2 t.kids.length c2] w w1 A3 c3 := by
    refine ⟨?_, ((HB0.out.mono hbase).grown HG1.out (by simp; omega) (fun k hk => (own_base HO.out k hk).1)), HK1.out, fun k hk1 hk2 => ?_, fun k hk => ?_⟩
    · have h := HH1.out
      rw [hc1, ndsAt_zero]
      simpa [ndCells, Nd.cells] using h
    · exact (HG1.out.block k (by simp; omega) (fun e => hk2 e.symm)).trans (Go.heap_alloc_old _ _ hk1)
    · rw [hc1] at hk
      rcases HAT.out with e | ⟨b, e, hb⟩
      · rw [e] at hk
        exact .inl hk
      · rw [e] at hk
        injection hk with hk
        simp at hb
        exact .inr (by omega)
  have HINV := Lib.hid hinv0
  have hcnl := Tree.kids_le_count t.kids
  rw [← hc1]
  clear hinv0 hc1 y4
  go_loopw [3, 30] (fun ov iv wx => ∃ (i : Nat) (A' : Option Addr) (c' : Nat), ov = .slice A' (ndsAt t name up xs i).length c' ∧ iv = .int .i64 (i : Int) ∧ i ≤ t.kids.length ∧ Hid (FInv base (ndsAt t name up xs i) (.slice A xs.length c) #[.int .i64 t.kind, .int .i64 t.num, .string t.text, .slice A1 t.names.length c1, .slice A2 t.kids.length c2] w wx A' c')) (fun _ iv _ => t.kids.length - (intOf iv).toNat)
  case atStart => exact ⟨0, A3, c3, rfl, rfl, Nat.zero_le _, HINV.out⟩
  case round =>
    clear HINV
    obtain ⟨i, A', c', rfl, rfl, hi, hinv⟩ := hrel
    have HI := Lib.hid hinv
    have hbx := HI.out.bel
    have hszx : base ≤ wr.heap.size := Nat.le_trans hbase hbx.size
    obtain ⟨x0, x1, x2, x3, x4⟩ := cells5 HI.out.blk
    have hvl := lt_of_block HI.out.blk
    by_cases hlt : i < t.kids.length
    · have hag : Agree F w wr := agree_base hbx HFF.out
      obtain ⟨bk, ok, r, k, Ak1, ck1, Ak2, ck2, rfl, hFk, hkl, hkx, hkm, hri, hre, hkt, k0, k1, k2, k3, k4⟩ := lt_at (R4.out.frame hag) (HTS.out.frame hag (fun _ h _ => h)) i hlt
      have hkc := Tree.countL_take_succ t.kids i k hkx
      have hkc2 := Tree.countL_take_le t.kids (i + 1)
      have hnl := ndsAt_length t name up xs i
      have hbn : Below wr.heap.size wr (wr.alloc (.cells #[.int .i64 k.kind, .int .i64 k.num, .string k.text, .slice Ak1 k.names.length ck1, .slice Ak2 k.kids.length ck2] 44 (0, 0))) := (Below.refl _ _).alloc (Nat.le_refl _) _
      have hrec := HIH.out k hkm (Tree.shapedL_mem HSH.out.2 hkm) base (ndsAt t name up xs i) A' c' (kidName t i) (xs.length : Int) F r _ (hkt.below hbn) HFF.out (Nat.le_trans hszx hbn.size) (by rw [hnl]; omega) (own_below HI.out.own hbn)
      rw [← ndsAt_succ hkx HSH.out.1] at hrec
      rw [hre] at hrec
      have hr3 := R3.out.frame hag
      clear hinv hbx hag hkt hkx hkm hnl hbn hri hre
      by_cases h7 : t.kind = 7
      · have hnk := HSH.out.1 h7
        obtain ⟨bn, on, s, rfl, hnl, n0, hs, _⟩ := name_at hr3 i (by omega)
        have hkn : kidName t i = s := by
          rw [kidName, if_pos (by simpa using h7), List.getD_eq_getElem?_getD, hs]
          rfl
        rw [hkn] at hrec
        rw [h7] at x0
        have hltn : i < t.names.length := by omega
        have HREC := Lib.hid hrec
        have H7 := Lib.hid h7
        clear hrec hs hkn hr3 hnk h7
        go_wp2_with fail
        rw [← H7.out]
        refine HREC.out.mono ?_
        rintro e w4 ⟨A5, c5, rfl, hown5, hb5, hk5, hw5⟩
        have HI5 := Lib.hid (HI.out.next hbase _ hown5 hb5 hk5 hw5)
        clear hown5 hb5 hk5 hw5 HREC
        go_wp2
        go_roundw
        case rel => exact ⟨i + 1, A5, c5, rfl, by go_num, by omega, HI5.out⟩
        case measure => simp [intOf]; omega
      · have hkn : kidName t i = ⟨#[]⟩ := by
          rw [kidName, if_neg (by simpa using h7)]
          rfl
        rw [hkn] at hrec
        have HREC := Lib.hid hrec
        clear hrec hkn hr3
        go_wp2_with fail
        refine HREC.out.mono ?_
        rintro e w4 ⟨A5, c5, rfl, hown5, hb5, hk5, hw5⟩
        have HI5 := Lib.hid (HI.out.next hbase _ hown5 hb5 hk5 hw5)
        clear hown5 hb5 hk5 hw5 HREC
        go_wp2
        go_roundw
        case rel => exact ⟨i + 1, A5, c5, rfl, by go_num, by omega, HI5.out⟩
        case measure => simp [intOf]; omega
    · obtain rfl : i = t.kids.length := by omega
      have HALL := Lib.hid (ndsAt_all t name up xs HSH.out.1)
      clear hinv hbx
      go_wp2
      go_ret
      have hI := HI.out
      rw [HALL.out] at hI
      refine ⟨A', c', ?_, hI.own, hI.bel, hI.old, hI.who⟩
      rw [← HALL.out]
      rfl
def SOfPost (t : Tree) (w : World) (e : Ending) (w' : World) : Prop := ValuePost t w e w'
end Go.Proofs.YteeppdobeeodiaaGreatDoor
namespace Go.Proofs.YteeppdobeeodiaaGreatDoor
open Go.RowKit
theorem NdOwn.later {l : List Nd} {w w1 w2 : World} {v : Value} (h : NdOwn l w v w1) (hb : Below w1.heap.size w1 w2) : NdOwn l w v w2 := by
  obtain ⟨h1, A, c, rfl, hc, h2, h3⟩ := h
  exact ⟨below_then h1 h1.size hb, A, c, rfl, hc, h2.frame (Agree.of_below hb), own_below h3 hb⟩
theorem strOK_size {s : ByteArray} (h : strOK s = true) : s.size ≤ 24 := by
  simp [strOK] at h
  exact h.1
def FlatSz (t : Tree) : Prop := t.ok = true → ∀ (name : ByteArray) (up : Int) (a : Nat), name.size ≤ 24 → ∀ x ∈ t.flat name up a, x.text.size ≤ 24 ∧ x.name.size ≤ 24
theorem flatL_sz (map : Bool) : ∀ (ks : List Tree) (ns : List ByteArray) (s a : Nat), (∀ k ∈ ks, FlatSz k) → Tree.okL ks = true → (∀ n ∈ ns, n.size ≤ 24) → ∀ x ∈ Tree.flatL map ns ks s a, x.text.size ≤ 24 ∧ x.name.size ≤ 24
  | [], ns, s, a, _, _, _, x, hx => by rw [Tree.flatL] at hx; cases hx
  | k :: ks, ns, s, a, ih, hok, hn, x, hx => by
    rw [Tree.flatL] at hx
    simp [Tree.okL] at hok
    rcases List.mem_append.1 hx with hx | hx
    · refine ih k (by simp) hok.1 _ _ _ ?_ x hx
      cases map with
      | false => exact Nat.zero_le _
      | true =>
        cases ns with
        | nil => exact Nat.zero_le _
        | cons n ns => simpa using hn n (by simp)
    · exact flatL_sz map ks ns.tail s _ (fun k hk => ih k (List.mem_cons_of_mem _ hk)) hok.2 (fun n h => hn n (List.mem_of_mem_tail h)) x hx
theorem flat_sz : ∀ t, FlatSz t := Tree.ind fun t ih hok name up a hname x hx => by
  rw [Tree.flat_eq] at hx
  obtain ⟨k, n, tx, ns, ks⟩ := t
  simp [Tree.ok] at hok
  rcases List.mem_cons.1 hx with rfl | hx
  · exact ⟨strOK_size hok.1.1.1.2, hname⟩
  · refine flatL_sz _ ks ns a (a + 1) ih hok.2 (fun m hm => ?_) x hx
    by_cases h7 : k = 7
    · rw [if_pos h7] at hok
      exact strOK_size (hok.1.1.2.1.2 m hm)
    · rw [if_neg h7] at hok
      have h := hok.1.1.2
      subst h
      cases hm
set_option maxRecDepth 100000 in
set_option maxHeartbeats 1600000 in
theorem sOf_any (t : Tree) (hsh : t.shaped) (hc : t.count ≤ 1000000000) (F : Nat → Prop) (cs : List Value) (w : World) (ht : LtAt F w cs t) :
    Calls Tryz.prog 32 #[.agg cs.toArray] w (ValuePost t w) := by
  obtain ⟨A1, c1, A2, c2, rs, rfl, g3, g4, r3, r4, hts⟩ := ht.open
  obtain ⟨w1, hw⟩ : ∃ w1, w1 = (w.alloc (.cells #[.int .i64 t.kind, .int .i64 t.num, .string t.text, .slice A1 t.names.length c1, .slice A2 t.kids.length c2] 44 (0, 0))).alloc (.cells #[.slice none 0 0] 25 (0, 0)) := ⟨_, rfl⟩
  have hb1 : Below w.heap.size w w1 := by rw [hw]; exact ((Below.refl _ _).alloc (Nat.le_refl _) _).alloc (by simp) _
  have k1 : w1.heap[w.heap.size + 1]? = some (.cells #[.slice none 0 0] 25 (0, 0)) := by rw [hw]; (repeat (first | with_reducible assumption | (with_reducible refine blk_new _ ?_; (first | rfl | (simp; done) | (simp; omega))) | with_reducible apply block_setCell | (with_reducible refine blk_skip _ _ ?_ ?_; rotate_left; (first | (simp; done) | (simp; omega))) | with_reducible refine blk_old ?_))
  have hs1 : w1.heap.size = w.heap.size + 2 := by rw [hw]; simp
  have HW := Lib.hid hw
  have HB1 := Lib.hid hb1
  have HK1 := Lib.hid k1
  have HN := Lib.hid (show Calls Tryz.prog 56 #[.agg #[.int .i64 t.kind, .int .i64 t.num, .string t.text, .slice A1 t.names.length c1, .slice A2 t.kids.length c2], .string ⟨#[]⟩, .int .i64 (-1), .slice none 0 0] w1 (FlatPost w1.heap.size (t.flat emptyB (-1) 0) (.slice none 0 0) w1) from
    sFlat_any t hsh w1.heap.size [] none 0 ⟨#[]⟩ (-1) (fun b => F b ∧ b < w.heap.size) _ w1 (ht.frame (Agree.of_below hb1) (fun b h h' => ⟨h, h'⟩)) (fun b h => by have := h.2; omega) (Nat.le_refl _) (by simpa using hc) (World.ownsRow_nil _ _ _ _))
  clear ht hts r3 r4 hw hb1 k1
  go_enter Tryz.func32, Tryz.ntmps32
  go_wp2_with fail
  rw [← HW.out]
  clear HW
  refine HN.out.mono ?_
  rintro e w2 ⟨A, c, rfl, ho, hb2, _, _⟩
  have K1 := block_below HK1.out hb2
  have x1 := cell_of_block K1 0
  have f1 := free_of_block K1 0
  simp at x1
  have HK2 := Lib.hid K1
  have HO := Lib.hid (show NdOwn (t.flat emptyB (-1) 0) w1 (.slice A (t.flat emptyB (-1) 0).length c) w2 from by
    obtain ⟨A', c', e, hc'⟩ := own_slice ho
    injection e with _ _ e3
    exact ⟨hb2, A, c, rfl, by omega, Rds.of_own ho, ho⟩)
  clear ho hb2 K1 HN
  go_wp2
  refine bodyPost_ret (results_cell_row rfl _ _ (w.heap.size + 1) _ _ _ _ rfl (block_setCell HK2.out _ _) Tryz.underlying25 rfl ((info_size infoValue).trans (by simp))) rfl ?_
  exact ⟨_, rfl, NdOwn.cell HB1.out HO.out (by omega) (by omega) _⟩
theorem told_of {t : Tree} (hok : t.ok = true) {g : Bool} (h : IsVal (t.flat emptyB (-1) 0) g) : g = t.good := by
  unfold IsVal at h
  rw [Bool.eq_iff_iff, h]
  constructor
  · rintro ⟨t', h1, h2, h3⟩
    rw [flat_inj rfl hok h1 h2]
    exact h3
  · intro hg
    exact ⟨t, rfl, hok, hg⟩
set_option maxRecDepth 100000 in
set_option maxHeartbeats 1600000 in
theorem sTell_any (t : Tree) (hok : t.ok = true) (hc : t.count ≤ 1000000) (F : Nat → Prop) (cs : List Value) (w : World) (ht : LtAt F w cs t) :
    Calls Tryz.prog 26 #[.agg cs.toArray] w (ToldPost (some t) w) := by
  have HT := Lib.hid (fun W (hb : Below w.heap.size w W) => sOf_any t (Tree.ok_shaped t hok) (by omega) F cs W (ht.below hb))
  obtain ⟨A1, c1, A2, c2, rs, rfl, g3, g4, r3, r4, hts⟩ := ht.open
  obtain ⟨w1, hw⟩ : ∃ w1, w1 = (w.alloc (.cells #[.int .i64 t.kind, .int .i64 t.num, .string t.text, .slice A1 t.names.length c1, .slice A2 t.kids.length c2] 44 (0, 0))).alloc (.cells #[.slice none 0 0] 25 (0, 0)) := ⟨_, rfl⟩
  have hb1 : Below w.heap.size w w1 := by rw [hw]; exact ((Below.refl _ _).alloc (Nat.le_refl _) _).alloc (by simp) _
  have k1 : w1.heap[w.heap.size + 1]? = some (.cells #[.slice none 0 0] 25 (0, 0)) := by rw [hw]; (repeat (first | with_reducible assumption | (with_reducible refine blk_new _ ?_; (first | rfl | (simp; done) | (simp; omega))) | with_reducible apply block_setCell | (with_reducible refine blk_skip _ _ ?_ ?_; rotate_left; (first | (simp; done) | (simp; omega))) | with_reducible refine blk_old ?_))
  have hs1 : w1.heap.size = w.heap.size + 2 := by rw [hw]; simp
  have HW := Lib.hid hw
  have HB1 := Lib.hid hb1
  have HK1 := Lib.hid k1
  clear ht hts r3 r4 hw hb1 k1
  go_enter Tryz.func26, Tryz.ntmps26
  go_wp2_with fail
  rw [← HW.out]
  clear HW
  refine (HT.out w1 HB1.out).mono ?_
  rintro e w2 ⟨u, rfl, hown⟩
  obtain ⟨A5, c5, rfl⟩ := hown.shape
  have hb2 := hown.1
  have hs2 := hb2.size
  have k2 := heap_alloc_new w2 (.cells #[.slice A5 (t.flat emptyB (-1) 0).length c5] 25 (0, 0))
  have b2 : Below w2.heap.size w2 (w2.alloc (.cells #[.slice A5 (t.flat emptyB (-1) 0).length c5] 25 (0, 0))) := (Below.refl _ _).alloc (Nat.le_refl _) _
  have hr2 : Rds (fun b => w1.heap.size ≤ b) w2 A5 (ndCells (t.flat emptyB (-1) 0)) ∧ (t.flat emptyB (-1) 0).length ≤ c5 := by
    obtain ⟨_, A', c', e, h, hr, _⟩ := hown
    injection e with e1 _ e3
    subst e1 e3
    exact ⟨hr, h⟩
  have HFL := Lib.hid (Tree.flat_length t emptyB (-1) 0)
  have HFS := Lib.hid (fun x hx => flat_sz t hok emptyB (-1) 0 (Nat.zero_le _) x hx)
  have HG := Lib.hid (fun W (hb : Below w2.heap.size w2 W) => sGoodValue_any (t.flat emptyB (-1) 0) (by have := HFL.out; omega) (fun x hx => by have := HFS.out x hx; omega) _ A5 c5 W (hr2.1.frame (Agree.of_below hb)))
  have HOK := Lib.hid hok
  have HO := Lib.hid hown
  have z2 : (w2.alloc (.cells #[.slice A5 (t.flat emptyB (-1) 0).length c5] 25 (0, 0))).cell? ⟨w2.heap.size, 0, none⟩ = some (.slice A5 (t.flat emptyB (-1) 0).length c5) := cell_of_block k2 0
  have HK2 := Lib.hid k2
  have B2 := Lib.hid b2
  clear hown hb2 k2 b2 hr2 hok HT
  go_wp2_with fail
  generalize w2.alloc (.cells #[.slice A5 (t.flat emptyB (-1) 0).length c5] 25 (0, 0)) = w3 at z2 HK2 B2 ⊢
  refine (HG.out w3 B2.out).mono ?_
  rintro e w4 ⟨hb4, g, rfl, hg⟩
  have hge := told_of HOK.out hg
  have k4 := block_below HK2.out hb4
  have z4 : w4.cell? ⟨w2.heap.size, 0, none⟩ = some (.slice A5 (t.flat emptyB (-1) 0).length c5) := cell_of_block k4 0
  have hb24 := below_then B2.out B2.out.size hb4
  have kr := block_below (block_below HK1.out HO.out.1) hb24
  have xr := cell_of_block kr 0
  have fr := free_of_block kr 0
  simp at xr
  have HKR := Lib.hid kr
  have HB24 := Lib.hid hb24
  have HGE := Lib.hid hge
  clear hb4 hg hge k4 hb24 kr z2
  cases g
  · go_wp2
    refine bodyPost_ret (results_row_one rfl _ _ (w.heap.size + 1) _ _ _ _ rfl (block_setCell HKR.out _ _) Tryz.underlying25 rfl ((info_size infoValue).trans (by simp))) rfl ?_
    exact ⟨[], _, false, rfl, .inr ⟨rfl, rfl, HGE.out.symm⟩, NdOwn.nil (((below_then HB1.out HB1.out.size (below_then HO.out.1 HO.out.1.size HB24.out)).setCell (p := ⟨w.heap.size + 1, 0, none⟩) (by show w.heap.size ≤ w.heap.size + 1; omega) _))⟩
  · go_wp2
    refine bodyPost_ret (results_row_one rfl _ _ (w.heap.size + 1) _ _ _ _ rfl (block_setCell HKR.out _ _) Tryz.underlying25 rfl ((info_size infoValue).trans (by simp))) rfl ?_
    exact ⟨_, _, true, rfl, .inl ⟨rfl, t, rfl, HGE.out.symm, rfl⟩, NdOwn.cell HB1.out (HO.out.later HB24.out) (by omega) (by omega) _⟩
end Go.Proofs.YteeppdobeeodiaaGreatDoor
