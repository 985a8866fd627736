/- The reference's l1Flat, l1Of. -/
import Derived.Test.YtcbcndoddikpjaaGreatDoorSp1
import Derived.Test.YtcbcndoddikpjaaGreatDoorJn9
namespace Go.Proofs.YtcbcndoddikpjaaGreatDoor
open Go.RowKit
def FlatPost (base : Nat) (xs : List Nd) (v : Value) (w : World) (e : Ending) (w' : World) : Prop :=
  ∃ A c, e = .returned (.slice A xs.length c) ∧ w'.ownsRow base 63 5 (.slice A xs.length c) xs.length (ndCells xs) ∧ Below base w w' ∧ (∀ k, k < w.heap.size → v.ownBlock ≠ some k → w'.heap[k]? = w.heap[k]?) ∧ ∀ k, (Value.slice A xs.length c).ownBlock = some k → v.ownBlock = some k ∨ w.heap.size ≤ k
structure FInv (base : Nat) (l : List Nd) (v : Value) (vc : Array Value) (w wx : World) (A' : Option Addr) (c' : Nat) : Prop where
  own : wx.ownsRow base 63 5 (.slice A' l.length c') l.length (ndCells l)
  bel : Below base w wx
  blk : wx.heap[w.heap.size]? = some (.cells vc 40 (0, 0))
  old : ∀ k, k < w.heap.size → v.ownBlock ≠ some k → wx.heap[k]? = w.heap[k]?
  who : ∀ k, (Value.slice A' l.length c').ownBlock = some k → v.ownBlock = some k ∨ w.heap.size ≤ k
theorem FInv.next {base : Nat} {l l' : List Nd} {v : Value} {vc : Array Value} {w wx w4 : World} {A' A4 : Option Addr} {c' c4 : Nat} (h : FInv base l v vc w wx A' c') (hbase : base ≤ w.heap.size) (o : Obj)
    (ho : w4.ownsRow base 63 5 (.slice A4 l'.length c4) l'.length (ndCells l')) (hb : Below base (wx.alloc o) w4) (hk : ∀ k, k < (wx.alloc o).heap.size → (Value.slice A' l.length c').ownBlock ≠ some k → w4.heap[k]? = (wx.alloc o).heap[k]?)
    (hw : ∀ k, (Value.slice A4 l'.length c4).ownBlock = some k → (Value.slice A' l.length c').ownBlock = some k ∨ (wx.alloc o).heap.size ≤ k) : FInv base l' v vc w w4 A4 c4 := by
  have hsz := h.bel.size
  have hs : (wx.alloc o).heap.size = wx.heap.size + 1 := by simp
  have hbx : base ≤ wx.heap.size := Nat.le_trans hbase hsz
  have hn := own_not_at h.own h.blk (by decide)
  refine ⟨ho, (h.bel.trans ((Below.refl base wx).alloc hbx o)).trans hb, ?_, fun k hk1 hk2 => ?_, fun k hk1 => ?_⟩
  · have hlt := lt_of_block h.blk
    rw [hk _ (by omega) (fun e => hn _ e rfl), Go.heap_alloc_old wx o hlt]
    exact h.blk
  · rw [hk k (by omega) (fun e => by rcases h.who k e with e | e; exact hk2 e; omega), Go.heap_alloc_old wx o (by omega)]
    exact h.old k hk1 hk2
  · rcases hw k hk1 with e | e
    · exact h.who k e
    · exact .inr (by omega)
def FlatSpec (t : Tree) : Prop := t.shaped → ∀ (base : Nat) (xs : List Nd) (A : Option Addr) (c : Nat) (name : ByteArray) (up : Int) (F : Nat → Prop) (cs : List Value) (w : World), LtAt F w cs t → (∀ b, F b → b < base) → base ≤ w.heap.size → xs.length + t.count ≤ 1000000000 →
  w.ownsRow base 63 5 (.slice A xs.length c) xs.length (ndCells xs) → Calls Tryz.prog 67 #[.agg cs.toArray, .string name, .int .i64 up, .slice A xs.length c] w (FlatPost base (xs ++ t.flat name up xs.length) (.slice A xs.length c) w)
set_option maxRecDepth 100000 in
set_option maxHeartbeats 4000000 in
theorem sFlat_any : ∀ t, FlatSpec t := Tree.ind fun t ih hsh base xs A c name up F cs w ht hF hbase hsize ho => by
  obtain ⟨A1, c1, A2, c2, rs, rfl, g3, g4, r3, r4, hts⟩ := ht.open
  have hcnt := t.count_eq
  have hk0 := heap_alloc_new w (.cells #[.int .i64 t.kind, .int .i64 t.num, .string t.text, .slice A1 t.names.length c1, .slice A2 t.kids.length c2] 40 (0, 0))
  have hb0 : Below w.heap.size w (w.alloc (.cells #[.int .i64 t.kind, .int .i64 t.num, .string t.text, .slice A1 t.names.length c1, .slice A2 t.kids.length c2] 40 (0, 0))) := (Below.refl _ _).alloc (Nat.le_refl _) _
  have hs0 : (w.alloc (.cells #[.int .i64 t.kind, .int .i64 t.num, .string t.text, .slice A1 t.names.length c1, .slice A2 t.kids.length c2] 40 (0, 0))).heap.size = w.heap.size + 1 := by simp
  have HO := Lib.hid (own_below ho hb0)
  have HTS := Lib.hid hts
  have R3 := Lib.hid r3
  have R4 := Lib.hid r4
  have HIH := Lib.hid ih
  rw [Tree.shaped_eq] at hsh
  have HSH := Lib.hid hsh
  have HFF := Lib.hid hF
  have HB0 := Lib.hid hb0
  have HK0 := Lib.hid hk0
  have HOW := Lib.hid (fun k hk => (own_base ho k hk).2)
  clear ho hts r3 r4 ht ih hsh hF hb0 hk0
  go_enter Tryz.func67, Tryz.ntmps67
  go_wp2_with (at_builtin; refine append_one base rfl (.tmp 15) (.tmp 25) 26 63 _ 5 56 rfl Tryz.underlying26 infoNode rfl (by decide) (by decide) (.slice A xs.length c) xs.length (ndCells xs) [.int .i64 t.kind, .int .i64 t.num, .string t.text, .string name, .int .i64 up] rfl rfl (by simp) (by simp [Value.oneCell']) rfl HO.out (by simp; omega) (by omega) ?_; intro A3 c3 w1 hc3 hown1 hg1 hat1; have hk1 := (hg1.block w.heap.size (by simp) (fun e => by have := HOW.out _ e.symm; omega)).trans HK0.out; have HK1 := Lib.hid hk1; have y4 := (cells5 HK1.out).2.2.2.2; have HH1 := Lib.hid hown1; have HG1 := Lib.hid hg1; have HAT := Lib.hid hat1; clear hk1 hown1 hg1 hat1)
  have hc1 : (ndsAt t name up xs 0).length = xs.length + 1 := by rw [ndsAt_length]; simp [Tree.countL]
  have hinv0 : FInv base (ndsAt t name up xs 0) (.slice A xs.length c) #[.int .i64 t.kind, .int .i64 t.num, .string t.text, .slice A1 t.names.length c1, .slice A2 t.kids.length c2] w w1 A3 c3 := by
    refine ⟨?_, ((HB0.out.mono hbase).grown HG1.out (by simp; omega) (fun k hk => (own_base HO.out k hk).1)), HK1.out, fun k hk1 hk2 => ?_, fun k hk => ?_⟩
    · have h := HH1.out
      rw [hc1, ndsAt_zero]
      simpa [ndCells, Nd.cells] using h
    · exact (HG1.out.block k (by simp; omega) (fun e => hk2 e.symm)).trans (Go.heap_alloc_old _ _ hk1)
    · rw [hc1] at hk
      rcases HAT.out with e | ⟨b, e, hb⟩
      · rw [e] at hk
        exact .inl hk
      · rw [e] at hk
        injection hk with hk
        simp at hb
        exact .inr (by omega)
  have HINV := Lib.hid hinv0
  have hcnl := Tree.kids_le_count t.kids
  rw [← hc1]
  clear hinv0 hc1 y4
  go_loopw [3, 30] (fun ov iv wx => ∃ (i : Nat) (A' : Option Addr) (c' : Nat), ov = .slice A' (ndsAt t name up xs i).length c' ∧ iv = .int .i64 (i : Int) ∧ i ≤ t.kids.length ∧ Hid (FInv base (ndsAt t name up xs i) (.slice A xs.length c) #[.int .i64 t.kind, .int .i64 t.num, .string t.text, .slice A1 t.names.length c1, .slice A2 t.kids.length c2] w wx A' c')) (fun _ iv _ => t.kids.length - (intOf iv).toNat)
  case atStart => exact ⟨0, A3, c3, rfl, rfl, Nat.zero_le _, HINV.out⟩
  case round =>
    clear HINV
    obtain ⟨i, A', c', rfl, rfl, hi, hinv⟩ := hrel
    have HI := Lib.hid hinv
    have hbx := HI.out.bel
    have hszx : base ≤ wr.heap.size := Nat.le_trans hbase hbx.size
    obtain ⟨x0, x1, x2, x3, x4⟩ := cells5 HI.out.blk
    have hvl := lt_of_block HI.out.blk
    by_cases hlt : i < t.kids.length
    · have hag : Agree F w wr := agree_base hbx HFF.out
      obtain ⟨bk, ok, r, k, Ak1, ck1, Ak2, ck2, rfl, hFk, hkl, hkx, hkm, hri, hre, hkt, k0, k1, k2, k3, k4⟩ := lt_at (R4.out.frame hag) (HTS.out.frame hag (fun _ h _ => h)) i hlt
      have hkc := Tree.countL_take_succ t.kids i k hkx
      have hkc2 := Tree.countL_take_le t.kids (i + 1)
      have hnl := ndsAt_length t name up xs i
      have hbn : Below wr.heap.size wr (wr.alloc (.cells #[.int .i64 k.kind, .int .i64 k.num, .string k.text, .slice Ak1 k.names.length ck1, .slice Ak2 k.kids.length ck2] 40 (0, 0))) := (Below.refl _ _).alloc (Nat.le_refl _) _
      have hrec := HIH.out k hkm (Tree.shapedL_mem HSH.out.2 hkm) base (ndsAt t name up xs i) A' c' (kidName t i) (xs.length : Int) F r _ (hkt.below hbn) HFF.out (Nat.le_trans hszx hbn.size) (by rw [hnl]; omega) (own_below HI.out.own hbn)
      rw [← ndsAt_succ hkx HSH.out.1] at hrec
      rw [hre] at hrec
      have hr3 := R3.out.frame hag
      clear hinv hbx hag hkt hkx hkm hnl hbn hri hre
      by_cases h7 : t.kind = 7
      · have hnk := HSH.out.1 h7
        obtain ⟨bn, on, s, rfl, hnl, n0, hs, _⟩ := name_at hr3 i (by omega)
        have hkn : kidName t i = s := by
          rw [kidName, if_pos (by simpa using h7), List.getD_eq_getElem?_getD, hs]
          rfl
        rw [hkn] at hrec
        rw [h7] at x0
        have hltn : i < t.names.length := by omega
        have HREC := Lib.hid hrec
        have H7 := Lib.hid h7
        clear hrec hs hkn hr3 hnk h7
        go_wp2_with fail
        rw [← H7.out]
        refine HREC.out.mono ?_
        rintro e w4 ⟨A5, c5, rfl, hown5, hb5, hk5, hw5⟩
        have HI5 := Lib.hid (HI.out.next hbase _ hown5 hb5 hk5 hw5)
        clear hown5 hb5 hk5 hw5 HREC
        go_wp2
        go_roundw
        case rel => exact ⟨i + 1, A5, c5, rfl, by go_num, by omega, HI5.out⟩
        case measure => simp [intOf]; omega
      · have hkn : kidName t i = ⟨#[]⟩ := by
          rw [kidName, if_neg (by simpa using h7)]
          rfl
        rw [hkn] at hrec
        have HREC := Lib.hid hrec
        clear hrec hkn hr3
        go_wp2_with fail
        refine HREC.out.mono ?_
        rintro e w4 ⟨A5, c5, rfl, hown5, hb5, hk5, hw5⟩
        have HI5 := Lib.hid (HI.out.next hbase _ hown5 hb5 hk5 hw5)
        clear hown5 hb5 hk5 hw5 HREC
        go_wp2
        go_roundw
        case rel => exact ⟨i + 1, A5, c5, rfl, by go_num, by omega, HI5.out⟩
        case measure => simp [intOf]; omega
    · obtain rfl : i = t.kids.length := by omega
      have HALL := Lib.hid (ndsAt_all t name up xs HSH.out.1)
      clear hinv hbx
      go_wp2
      go_ret
      have hI := HI.out
      rw [HALL.out] at hI
      refine ⟨A', c', ?_, hI.own, hI.bel, hI.old, hI.who⟩
      rw [← HALL.out]
      rfl
def SOfPost (t : Tree) (w : World) (e : Ending) (w' : World) : Prop := ValuePost t w e w'
end Go.Proofs.YtcbcndoddikpjaaGreatDoor
