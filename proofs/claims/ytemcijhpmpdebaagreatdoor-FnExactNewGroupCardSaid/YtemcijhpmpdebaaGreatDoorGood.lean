/- The walk of write and string: a tree's text. The walks of string and good. -/
import Derived.Test.YtemcijhpmpdebaaGreatDoorWr
import Derived.Test.YtemcijhpmpdebaaGreatDoorOnce
import Derived.Test.YtemcijhpmpdebaaGreatDoorShelf
namespace Go.Proofs.YtemcijhpmpdebaaGreatDoor
open Go.RowKit
mutual
def Tree.shaped : Tree → Prop
  | .mk k _ _ ns ks => (k = 7 → ns.length = ks.length) ∧ Tree.shapedL ks
def Tree.shapedL : List Tree → Prop
  | [] => True
  | k :: ks => k.shaped ∧ Tree.shapedL ks
end
theorem Tree.shaped_eq (t : Tree) : t.shaped = ((t.kind = 7 → t.names.length = t.kids.length) ∧ Tree.shapedL t.kids) := by cases t; rfl
theorem Tree.shapedL_mem : ∀ {ks : List Tree} {k : Tree}, Tree.shapedL ks → k ∈ ks → k.shaped
  | [], _, _, h => by simp at h
  | x :: ks, k, hs, h => by
    simp only [Tree.shapedL] at hs
    rcases List.mem_cons.1 h with h | h
    · rw [h]; exact hs.1
    · exact Tree.shapedL_mem hs.2 h
/-- What the library's tables hold, below block B. -/
structure Tabs (B : Nat) (w : World) : Prop where
  pow10 : Lib.TabIs Tryz.prog w "internal/strconv.uint64pow10" .u64 Lib.pow10Tab
  lt : 0 < B
theorem Tabs.below {B : Nat} {w w' : World} (h : Tabs B w) (hb : Below B w w') : Tabs B w' := ⟨var?_below hb (g := 0) (by kernel_rfl) h.lt h.pow10, h.lt⟩
theorem Tabs.mono {B C : Nat} {w : World} (h : Tabs B w) (hBC : B ≤ C) : Tabs C w := ⟨h.pow10, Nat.lt_of_lt_of_le h.lt hBC⟩
theorem below_grow (w : World) (k : Nat) (os : Array Obj) : Below w.heap.size w (Sort.grow (w.drewN k) os) :=
  ⟨rfl, rfl, rfl, by show w.heap.size ≤ ((w.drewN k).heap ++ os).size; rw [Array.size_append]; exact Nat.le_add_right _ _, fun i hi => by
    show ((w.drewN k).heap ++ os)[i]? = w.heap[i]?
    rw [Array.getElem?_append_left (by exact hi)]
    rfl⟩
theorem itoa_any (B : Nat) (n : Int) (h0 : -9223372036854775808 ≤ n) (h1 : n ≤ 9223372036854775807) (w : World) (ht : Tabs B w) :
    Calls Tryz.prog 148 #[.int .i64 n] w fun e w' => e = .returned (.string ⟨(Lib.itoa n).toArray⟩) ∧ Below w.heap.size w w' :=
  (Tryz.strconv_Itoa n h0 h1 w ht.pow10).mono fun _ _ ⟨h1, k, os, h2⟩ => ⟨h1, by rw [h2]; exact below_grow w k os⟩
theorem cells_bv (l : List UInt8) : Lib.strCells ⟨l.toArray⟩ = bv l := by simp [Lib.strCells, bv]
theorem cells_bv' (s : ByteArray) : Lib.strCells s = bv s.data.toList := by simp [Lib.strCells, bv]
theorem bv_app (a b : List UInt8) : bv (a ++ b) = bv a ++ bv b := by simp [bv]
theorem builder_below {B b : Nat} {bs : List Value} {w w1 : World} (h : BuilderIs B b bs w) (hb : Below w.heap.size w w1) : BuilderIs B b bs w1 := by
  have key : ∀ p, Lib.BuilderAt 181 5 B b p bs w → Lib.BuilderAt 181 5 B b p bs w1 := by
    rintro p ⟨h1, v, h2, h3, h4⟩
    exact ⟨h1, v, block_below h2 hb, own_below h3 hb, h4⟩
  rcases h with h | h
  · exact .inl (key _ h)
  · exact .inr (key _ h)
/-- What write leaves. -/
def WrPost (B b : Nat) (bs : List Value) (l : List UInt8) (w : World) (e : Ending) (w' : World) : Prop := e = .returned (.tuple #[]) ∧ BuilderIs B b (bs ++ bv l) w' ∧ Below B w w'
/-- What is shown of write at a tree. -/
def WrSpec (t : Tree) : Prop := t.bounded = true → t.shaped → t.count ≤ 1000000000 → ∀ (B b : Nat) (F : Nat → Prop) (bs : List Value) (v : Value) (w : World), TreeAt F w v t → (∀ x, F x → x < B) → BuilderIs B b bs w → B ≤ w.heap.size → bs.length + t.wr.length ≤ 140737488355328 → Tabs B w →
    Calls Tryz.prog 141 #[v, .pointer (some ⟨b, 0, none⟩)] w (WrPost B b bs t.wr w)
set_option maxRecDepth 100000 in
set_option maxHeartbeats 2000000 in
theorem write_leaf (t : Tree) (k6 : t.kind ≠ 6) (k7 : t.kind ≠ 7) : WrSpec t := by
  intro hbd hsh hcn B b F bs v w ht hFB hbi hBw hlen htab
  obtain ⟨vb, A1, c1, A2, c2, ps, rfl, hF, hl, h0, h1, h2, h3, g3, r3, h4, g4, r4, hks⟩ := ht.open
  have HWR := Lib.hid t.wr_eq
  have HBD := Lib.hid hbd
  have hbd' := hbd
  rw [Tree.bounded_eq] at hbd'
  simp only [Bool.and_eq_true] at hbd'
  obtain ⟨⟨⟨b1, b2⟩, b3⟩, b4⟩ := hbd'
  have b2' := strOK_len _ b2
  have b2s : t.text.size ≤ 24 := by simpa using b2'
  by_cases k1 : t.kind = 1
  · rw [t.wr_eq, if_pos k1] at hlen
    have K1 := Lib.hid k1
    go_enter Tryz.func141, Tryz.ntmps141
    go_wp2_with fail
    refine (writeString_any B b bs _ _ hbi (by show bs.length + 4 ≤ 140737488355328; exact hlen) hBw).mono ?_
    rintro e w1 ⟨rfl, hb1, hbl1⟩
    go_wp2
    go_end0
    exact ⟨rfl, by rw [HWR.out, if_pos K1.out]; exact hb1, hbl1⟩
  by_cases k2 : t.kind = 2
  · rw [t.wr_eq, if_neg k1, if_pos k2] at hlen
    have K1 := Lib.hid k2
    go_enter Tryz.func141, Tryz.ntmps141
    go_wp2_with fail
    refine (writeString_any B b bs _ _ hbi (by show bs.length + 5 ≤ 140737488355328; exact hlen) hBw).mono ?_
    rintro e w1 ⟨rfl, hb1, hbl1⟩
    go_wp2
    go_end0
    exact ⟨rfl, by rw [HWR.out, if_neg k1, if_pos K1.out]; exact hb1, hbl1⟩
  by_cases k3 : t.kind = 3
  · rw [t.wr_eq, if_neg k1, if_neg k2, if_pos k3] at hlen
    have K1 := Lib.hid k3
    go_enter Tryz.func141, Tryz.ntmps141
    go_wp2_with fail
    refine (writeString_any B b bs _ _ hbi (by show bs.length + 4 ≤ 140737488355328; exact hlen) hBw).mono ?_
    rintro e w1 ⟨rfl, hb1, hbl1⟩
    go_wp2
    go_end0
    exact ⟨rfl, by rw [HWR.out, if_neg k1, if_neg k2, if_pos K1.out]; exact hb1, hbl1⟩
  by_cases k4 : t.kind = 4
  · rw [t.wr_eq, if_neg k1, if_neg k2, if_neg k3, if_pos k4] at hlen
    have K4 := Lib.hid k4
    have hnum : -1000000000 ≤ t.num ∧ t.num ≤ 1000000000 := by simpa [numOK] using b1
    have hil := itoa_len t.num b1
    go_enter Tryz.func141, Tryz.ntmps141
    go_wp2_with fail
    refine (itoa_any B t.num (by omega) (by omega) _ htab).mono ?_
    rintro e w1 ⟨rfl, hb1⟩
    go_wp2_with fail
    refine (writeString_any B b bs ⟨(Lib.itoa t.num).toArray⟩ _ (builder_below hbi hb1) hlen (Nat.le_trans hBw hb1.size)).mono ?_
    rintro e w2 ⟨rfl, hb2, hbl2⟩
    go_wp2
    go_end0
    exact ⟨rfl, by rw [HWR.out, if_neg k1, if_neg k2, if_neg k3, if_pos K4.out, ← cells_bv]; exact hb2, (hb1.mono hBw).trans hbl2⟩
  by_cases k5 : t.kind = 5
  · rw [t.wr_eq, if_neg k1, if_neg k2, if_neg k3, if_neg k4, if_pos k5] at hlen
    have K5 := Lib.hid k5
    have hql := quoted_len t.text.data.toList
    have HW := Lib.hid (written_any t.text (by omega) w)
    go_enter Tryz.func141, Tryz.ntmps141
    go_wp2_with fail
    refine HW.out.mono ?_
    rintro e w1 ⟨rfl, hb1⟩
    go_wp2_with fail
    refine (writeString_any B b bs ⟨(quoted t.text.data.toList).toArray⟩ _ (builder_below hbi hb1) hlen (Nat.le_trans hBw hb1.size)).mono ?_
    rintro e w2 ⟨rfl, hb2, hbl2⟩
    go_wp2
    go_end0
    exact ⟨rfl, by rw [HWR.out, if_neg k1, if_neg k2, if_neg k3, if_neg k4, if_pos K5.out, ← cells_bv]; exact hb2, (hb1.mono hBw).trans hbl2⟩
  have q1 : (t.kind == 1) = false := by simpa using k1
  have q2 : (t.kind == 2) = false := by simpa using k2
  have q3 : (t.kind == 3) = false := by simpa using k3
  have q4 : (t.kind == 4) = false := by simpa using k4
  have q5 : (t.kind == 5) = false := by simpa using k5
  have q6 : (t.kind == 6) = false := by simpa using k6
  have q7 : (t.kind == 7) = false := by simpa using k7
  go_enter Tryz.func141, Tryz.ntmps141
  go_wp2
  go_end0
  exact ⟨rfl, by rw [HWR.out, if_neg k1, if_neg k2, if_neg k3, if_neg k4, if_neg k5, if_neg k6, if_neg k7]; simpa [bv] using hbi, Below.refl _ _⟩
set_option maxRecDepth 100000 in
set_option maxHeartbeats 2000000 in
theorem write_list (t : Tree) (k6 : t.kind = 6) (ih : ∀ x ∈ t.kids, WrSpec x) : WrSpec t := by
  intro hbd hsh hcn B b F bs v w ht hFB hbi hBw hlen htab
  have k1 : t.kind ≠ 1 := by omega
  have k2 : t.kind ≠ 2 := by omega
  have k3 : t.kind ≠ 3 := by omega
  have k4 : t.kind ≠ 4 := by omega
  have k5 : t.kind ≠ 5 := by omega
  obtain ⟨vb, A1, c1, A2, c2, ps, rfl, hF, hl, h0, h1, h2, h3, g3, r3, h4, g4, r4, hks⟩ := ht.open
  have HWR := Lib.hid t.wr_eq
  have HBD := Lib.hid hbd
  have hbd' := hbd
  rw [Tree.bounded_eq] at hbd'
  simp only [Bool.and_eq_true] at hbd'
  obtain ⟨⟨⟨b1, b2⟩, b3⟩, b4⟩ := hbd'
  have b2' := strOK_len _ b2
  have b2s : t.text.size ≤ 24 := by simpa using b2'
  have KJ := Lib.hid k6
  have kb := k6
  rw [Tree.shaped_eq] at hsh
  have hce := t.count_eq
  have hkl := Tree.kids_le_count t.kids
  have hpl := Tree.pieces_len t.kids b4 false true t.names b3
  have ro : ∀ (h : 0 < (ByteArray.mk #[91, 93]).size), ((ByteArray.mk #[91, 93])[0]'h).toNat = 91 := fun _ => rfl
  have rc : ∀ (h : 1 < (ByteArray.mk #[91, 93]).size), ((ByteArray.mk #[91, 93])[1]'h).toNat = 93 := fun _ => rfl
  have HSH := Lib.hid hsh
  have IH := Lib.hid ih
  have HPL := Lib.hid hpl
  have HCE := Lib.hid hce
  have HFB := Lib.hid hFB
  have B3 := Lib.hid b3
  have B4 := Lib.hid b4
  rw [t.wr_eq, if_neg k1, if_neg k2, if_neg k3, if_neg k4, if_neg k5, if_pos KJ.out, List.length_cons, List.length_append, List.length_singleton] at hlen
  have hlen2 := hlen
  have hcl : Tree.countL t.kids ≤ 1000000000 := by omega
  have hvb : vb < B := hFB _ hF
  clear hsh ih hce hFB b3 b4 hbd k6 hlen hcn
  rw [kb] at h0
  clear kb
  go_enter Tryz.func141, Tryz.ntmps141
  go_wp2_with fail
  refine (writeByte_any B b bs 91 _ hbi (by omega) hBw).mono ?_
  rintro e w1 ⟨rfl, hb1, hbl1⟩
  have hBw1 := Nat.le_trans hBw hbl1.size
  have h0' := (hbl1.cell (p := ⟨vb, 0, none⟩) hvb).trans h0
  have h4' := (hbl1.cell (p := ⟨vb, 4, none⟩) hvb).trans h4
  clear hbi
  go_wp2_with fail
  go_loopw [5, 6, 58] (fun _ _ vi wr => ∃ (i : Nat) (acc : List UInt8), i ≤ t.kids.length ∧ vi = .int .i64 i ∧ Hid (acc ++ Tree.pieces false (decide (i = 0)) (t.names.drop i) (t.kids.drop i) = Tree.pieces false true t.names t.kids) ∧ BuilderIs B b (bs ++ bv (91 :: acc)) wr ∧ Below B w wr) (fun _ _ vi _ => t.kids.length - (intOf vi).toNat)
  case atStart => exact ⟨0, [], Nat.zero_le _, rfl, rfl, by simpa [bv] using hb1, hbl1⟩
  case round =>
    obtain ⟨i, acc, hi, rfl, hacc, hbw, hbel⟩ := hrel
    have hBwr := Nat.le_trans hBw hbel.size
    have hag : Agree F w wr := ⟨hbel.size, fun x hx _ => hbel.block x (HFB.out x hx)⟩
    have m0 := (hbel.cell (p := ⟨vb, 0, none⟩) hvb).trans h0
    have m3 := (hbel.cell (p := ⟨vb, 3, none⟩) hvb).trans h3
    have m4 := (hbel.cell (p := ⟨vb, 4, none⟩) hvb).trans h4
    by_cases hlt : i < t.kids.length
    · obtain ⟨b2, o2, p, kd, rfl, hl2, hc2, hkt, hkd, hmem⟩ := kid_at (r4.frame hag) (hks.frame hag (fun _ h _ => h)) i hlt
      have hstep := Tree.pieces_step false (decide (i = 0)) t.names t.kids i kd hkd ⟨#[]⟩ (fun h => by cases h)
      have hkb : kd.bounded = true := by have := B4.out; rw [Tree.boundedL_all, List.all_eq_true] at this; exact this kd hmem
      have hkc := Tree.countL_mem _ _ hmem
      have hkw := kd.wr_len hkb
      have hal := congrArg List.length hacc.out
      rw [hstep] at hal
      simp only [List.length_append] at hal
      have HST := Lib.hid hstep
      clear hstep
      have HKD := Lib.hid hkd
      by_cases hi0 : i = 0
      · have HI0 := Lib.hid hi0
        have hd0 : decide (i = 0) = true := by simp [hi0]
        rw [hd0] at hal
        have hnpos : ¬ 0 < i := by omega
        have HD0 := Lib.hid hd0
        clear hd0 hi0
        go_wp2_with fail
        refine (IH.out kd hmem hkb (Tree.shapedL_mem HSH.out.2 hmem) (by omega) B b F _ _ _ hkt HFB.out hbw hBwr (by simp only [List.length_append, bv_length, List.length_cons]; omega) (htab.below hbel)).mono ?_
        rintro e w5 ⟨rfl, hb5, hbl5⟩
        go_wp2
        go_roundw
        case rel => exact ⟨i + 1, acc ++ kd.wr, by omega, by go_num, by show _ = _; rw [← hacc.out, HST.out, HD0.out]; simp, by simpa [bv, List.append_assoc] using hb5, hbel.trans hbl5⟩
        case measure => simp [intOf]; omega
      · have hd0 : decide (i = 0) = false := by simp [hi0]
        rw [hd0] at hal
        have hnpos : 0 < i := by omega
        have HD0 := Lib.hid hd0
        clear hd0 hi0
        go_wp2_with fail
        refine (writeByte_any B b _ 44 _ hbw (by rw [List.length_append, bv_length, List.length_cons]; omega) hBwr).mono ?_
        rintro e w2 ⟨rfl, hb2, hbl2⟩
        have hbel2 := hbel.trans hbl2
        have hBw2 := Nat.le_trans hBw hbel2.size
        have hag2 : Agree F wr w2 := ⟨hbl2.size, fun x hx _ => hbl2.block x (HFB.out x hx)⟩
        have hkt2 := hkt.frame hag2 (fun _ h _ => h)
        have n0 := (hbel2.cell (p := ⟨vb, 0, none⟩) hvb).trans h0
        have n3 := (hbel2.cell (p := ⟨vb, 3, none⟩) hvb).trans h3
        go_wp2_with fail
        refine (IH.out kd hmem hkb (Tree.shapedL_mem HSH.out.2 hmem) (by omega) B b F _ _ _ hkt2 HFB.out hb2 hBw2 (by simp only [List.length_append, bv_length, List.length_cons, List.length_nil]; omega) (htab.below hbel2)).mono ?_
        rintro e w5 ⟨rfl, hb5, hbl5⟩
        go_wp2
        go_roundw
        case rel => exact ⟨i + 1, acc ++ [44] ++ kd.wr, by omega, by go_num, by show _ = _; rw [← hacc.out, HST.out, HD0.out]; simp, by simpa [bv, List.append_assoc] using hb5, hbel2.trans hbl5⟩
        case measure => simp [intOf]; omega
    · have hend := Tree.pieces_end false (decide (i = 0)) t.names t.kids i (by omega)
      have hacc2 := hacc.out
      rw [hend, List.append_nil] at hacc2
      have HA := Lib.hid hacc2
      have hal := congrArg List.length hacc2
      clear hend hacc hacc2
      go_wp2_with fail
      refine (writeByte_any B b _ 93 _ hbw (by rw [List.length_append, bv_length, List.length_cons]; omega) hBwr).mono ?_
      rintro e w2 ⟨rfl, hb2, hbl2⟩
      go_wp2
      go_end0
      exact ⟨rfl, by rw [HWR.out, if_neg k1, if_neg k2, if_neg k3, if_neg k4, if_neg k5, if_pos KJ.out, ← HA.out]; simpa [bv, List.append_assoc] using hb2, hbel.trans hbl2⟩
set_option maxRecDepth 100000 in
set_option maxHeartbeats 4000000 in
theorem write_map (t : Tree) (k7 : t.kind = 7) (ih : ∀ x ∈ t.kids, WrSpec x) : WrSpec t := by
  intro hbd hsh hcn B b F bs v w ht hFB hbi hBw hlen htab
  have k1 : t.kind ≠ 1 := by omega
  have k2 : t.kind ≠ 2 := by omega
  have k3 : t.kind ≠ 3 := by omega
  have k4 : t.kind ≠ 4 := by omega
  have k5 : t.kind ≠ 5 := by omega
  have k6 : t.kind ≠ 6 := by omega
  obtain ⟨vb, A1, c1, A2, c2, ps, rfl, hF, hl, h0, h1, h2, h3, g3, r3, h4, g4, r4, hks⟩ := ht.open
  have HWR := Lib.hid t.wr_eq
  have HBD := Lib.hid hbd
  have hbd' := hbd
  rw [Tree.bounded_eq] at hbd'
  simp only [Bool.and_eq_true] at hbd'
  obtain ⟨⟨⟨b1, b2⟩, b3⟩, b4⟩ := hbd'
  have b2' := strOK_len _ b2
  have b2s : t.text.size ≤ 24 := by simpa using b2'
  have KJ := Lib.hid k7
  have kb := k7
  rw [Tree.shaped_eq] at hsh
  have hce := t.count_eq
  have hkl := Tree.kids_le_count t.kids
  have hpl := Tree.pieces_len t.kids b4 true true t.names b3
  have ro : ∀ (h : 0 < (ByteArray.mk #[123, 125]).size), ((ByteArray.mk #[123, 125])[0]'h).toNat = 123 := fun _ => rfl
  have rc : ∀ (h : 1 < (ByteArray.mk #[123, 125]).size), ((ByteArray.mk #[123, 125])[1]'h).toNat = 125 := fun _ => rfl
  have HSH := Lib.hid hsh
  have IH := Lib.hid ih
  have HPL := Lib.hid hpl
  have HCE := Lib.hid hce
  have HFB := Lib.hid hFB
  have B3 := Lib.hid b3
  have B4 := Lib.hid b4
  rw [t.wr_eq, if_neg k1, if_neg k2, if_neg k3, if_neg k4, if_neg k5, if_neg k6, if_pos KJ.out, List.length_cons, List.length_append, List.length_singleton] at hlen
  have hlen2 := hlen
  have hcl : Tree.countL t.kids ≤ 1000000000 := by omega
  have hvb : vb < B := hFB _ hF
  clear hsh ih hce hFB b3 b4 hbd k7 hlen hcn
  rw [kb] at h0
  clear kb
  go_enter Tryz.func141, Tryz.ntmps141
  go_wp2_with fail
  refine (writeByte_any B b bs 123 _ hbi (by omega) hBw).mono ?_
  rintro e w1 ⟨rfl, hb1, hbl1⟩
  have hBw1 := Nat.le_trans hBw hbl1.size
  have h0' := (hbl1.cell (p := ⟨vb, 0, none⟩) hvb).trans h0
  have h4' := (hbl1.cell (p := ⟨vb, 4, none⟩) hvb).trans h4
  clear hbi
  go_wp2_with fail
  go_loopw [5, 6, 58] (fun _ _ vi wr => ∃ (i : Nat) (acc : List UInt8), i ≤ t.kids.length ∧ vi = .int .i64 i ∧ Hid (acc ++ Tree.pieces true (decide (i = 0)) (t.names.drop i) (t.kids.drop i) = Tree.pieces true true t.names t.kids) ∧ BuilderIs B b (bs ++ bv (123 :: acc)) wr ∧ Below B w wr) (fun _ _ vi _ => t.kids.length - (intOf vi).toNat)
  case atStart => exact ⟨0, [], Nat.zero_le _, rfl, rfl, by simpa [bv] using hb1, hbl1⟩
  case round =>
    obtain ⟨i, acc, hi, rfl, hacc, hbw, hbel⟩ := hrel
    have hBwr := Nat.le_trans hBw hbel.size
    have hag : Agree F w wr := ⟨hbel.size, fun x hx _ => hbel.block x (HFB.out x hx)⟩
    have m0 := (hbel.cell (p := ⟨vb, 0, none⟩) hvb).trans h0
    have m3 := (hbel.cell (p := ⟨vb, 3, none⟩) hvb).trans h3
    have m4 := (hbel.cell (p := ⟨vb, 4, none⟩) hvb).trans h4
    by_cases hlt : i < t.kids.length
    · obtain ⟨b2, o2, p, kd, rfl, hl2, hc2, hkt, hkd, hmem⟩ := kid_at (r4.frame hag) (hks.frame hag (fun _ h _ => h)) i hlt
      have hnl : i < t.names.length := by rw [HSH.out.1 KJ.out]; exact hlt
      obtain ⟨b5, o5, nm, rfl, hl5, hc5, hnm, hnmem⟩ := name_at (r3.frame hag) i hnl
      have hnk := strOK_len nm (by have := B3.out; rw [List.all_eq_true] at this; exact this nm hnmem)
      have hnq := quoted_len nm.data.toList
      have hnz : nm.size ≤ 24 := by simpa using hnk
      have hstep := Tree.pieces_step true (decide (i = 0)) t.names t.kids i kd hkd nm (fun _ => hnm)
      have hkb : kd.bounded = true := by have := B4.out; rw [Tree.boundedL_all, List.all_eq_true] at this; exact this kd hmem
      have hkc := Tree.countL_mem _ _ hmem
      have hkw := kd.wr_len hkb
      have hal := congrArg List.length hacc.out
      rw [hstep] at hal
      simp only [List.length_append] at hal
      have HST := Lib.hid hstep
      clear hstep
      have HKD := Lib.hid hkd
      by_cases hi0 : i = 0
      · have HI0 := Lib.hid hi0
        have hd0 : decide (i = 0) = true := by simp [hi0]
        rw [hd0] at hal
        have hnpos : ¬ 0 < i := by omega
        have hal2 : acc.length + ((quoted nm.data.toList).length + 1 + kd.wr.length) ≤ (Tree.pieces true true t.names t.kids).length := by rw [← hal]; simp
        clear hal
        have HD0 := Lib.hid hd0
        clear hd0 hi0
        have HWN := Lib.hid (written_any nm (by omega) wr)
        obtain ⟨R, hR⟩ : ∃ R : ByteArray, R = ⟨(quoted nm.data.toList).toArray⟩ := ⟨_, rfl⟩
        have hRs : R.size ≤ 100 := by
          have h4 : R.size = (quoted nm.data.toList).length := by rw [hR]; rfl
          omega
        rw [← hR] at HWN
        have HRE := Lib.hid hR
        clear hR
        go_wp2_with fail
        refine HWN.out.mono ?_
        rintro e w3 ⟨rfl, hb3⟩
        have hbel3 := hbel.trans (hb3.mono hBwr)
        have hBw3 := Nat.le_trans hBw hbel3.size
        have hag3 : Agree F wr w3 := Agree.of_below hb3
        have hkt3 := hkt.frame hag3 (fun _ h _ => h)
        have HRA := Lib.hid (show (R ++ ⟨#[58]⟩).data.toList = quoted nm.data.toList ++ [58] by rw [HRE.out]; simp)
        have hRz : (R ++ ⟨#[58]⟩).size = (quoted nm.data.toList).length + 1 := by have := congrArg List.length HRA.out; rw [List.length_append, Array.length_toList] at this; exact this
        have HRZ := Lib.hid hRz
        clear hRz
        have hRl : ∀ n : Nat, n + (R ++ ⟨#[58]⟩).size = n + ((quoted nm.data.toList).length + 1) := fun n => by rw [HRZ.out]
        have hX := writeString_any B b _ (R ++ ⟨#[58]⟩) w3 (builder_below hbw hb3) (by rw [hRl]; simp only [List.length_append, bv_length, List.length_cons]; omega) hBw3
        have HX := Lib.hid hX
        clear hX hRl
        go_wp2_with fail
        refine HX.out.mono ?_
        rintro e w4 ⟨rfl, hb4, hbl4⟩
        have hbel4 := hbel3.trans hbl4
        have hBw4 := Nat.le_trans hBw hbel4.size
        have hag4 : Agree F w3 w4 := ⟨hbl4.size, fun x hx _ => hbl4.block x (HFB.out x hx)⟩
        have hkt4 := hkt3.frame hag4 (fun _ h _ => h)
        rw [cells_bv', HRA.out] at hb4
        go_wp2_with fail
        refine (IH.out kd hmem hkb (Tree.shapedL_mem HSH.out.2 hmem) (by omega) B b F _ _ _ hkt4 HFB.out hb4 hBw4 (by simp only [List.length_append, bv_length, List.length_cons, List.length_nil]; omega) (htab.below hbel4)).mono ?_
        rintro e w5 ⟨rfl, hb5, hbl5⟩
        go_wp2
        go_roundw
        case rel => exact ⟨i + 1, acc ++ (quoted nm.data.toList ++ [58]) ++ kd.wr, by omega, by go_num, by show _ = _; rw [← hacc.out, HST.out, HD0.out]; simp, by simpa [bv, List.append_assoc] using hb5, hbel4.trans hbl5⟩
        case measure => simp [intOf]; omega
      · have hd0 : decide (i = 0) = false := by simp [hi0]
        rw [hd0] at hal
        have hnpos : 0 < i := by omega
        have hal2 : acc.length + (1 + ((quoted nm.data.toList).length + 1 + kd.wr.length)) ≤ (Tree.pieces true true t.names t.kids).length := by rw [← hal]; simp
        clear hal
        have HD0 := Lib.hid hd0
        clear hd0 hi0
        go_wp2_with fail
        refine (writeByte_any B b _ 44 _ hbw (by rw [List.length_append, bv_length, List.length_cons]; omega) hBwr).mono ?_
        rintro e w2 ⟨rfl, hb2, hbl2⟩
        have hbel2 := hbel.trans hbl2
        have hBw2 := Nat.le_trans hBw hbel2.size
        have hag2 : Agree F wr w2 := ⟨hbl2.size, fun x hx _ => hbl2.block x (HFB.out x hx)⟩
        have hkt2 := hkt.frame hag2 (fun _ h _ => h)
        have n0 := (hbel2.cell (p := ⟨vb, 0, none⟩) hvb).trans h0
        have n3 := (hbel2.cell (p := ⟨vb, 3, none⟩) hvb).trans h3
        obtain ⟨b6, o6, nm', e6, hl6, hc6, hnm', _⟩ := name_at ((r3.frame hag).frame hag2) i hnl
        injection e6 with e6
        injection e6 with e6 e7
        subst e6 e7
        rw [hnm] at hnm'
        injection hnm' with hnm'
        subst hnm'
        have HWN := Lib.hid (written_any nm (by omega) w2)
        obtain ⟨R, hR⟩ : ∃ R : ByteArray, R = ⟨(quoted nm.data.toList).toArray⟩ := ⟨_, rfl⟩
        have hRs : R.size ≤ 100 := by
          have h4 : R.size = (quoted nm.data.toList).length := by rw [hR]; rfl
          omega
        rw [← hR] at HWN
        have HRE := Lib.hid hR
        clear hR
        go_wp2_with fail
        refine HWN.out.mono ?_
        rintro e w3 ⟨rfl, hb3⟩
        have hbel3 := hbel2.trans (hb3.mono hBw2)
        have hBw3 := Nat.le_trans hBw hbel3.size
        have hag3 : Agree F w2 w3 := Agree.of_below hb3
        have hkt3 := hkt2.frame hag3 (fun _ h _ => h)
        have HRA := Lib.hid (show (R ++ ⟨#[58]⟩).data.toList = quoted nm.data.toList ++ [58] by rw [HRE.out]; simp)
        have hRz : (R ++ ⟨#[58]⟩).size = (quoted nm.data.toList).length + 1 := by have := congrArg List.length HRA.out; rw [List.length_append, Array.length_toList] at this; exact this
        have HRZ := Lib.hid hRz
        clear hRz
        have hRl : ∀ n : Nat, n + (R ++ ⟨#[58]⟩).size = n + ((quoted nm.data.toList).length + 1) := fun n => by rw [HRZ.out]
        have hX := writeString_any B b _ (R ++ ⟨#[58]⟩) w3 (builder_below hb2 hb3) (by rw [hRl]; simp only [List.length_append, bv_length, List.length_cons, List.length_nil]; omega) hBw3
        have HX := Lib.hid hX
        clear hX hRl
        go_wp2_with fail
        refine HX.out.mono ?_
        rintro e w4 ⟨rfl, hb4, hbl4⟩
        have hbel4 := hbel3.trans hbl4
        have hBw4 := Nat.le_trans hBw hbel4.size
        have hag4 : Agree F w3 w4 := ⟨hbl4.size, fun x hx _ => hbl4.block x (HFB.out x hx)⟩
        have hkt4 := hkt3.frame hag4 (fun _ h _ => h)
        rw [cells_bv', HRA.out] at hb4
        go_wp2_with fail
        refine (IH.out kd hmem hkb (Tree.shapedL_mem HSH.out.2 hmem) (by omega) B b F _ _ _ hkt4 HFB.out hb4 hBw4 (by simp only [List.length_append, bv_length, List.length_cons, List.length_nil]; omega) (htab.below hbel4)).mono ?_
        rintro e w5 ⟨rfl, hb5, hbl5⟩
        go_wp2
        go_roundw
        case rel => exact ⟨i + 1, acc ++ [44] ++ (quoted nm.data.toList ++ [58]) ++ kd.wr, by omega, by go_num, by show _ = _; rw [← hacc.out, HST.out, HD0.out]; simp, by simpa [bv, List.append_assoc] using hb5, hbel4.trans hbl5⟩
        case measure => simp [intOf]; omega
    · have hend := Tree.pieces_end true (decide (i = 0)) t.names t.kids i (by omega)
      have hacc2 := hacc.out
      rw [hend, List.append_nil] at hacc2
      have HA := Lib.hid hacc2
      have hal := congrArg List.length hacc2
      clear hend hacc hacc2
      go_wp2_with fail
      refine (writeByte_any B b _ 125 _ hbw (by rw [List.length_append, bv_length, List.length_cons]; omega) hBwr).mono ?_
      rintro e w2 ⟨rfl, hb2, hbl2⟩
      go_wp2
      go_end0
      exact ⟨rfl, by rw [HWR.out, if_neg k1, if_neg k2, if_neg k3, if_neg k4, if_neg k5, if_neg k6, if_pos KJ.out, ← HA.out]; simpa [bv, List.append_assoc] using hb2, hbel.trans hbl2⟩
theorem write_any (t : Tree) : WrSpec t := by
  induction t using Tree.ind with
  | _ t ih =>
    by_cases k6 : t.kind = 6
    · exact write_list t k6 ih
    by_cases k7 : t.kind = 7
    · exact write_map t k7 ih
    exact write_leaf t k6 k7
end Go.Proofs.YtemcijhpmpdebaaGreatDoor
namespace Go.Proofs.YtemcijhpmpdebaaGreatDoor
open Go.RowKit
theorem byteCells_bv (l : List UInt8) : Lib.byteCells l = bv l := rfl
set_option maxRecDepth 100000 in
set_option maxHeartbeats 1000000 in
theorem string_any (t : Tree) (hbd : t.bounded = true) (hsh : t.shaped) (hcn : t.count ≤ 1000000000) (F : Nat → Prop) (v : Value) (w : World) (ht : TreeAt F w v t) (htab : Tabs w.heap.size w) :
    Calls Tryz.prog 130 #[v] w fun e w' => e = .returned (.string ⟨t.wr.toArray⟩) ∧ Below w.heap.size w w' := by
  have hwl := t.wr_len hbd
  have hb0 : Below w.heap.size w (w.alloc (.cells #[.pointer none, .slice none 0 0] 181)) := (Below.refl _ _).alloc (Nat.le_refl _) _
  have hbi : BuilderIs w.heap.size w.heap.size [] (w.alloc (.cells #[.pointer none, .slice none 0 0] 181)) := .inl ⟨Nat.le_refl _, .slice none 0 0, heap_alloc_new _ _, World.ownsRow_nil _ _ _ _, by simp [Value.ownBlock]⟩
  have HW := Lib.hid (write_any t hbd hsh hcn w.heap.size w.heap.size (fun b => F b ∧ b < w.heap.size) [] v (w.alloc (.cells #[.pointer none, .slice none 0 0] 181)) (ht.frame (Agree.of_below hb0) (fun b h1 h2 => ⟨h1, h2⟩)) (fun b h => h.2) hbi (by simp) (by simp only [List.length_nil]; omega) (htab.below hb0))
  go_enter Tryz.func130, Tryz.ntmps130
  go_wp2_with fail
  refine HW.out.mono ?_
  rintro e w1 ⟨rfl, hb1, hbl1⟩
  have HS := Lib.hid (Tryz.Builder_String_any w.heap.size w.heap.size t.wr w1 (by rw [byteCells_bv]; simpa using hb1) (Nat.le_trans hb0.size hbl1.size))
  go_wp2_with fail
  refine HS.out.mono ?_
  rintro e w2 ⟨rfl, hb2⟩
  go_wp2
  go_ret
  exact ⟨rfl, (hb0.trans hbl1).trans hb2⟩
def Tree.good (t : Tree) : Bool := t.bounded && decide (t.count ≤ 80) && decide (t.deep ≤ 6) && decide (t.wr.length ≤ 300)
def goodO : Option Tree → Bool
  | none => false
  | some t => t.good
theorem run_eql_ptr_nil (b : Nat) (w : World) : (binOp .eql 123 (.pointer (some ⟨b, 0, none⟩)) (.pointer none)).run Tryz.prog w = .ok (.bool false) w := by kernel_rfl
set_option maxRecDepth 100000 in
set_option maxHeartbeats 1000000 in
theorem good_any (o : Option Tree) (F : Nat → Prop) (v : Value) (w : World) (ho : ∀ t, o = some t → t.shaped ∧ t.sized ∧ t.count ≤ 1000000000) (ht : OptAt F w v o) (htab : Tabs w.heap.size w) :
    Calls Tryz.prog 113 #[v] w fun e w' => e = .returned (.bool (goodO o)) ∧ Below w.heap.size w w' := by
  cases o with
  | none =>
    obtain rfl : v = .pointer none := ht
    go_enter Tryz.func113, Tryz.ntmps113
    go_wp2
    go_ret
    exact ⟨rfl, Below.refl _ _⟩
  | some t =>
    obtain ⟨hsh, hsz, hcn⟩ := ho t rfl
    have ht' : TreeAt F w v t := ht
    have hs' := hsz
    rw [Tree.sized_eq] at hs'
    obtain ⟨vb, A1, c1, A2, c2, ps, rfl, hF, hl, h0, h1, h2, _, _, _, _, _, _, _⟩ := ht'.open
    have HB := Lib.hid (bounded_any t hsz F _ w ht')
    have HC := Lib.hid (count_any t hcn F _ w ht')
    have HD := Lib.hid (deep_any t hcn F _ w ht')
    have hdc := Tree.deep_le_count t
    have ss := hs'.1
    cases hbd : t.bounded
    · have hg : goodO (some t) = false := by simp [goodO, Tree.good, hbd]
      have HG := Lib.hid hg
      rw [hbd] at HB
      clear hbd hg ho
      go_enter Tryz.func113, Tryz.ntmps113
      go_wp2_with (first | (go_at_call 35; refine (within_any _ _ _ _).mono ?_; rintro e w' ⟨rfl, rfl⟩) | (go_at_call 126; refine (stringOK_any _ _ ss).mono ?_; rintro e w' ⟨rfl, rfl⟩) | (go_at_call 127; refine HB.out.mono ?_; rintro e w' ⟨rfl, rfl⟩))
      all_goals
        go_ret
        exact ⟨by rw [HG.out]; rfl, Below.refl _ _⟩
    · have hbe := t.bounded_eq
      rw [hbd] at hbe
      have hbe' := hbe.symm
      simp only [Bool.and_eq_true] at hbe'
      obtain ⟨⟨⟨b1, b2⟩, _⟩, _⟩ := hbe'
      have n1 : -1000000000 ≤ t.num ∧ t.num ≤ 1000000000 := by simpa [numOK] using b1
      have n2 := n1.1
      have n3 := n1.2
      have B2 := Lib.hid b2
      have HS := Lib.hid (string_any t hbd hsh hcn F _ w ht' htab)
      have HGE := Lib.hid (show goodO (some t) = (t.bounded && decide (t.count ≤ 80) && decide (t.deep ≤ 6) && decide (t.wr.length ≤ 300)) from rfl)
      have HBD := Lib.hid hbd
      rw [hbd] at HB
      have hwl : t.wr.length ≤ 1000000000000 := by have := t.wr_len hbd; omega
      clear hbd hbe b1 n1 ho
      by_cases q1 : t.count ≤ 80
      · by_cases q2 : t.deep ≤ 6
        · by_cases q3 : t.wr.length ≤ 300
          all_goals
            have HQ := Lib.hid q3
            obtain ⟨R, hR⟩ : ∃ R : ByteArray, R = ⟨t.wr.toArray⟩ := ⟨_, rfl⟩
            have hRs : R.size = t.wr.length := by rw [hR]; rfl
            rw [← hRs] at q3 hwl
            rw [← hR] at HS
            clear hR hRs
            go_enter Tryz.func113, Tryz.ntmps113
            go_wp2_with (first | (go_at_call 35; refine (within_any _ _ _ _).mono ?_; rintro e w' ⟨rfl, rfl⟩) | (go_at_call 126; refine (stringOK_any _ _ ss).mono ?_; rw [B2.out]; rintro e w' ⟨rfl, rfl⟩) | (go_at_call 127; refine HB.out.mono ?_; rintro e w' ⟨rfl, rfl⟩) | (go_at_call 128; refine HC.out.mono ?_; rintro e w' ⟨rfl, rfl⟩) | (go_at_call 129; refine HD.out.mono ?_; rintro e w' ⟨rfl, rfl⟩) | (go_at_call 130; refine HS.out.mono ?_; rintro e w' ⟨rfl, hb1⟩))
            all_goals
              go_ret
              exact ⟨by rw [HGE.out, HBD.out]; have := HQ.out; simp [q1, q2, this] <;> omega, hb1⟩
        · go_enter Tryz.func113, Tryz.ntmps113
          go_wp2_with (first | (go_at_call 35; refine (within_any _ _ _ _).mono ?_; rintro e w' ⟨rfl, rfl⟩) | (go_at_call 126; refine (stringOK_any _ _ ss).mono ?_; rw [B2.out]; rintro e w' ⟨rfl, rfl⟩) | (go_at_call 127; refine HB.out.mono ?_; rintro e w' ⟨rfl, rfl⟩) | (go_at_call 128; refine HC.out.mono ?_; rintro e w' ⟨rfl, rfl⟩) | (go_at_call 129; refine HD.out.mono ?_; rintro e w' ⟨rfl, rfl⟩))
          all_goals
            go_ret
            exact ⟨by rw [HGE.out]; simp [q2], Below.refl _ _⟩
      · go_enter Tryz.func113, Tryz.ntmps113
        go_wp2_with (first | (go_at_call 35; refine (within_any _ _ _ _).mono ?_; rintro e w' ⟨rfl, rfl⟩) | (go_at_call 126; refine (stringOK_any _ _ ss).mono ?_; rw [B2.out]; rintro e w' ⟨rfl, rfl⟩) | (go_at_call 127; refine HB.out.mono ?_; rintro e w' ⟨rfl, rfl⟩) | (go_at_call 128; refine HC.out.mono ?_; rintro e w' ⟨rfl, rfl⟩))
        all_goals
          go_ret
          exact ⟨by rw [HGE.out]; simp [q1], Below.refl _ _⟩
end Go.Proofs.YtemcijhpmpdebaaGreatDoor
