/- The walk of the replacer of single bytes: Replace. -/
import Derived.Test.YtcbcndoddikpjaaGreatDoorRepl
import Derived.Test.YtcbcndoddikpjaaGreatDoorShelf
import Derived.Test.YtcbcndoddikpjaaGreatDoorOnce
import Derived.Laws.CopyOwn
import Derived.Laws.MakeOwn
import Derived.Deep.RegionLaw
import Derived.Deep.DeepCutAuto
import Derived.Deep.OwnRows
import Derived.Deep.CutBlock
namespace Go.Proofs.YtcbcndoddikpjaaGreatDoor
open Go.RowKit
def rep1 (c1 c2 : UInt8) (n1 n2 : List UInt8) (c : UInt8) : List UInt8 := if c = c1 then n1 else if c = c2 then n2 else [c]
def repl (c1 c2 : UInt8) (n1 n2 : List UInt8) (l : List UInt8) : List UInt8 := l.flatMap (rep1 c1 c2 n1 n2)
def hits (c1 c2 : UInt8) (l : List UInt8) : Nat := l.countP fun c => c == c1 || c == c2
theorem repl_snoc (c1 c2 : UInt8) (n1 n2 l : List UInt8) (c : UInt8) : repl c1 c2 n1 n2 (l ++ [c]) = repl c1 c2 n1 n2 l ++ rep1 c1 c2 n1 n2 c := by simp [repl]
theorem hits_snoc (c1 c2 : UInt8) (l : List UInt8) (c : UInt8) : hits c1 c2 (l ++ [c]) = hits c1 c2 l + (if c = c1 ∨ c = c2 then 1 else 0) := by
  simp [hits, List.countP_append, List.countP_cons]
theorem repl_length (c1 c2 : UInt8) (n1 n2 l : List UInt8) (h1 : n1.length = 2) (h2 : n2.length = 2) : (repl c1 c2 n1 n2 l).length = l.length + hits c1 c2 l := by
  induction l with
  | nil => rfl
  | cons c l ih =>
    have e1 : repl c1 c2 n1 n2 (c :: l) = rep1 c1 c2 n1 n2 c ++ repl c1 c2 n1 n2 l := by simp [repl]
    have e2 : hits c1 c2 (c :: l) = hits c1 c2 l + (if c = c1 ∨ c = c2 then 1 else 0) := by simp [hits, List.countP_cons]
    rw [e1, e2, List.length_append, ih, List.length_cons]
    unfold rep1
    by_cases a : c = c1
    · simp [a, h1]; omega
    · by_cases b : c = c2
      · subst b; simp [a, h2]; omega
      · simp [a, b]; omega
theorem repl_none (c1 c2 : UInt8) (n1 n2 l : List UInt8) (h : hits c1 c2 l = 0) : repl c1 c2 n1 n2 l = l := by
  induction l with
  | nil => rfl
  | cons c l ih =>
    have e2 : hits c1 c2 (c :: l) = hits c1 c2 l + (if c = c1 ∨ c = c2 then 1 else 0) := by simp [hits, List.countP_cons]
    rw [e2] at h
    by_cases a : c = c1 ∨ c = c2
    · rw [if_pos a] at h; omega
    · rw [if_neg a] at h
      have e1 : repl c1 c2 n1 n2 (c :: l) = rep1 c1 c2 n1 n2 c ++ repl c1 c2 n1 n2 l := by simp [repl]
      have a1 : c ≠ c1 := fun h => a (.inl h)
      have a2 : c ≠ c2 := fun h => a (.inr h)
      rw [e1, ih (by omega)]
      simp [rep1, a1, a2]
theorem hits_counts (c1 c2 : UInt8) (l : List UInt8) (h : c1 ≠ c2) : hits c1 c2 l = Lib.countByte l c2 + Lib.countByte l c1 := by
  unfold Lib.countByte
  induction l with
  | nil => rfl
  | cons c l ih =>
    have e2 : hits c1 c2 (c :: l) = hits c1 c2 l + (if c = c1 ∨ c = c2 then 1 else 0) := by simp [hits, List.countP_cons]
    rw [e2, ih, List.count_cons, List.count_cons]
    by_cases a : c = c1
    · subst a; simp [h]; omega
    · by_cases b : c = c2
      · subst b; simp [a]; omega
      · simp [a, b]
theorem hits_le (c1 c2 : UInt8) (l : List UInt8) : hits c1 c2 l ≤ l.length := List.countP_le_length
theorem take_snoc (s : ByteArray) (k : Nat) (h : k < s.size) : s.data.toList.take (k + 1) = s.data.toList.take k ++ [s[k]] := by
  rw [List.take_succ_eq_append_getElem (by simpa using h)]; rfl
/-- What the replacer's table holds at a byte. -/
theorem BSR.at {B : Nat} {w : World} {bs g1 g2 t : Nat} {c1 c2 : UInt8} {n1 n2 : List UInt8} {s1 s2 : ByteArray} (h : BSR B w bs g1 g2 t c1.toNat c2.toNat n1 n2 s1 s2) (c : UInt8) :
    (c = c1 ∧ ∃ k, w.cell? ⟨bs, c.toNat, none⟩ = some (.slice (some ⟨g1, 0, none⟩) n1.length k) ∧ n1.length ≤ k) ∨ (c ≠ c1 ∧ c = c2 ∧ ∃ k, w.cell? ⟨bs, c.toNat, none⟩ = some (.slice (some ⟨g2, 0, none⟩) n2.length k) ∧ n2.length ≤ k) ∨ (c ≠ c1 ∧ c ≠ c2 ∧ w.cell? ⟨bs, c.toNat, none⟩ = some (.slice none 0 0)) := by
  obtain ⟨a, hb, hn, ⟨k1, h1, h1'⟩, ⟨k2, h2, h2'⟩, _⟩ := h.arr
  by_cases e1 : c = c1
  · subst e1; exact .inl ⟨rfl, k1, (cell_of_block hb _).trans h1, h1'⟩
  · by_cases e2 : c = c2
    · subst e2; exact .inr (.inl ⟨e1, rfl, k2, (cell_of_block hb _).trans h2, h2'⟩)
    · exact .inr (.inr ⟨e1, e2, (cell_of_block hb _).trans (hn _ c.toNat_lt (fun h => e1 (UInt8.toNat_inj.1 h)) (fun h => e2 (UInt8.toNat_inj.1 h)))⟩)
theorem BSR.texts {B : Nat} {w : World} {bs g1 g2 t o1 o2 : Nat} {n1 n2 : List UInt8} {s1 s2 : ByteArray} (h : BSR B w bs g1 g2 t o1 o2 n1 n2 s1 s2) : ∃ k, w.cell? ⟨bs, 256, none⟩ = some (.slice (some ⟨t, 0, none⟩) 2 k) ∧ 2 ≤ k := by
  obtain ⟨a, hb, _, _, _, k, hk, hk'⟩ := h.arr
  exact ⟨k, (cell_of_block hb _).trans hk, hk'⟩
theorem BSR.frame {B : Nat} {F : Nat → Prop} {w w' : World} {bs g1 g2 t o1 o2 : Nat} {n1 n2 : List UInt8} {s1 s2 : ByteArray} (h : BSR B w bs g1 g2 t o1 o2 n1 n2 s1 s2) (ha : Agree F w w') (h1 : F bs) (h2 : F g1) (h3 : F g2) (h4 : F t) : BSR B w' bs g1 g2 t o1 o2 n1 n2 s1 s2 := by
  obtain ⟨a, hb, r⟩ := h.arr
  exact ⟨h.base, ⟨a, block_agree hb ha h1, r⟩, h.b1.agree ha h2, h.b2.agree ha h3, (ha.cell h4 h.lt 0).trans h.t1, (ha.cell h4 h.lt 1).trans h.t2, Nat.lt_of_lt_of_le h.lt ha.size⟩
def bv (l : List UInt8) : List Value := l.map fun c => .int .u8 (c.toNat : Int)
theorem bv_length (l : List UInt8) : (bv l).length = l.length := by simp [bv]
theorem bv_one (l : List UInt8) : ∀ v ∈ bv l, v.oneCell' = true := by
  intro v hv
  simp only [bv, List.mem_map] at hv
  obtain ⟨c, _, rfl⟩ := hv
  rfl
theorem bv_cell {w : World} {g : Nat} {l : List UInt8} (h : BytesAt w g l) (j : Nat) (v : Value) (hj : (bv l)[j]? = some v) : w.cell? ⟨g, j, none⟩ = some v := by
  simp only [bv, List.getElem?_map, Option.map_eq_some_iff] at hj
  obtain ⟨c, hc, rfl⟩ := hj
  exact h.2 j c hc
theorem Tryz.sizeByte : (Tryz.prog.info? 5).map (·.size) = some 1 := by kernel_rfl
/-- A buffer of L bytes that begins with these, the rest zero. -/
def bufOf (out : List UInt8) (L : Nat) : List Value := bv (out ++ List.replicate (L - out.length) 0)
theorem bufOf_length (out : List UInt8) (L : Nat) (h : out.length ≤ L) : (bufOf out L).length = L := by simp [bufOf, bv]; omega
theorem buf_start (c1 c2 : UInt8) (n1 n2 : List UInt8) (s : ByteArray) (w : World) (L : Nat) : Hid ((w.alloc (.cells (madeCells #[.int .u8 0] L) 5)).heap[w.heap.size]? = some (.cells (bufOf (repl c1 c2 n1 n2 (s.data.toList.take 0)) L).toArray 5 (0, 0))) := by
  have : (madeCells #[Value.int .u8 0] L) = (bufOf [] L).toArray := by
    apply Array.ext
    · simp [size_madeCells, bufOf, bv]
    · intro i h1 h2
      simp [madeCells, bufOf, bv, Nat.mod_one]
  rw [this]
  exact heap_alloc_new _ _
theorem buf_splice (out n1 : List UInt8) (L : Nat) (_h : out.length + n1.length ≤ L) : splice (bufOf out L) out.length (bv n1) = bufOf (out ++ n1) L := by
  simp only [splice, bufOf, bv, List.map_append, List.length_map, List.length_append]
  rw [List.take_left' (by simp), ← List.drop_drop, List.drop_left' (by simp), List.map_replicate, List.map_replicate, List.drop_replicate]
  rw [List.append_assoc]
  congr 3
  omega
theorem buf_set (out : List UInt8) (c : UInt8) (L : Nat) (h : out.length < L) : (bufOf out L).set out.length (.int .u8 (c.toNat : Int)) = bufOf (out ++ [c]) L := by
  obtain ⟨m, hm⟩ : ∃ m, L - out.length = m + 1 := ⟨L - out.length - 1, by omega⟩
  have hm2 : L - (out ++ [c]).length = m := by simp; omega
  simp only [bufOf, bv]
  rw [hm, hm2, List.replicate_succ]
  simp
theorem repl_pre (c1 c2 : UInt8) (n1 n2 l : List UInt8) (k : Nat) : (repl c1 c2 n1 n2 (l.take k)).length ≤ (repl c1 c2 n1 n2 l).length := by
  have : repl c1 c2 n1 n2 l = repl c1 c2 n1 n2 (l.take k) ++ repl c1 c2 n1 n2 (l.drop k) := by
    rw [repl, repl, repl, ← List.flatMap_append, List.take_append_drop]
  rw [this, List.length_append]
  omega
theorem make_bytes (m : Nat) (hm : m ≤ 1000000000000) : ∀ W : World, (Instr.makeSlice 102 (.int .i64 (m : Int)) (.int .i64 (m : Int))).run Tryz.prog W = .ok (.slice (some ⟨W.heap.size, 0, none⟩) m m) (W.alloc (.cells (madeCells #[.int .u8 0] m) 5)) := fun W =>
  run_make_row' 102 5 (.int .u8 0) 1 Tryz.underlying102 Tryz.infoByte rfl .i64 .i64 m (by omega) (by omega) W
theorem num_wrap {n m : Nat} (h : n + m ≤ 1000000000000) : Value.int .i64 (wrap64 ((n : Int) + (m : Int))) = Value.int .i64 ((n + m : Nat) : Int) := by
  have e : wrap64 ((n : Int) + (m : Int)) = ((n + m : Nat) : Int) := by
    unfold wrap64
    omega
  rw [e]
theorem conv_bytes (w : World) (g : Nat) (l : List UInt8) (h : w.heap[g]? = some (.cells (bv l).toArray 5 (0, 0))) (c : Nat := l.length) :
    (convert 102 9 (.slice (some ⟨g, 0, none⟩) l.length c)).run Tryz.prog w = .ok (.string ⟨l.toArray⟩) w := by
  have := run_convert_bytes_arg (P := Tryz.prog) w 102 5 Tryz.underlying102 Tryz.underlying5 g 0 l.length c (l.map fun x => (x.toNat : Int)) (by simp) (fun i hi => by
    rw [Nat.zero_add, cell_of_block h i]
    simp [bv, hi]) 9 Tryz.underlying9
  have e : (l.map fun x => (x.toNat : Int)).map (fun n => UInt8.ofNat n.toNat) = l := by
    rw [List.map_map]
    exact (List.map_congr_left (fun x _ => by simp)).trans (List.map_id l)
  have e2 : strOfNums (l.map fun x => (x.toNat : Int)) = ⟨l.toArray⟩ := by
    unfold strOfNums
    rw [e]
  rw [this, e2]
theorem count_one (s : ByteArray) (c : UInt8) (m : Nat) (hm : Lib.countByte s.data.toList c = m) (w : World) :
    Calls Tryz.prog 212 #[.string s, .string ⟨#[c]⟩] w fun e w' => e = .returned (.int .i64 (m : Int)) ∧ w = w' :=
  (Tryz.strings_Count_one s c w).mono fun _ _ ⟨h1, h2⟩ => ⟨by rw [h1, hm], h2.symm⟩
set_option maxRecDepth 100000 in
set_option maxHeartbeats 4000000 in
theorem replaceBS_any (B : Nat) (bs g1 g2 t : Nat) (c1 c2 : UInt8) (n1 n2 : List UInt8) (hn1 : n1.length = 2) (hn2 : n2.length = 2) (hne : c1 ≠ c2) (s : ByteArray) (hs : s.size ≤ 1000000000) (w : World) (h : BSR B w bs g1 g2 t c1.toNat c2.toNat n1 n2 ⟨#[c1]⟩ ⟨#[c2]⟩) :
    Calls Tryz.prog 210 #[.pointer (some ⟨bs, 0, none⟩), .string s] w fun e w' => e = .returned (.string ⟨(repl c1 c2 n1 n2 s.data.toList).toArray⟩) ∧ Below w.heap.size w w' := by
  have hneq := fun (w : World) (a : Option Addr) (l c : Nat) => run_neq_slice_nil_any (P := Tryz.prog) w 102 5 a l c 0 0 Tryz.underlying102
  have hle := hits_le c1 c2 s.data.toList
  have hlen : s.data.toList.length = s.size := by simp
  have hH : hits c1 c2 s.data.toList ≤ 1000000000 := by omega
  obtain ⟨kt, kt1, kt2⟩ := h.texts
  have t1 := h.t1
  have t2 := h.t2
  have HB := Lib.hid h
  have HN1 := Lib.hid hn1
  have HN2 := Lib.hid hn2
  have HNE := Lib.hid hne
  have HLEN := Lib.hid hlen
  clear h hn1 hn2 hne hlen
  go_enter Tryz.func210, Tryz.ntmps210
  go_upto_if 26 with fail
  go_cut [5, 6] (fun ns ch wx => ns = .int .i64 ((s.size + hits c1 c2 s.data.toList : Nat) : Int) ∧ ch = .bool (decide (0 < hits c1 c2 s.data.toList)) ∧ Agree (fun _ => True) w wx ∧ Below w.heap.size w wx)
  case first =>
    by_cases h16 : 16 ≤ s.size
    · have hhc := hits_counts c1 c2 s.data.toList HNE.out
      generalize hm2 : Lib.countByte s.data.toList c2 = m2 at hhc
      generalize hm1 : Lib.countByte s.data.toList c1 = m1 at hhc
      have HHC := Lib.hid hhc
      have HM1 := Lib.hid hm1
      have HM2 := Lib.hid hm2
      have hb1 : m1 ≤ 1000000000 := by omega
      have hb2 : m2 ≤ 1000000000 := by omega
      have hb3 : m1 + m2 ≤ 1000000000 := by omega
      have r1 : ∀ (h : 0 < (ByteArray.mk #[c1]).size), ((ByteArray.mk #[c1])[0]'h).toNat = c1.toNat := fun _ => rfl
      have r2 : ∀ (h : 0 < (ByteArray.mk #[c2]).size), ((ByteArray.mk #[c2])[0]'h).toNat = c2.toNat := fun _ => rfl
      have y1 : c1.toNat < 256 := c1.toNat_lt
      have y2 : c2.toNat < 256 := c2.toNat_lt
      obtain ⟨x1, hx1⟩ : ∃ k, w.cell? ⟨bs, c1.toNat, none⟩ = some (.slice (some ⟨g1, 0, none⟩) 2 k) := by
        rcases HB.out.at c1 with ⟨_, q, hq, _⟩ | ⟨h, _⟩ | ⟨h, _⟩
        · rw [HN1.out] at hq; exact ⟨q, hq⟩
        · exact absurd rfl h
        · exact absurd rfl h
      obtain ⟨x2, hx2⟩ : ∃ k, w.cell? ⟨bs, c2.toNat, none⟩ = some (.slice (some ⟨g2, 0, none⟩) 2 k) := by
        rcases HB.out.at c2 with ⟨h, _⟩ | ⟨_, _, q, hq, _⟩ | ⟨_, h, _⟩
        · exact absurd h.symm HNE.out
        · rw [HN2.out] at hq; exact ⟨q, hq⟩
        · exact absurd rfl h
      clear hhc hm1 hm2 hH hle
      by_cases z2 : m2 = 0
      · by_cases z1 : m1 = 0
        · skip
          have z2' : ((m2 : Int) != 0) = false := by simp [z2]
          have z1' : ((m1 : Int) != 0) = false := by simp [z1]
          have Z2 := Lib.hid z2
          have Z1 := Lib.hid z1
          clear z1 z2
          go_wp2_with fail
          refine wp_loop_rounds 3 ?_
          rw [rounds_succ]
          go_wp2_with fail
          refine (count_one s c2 m2 HM2.out _).mono ?_
          rintro e w' ⟨rfl, rfl⟩
          go_wp2_with fail
          rw [rounds_succ]
          go_wp2_with fail
          refine (count_one s c1 m1 HM1.out _).mono ?_
          rintro e w' ⟨rfl, rfl⟩
          go_wp2_with fail
          rw [rounds_succ]
          go_wp2_with fail
          go_meet
          refine ⟨by rw [HHC.out]; simp [Z2.out, Z1.out], by rw [HHC.out]; simp [Z2.out, Z1.out], ⟨Nat.le_refl _, fun _ _ _ => rfl⟩, ⟨rfl, rfl, rfl, Nat.le_refl _, fun _ _ => rfl⟩⟩
        · skip
          have z2' : ((m2 : Int) != 0) = false := by simp [z2]
          have z1' : ((m1 : Int) != 0) = true := by simp [z1]
          have Z2 := Lib.hid z2
          have Z1 := Lib.hid z1
          clear z1 z2
          go_wp2_with fail
          refine wp_loop_rounds 3 ?_
          rw [rounds_succ]
          go_wp2_with fail
          refine (count_one s c2 m2 HM2.out _).mono ?_
          rintro e w' ⟨rfl, rfl⟩
          go_wp2_with fail
          rw [rounds_succ]
          go_wp2_with fail
          refine (count_one s c1 m1 HM1.out _).mono ?_
          rintro e w' ⟨rfl, rfl⟩
          go_wp2_with fail
          go_quiet (fail)
          go_wp2_with fail
          rw [rounds_succ]
          go_wp2_with fail
          go_meet
          refine ⟨by rw [HHC.out]; have a := Z2.out; have b := Z1.out; go_num, by rw [HHC.out]; have a := Z2.out; have b := Z1.out; simp; omega, ⟨Nat.le_refl _, fun _ _ _ => rfl⟩, ⟨rfl, rfl, rfl, Nat.le_refl _, fun _ _ => rfl⟩⟩
      · by_cases z1 : m1 = 0
        · skip
          have z2' : ((m2 : Int) != 0) = true := by simp [z2]
          have z1' : ((m1 : Int) != 0) = false := by simp [z1]
          have Z2 := Lib.hid z2
          have Z1 := Lib.hid z1
          clear z1 z2
          go_wp2_with fail
          refine wp_loop_rounds 3 ?_
          rw [rounds_succ]
          go_wp2_with fail
          refine (count_one s c2 m2 HM2.out _).mono ?_
          rintro e w' ⟨rfl, rfl⟩
          go_wp2_with fail
          go_quiet (fail)
          go_wp2_with fail
          rw [rounds_succ]
          go_wp2_with fail
          refine (count_one s c1 m1 HM1.out _).mono ?_
          rintro e w' ⟨rfl, rfl⟩
          go_wp2_with fail
          rw [rounds_succ]
          go_wp2_with fail
          go_meet
          refine ⟨by rw [HHC.out]; have a := Z2.out; have b := Z1.out; go_num, by rw [HHC.out]; have a := Z2.out; have b := Z1.out; simp; omega, ⟨Nat.le_refl _, fun _ _ _ => rfl⟩, ⟨rfl, rfl, rfl, Nat.le_refl _, fun _ _ => rfl⟩⟩
        · skip
          have z2' : ((m2 : Int) != 0) = true := by simp [z2]
          have z1' : ((m1 : Int) != 0) = true := by simp [z1]
          have Z2 := Lib.hid z2
          have Z1 := Lib.hid z1
          clear z1 z2
          go_wp2_with fail
          refine wp_loop_rounds 3 ?_
          rw [rounds_succ]
          go_wp2_with fail
          refine (count_one s c2 m2 HM2.out _).mono ?_
          rintro e w' ⟨rfl, rfl⟩
          go_wp2_with fail
          go_quiet (fail)
          go_wp2_with fail
          rw [rounds_succ]
          go_wp2_with fail
          refine (count_one s c1 m1 HM1.out _).mono ?_
          rintro e w' ⟨rfl, rfl⟩
          go_wp2_with fail
          go_quiet (fail)
          go_wp2_with fail
          rw [rounds_succ]
          go_wp2_with fail
          go_meet
          refine ⟨by rw [HHC.out]; have a := Z2.out; have b := Z1.out; go_num, by rw [HHC.out]; have a := Z2.out; have b := Z1.out; simp; omega, ⟨Nat.le_refl _, fun _ _ _ => rfl⟩, ⟨rfl, rfl, rfl, Nat.le_refl _, fun _ _ => rfl⟩⟩
    · go_wp2_with fail
      go_loopw [5, 6, 10] (fun ns ch i wr => ∃ k : Nat, k ≤ s.size ∧ i = .int .i64 k ∧ ns = .int .i64 ((s.size + hits c1 c2 (s.data.toList.take k) : Nat) : Int) ∧ ch = .bool (decide (0 < hits c1 c2 (s.data.toList.take k))) ∧ Agree (fun _ => True) w wr ∧ Below w.heap.size w wr) (fun _ _ i _ => s.size - (intOf i).toNat)
      case atStart => exact ⟨0, Nat.zero_le _, rfl, by simp [hits], by simp [hits], Agree.refl _ _, Below.refl _ _⟩
      case round =>
        obtain ⟨k, hk, rfl, rfl, rfl, hag, hbl⟩ := hrel
        by_cases hlt : k < s.size
        · have hsn := hits_snoc c1 c2 (s.data.toList.take k) s[k]
          have hts := take_snoc s k hlt
          rw [← hts] at hsn
          have hl2 := hits_le c1 c2 (s.data.toList.take k)
          have hl3 : (s.data.toList.take k).length ≤ k := List.length_take_le _ _
          have HSN := Lib.hid hsn
          clear hsn hts
          have hb := HB.out.frame hag trivial trivial trivial trivial
          have hby : s[k].toNat < 256 := s[k].toNat_lt
          rcases hb.at s[k] with ⟨e, q, hq, hq2⟩ | ⟨e1, e, q, hq, hq2⟩ | ⟨e1, e2, hq⟩
          · rw [HN1.out] at hq
            have HE := Lib.hid e
            clear e hb
            go_wp2
            go_roundw
            case rel => exact ⟨k + 1, by omega, by go_num, by rw [HSN.out, if_pos (.inl HE.out)]; go_num, by rw [HSN.out, if_pos (.inl HE.out)]; simp, hag, hbl⟩
            case measure => simp [intOf]; omega
          · rw [HN2.out] at hq
            have HE := Lib.hid e
            clear e hb e1
            go_wp2
            go_roundw
            case rel => exact ⟨k + 1, by omega, by go_num, by rw [HSN.out, if_pos (.inr HE.out)]; go_num, by rw [HSN.out, if_pos (.inr HE.out)]; simp, hag, hbl⟩
            case measure => simp [intOf]; omega
          · have HE := Lib.hid (And.intro e1 e2)
            clear e1 e2 hb
            go_wp2
            go_roundw
            case rel => exact ⟨k + 1, by omega, by go_num, by rw [HSN.out, if_neg (fun h => h.elim HE.out.1 HE.out.2)]; go_num, by rw [HSN.out, if_neg (fun h => h.elim HE.out.1 HE.out.2)]; simp, hag, hbl⟩
            case measure => simp [intOf]; omega
        · go_wp2_with fail
          go_meet
          have : s.data.toList.take k = s.data.toList := List.take_of_length_le (by rw [HLEN.out]; omega)
          exact ⟨by rw [this], by rw [this], hag, hbl⟩
  case rest =>
    obtain ⟨rfl, rfl, hag, hbl⟩ := hcut
    have hb := HB.out.frame hag trivial trivial trivial trivial
    have HBC := Lib.hid hb
    clear hb kt1 t1 t2 HB
    by_cases h0 : hits c1 c2 s.data.toList = 0
    · have hd : decide (0 < hits c1 c2 s.data.toList) = false := by simp [h0]
      have H0 := Lib.hid h0
      clear h0
      go_wp2
      go_ret
      exact ⟨by rw [repl_none _ _ _ _ _ H0.out]; rfl, hbl⟩
    · have hd : decide (0 < hits c1 c2 s.data.toList) = true := by simp; omega
      have hrl := repl_length c1 c2 n1 n2 s.data.toList HN1.out HN2.out
      rw [HLEN.out] at hrl
      have HRL := Lib.hid hrl
      clear hrl
      generalize hL : s.size + hits c1 c2 s.data.toList = L at *
      have hLb : L ≤ 2000000000 := by omega
      have HL := Lib.hid hL
      clear hL hH hle
      have hmk := make_bytes L (by omega)
      go_wp2_with fail
      go_loopw [13, 14] (fun vj vi wr => ∃ k : Nat, k ≤ s.size ∧ vi = .int .i64 k ∧ vj = .int .i64 ((repl c1 c2 n1 n2 (s.data.toList.take k)).length : Int) ∧ Hid (wr.heap[wc.heap.size]? = some (.cells (bufOf (repl c1 c2 n1 n2 (s.data.toList.take k)) L).toArray 5 (0, 0))) ∧ Below wc.heap.size wc wr) (fun _ vi _ => s.size - (intOf vi).toNat)
      case atStart => exact ⟨0, Nat.zero_le _, rfl, by simp [repl], buf_start c1 c2 n1 n2 s wc L, (Below.refl _ _).alloc (Nat.le_refl _) _⟩
      case round =>
        obtain ⟨k, hk, rfl, rfl, hbuf, hbw⟩ := hrel
        by_cases hlt : k < s.size
        · have hts := take_snoc s k hlt
          have hrs := repl_snoc c1 c2 n1 n2 (s.data.toList.take k) s[k]
          rw [← hts] at hrs
          have hpre := repl_pre c1 c2 n1 n2 s.data.toList (k + 1)
          rw [HRL.out, hrs, List.length_append] at hpre
          have HRS := Lib.hid hrs
          have hby : s[k].toNat < 256 := s[k].toNat_lt
          have hb := HBC.out.frame (F := fun b => True) (Agree.of_below hbw) trivial trivial trivial trivial
          have HSIZE := bufOf_length (repl c1 c2 n1 n2 (s.data.toList.take k)) L (by omega)
          have hwl := lt_of_block hbuf.out
          have hbl2 : Below w.heap.size w wr := below_then hbl hbl.size hbw
          generalize hout : repl c1 c2 n1 n2 (s.data.toList.take k) = out at *
          have HOUT := Lib.hid hout
          clear hts hrs hout hd
          rcases hb.at s[k] with ⟨e, q, hq, hq2⟩ | ⟨e1, e, q, hq, hq2⟩ | ⟨e1, e2, hq⟩
          · have e1 : rep1 c1 c2 n1 n2 s[k] = n1 := by simp [rep1, e]
            rw [e1, HN1.out] at hpre
            rw [e1] at HRS
            rw [HN1.out] at hq
            have hB1 := hb.b1
            clear e e1 hb
            have hjL : ¬ L = out.length := by omega
            have hjL2 : out.length ≤ L := by omega
            have hbyI : ((s[k].toNat : Nat) : Int) < 256 := by omega
            have hbyJ : (0 : Int) ≤ ((s[k].toNat : Nat) : Int) := by omega
            have hjI : (0 : Int) ≤ (out.length : Int) := by omega
            have hjJ : (out.length : Int) ≤ (L : Int) := by omega
            go_wp2_with fail
            go_region_law (refine step_copy_splice rfl (.tmp 105) (.tmp 111) 102 102 rfl 5 Tryz.underlying102 Tryz.sizeByte _ _ _ _ _ _ rfl rfl wc.heap.size out.length (bufOf out L) 5 hbuf.out (bv n1) (by rw [bv_length, HN1.out]; exact (Nat.min_eq_left (by omega)).symm) (fun _ => ⟨by simp, _, rfl, fun j v hj => by rw [Addr.add_lit, Nat.zero_add]; exact bv_cell hB1 j v hj⟩) (by rw [bv_length, HN1.out, HSIZE]; exact hpre) (bv_one n1) wc.heap.size wc hbw.drew (Nat.le_refl _) ?_; intro w3 hbuf3 hbw3)
            go_wp2
            go_roundw
            case rel => exact ⟨k + 1, by omega, by go_num, by rw [HRS.out, List.length_append, bv_length, HN1.out]; exact num_wrap (by omega), by rw [HRS.out, ← buf_splice out n1 L (by rw [HN1.out]; exact hpre)]; exact hbuf3, hbw3⟩
            case measure => simp [intOf]; omega
          · clear e1
            have e1 : rep1 c1 c2 n1 n2 s[k] = n2 := by have e0 : c2 ≠ c1 := fun h => HNE.out h.symm; simp [rep1, e, e0]
            rw [e1, HN2.out] at hpre
            rw [e1] at HRS
            rw [HN2.out] at hq
            have hB1 := hb.b2
            clear e e1 hb
            have hjL : ¬ L = out.length := by omega
            have hjL2 : out.length ≤ L := by omega
            have hbyI : ((s[k].toNat : Nat) : Int) < 256 := by omega
            have hbyJ : (0 : Int) ≤ ((s[k].toNat : Nat) : Int) := by omega
            have hjI : (0 : Int) ≤ (out.length : Int) := by omega
            have hjJ : (out.length : Int) ≤ (L : Int) := by omega
            go_wp2_with fail
            go_region_law (refine step_copy_splice rfl (.tmp 105) (.tmp 111) 102 102 rfl 5 Tryz.underlying102 Tryz.sizeByte _ _ _ _ _ _ rfl rfl wc.heap.size out.length (bufOf out L) 5 hbuf.out (bv n2) (by rw [bv_length, HN2.out]; exact (Nat.min_eq_left (by omega)).symm) (fun _ => ⟨by simp, _, rfl, fun j v hj => by rw [Addr.add_lit, Nat.zero_add]; exact bv_cell hB1 j v hj⟩) (by rw [bv_length, HN2.out, HSIZE]; exact hpre) (bv_one n2) wc.heap.size wc hbw.drew (Nat.le_refl _) ?_; intro w3 hbuf3 hbw3)
            go_wp2
            go_roundw
            case rel => exact ⟨k + 1, by omega, by go_num, by rw [HRS.out, List.length_append, bv_length, HN2.out]; exact num_wrap (by omega), by rw [HRS.out, ← buf_splice out n2 L (by rw [HN2.out]; exact hpre)]; exact hbuf3, hbw3⟩
            case measure => simp [intOf]; omega
          · have e3 : rep1 c1 c2 n1 n2 s[k] = [s[k]] := by simp [rep1, e1, e2]
            rw [e3, List.length_singleton] at hpre
            rw [e3] at HRS
            clear e1 e2 e3 hb
            have hbyI : ((s[k].toNat : Nat) : Int) < 256 := by omega
            have hbyJ : (0 : Int) ≤ ((s[k].toNat : Nat) : Int) := by omega
            have hjI : (0 : Int) ≤ (out.length : Int) := by omega
            have hjJ : (out.length : Int) < (L : Int) := by omega
            have hjN : out.length < L := by omega
            obtain ⟨v0, hv0⟩ : ∃ v, (bufOf out L)[out.length]? = some v := ⟨_, List.getElem?_eq_getElem (by rw [HSIZE]; omega)⟩
            have hcell : wr.cell? ⟨wc.heap.size, out.length, none⟩ = some v0 := (cell_of_block hbuf.out _).trans (by simpa using hv0)
            have hfree := free_of_block hbuf.out out.length
            have hset := block_setCell hbuf.out out.length (.int .u8 (s[k].toNat : Int))
            have hse : (wr.setCell ⟨wc.heap.size, out.length, none⟩ (.int .u8 (s[k].toNat : Int))).heap[wc.heap.size]? = some (.cells (bufOf (out ++ [s[k]]) L).toArray 5 (0, 0)) := by
              rw [hset, ← buf_set out s[k] L hjN]
              simp
            have HSE := Lib.hid hse
            clear hset hse hv0
            go_wp2
            go_roundw
            case rel => exact ⟨k + 1, by omega, by go_num, by rw [HRS.out, List.length_append, List.length_singleton]; go_num, by rw [HRS.out]; exact HSE.out, hbw.setCell (Nat.le_refl _) _⟩
            case measure => simp [intOf]; omega
        · have hke : s.data.toList.take k = s.data.toList := List.take_of_length_le (by rw [HLEN.out]; omega)
          rw [hke] at hbuf
          have hbf : bufOf (repl c1 c2 n1 n2 s.data.toList) L = bv (repl c1 c2 n1 n2 s.data.toList) := by
            unfold bufOf
            rw [HRL.out]
            simp
          rw [hbf] at hbuf
          have hconv := conv_bytes wr wc.heap.size (repl c1 c2 n1 n2 s.data.toList) hbuf.out
          rw [HRL.out] at hconv
          have hbl2 : Below w.heap.size w wr := below_then hbl hbl.size hbw
          clear hke hbf hd
          go_wp2
          go_ret
          exact ⟨rfl, hbl2⟩
end Go.Proofs.YtcbcndoddikpjaaGreatDoor
