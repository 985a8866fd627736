/- The walk of strings.Replacer's build at pairs of one byte and two bytes: the replacer of single bytes that it makes. The walk of the replacer of single bytes: Replace. -/
import Derived.Test.YtemcijhpmpdebaaGreatDoorOnce
import Derived.Deep.WholeRow
import Derived.Lib.ConvBytes
import Derived.Laws.BytesArg
import Derived.Test.YtemcijhpmpdebaaGreatDoorShelf
import Derived.Laws.CopyOwn
import Derived.Laws.MakeOwn
import Derived.Deep.RegionLaw
import Derived.Deep.DeepCutAuto
import Derived.Deep.OwnRows
import Derived.Deep.CutBlock
namespace Go.Proofs.YtemcijhpmpdebaaGreatDoor
open Go.RowKit
theorem Tryz.infoStr0 : (Tryz.prog.info? 9).map (fun i => (i.zero, i.size, i.bytes)) = some (some (.string ⟨#[]⟩), 1, 16) := by kernel_rfl
theorem bs_get (v : Value) (j : Nat) (u : Value) (h : j ≠ 256) (hz : Tryz.zeroCells241.toList[j]? = some u) : (Tryz.zeroCells241.toList.set 256 v).toArray[j]? = some u := by
  simp only [List.getElem?_toArray]
  rw [List.getElem?_set_ne (by omega)]
  exact hz
theorem bs_last (v : Value) : (Tryz.zeroCells241.toList.set 256 v).toArray[256]? = some v := by
  simp only [List.getElem?_toArray]
  have h1 : Tryz.zeroCells241.toList.length = 257 := by kernel_rfl
  rw [List.getElem?_set_self (by omega)]
theorem bs_nils : ∀ j, j < 256 → Tryz.zeroCells241.toList[j]? = some (.slice none 0 0) := by
  have h : (Tryz.zeroCells241.toList.take 256) = List.replicate 256 (.slice none 0 0) := by kernel_rfl
  intro j hj
  have e : (Tryz.zeroCells241.toList.take 256)[j]? = (List.replicate 256 (Value.slice none 0 0))[j]? := by rw [h]
  rw [List.getElem?_take_of_lt hj, List.getElem?_replicate, if_pos hj] at e
  exact e
theorem bs_all (v : Value) (h : v.oneCell' = true) : ((Tryz.zeroCells241.toList.set 256 v).toArray).all (·.oneCell') = true := by
  have h0 : Tryz.zeroCells241.toList.all (·.oneCell') = true := by kernel_rfl
  rw [List.all_eq_true] at h0
  simp only [List.all_toArray, List.all_eq_true]
  intro x hx
  rcases List.mem_or_eq_of_mem_set hx with h' | h'
  · exact h0 x h'
  · rw [h']; exact h
theorem bs_store (X : Obj) (w : World) (v : Value) (h : v.oneCell' = true) :
    (storeCells ⟨w.heap.size + 1, 0, none⟩ (Tryz.zeroCells241.toList.set 256 v) 0).run Tryz.prog ((w.alloc X).alloc (.cells Tryz.zeroCells241 241)) = .ok () ((w.alloc X).alloc (.cells (Tryz.zeroCells241.toList.set 256 v).toArray 241)) := by
  have := run_storeCells_new (P := Tryz.prog) (w.alloc X) 241 Tryz.zeroCells241 (Tryz.zeroCells241.toList.set 256 v).toArray (by rw [List.size_toArray, List.length_set]; kernel_rfl) (by simp) (bs_all v h)
  simpa using this
/-- A row of bytes that is read. -/
def BytesAt (w : World) (g : Nat) (l : List UInt8) : Prop := g < w.heap.size ∧ ∀ j u, l[j]? = some u → w.cell? ⟨g, j, none⟩ = some (.int .u8 (u.toNat : Int))
theorem BytesAt.agree {F : Nat → Prop} {w w1 : World} {g : Nat} {l : List UInt8} (h : BytesAt w g l) (ha : Agree F w w1) (hF : F g) : BytesAt w1 g l :=
  ⟨Nat.lt_of_lt_of_le h.1 ha.size, fun j u hj => (ha.cell hF h.1 j).trans (h.2 j u hj)⟩
/-- The replacer of single bytes in block bs: o1 by n1, o2 by n2, whose bytes lie in blocks g1, g2; its texts in block t. -/
structure BSR (B : Nat) (w : World) (bs g1 g2 t : Nat) (o1 o2 : Nat) (n1 n2 : List UInt8) (s1 s2 : ByteArray) : Prop where
  base : B ≤ bs ∧ B ≤ g1 ∧ B ≤ g2 ∧ B ≤ t
  arr : ∃ a : Array Value, w.heap[bs]? = some (.cells a 241 (0, 0)) ∧ (∀ j, j < 256 → j ≠ o1 → j ≠ o2 → a[j]? = some (.slice none 0 0)) ∧ (∃ c, a[o1]? = some (.slice (some ⟨g1, 0, none⟩) n1.length c) ∧ n1.length ≤ c) ∧ (∃ c, a[o2]? = some (.slice (some ⟨g2, 0, none⟩) n2.length c) ∧ n2.length ≤ c) ∧ ∃ c, a[256]? = some (.slice (some ⟨t, 0, none⟩) 2 c) ∧ 2 ≤ c
  b1 : BytesAt w g1 n1
  b2 : BytesAt w g2 n2
  t1 : w.cell? ⟨t, 0, none⟩ = some (.string s2)
  t2 : w.cell? ⟨t, 1, none⟩ = some (.string s1)
  lt : t < w.heap.size
theorem bytes_of_world (w : World) (s : ByteArray) : BytesAt (Lib.bytesWorld w 5 s) w.heap.size s.data.toList := by
  refine ⟨by rw [Lib.bytesWorld_size]; omega, fun j u hj => ?_⟩
  have hlt : j < s.size := by have := (List.getElem?_eq_some_iff.1 hj).1; simpa using this
  rw [Lib.bytesWorld_cell w _ s j hlt]
  rw [List.getD_eq_getElem?_getD, hj]
  rfl
theorem below_bytes {B : Nat} {w W : World} (h : Below B w W) (hB : B ≤ W.heap.size) (e : TypeId) (s : ByteArray) : Below B w (Lib.bytesWorld W e s) :=
  h.trans ⟨rfl, rfl, rfl, by rw [Lib.bytesWorld_size]; omega, fun i hi => Lib.bytesWorld_at_old W e s i (by omega)⟩
theorem agree_bytes (F : Nat → Prop) (W : World) (e : TypeId) (s : ByteArray) : Agree F W (Lib.bytesWorld W e s) :=
  ⟨by rw [Lib.bytesWorld_size]; omega, fun b _ hb => Lib.bytesWorld_at_old W e s b hb⟩
theorem rounds_gen {P : Program} {c : Code} {Q : Exit → Act → World → Prop} {n : Nat} {a : Act} {w : World} (R : World → Prop) (hR : R w) (h : ∀ w', R w' → Code.rounds P c Q n a w') : Code.rounds P c Q n a w := h w hR
/-- One pair is laid: the text behind the texts, the bytes, the place in the table. -/
theorem bs_step {w w2 w3 : World} {ob : Value} {a : Array Value} {xs : List Value} {n c1 : Nat} {A1 : Option Addr} {x : Value} {sv : Value} (hB2 : Below w.heap.size w w2)
    (hbs2 : w2.heap[w.heap.size + 1]? = some (.cells a 241 (0, 0))) (hown2 : w2.ownsRow w.heap.size 9 1 sv n xs) (_hown3 : w3.ownsRow w.heap.size 9 1 (.slice A1 (n + 1) c1) (n + 1) (xs ++ [x])) (hg3 : (w2.alloc (.cells #[ob] 5)).grownBy w3 sv.ownBlock) :
    Below w.heap.size w w3 ∧ w3.heap[w.heap.size + 1]? = some (.cells a 241 (0, 0)) := by
  have hlt := lt_of_block hbs2
  have nb : sv.ownBlock ≠ some (w.heap.size + 1) := by
    intro h
    rcases hown2.2 with ⟨rfl, _⟩ | ⟨g, cap, cur, rfl, _, hh, _⟩
    · simp [Value.ownBlock] at h
    · have : g = w.heap.size + 1 := by simpa [Value.ownBlock] using h
      subst this
      rw [hbs2] at hh
      injection hh with hh
      injection hh with _ ht
      exact absurd ht (by decide)
  refine ⟨(hB2.alloc hB2.size _).grown hg3 (by simp; omega) (fun k hk => (own_base hown2 k hk).1), ?_⟩
  rw [hg3.block _ (by simp; omega) (fun e => nb e.symm), Below.heap_alloc _ _ _ hlt]
  exact hbs2
theorem bs_step2 {w w3 : World} {a : Array Value} {xs : List Value} {n c1 o cc : Nat} {A1 : Option Addr} {s : ByteArray} (hB : Below w.heap.size w w3) (hbs : w3.heap[w.heap.size + 1]? = some (.cells a 241 (0, 0))) (hown : w3.ownsRow w.heap.size 9 1 (.slice A1 (n + 1) c1) (n + 1) xs) :
    let w4 := w3.setCell ⟨w.heap.size + 1, 256, none⟩ (.slice A1 (n + 1) c1)
    let w6 := (Lib.bytesWorld w4 5 s).setCell ⟨w.heap.size + 1, o, none⟩ (.slice (some ⟨w3.heap.size, 0, none⟩) s.size cc)
    Below w.heap.size w w6 ∧ w6.heap[w.heap.size + 1]? = some (.cells ((a.setIfInBounds 256 (.slice A1 (n + 1) c1)).setIfInBounds o (.slice (some ⟨w3.heap.size, 0, none⟩) s.size cc)) 241 (0, 0)) ∧ w6.ownsRow w.heap.size 9 1 (.slice A1 (n + 1) c1) (n + 1) xs ∧ BytesAt w6 w3.heap.size s.data.toList ∧ Agree (fun b => b ≠ w.heap.size + 1) w3 w6 := by
  intro w4 w6
  have hlt := lt_of_block hbs
  have h4 := block_setCell hbs 256 (.slice A1 (n + 1) c1)
  have hs4 : w4.heap.size = w3.heap.size := by simp [w4, World.setCell]
  have nb : ∀ k, (Value.slice A1 (n + 1) c1).ownBlock = some k → k ≠ w.heap.size + 1 := by
    intro k hk e
    subst e
    rcases hown.2 with ⟨_, h0⟩ | ⟨g, cap, cur, hv, _, hh, _⟩
    · omega
    · rw [hv] at hk
      have : g = w.heap.size + 1 := by simpa [Value.ownBlock] using hk
      subst this
      rw [hbs] at hh
      injection hh with hh
      injection hh with _ ht
      exact absurd ht (by decide)
  have ag : Agree (fun b => b ≠ w.heap.size + 1) w3 w6 := ((Agree.of_setCell w3 ⟨w.heap.size + 1, 256, none⟩ _ (fun b hb => hb)).trans (agree_bytes _ _ _ s)).trans (Agree.of_setCell _ ⟨w.heap.size + 1, o, none⟩ _ (fun b hb => hb))
  refine ⟨(below_bytes (hB.setCell (by show w.heap.size ≤ w.heap.size + 1; omega) _) (by show _ ≤ w4.heap.size; rw [hs4]; exact hB.size) _ _).setCell (by show w.heap.size ≤ w.heap.size + 1; omega) _, ?_, own_agree hown ag nb, ?_, ag⟩
  · exact block_setCell ((Lib.bytesWorld_at_old w4 _ s _ (by rw [hs4]; exact hlt)).trans h4) o _
  · have := (bytes_of_world w4 s).agree (F := fun b => b ≠ w.heap.size + 1) (w1 := w6) (Agree.of_setCell _ ⟨w.heap.size + 1, o, none⟩ _ (fun b hb => hb)) (by omega)
    rwa [hs4] at this
set_option maxRecDepth 100000 in
set_option maxHeartbeats 2000000 in
theorem build_quote (rb ob c : Nat) (w : World) (h4 : w.cell? ⟨rb, 4, none⟩ = some (.slice (some ⟨ob, 0, none⟩) 4 c))
    (s0 : w.cell? ⟨ob, 0, none⟩ = some (.string ⟨#[34]⟩)) (s1 : w.cell? ⟨ob, 1, none⟩ = some (.string ⟨#[92, 34]⟩)) (s2 : w.cell? ⟨ob, 2, none⟩ = some (.string ⟨#[92]⟩)) (s3 : w.cell? ⟨ob, 3, none⟩ = some (.string ⟨#[92, 92]⟩)) :
    Calls Tryz.prog 165 #[.pointer (some ⟨rb, 0, none⟩)] w fun e w' => ∃ bs g1 g2 t, e = .returned (.iface 242 (.pointer (some ⟨bs, 0, none⟩))) ∧ Below w.heap.size w w' ∧ BSR w.heap.size w' bs g1 g2 t 34 92 #[92, 34].toList #[92, 92].toList ⟨#[34]⟩ ⟨#[92]⟩ := by
  have hmk : ∀ w, (Instr.makeSlice 78 (.int .i64 0) (.int .i64 2)).run Tryz.prog w = .ok (.slice (some ⟨w.heap.size, 0, none⟩) 0 2) (w.alloc (.cells #[.string ⟨#[]⟩, .string ⟨#[]⟩] 9)) := fun _ => by kernel_rfl
  have hbs := bs_store (.cells #[.string ⟨#[]⟩, .string ⟨#[]⟩] 9) w (.slice (some ⟨w.heap.size, 0, none⟩) 0 2) rfl
  go_enter Tryz.func165, Tryz.ntmps165
  go_wp2_with fail
  refine wp_loop_rounds 3 ?_
  rw [rounds_succ]
  go_wp2_with fail
  rw [rounds_succ]
  go_wp2_with fail
  rw [rounds_succ]
  go_wp2_with fail
  generalize hW : ((w.alloc (Obj.cells #[.string ⟨#[]⟩, .string ⟨#[]⟩] 9)).alloc (Obj.cells (Tryz.zeroCells241.toList.set 256 (.slice (some ⟨w.heap.size, 0, none⟩) 0 2)).toArray 241)) = w2
  have hb2 : Below w.heap.size w w2 := by rw [← hW]; exact ((Below.refl _ _).alloc (Nat.le_refl _) _).alloc (by simp) _
  have hbs2 : w2.heap[w.heap.size + 1]? = some (.cells (Tryz.zeroCells241.toList.set 256 (.slice (some ⟨w.heap.size, 0, none⟩) 0 2)).toArray 241 (0, 0)) := by
    rw [← hW]
    have := heap_alloc_new (w.alloc (Obj.cells #[.string ⟨#[]⟩, .string ⟨#[]⟩] 9)) (Obj.cells (Tryz.zeroCells241.toList.set 256 (.slice (some ⟨w.heap.size, 0, none⟩) 0 2)).toArray 241)
    simpa using this
  have htr2 : w2.heap[w.heap.size]? = some (.cells #[.string ⟨#[]⟩, .string ⟨#[]⟩] 9 (0, 0)) := by
    rw [← hW, Below.heap_alloc _ _ _ (by simp)]
    exact heap_alloc_new _ _
  have hown2 : w2.ownsRow w.heap.size 9 1 (.slice (some ⟨w.heap.size, 0, none⟩) 0 2) 0 [] := ⟨rfl, .inr ⟨w.heap.size, 2, _, rfl, Nat.le_refl _, htr2, by omega, by decide, rfl, rfl⟩⟩
  have hlt := lt_of_block hbs2
  have k1 := (cell_of_block hbs2 92).trans (bs_get _ 92 (.slice none 0 0) (by decide) (bs_nils _ (by decide)))
  have k3 := (cell_of_block hbs2 256).trans (bs_last _)
  have z3 := free_of_block hbs2 256
  have hob := World.block_lt_of_cell? w _ s0
  simp at hob
  have t2 := (hb2.cell (p := ⟨ob, 2, none⟩) hob).trans s2
  have t3 := (hb2.cell (p := ⟨ob, 3, none⟩) hob).trans s3
  have HBS2 := Lib.hid hbs2
  clear hW hbs hmk htr2 hbs2
  have hnil := fun (w : World) (a : Option Addr) (l c : Nat) => Lib.run_eql_slice_nil (P := Tryz.prog) w 121 5 a l c 0 0 Tryz.underlying121
  have q1 : ∀ (h : 0 < (ByteArray.mk #[92]).size), ((ByteArray.mk #[92])[0]'h).toNat = 92 := fun _ => rfl
  have q2 : ∀ (h : 0 < (ByteArray.mk #[34]).size), ((ByteArray.mk #[34])[0]'h).toNat = 34 := fun _ => rfl
  have kcs : ∀ (W : World) (n : Int), (convert 121 9 (.slice (some ⟨W.heap.size, 0, none⟩) 1 1)).run Tryz.prog (W.alloc (.cells #[.int .u8 n] 5)) = .ok (.string (strOfNums [n])) (W.alloc (.cells #[.int .u8 n] 5)) := by
    intro W n
    refine run_convert_bytes_arg _ 121 5 Tryz.underlying121 Tryz.underlying5 W.heap.size 0 1 1 [n] rfl (fun i hi => ?_) 9 Tryz.underlying9
    obtain rfl : i = 0 := by omega
    simp
  have kb := fun (W : World) (s : ByteArray) => Lib.run_convert_string_bytes (P := Tryz.prog) W 9 121 5 s Tryz.underlying9 Tryz.underlying121 Tryz.underlying5
  have kn1 : strOfNums [92] = ⟨#[92]⟩ := by decide
  have kn2 : strOfNums [34] = ⟨#[34]⟩ := by decide
  refine wp_loop_rounds 3 ?_
  rw [rounds_succ]
  go_wp2_with (at_builtin; refine append_one w.heap.size rfl (.tmp 119) (.tmp 123) 78 9 (.string ⟨#[]⟩) 1 16 rfl Tryz.underlying78 Tryz.infoStr0 rfl (by decide) (by decide) _ _ _ [.string ⟨#[92]⟩] rfl rfl (by simp) (by simp [Value.oneCell']) rfl (hown2.alloc _) (by simp; omega) (by omega) ?_)
  intro A1 c1 w3 hc1 hown3 hg3 hat3
  obtain ⟨hB3, hbs3⟩ := bs_step hb2 HBS2.out hown2 hown3 hg3
  obtain ⟨hB6, hbs6, hown6, hby6, hag6⟩ := bs_step2 (o := 92) (s := ⟨#[92, 92]⟩) (cc := grownCap (w3.setCell ⟨w.heap.size + 1, 256, none⟩ (.slice A1 (0 + 1) c1)) 2 0 5) hB3 hbs3 hown3
  have k3' := (cell_of_block hbs3 256).trans (bs_last _)
  have z3' := free_of_block hbs3 256
  have hbs4 := block_setCell hbs3 256 (.slice A1 (0 + 1) c1)
  have hbs5 := (Lib.bytesWorld_at_old (w3.setCell ⟨w.heap.size + 1, 256, none⟩ (.slice A1 (0 + 1) c1)) 5 ⟨#[92, 92]⟩ _ (lt_of_block hbs4)).trans hbs4
  have k5 := (cell_of_block hbs5 92).trans ((Array.getElem?_setIfInBounds_ne (by decide)).trans (bs_get _ 92 _ (by decide) (bs_nils _ (by decide))))
  have z5 := free_of_block hbs5 92
  have hlt3 := lt_of_block hbs3
  have u0 := (hB6.cell (p := ⟨ob, 0, none⟩) hob).trans s0
  have u1 := (hB6.cell (p := ⟨ob, 1, none⟩) hob).trans s1
  clear hbs3 hbs4 hbs5
  go_wp2_with fail
  refine rounds_gen (fun W => Below w.heap.size w W ∧ W.heap[w.heap.size + 1]? = some (.cells (((Tryz.zeroCells241.toList.set 256 (.slice (some ⟨w.heap.size, 0, none⟩) 0 2)).toArray.setIfInBounds 256 (.slice A1 1 c1)).setIfInBounds 92 (.slice (some ⟨w3.heap.size, 0, none⟩) 2 (grownCap (w3.setCell ⟨w.heap.size + 1, 256, none⟩ (.slice A1 1 c1)) 2 0 5))) 241 (0, 0)) ∧ W.ownsRow w.heap.size 9 1 (.slice A1 1 c1) 1 [.string ⟨#[92]⟩] ∧ BytesAt W w3.heap.size #[92, 92].toList ∧ W.cell? ⟨ob, 0, none⟩ = some (.string ⟨#[34]⟩) ∧ W.cell? ⟨ob, 1, none⟩ = some (.string ⟨#[92, 34]⟩)) ⟨hB6, hbs6, hown6, hby6, u0, u1⟩ ?_
  clear hB6 hbs6 hown6 hby6 hag6 u0 u1 k1 k3 z3 t2 t3 k3' z3' k5 z5 HBS2 hown2 hb2
  rintro w6 ⟨hB6, hbs6, hown6, hby6, u0, u1⟩
  have hsz0 : Tryz.zeroCells241.toList.length = 257 := by kernel_rfl
  have k1 := (cell_of_block hbs6 34).trans (((Array.getElem?_setIfInBounds_ne (by decide)).trans (Array.getElem?_setIfInBounds_ne (by decide))).trans (bs_get _ 34 (.slice none 0 0) (by decide) (bs_nils _ (by decide))))
  have l6 : (((Tryz.zeroCells241.toList.set 256 (.slice (some ⟨w.heap.size, 0, none⟩) 0 2)).toArray.setIfInBounds 256 (.slice A1 1 c1)).setIfInBounds 92 (.slice (some ⟨w3.heap.size, 0, none⟩) 2 (grownCap (w3.setCell ⟨w.heap.size + 1, 256, none⟩ (.slice A1 1 c1)) 2 0 5)))[256]? = some (.slice A1 1 c1) := (Array.getElem?_setIfInBounds_ne (by decide)).trans (Array.getElem?_setIfInBounds_self_of_lt (by simp [hsz0]))
  have k3 := (cell_of_block hbs6 256).trans l6
  have hlt6 := lt_of_block hbs6
  have hlt7 := hby6.1
  have HBS6 := Lib.hid hbs6
  have HL6 := Lib.hid l6
  have HSZ := Lib.hid hsz0
  clear hbs6 l6 hsz0
  rw [rounds_succ]
  go_wp2_with (at_builtin; refine append_one w.heap.size rfl (.tmp 119) (.tmp 123) 78 9 (.string ⟨#[]⟩) 1 16 rfl Tryz.underlying78 Tryz.infoStr0 rfl (by decide) (by decide) _ _ _ [.string ⟨#[34]⟩] rfl rfl (by simp) (by simp [Value.oneCell']) rfl (hown6.alloc _) (by simp; omega) (by omega) ?_)
  intro A2 c2 w7 hc2 hown7 hg7 hat7
  obtain ⟨hB7, hbs7⟩ := bs_step hB6 HBS6.out hown6 hown7 hg7
  obtain ⟨hB8, hbs8, hown8, hby8, hag8⟩ := bs_step2 (o := 34) (s := ⟨#[92, 34]⟩) (cc := grownCap (w7.setCell ⟨w.heap.size + 1, 256, none⟩ (.slice A2 (1 + 1) c2)) 2 0 5) hB7 hbs7 hown7
  have k3' := (cell_of_block hbs7 256).trans HL6.out
  have z3' := free_of_block hbs7 256
  have hbs9 := block_setCell hbs7 256 (.slice A2 (1 + 1) c2)
  have hbs10 := (Lib.bytesWorld_at_old (w7.setCell ⟨w.heap.size + 1, 256, none⟩ (.slice A2 (1 + 1) c2)) 5 ⟨#[92, 34]⟩ _ (lt_of_block hbs9)).trans hbs9
  have k5 := (cell_of_block hbs10 34).trans (((Array.getElem?_setIfInBounds_ne (by decide)).trans ((Array.getElem?_setIfInBounds_ne (by decide)).trans (Array.getElem?_setIfInBounds_ne (by decide)))).trans (bs_get _ 34 (.slice none 0 0) (by decide) (bs_nils _ (by decide))))
  have z5 := free_of_block hbs10 34
  have hne6 : ∀ k, (Value.slice A1 1 c1).ownBlock = some k → k ≠ w3.heap.size := by
    intro k hk e
    have := (own_base hown3 k hk).2
    omega
  have hby6' : BytesAt w7 w3.heap.size #[92, 92].toList := hby6.agree (F := fun b => b = w3.heap.size) ⟨Nat.le_trans (by simp) hg7.size, fun b hb hl => (hg7.block b (by simp; omega) (fun e => hne6 _ e.symm hb)).trans (Below.heap_alloc _ _ _ hl)⟩ rfl
  have HFIN := Lib.hid (And.intro hB8 (And.intro hbs8 (And.intro hown8 (And.intro hby8 (hby6'.agree hag8 (by omega : w3.heap.size ≠ w.heap.size + 1))))))
  clear hB8 hbs8 hown8 hby8 hag8 hbs9 hbs10 hby6 hby6'
  go_wp2_with fail
  rw [rounds_succ]
  go_wp2
  go_ret
  obtain ⟨q1, q2, q3, q4, q5⟩ := HFIN.out
  obtain ⟨tg, hA2, htb, htl, htc⟩ := own_open q3 (by omega)
  subst hA2
  refine ⟨w.heap.size + 1, w7.heap.size, w3.heap.size, tg, by simp, q1, ⟨⟨by omega, hB7.size, hB3.size, htb⟩, ⟨_, q2, ?_, ?_, ?_, ?_⟩, q4, q5, htc 0 _ rfl, htc 1 _ rfl, htl⟩⟩
  · intro j hj h1 h2
    rw [Array.getElem?_setIfInBounds_ne (by omega), Array.getElem?_setIfInBounds_ne (by omega), Array.getElem?_setIfInBounds_ne (by omega), Array.getElem?_setIfInBounds_ne (by omega)]
    exact bs_get _ j _ (by omega) (bs_nils _ hj)
  · exact ⟨_, Array.getElem?_setIfInBounds_self_of_lt (by simp [HSZ.out]), grownCap_ge _ _ _ _⟩
  · exact ⟨_, ((Array.getElem?_setIfInBounds_ne (by decide)).trans (Array.getElem?_setIfInBounds_ne (by decide))).trans (Array.getElem?_setIfInBounds_self_of_lt (by simp [HSZ.out])), grownCap_ge _ _ _ _⟩
  · exact ⟨_, (Array.getElem?_setIfInBounds_ne (by decide)).trans (Array.getElem?_setIfInBounds_self_of_lt (by simp [HSZ.out])), hc2⟩
set_option maxRecDepth 100000 in
set_option maxHeartbeats 2000000 in
theorem build_tilde (rb ob c : Nat) (w : World) (h4 : w.cell? ⟨rb, 4, none⟩ = some (.slice (some ⟨ob, 0, none⟩) 4 c))
    (s0 : w.cell? ⟨ob, 0, none⟩ = some (.string ⟨#[126]⟩)) (s1 : w.cell? ⟨ob, 1, none⟩ = some (.string ⟨#[126, 48]⟩)) (s2 : w.cell? ⟨ob, 2, none⟩ = some (.string ⟨#[47]⟩)) (s3 : w.cell? ⟨ob, 3, none⟩ = some (.string ⟨#[126, 49]⟩)) :
    Calls Tryz.prog 165 #[.pointer (some ⟨rb, 0, none⟩)] w fun e w' => ∃ bs g1 g2 t, e = .returned (.iface 242 (.pointer (some ⟨bs, 0, none⟩))) ∧ Below w.heap.size w w' ∧ BSR w.heap.size w' bs g1 g2 t 126 47 #[126, 48].toList #[126, 49].toList ⟨#[126]⟩ ⟨#[47]⟩ := by
  have hmk : ∀ w, (Instr.makeSlice 78 (.int .i64 0) (.int .i64 2)).run Tryz.prog w = .ok (.slice (some ⟨w.heap.size, 0, none⟩) 0 2) (w.alloc (.cells #[.string ⟨#[]⟩, .string ⟨#[]⟩] 9)) := fun _ => by kernel_rfl
  have hbs := bs_store (.cells #[.string ⟨#[]⟩, .string ⟨#[]⟩] 9) w (.slice (some ⟨w.heap.size, 0, none⟩) 0 2) rfl
  go_enter Tryz.func165, Tryz.ntmps165
  go_wp2_with fail
  refine wp_loop_rounds 3 ?_
  rw [rounds_succ]
  go_wp2_with fail
  rw [rounds_succ]
  go_wp2_with fail
  rw [rounds_succ]
  go_wp2_with fail
  generalize hW : ((w.alloc (Obj.cells #[.string ⟨#[]⟩, .string ⟨#[]⟩] 9)).alloc (Obj.cells (Tryz.zeroCells241.toList.set 256 (.slice (some ⟨w.heap.size, 0, none⟩) 0 2)).toArray 241)) = w2
  have hb2 : Below w.heap.size w w2 := by rw [← hW]; exact ((Below.refl _ _).alloc (Nat.le_refl _) _).alloc (by simp) _
  have hbs2 : w2.heap[w.heap.size + 1]? = some (.cells (Tryz.zeroCells241.toList.set 256 (.slice (some ⟨w.heap.size, 0, none⟩) 0 2)).toArray 241 (0, 0)) := by
    rw [← hW]
    have := heap_alloc_new (w.alloc (Obj.cells #[.string ⟨#[]⟩, .string ⟨#[]⟩] 9)) (Obj.cells (Tryz.zeroCells241.toList.set 256 (.slice (some ⟨w.heap.size, 0, none⟩) 0 2)).toArray 241)
    simpa using this
  have htr2 : w2.heap[w.heap.size]? = some (.cells #[.string ⟨#[]⟩, .string ⟨#[]⟩] 9 (0, 0)) := by
    rw [← hW, Below.heap_alloc _ _ _ (by simp)]
    exact heap_alloc_new _ _
  have hown2 : w2.ownsRow w.heap.size 9 1 (.slice (some ⟨w.heap.size, 0, none⟩) 0 2) 0 [] := ⟨rfl, .inr ⟨w.heap.size, 2, _, rfl, Nat.le_refl _, htr2, by omega, by decide, rfl, rfl⟩⟩
  have hlt := lt_of_block hbs2
  have k1 := (cell_of_block hbs2 47).trans (bs_get _ 47 (.slice none 0 0) (by decide) (bs_nils _ (by decide)))
  have k3 := (cell_of_block hbs2 256).trans (bs_last _)
  have z3 := free_of_block hbs2 256
  have hob := World.block_lt_of_cell? w _ s0
  simp at hob
  have t2 := (hb2.cell (p := ⟨ob, 2, none⟩) hob).trans s2
  have t3 := (hb2.cell (p := ⟨ob, 3, none⟩) hob).trans s3
  have HBS2 := Lib.hid hbs2
  clear hW hbs hmk htr2 hbs2
  have hnil := fun (w : World) (a : Option Addr) (l c : Nat) => Lib.run_eql_slice_nil (P := Tryz.prog) w 121 5 a l c 0 0 Tryz.underlying121
  have q1 : ∀ (h : 0 < (ByteArray.mk #[47]).size), ((ByteArray.mk #[47])[0]'h).toNat = 47 := fun _ => rfl
  have q2 : ∀ (h : 0 < (ByteArray.mk #[126]).size), ((ByteArray.mk #[126])[0]'h).toNat = 126 := fun _ => rfl
  have kcs : ∀ (W : World) (n : Int), (convert 121 9 (.slice (some ⟨W.heap.size, 0, none⟩) 1 1)).run Tryz.prog (W.alloc (.cells #[.int .u8 n] 5)) = .ok (.string (strOfNums [n])) (W.alloc (.cells #[.int .u8 n] 5)) := by
    intro W n
    refine run_convert_bytes_arg _ 121 5 Tryz.underlying121 Tryz.underlying5 W.heap.size 0 1 1 [n] rfl (fun i hi => ?_) 9 Tryz.underlying9
    obtain rfl : i = 0 := by omega
    simp
  have kb := fun (W : World) (s : ByteArray) => Lib.run_convert_string_bytes (P := Tryz.prog) W 9 121 5 s Tryz.underlying9 Tryz.underlying121 Tryz.underlying5
  have kn1 : strOfNums [47] = ⟨#[47]⟩ := by decide
  have kn2 : strOfNums [126] = ⟨#[126]⟩ := by decide
  refine wp_loop_rounds 3 ?_
  rw [rounds_succ]
  go_wp2_with (at_builtin; refine append_one w.heap.size rfl (.tmp 119) (.tmp 123) 78 9 (.string ⟨#[]⟩) 1 16 rfl Tryz.underlying78 Tryz.infoStr0 rfl (by decide) (by decide) _ _ _ [.string ⟨#[47]⟩] rfl rfl (by simp) (by simp [Value.oneCell']) rfl (hown2.alloc _) (by simp; omega) (by omega) ?_)
  intro A1 c1 w3 hc1 hown3 hg3 hat3
  obtain ⟨hB3, hbs3⟩ := bs_step hb2 HBS2.out hown2 hown3 hg3
  obtain ⟨hB6, hbs6, hown6, hby6, hag6⟩ := bs_step2 (o := 47) (s := ⟨#[126, 49]⟩) (cc := grownCap (w3.setCell ⟨w.heap.size + 1, 256, none⟩ (.slice A1 (0 + 1) c1)) 2 0 5) hB3 hbs3 hown3
  have k3' := (cell_of_block hbs3 256).trans (bs_last _)
  have z3' := free_of_block hbs3 256
  have hbs4 := block_setCell hbs3 256 (.slice A1 (0 + 1) c1)
  have hbs5 := (Lib.bytesWorld_at_old (w3.setCell ⟨w.heap.size + 1, 256, none⟩ (.slice A1 (0 + 1) c1)) 5 ⟨#[126, 49]⟩ _ (lt_of_block hbs4)).trans hbs4
  have k5 := (cell_of_block hbs5 47).trans ((Array.getElem?_setIfInBounds_ne (by decide)).trans (bs_get _ 47 _ (by decide) (bs_nils _ (by decide))))
  have z5 := free_of_block hbs5 47
  have hlt3 := lt_of_block hbs3
  have u0 := (hB6.cell (p := ⟨ob, 0, none⟩) hob).trans s0
  have u1 := (hB6.cell (p := ⟨ob, 1, none⟩) hob).trans s1
  clear hbs3 hbs4 hbs5
  go_wp2_with fail
  refine rounds_gen (fun W => Below w.heap.size w W ∧ W.heap[w.heap.size + 1]? = some (.cells (((Tryz.zeroCells241.toList.set 256 (.slice (some ⟨w.heap.size, 0, none⟩) 0 2)).toArray.setIfInBounds 256 (.slice A1 1 c1)).setIfInBounds 47 (.slice (some ⟨w3.heap.size, 0, none⟩) 2 (grownCap (w3.setCell ⟨w.heap.size + 1, 256, none⟩ (.slice A1 1 c1)) 2 0 5))) 241 (0, 0)) ∧ W.ownsRow w.heap.size 9 1 (.slice A1 1 c1) 1 [.string ⟨#[47]⟩] ∧ BytesAt W w3.heap.size #[126, 49].toList ∧ W.cell? ⟨ob, 0, none⟩ = some (.string ⟨#[126]⟩) ∧ W.cell? ⟨ob, 1, none⟩ = some (.string ⟨#[126, 48]⟩)) ⟨hB6, hbs6, hown6, hby6, u0, u1⟩ ?_
  clear hB6 hbs6 hown6 hby6 hag6 u0 u1 k1 k3 z3 t2 t3 k3' z3' k5 z5 HBS2 hown2 hb2
  rintro w6 ⟨hB6, hbs6, hown6, hby6, u0, u1⟩
  have hsz0 : Tryz.zeroCells241.toList.length = 257 := by kernel_rfl
  have k1 := (cell_of_block hbs6 126).trans (((Array.getElem?_setIfInBounds_ne (by decide)).trans (Array.getElem?_setIfInBounds_ne (by decide))).trans (bs_get _ 126 (.slice none 0 0) (by decide) (bs_nils _ (by decide))))
  have l6 : (((Tryz.zeroCells241.toList.set 256 (.slice (some ⟨w.heap.size, 0, none⟩) 0 2)).toArray.setIfInBounds 256 (.slice A1 1 c1)).setIfInBounds 47 (.slice (some ⟨w3.heap.size, 0, none⟩) 2 (grownCap (w3.setCell ⟨w.heap.size + 1, 256, none⟩ (.slice A1 1 c1)) 2 0 5)))[256]? = some (.slice A1 1 c1) := (Array.getElem?_setIfInBounds_ne (by decide)).trans (Array.getElem?_setIfInBounds_self_of_lt (by simp [hsz0]))
  have k3 := (cell_of_block hbs6 256).trans l6
  have hlt6 := lt_of_block hbs6
  have hlt7 := hby6.1
  have HBS6 := Lib.hid hbs6
  have HL6 := Lib.hid l6
  have HSZ := Lib.hid hsz0
  clear hbs6 l6 hsz0
  rw [rounds_succ]
  go_wp2_with (at_builtin; refine append_one w.heap.size rfl (.tmp 119) (.tmp 123) 78 9 (.string ⟨#[]⟩) 1 16 rfl Tryz.underlying78 Tryz.infoStr0 rfl (by decide) (by decide) _ _ _ [.string ⟨#[126]⟩] rfl rfl (by simp) (by simp [Value.oneCell']) rfl (hown6.alloc _) (by simp; omega) (by omega) ?_)
  intro A2 c2 w7 hc2 hown7 hg7 hat7
  obtain ⟨hB7, hbs7⟩ := bs_step hB6 HBS6.out hown6 hown7 hg7
  obtain ⟨hB8, hbs8, hown8, hby8, hag8⟩ := bs_step2 (o := 126) (s := ⟨#[126, 48]⟩) (cc := grownCap (w7.setCell ⟨w.heap.size + 1, 256, none⟩ (.slice A2 (1 + 1) c2)) 2 0 5) hB7 hbs7 hown7
  have k3' := (cell_of_block hbs7 256).trans HL6.out
  have z3' := free_of_block hbs7 256
  have hbs9 := block_setCell hbs7 256 (.slice A2 (1 + 1) c2)
  have hbs10 := (Lib.bytesWorld_at_old (w7.setCell ⟨w.heap.size + 1, 256, none⟩ (.slice A2 (1 + 1) c2)) 5 ⟨#[126, 48]⟩ _ (lt_of_block hbs9)).trans hbs9
  have k5 := (cell_of_block hbs10 126).trans (((Array.getElem?_setIfInBounds_ne (by decide)).trans ((Array.getElem?_setIfInBounds_ne (by decide)).trans (Array.getElem?_setIfInBounds_ne (by decide)))).trans (bs_get _ 126 (.slice none 0 0) (by decide) (bs_nils _ (by decide))))
  have z5 := free_of_block hbs10 126
  have hne6 : ∀ k, (Value.slice A1 1 c1).ownBlock = some k → k ≠ w3.heap.size := by
    intro k hk e
    have := (own_base hown3 k hk).2
    omega
  have hby6' : BytesAt w7 w3.heap.size #[126, 49].toList := hby6.agree (F := fun b => b = w3.heap.size) ⟨Nat.le_trans (by simp) hg7.size, fun b hb hl => (hg7.block b (by simp; omega) (fun e => hne6 _ e.symm hb)).trans (Below.heap_alloc _ _ _ hl)⟩ rfl
  have HFIN := Lib.hid (And.intro hB8 (And.intro hbs8 (And.intro hown8 (And.intro hby8 (hby6'.agree hag8 (by omega : w3.heap.size ≠ w.heap.size + 1))))))
  clear hB8 hbs8 hown8 hby8 hag8 hbs9 hbs10 hby6 hby6'
  go_wp2_with fail
  rw [rounds_succ]
  go_wp2
  go_ret
  obtain ⟨q1, q2, q3, q4, q5⟩ := HFIN.out
  obtain ⟨tg, hA2, htb, htl, htc⟩ := own_open q3 (by omega)
  subst hA2
  refine ⟨w.heap.size + 1, w7.heap.size, w3.heap.size, tg, by simp, q1, ⟨⟨by omega, hB7.size, hB3.size, htb⟩, ⟨_, q2, ?_, ?_, ?_, ?_⟩, q4, q5, htc 0 _ rfl, htc 1 _ rfl, htl⟩⟩
  · intro j hj h1 h2
    rw [Array.getElem?_setIfInBounds_ne (by omega), Array.getElem?_setIfInBounds_ne (by omega), Array.getElem?_setIfInBounds_ne (by omega), Array.getElem?_setIfInBounds_ne (by omega)]
    exact bs_get _ j _ (by omega) (bs_nils _ hj)
  · exact ⟨_, Array.getElem?_setIfInBounds_self_of_lt (by simp [HSZ.out]), grownCap_ge _ _ _ _⟩
  · exact ⟨_, ((Array.getElem?_setIfInBounds_ne (by decide)).trans (Array.getElem?_setIfInBounds_ne (by decide))).trans (Array.getElem?_setIfInBounds_self_of_lt (by simp [HSZ.out])), grownCap_ge _ _ _ _⟩
  · exact ⟨_, (Array.getElem?_setIfInBounds_ne (by decide)).trans (Array.getElem?_setIfInBounds_self_of_lt (by simp [HSZ.out])), hc2⟩
end Go.Proofs.YtemcijhpmpdebaaGreatDoor
namespace Go.Proofs.YtemcijhpmpdebaaGreatDoor
open Go.RowKit
def rep1 (c1 c2 : UInt8) (n1 n2 : List UInt8) (c : UInt8) : List UInt8 := if c = c1 then n1 else if c = c2 then n2 else [c]
def repl (c1 c2 : UInt8) (n1 n2 : List UInt8) (l : List UInt8) : List UInt8 := l.flatMap (rep1 c1 c2 n1 n2)
def hits (c1 c2 : UInt8) (l : List UInt8) : Nat := l.countP fun c => c == c1 || c == c2
theorem repl_snoc (c1 c2 : UInt8) (n1 n2 l : List UInt8) (c : UInt8) : repl c1 c2 n1 n2 (l ++ [c]) = repl c1 c2 n1 n2 l ++ rep1 c1 c2 n1 n2 c := by simp [repl]
theorem hits_snoc (c1 c2 : UInt8) (l : List UInt8) (c : UInt8) : hits c1 c2 (l ++ [c]) = hits c1 c2 l + (if c = c1 ∨ c = c2 then 1 else 0) := by
  simp [hits, List.countP_append, List.countP_cons]
theorem repl_length (c1 c2 : UInt8) (n1 n2 l : List UInt8) (h1 : n1.length = 2) (h2 : n2.length = 2) : (repl c1 c2 n1 n2 l).length = l.length + hits c1 c2 l := by
  induction l with
  | nil => rfl
  | cons c l ih =>
    have e1 : repl c1 c2 n1 n2 (c :: l) = rep1 c1 c2 n1 n2 c ++ repl c1 c2 n1 n2 l := by simp [repl]
    have e2 : hits c1 c2 (c :: l) = hits c1 c2 l + (if c = c1 ∨ c = c2 then 1 else 0) := by simp [hits, List.countP_cons]
    rw [e1, e2, List.length_append, ih, List.length_cons]
    unfold rep1
    by_cases a : c = c1
    · simp [a, h1]; omega
    · by_cases b : c = c2
      · subst b; simp [a, h2]; omega
      · simp [a, b]; omega
theorem repl_none (c1 c2 : UInt8) (n1 n2 l : List UInt8) (h : hits c1 c2 l = 0) : repl c1 c2 n1 n2 l = l := by
  induction l with
  | nil => rfl
  | cons c l ih =>
    have e2 : hits c1 c2 (c :: l) = hits c1 c2 l + (if c = c1 ∨ c = c2 then 1 else 0) := by simp [hits, List.countP_cons]
    rw [e2] at h
    by_cases a : c = c1 ∨ c = c2
    · rw [if_pos a] at h; omega
    · rw [if_neg a] at h
      have e1 : repl c1 c2 n1 n2 (c :: l) = rep1 c1 c2 n1 n2 c ++ repl c1 c2 n1 n2 l := by simp [repl]
      have a1 : c ≠ c1 := fun h => a (.inl h)
      have a2 : c ≠ c2 := fun h => a (.inr h)
      rw [e1, ih (by omega)]
      simp [rep1, a1, a2]
theorem hits_counts (c1 c2 : UInt8) (l : List UInt8) (h : c1 ≠ c2) : hits c1 c2 l = Lib.countByte l c2 + Lib.countByte l c1 := by
  unfold Lib.countByte
  induction l with
  | nil => rfl
  | cons c l ih =>
    have e2 : hits c1 c2 (c :: l) = hits c1 c2 l + (if c = c1 ∨ c = c2 then 1 else 0) := by simp [hits, List.countP_cons]
    rw [e2, ih, List.count_cons, List.count_cons]
    by_cases a : c = c1
    · subst a; simp [h]; omega
    · by_cases b : c = c2
      · subst b; simp [a]; omega
      · simp [a, b]
theorem hits_le (c1 c2 : UInt8) (l : List UInt8) : hits c1 c2 l ≤ l.length := List.countP_le_length
theorem take_snoc (s : ByteArray) (k : Nat) (h : k < s.size) : s.data.toList.take (k + 1) = s.data.toList.take k ++ [s[k]] := by
  rw [List.take_succ_eq_append_getElem (by simpa using h)]; rfl
/-- What the replacer's table holds at a byte. -/
theorem BSR.at {B : Nat} {w : World} {bs g1 g2 t : Nat} {c1 c2 : UInt8} {n1 n2 : List UInt8} {s1 s2 : ByteArray} (h : BSR B w bs g1 g2 t c1.toNat c2.toNat n1 n2 s1 s2) (c : UInt8) :
    (c = c1 ∧ ∃ k, w.cell? ⟨bs, c.toNat, none⟩ = some (.slice (some ⟨g1, 0, none⟩) n1.length k) ∧ n1.length ≤ k) ∨ (c ≠ c1 ∧ c = c2 ∧ ∃ k, w.cell? ⟨bs, c.toNat, none⟩ = some (.slice (some ⟨g2, 0, none⟩) n2.length k) ∧ n2.length ≤ k) ∨ (c ≠ c1 ∧ c ≠ c2 ∧ w.cell? ⟨bs, c.toNat, none⟩ = some (.slice none 0 0)) := by
  obtain ⟨a, hb, hn, ⟨k1, h1, h1'⟩, ⟨k2, h2, h2'⟩, _⟩ := h.arr
  by_cases e1 : c = c1
  · subst e1; exact .inl ⟨rfl, k1, (cell_of_block hb _).trans h1, h1'⟩
  · by_cases e2 : c = c2
    · subst e2; exact .inr (.inl ⟨e1, rfl, k2, (cell_of_block hb _).trans h2, h2'⟩)
    · exact .inr (.inr ⟨e1, e2, (cell_of_block hb _).trans (hn _ c.toNat_lt (fun h => e1 (UInt8.toNat_inj.1 h)) (fun h => e2 (UInt8.toNat_inj.1 h)))⟩)
theorem BSR.texts {B : Nat} {w : World} {bs g1 g2 t o1 o2 : Nat} {n1 n2 : List UInt8} {s1 s2 : ByteArray} (h : BSR B w bs g1 g2 t o1 o2 n1 n2 s1 s2) : ∃ k, w.cell? ⟨bs, 256, none⟩ = some (.slice (some ⟨t, 0, none⟩) 2 k) ∧ 2 ≤ k := by
  obtain ⟨a, hb, _, _, _, k, hk, hk'⟩ := h.arr
  exact ⟨k, (cell_of_block hb _).trans hk, hk'⟩
theorem BSR.frame {B : Nat} {F : Nat → Prop} {w w' : World} {bs g1 g2 t o1 o2 : Nat} {n1 n2 : List UInt8} {s1 s2 : ByteArray} (h : BSR B w bs g1 g2 t o1 o2 n1 n2 s1 s2) (ha : Agree F w w') (h1 : F bs) (h2 : F g1) (h3 : F g2) (h4 : F t) : BSR B w' bs g1 g2 t o1 o2 n1 n2 s1 s2 := by
  obtain ⟨a, hb, r⟩ := h.arr
  exact ⟨h.base, ⟨a, block_agree hb ha h1, r⟩, h.b1.agree ha h2, h.b2.agree ha h3, (ha.cell h4 h.lt 0).trans h.t1, (ha.cell h4 h.lt 1).trans h.t2, Nat.lt_of_lt_of_le h.lt ha.size⟩
def bv (l : List UInt8) : List Value := l.map fun c => .int .u8 (c.toNat : Int)
theorem bv_length (l : List UInt8) : (bv l).length = l.length := by simp [bv]
theorem bv_one (l : List UInt8) : ∀ v ∈ bv l, v.oneCell' = true := by
  intro v hv
  simp only [bv, List.mem_map] at hv
  obtain ⟨c, _, rfl⟩ := hv
  rfl
theorem bv_cell {w : World} {g : Nat} {l : List UInt8} (h : BytesAt w g l) (j : Nat) (v : Value) (hj : (bv l)[j]? = some v) : w.cell? ⟨g, j, none⟩ = some v := by
  simp only [bv, List.getElem?_map, Option.map_eq_some_iff] at hj
  obtain ⟨c, hc, rfl⟩ := hj
  exact h.2 j c hc
theorem Tryz.sizeByte : (Tryz.prog.info? 5).map (·.size) = some 1 := by kernel_rfl
/-- A buffer of L bytes that begins with these, the rest zero. -/
def bufOf (out : List UInt8) (L : Nat) : List Value := bv (out ++ List.replicate (L - out.length) 0)
theorem bufOf_length (out : List UInt8) (L : Nat) (h : out.length ≤ L) : (bufOf out L).length = L := by simp [bufOf, bv]; omega
theorem buf_start (c1 c2 : UInt8) (n1 n2 : List UInt8) (s : ByteArray) (w : World) (L : Nat) : Hid ((w.alloc (.cells (madeCells #[.int .u8 0] L) 5)).heap[w.heap.size]? = some (.cells (bufOf (repl c1 c2 n1 n2 (s.data.toList.take 0)) L).toArray 5 (0, 0))) := by
  have : (madeCells #[Value.int .u8 0] L) = (bufOf [] L).toArray := by
    apply Array.ext
    · simp [size_madeCells, bufOf, bv]
    · intro i h1 h2
      simp [madeCells, bufOf, bv, Nat.mod_one]
  rw [this]
  exact heap_alloc_new _ _
theorem buf_splice (out n1 : List UInt8) (L : Nat) (_h : out.length + n1.length ≤ L) : splice (bufOf out L) out.length (bv n1) = bufOf (out ++ n1) L := by
  simp only [splice, bufOf, bv, List.map_append, List.length_map, List.length_append]
  rw [List.take_left' (by simp), ← List.drop_drop, List.drop_left' (by simp), List.map_replicate, List.map_replicate, List.drop_replicate]
  rw [List.append_assoc]
  congr 3
  omega
theorem buf_set (out : List UInt8) (c : UInt8) (L : Nat) (h : out.length < L) : (bufOf out L).set out.length (.int .u8 (c.toNat : Int)) = bufOf (out ++ [c]) L := by
  obtain ⟨m, hm⟩ : ∃ m, L - out.length = m + 1 := ⟨L - out.length - 1, by omega⟩
  have hm2 : L - (out ++ [c]).length = m := by simp; omega
  simp only [bufOf, bv]
  rw [hm, hm2, List.replicate_succ]
  simp
theorem repl_pre (c1 c2 : UInt8) (n1 n2 l : List UInt8) (k : Nat) : (repl c1 c2 n1 n2 (l.take k)).length ≤ (repl c1 c2 n1 n2 l).length := by
  have : repl c1 c2 n1 n2 l = repl c1 c2 n1 n2 (l.take k) ++ repl c1 c2 n1 n2 (l.drop k) := by
    rw [repl, repl, repl, ← List.flatMap_append, List.take_append_drop]
  rw [this, List.length_append]
  omega
theorem make_bytes (m : Nat) (hm : m ≤ 1000000000000) : ∀ W : World, (Instr.makeSlice 121 (.int .i64 (m : Int)) (.int .i64 (m : Int))).run Tryz.prog W = .ok (.slice (some ⟨W.heap.size, 0, none⟩) m m) (W.alloc (.cells (madeCells #[.int .u8 0] m) 5)) := fun W =>
  run_make_row' 121 5 (.int .u8 0) 1 Tryz.underlying121 Tryz.infoByte rfl .i64 .i64 m (by omega) (by omega) W
theorem num_wrap {n m : Nat} (h : n + m ≤ 1000000000000) : Value.int .i64 (wrap64 ((n : Int) + (m : Int))) = Value.int .i64 ((n + m : Nat) : Int) := by
  have e : wrap64 ((n : Int) + (m : Int)) = ((n + m : Nat) : Int) := by
    unfold wrap64
    omega
  rw [e]
theorem conv_bytes (w : World) (g : Nat) (l : List UInt8) (h : w.heap[g]? = some (.cells (bv l).toArray 5 (0, 0))) (c : Nat := l.length) :
    (convert 121 9 (.slice (some ⟨g, 0, none⟩) l.length c)).run Tryz.prog w = .ok (.string ⟨l.toArray⟩) w := by
  have := run_convert_bytes_arg (P := Tryz.prog) w 121 5 Tryz.underlying121 Tryz.underlying5 g 0 l.length c (l.map fun x => (x.toNat : Int)) (by simp) (fun i hi => by
    rw [Nat.zero_add, cell_of_block h i]
    simp [bv, hi]) 9 Tryz.underlying9
  have e : (l.map fun x => (x.toNat : Int)).map (fun n => UInt8.ofNat n.toNat) = l := by
    rw [List.map_map]
    exact (List.map_congr_left (fun x _ => by simp)).trans (List.map_id l)
  have e2 : strOfNums (l.map fun x => (x.toNat : Int)) = ⟨l.toArray⟩ := by
    unfold strOfNums
    rw [e]
  rw [this, e2]
theorem count_one (s : ByteArray) (c : UInt8) (m : Nat) (hm : Lib.countByte s.data.toList c = m) (w : World) :
    Calls Tryz.prog 233 #[.string s, .string ⟨#[c]⟩] w fun e w' => e = .returned (.int .i64 (m : Int)) ∧ w = w' :=
  (Tryz.strings_Count_one s c w).mono fun _ _ ⟨h1, h2⟩ => ⟨by rw [h1, hm], h2.symm⟩
set_option maxRecDepth 100000 in
set_option maxHeartbeats 4000000 in
theorem replaceBS_any (B : Nat) (bs g1 g2 t : Nat) (c1 c2 : UInt8) (n1 n2 : List UInt8) (hn1 : n1.length = 2) (hn2 : n2.length = 2) (hne : c1 ≠ c2) (s : ByteArray) (hs : s.size ≤ 1000000000) (w : World) (h : BSR B w bs g1 g2 t c1.toNat c2.toNat n1 n2 ⟨#[c1]⟩ ⟨#[c2]⟩) :
    Calls Tryz.prog 231 #[.pointer (some ⟨bs, 0, none⟩), .string s] w fun e w' => e = .returned (.string ⟨(repl c1 c2 n1 n2 s.data.toList).toArray⟩) ∧ Below w.heap.size w w' := by
  have hneq := fun (w : World) (a : Option Addr) (l c : Nat) => run_neq_slice_nil_any (P := Tryz.prog) w 121 5 a l c 0 0 Tryz.underlying121
  have hle := hits_le c1 c2 s.data.toList
  have hlen : s.data.toList.length = s.size := by simp
  have hH : hits c1 c2 s.data.toList ≤ 1000000000 := by omega
  obtain ⟨kt, kt1, kt2⟩ := h.texts
  have t1 := h.t1
  have t2 := h.t2
  have HB := Lib.hid h
  have HN1 := Lib.hid hn1
  have HN2 := Lib.hid hn2
  have HNE := Lib.hid hne
  have HLEN := Lib.hid hlen
  clear h hn1 hn2 hne hlen
  go_enter Tryz.func231, Tryz.ntmps231
  go_upto_if 26 with fail
  go_cut [5, 6] (fun ns ch wx => ns = .int .i64 ((s.size + hits c1 c2 s.data.toList : Nat) : Int) ∧ ch = .bool (decide (0 < hits c1 c2 s.data.toList)) ∧ Agree (fun _ => True) w wx ∧ Below w.heap.size w wx)
  case first =>
    by_cases h16 : 16 ≤ s.size
    · have hhc := hits_counts c1 c2 s.data.toList HNE.out
      generalize hm2 : Lib.countByte s.data.toList c2 = m2 at hhc
      generalize hm1 : Lib.countByte s.data.toList c1 = m1 at hhc
      have HHC := Lib.hid hhc
      have HM1 := Lib.hid hm1
      have HM2 := Lib.hid hm2
      have hb1 : m1 ≤ 1000000000 := by omega
      have hb2 : m2 ≤ 1000000000 := by omega
      have hb3 : m1 + m2 ≤ 1000000000 := by omega
      have r1 : ∀ (h : 0 < (ByteArray.mk #[c1]).size), ((ByteArray.mk #[c1])[0]'h).toNat = c1.toNat := fun _ => rfl
      have r2 : ∀ (h : 0 < (ByteArray.mk #[c2]).size), ((ByteArray.mk #[c2])[0]'h).toNat = c2.toNat := fun _ => rfl
      have y1 : c1.toNat < 256 := c1.toNat_lt
      have y2 : c2.toNat < 256 := c2.toNat_lt
      obtain ⟨x1, hx1⟩ : ∃ k, w.cell? ⟨bs, c1.toNat, none⟩ = some (.slice (some ⟨g1, 0, none⟩) 2 k) := by
        rcases HB.out.at c1 with ⟨_, q, hq, _⟩ | ⟨h, _⟩ | ⟨h, _⟩
        · rw [HN1.out] at hq; exact ⟨q, hq⟩
        · exact absurd rfl h
        · exact absurd rfl h
      obtain ⟨x2, hx2⟩ : ∃ k, w.cell? ⟨bs, c2.toNat, none⟩ = some (.slice (some ⟨g2, 0, none⟩) 2 k) := by
        rcases HB.out.at c2 with ⟨h, _⟩ | ⟨_, _, q, hq, _⟩ | ⟨_, h, _⟩
        · exact absurd h.symm HNE.out
        · rw [HN2.out] at hq; exact ⟨q, hq⟩
        · exact absurd rfl h
      clear hhc hm1 hm2 hH hle
      by_cases z2 : m2 = 0
      · by_cases z1 : m1 = 0
        · skip
          have z2' : ((m2 : Int) != 0) = false := by simp [z2]
          have z1' : ((m1 : Int) != 0) = false := by simp [z1]
          have Z2 := Lib.hid z2
          have Z1 := Lib.hid z1
          clear z1 z2
          go_wp2_with fail
          refine wp_loop_rounds 3 ?_
          rw [rounds_succ]
          go_wp2_with fail
          refine (count_one s c2 m2 HM2.out _).mono ?_
          rintro e w' ⟨rfl, rfl⟩
          go_wp2_with fail
          rw [rounds_succ]
          go_wp2_with fail
          refine (count_one s c1 m1 HM1.out _).mono ?_
          rintro e w' ⟨rfl, rfl⟩
          go_wp2_with fail
          rw [rounds_succ]
          go_wp2_with fail
          go_meet
          refine ⟨by rw [HHC.out]; simp [Z2.out, Z1.out], by rw [HHC.out]; simp [Z2.out, Z1.out], ⟨Nat.le_refl _, fun _ _ _ => rfl⟩, ⟨rfl, rfl, rfl, Nat.le_refl _, fun _ _ => rfl⟩⟩
        · skip
          have z2' : ((m2 : Int) != 0) = false := by simp [z2]
          have z1' : ((m1 : Int) != 0) = true := by simp [z1]
          have Z2 := Lib.hid z2
          have Z1 := Lib.hid z1
          clear z1 z2
          go_wp2_with fail
          refine wp_loop_rounds 3 ?_
          rw [rounds_succ]
          go_wp2_with fail
          refine (count_one s c2 m2 HM2.out _).mono ?_
          rintro e w' ⟨rfl, rfl⟩
          go_wp2_with fail
          rw [rounds_succ]
          go_wp2_with fail
          refine (count_one s c1 m1 HM1.out _).mono ?_
          rintro e w' ⟨rfl, rfl⟩
          go_wp2_with fail
          go_quiet (fail)
          go_wp2_with fail
          rw [rounds_succ]
          go_wp2_with fail
          go_meet
          refine ⟨by rw [HHC.out]; have a := Z2.out; have b := Z1.out; go_num, by rw [HHC.out]; have a := Z2.out; have b := Z1.out; simp; omega, ⟨Nat.le_refl _, fun _ _ _ => rfl⟩, ⟨rfl, rfl, rfl, Nat.le_refl _, fun _ _ => rfl⟩⟩
      · by_cases z1 : m1 = 0
        · skip
          have z2' : ((m2 : Int) != 0) = true := by simp [z2]
          have z1' : ((m1 : Int) != 0) = false := by simp [z1]
          have Z2 := Lib.hid z2
          have Z1 := Lib.hid z1
          clear z1 z2
          go_wp2_with fail
          refine wp_loop_rounds 3 ?_
          rw [rounds_succ]
          go_wp2_with fail
          refine (count_one s c2 m2 HM2.out _).mono ?_
          rintro e w' ⟨rfl, rfl⟩
          go_wp2_with fail
          go_quiet (fail)
          go_wp2_with fail
          rw [rounds_succ]
          go_wp2_with fail
          refine (count_one s c1 m1 HM1.out _).mono ?_
          rintro e w' ⟨rfl, rfl⟩
          go_wp2_with fail
          rw [rounds_succ]
          go_wp2_with fail
          go_meet
          refine ⟨by rw [HHC.out]; have a := Z2.out; have b := Z1.out; go_num, by rw [HHC.out]; have a := Z2.out; have b := Z1.out; simp; omega, ⟨Nat.le_refl _, fun _ _ _ => rfl⟩, ⟨rfl, rfl, rfl, Nat.le_refl _, fun _ _ => rfl⟩⟩
        · skip
          have z2' : ((m2 : Int) != 0) = true := by simp [z2]
          have z1' : ((m1 : Int) != 0) = true := by simp [z1]
          have Z2 := Lib.hid z2
          have Z1 := Lib.hid z1
          clear z1 z2
          go_wp2_with fail
          refine wp_loop_rounds 3 ?_
          rw [rounds_succ]
          go_wp2_with fail
          refine (count_one s c2 m2 HM2.out _).mono ?_
          rintro e w' ⟨rfl, rfl⟩
          go_wp2_with fail
          go_quiet (fail)
          go_wp2_with fail
          rw [rounds_succ]
          go_wp2_with fail
          refine (count_one s c1 m1 HM1.out _).mono ?_
          rintro e w' ⟨rfl, rfl⟩
          go_wp2_with fail
          go_quiet (fail)
          go_wp2_with fail
          rw [rounds_succ]
          go_wp2_with fail
          go_meet
          refine ⟨by rw [HHC.out]; have a := Z2.out; have b := Z1.out; go_num, by rw [HHC.out]; have a := Z2.out; have b := Z1.out; simp; omega, ⟨Nat.le_refl _, fun _ _ _ => rfl⟩, ⟨rfl, rfl, rfl, Nat.le_refl _, fun _ _ => rfl⟩⟩
    · go_wp2_with fail
      go_loopw [5, 6, 10] (fun ns ch i wr => ∃ k : Nat, k ≤ s.size ∧ i = .int .i64 k ∧ ns = .int .i64 ((s.size + hits c1 c2 (s.data.toList.take k) : Nat) : Int) ∧ ch = .bool (decide (0 < hits c1 c2 (s.data.toList.take k))) ∧ Agree (fun _ => True) w wr ∧ Below w.heap.size w wr) (fun _ _ i _ => s.size - (intOf i).toNat)
      case atStart => exact ⟨0, Nat.zero_le _, rfl, by simp [hits], by simp [hits], Agree.refl _ _, Below.refl _ _⟩
      case round =>
        obtain ⟨k, hk, rfl, rfl, rfl, hag, hbl⟩ := hrel
        by_cases hlt : k < s.size
        · have hsn := hits_snoc c1 c2 (s.data.toList.take k) s[k]
          have hts := take_snoc s k hlt
          rw [← hts] at hsn
          have hl2 := hits_le c1 c2 (s.data.toList.take k)
          have hl3 : (s.data.toList.take k).length ≤ k := List.length_take_le _ _
          have HSN := Lib.hid hsn
          clear hsn hts
          have hb := HB.out.frame hag trivial trivial trivial trivial
          have hby : s[k].toNat < 256 := s[k].toNat_lt
          rcases hb.at s[k] with ⟨e, q, hq, hq2⟩ | ⟨e1, e, q, hq, hq2⟩ | ⟨e1, e2, hq⟩
          · rw [HN1.out] at hq
            have HE := Lib.hid e
            clear e hb
            go_wp2
            go_roundw
            case rel => exact ⟨k + 1, by omega, by go_num, by rw [HSN.out, if_pos (.inl HE.out)]; go_num, by rw [HSN.out, if_pos (.inl HE.out)]; simp, hag, hbl⟩
            case measure => simp [intOf]; omega
          · rw [HN2.out] at hq
            have HE := Lib.hid e
            clear e hb e1
            go_wp2
            go_roundw
            case rel => exact ⟨k + 1, by omega, by go_num, by rw [HSN.out, if_pos (.inr HE.out)]; go_num, by rw [HSN.out, if_pos (.inr HE.out)]; simp, hag, hbl⟩
            case measure => simp [intOf]; omega
          · have HE := Lib.hid (And.intro e1 e2)
            clear e1 e2 hb
            go_wp2
            go_roundw
            case rel => exact ⟨k + 1, by omega, by go_num, by rw [HSN.out, if_neg (fun h => h.elim HE.out.1 HE.out.2)]; go_num, by rw [HSN.out, if_neg (fun h => h.elim HE.out.1 HE.out.2)]; simp, hag, hbl⟩
            case measure => simp [intOf]; omega
        · go_wp2_with fail
          go_meet
          have : s.data.toList.take k = s.data.toList := List.take_of_length_le (by rw [HLEN.out]; omega)
          exact ⟨by rw [this], by rw [this], hag, hbl⟩
  case rest =>
    obtain ⟨rfl, rfl, hag, hbl⟩ := hcut
    have hb := HB.out.frame hag trivial trivial trivial trivial
    have HBC := Lib.hid hb
    clear hb kt1 t1 t2 HB
    by_cases h0 : hits c1 c2 s.data.toList = 0
    · have hd : decide (0 < hits c1 c2 s.data.toList) = false := by simp [h0]
      have H0 := Lib.hid h0
      clear h0
      go_wp2
      go_ret
      exact ⟨by rw [repl_none _ _ _ _ _ H0.out]; rfl, hbl⟩
    · have hd : decide (0 < hits c1 c2 s.data.toList) = true := by simp; omega
      have hrl := repl_length c1 c2 n1 n2 s.data.toList HN1.out HN2.out
      rw [HLEN.out] at hrl
      have HRL := Lib.hid hrl
      clear hrl
      generalize hL : s.size + hits c1 c2 s.data.toList = L at *
      have hLb : L ≤ 2000000000 := by omega
      have HL := Lib.hid hL
      clear hL hH hle
      have hmk := make_bytes L (by omega)
      go_wp2_with fail
      go_loopw [13, 14] (fun vj vi wr => ∃ k : Nat, k ≤ s.size ∧ vi = .int .i64 k ∧ vj = .int .i64 ((repl c1 c2 n1 n2 (s.data.toList.take k)).length : Int) ∧ Hid (wr.heap[wc.heap.size]? = some (.cells (bufOf (repl c1 c2 n1 n2 (s.data.toList.take k)) L).toArray 5 (0, 0))) ∧ Below wc.heap.size wc wr) (fun _ vi _ => s.size - (intOf vi).toNat)
      case atStart => exact ⟨0, Nat.zero_le _, rfl, by simp [repl], buf_start c1 c2 n1 n2 s wc L, (Below.refl _ _).alloc (Nat.le_refl _) _⟩
      case round =>
        obtain ⟨k, hk, rfl, rfl, hbuf, hbw⟩ := hrel
        by_cases hlt : k < s.size
        · have hts := take_snoc s k hlt
          have hrs := repl_snoc c1 c2 n1 n2 (s.data.toList.take k) s[k]
          rw [← hts] at hrs
          have hpre := repl_pre c1 c2 n1 n2 s.data.toList (k + 1)
          rw [HRL.out, hrs, List.length_append] at hpre
          have HRS := Lib.hid hrs
          have hby : s[k].toNat < 256 := s[k].toNat_lt
          have hb := HBC.out.frame (F := fun b => True) (Agree.of_below hbw) trivial trivial trivial trivial
          have HSIZE := bufOf_length (repl c1 c2 n1 n2 (s.data.toList.take k)) L (by omega)
          have hwl := lt_of_block hbuf.out
          have hbl2 : Below w.heap.size w wr := below_then hbl hbl.size hbw
          generalize hout : repl c1 c2 n1 n2 (s.data.toList.take k) = out at *
          have HOUT := Lib.hid hout
          clear hts hrs hout hd
          rcases hb.at s[k] with ⟨e, q, hq, hq2⟩ | ⟨e1, e, q, hq, hq2⟩ | ⟨e1, e2, hq⟩
          · have e1 : rep1 c1 c2 n1 n2 s[k] = n1 := by simp [rep1, e]
            rw [e1, HN1.out] at hpre
            rw [e1] at HRS
            rw [HN1.out] at hq
            have hB1 := hb.b1
            clear e e1 hb
            have hjL : ¬ L = out.length := by omega
            have hjL2 : out.length ≤ L := by omega
            have hbyI : ((s[k].toNat : Nat) : Int) < 256 := by omega
            have hbyJ : (0 : Int) ≤ ((s[k].toNat : Nat) : Int) := by omega
            have hjI : (0 : Int) ≤ (out.length : Int) := by omega
            have hjJ : (out.length : Int) ≤ (L : Int) := by omega
            go_wp2_with fail
            go_region_law (refine step_copy_splice rfl (.tmp 105) (.tmp 111) 121 121 rfl 5 Tryz.underlying121 Tryz.sizeByte _ _ _ _ _ _ rfl rfl wc.heap.size out.length (bufOf out L) 5 hbuf.out (bv n1) (by rw [bv_length, HN1.out]; exact (Nat.min_eq_left (by omega)).symm) (fun _ => ⟨by simp, _, rfl, fun j v hj => by rw [Addr.add_lit, Nat.zero_add]; exact bv_cell hB1 j v hj⟩) (by rw [bv_length, HN1.out, HSIZE]; exact hpre) (bv_one n1) wc.heap.size wc hbw.drew (Nat.le_refl _) ?_; intro w3 hbuf3 hbw3)
            go_wp2
            go_roundw
            case rel => exact ⟨k + 1, by omega, by go_num, by rw [HRS.out, List.length_append, bv_length, HN1.out]; exact num_wrap (by omega), by rw [HRS.out, ← buf_splice out n1 L (by rw [HN1.out]; exact hpre)]; exact hbuf3, hbw3⟩
            case measure => simp [intOf]; omega
          · clear e1
            have e1 : rep1 c1 c2 n1 n2 s[k] = n2 := by have e0 : c2 ≠ c1 := fun h => HNE.out h.symm; simp [rep1, e, e0]
            rw [e1, HN2.out] at hpre
            rw [e1] at HRS
            rw [HN2.out] at hq
            have hB1 := hb.b2
            clear e e1 hb
            have hjL : ¬ L = out.length := by omega
            have hjL2 : out.length ≤ L := by omega
            have hbyI : ((s[k].toNat : Nat) : Int) < 256 := by omega
            have hbyJ : (0 : Int) ≤ ((s[k].toNat : Nat) : Int) := by omega
            have hjI : (0 : Int) ≤ (out.length : Int) := by omega
            have hjJ : (out.length : Int) ≤ (L : Int) := by omega
            go_wp2_with fail
            go_region_law (refine step_copy_splice rfl (.tmp 105) (.tmp 111) 121 121 rfl 5 Tryz.underlying121 Tryz.sizeByte _ _ _ _ _ _ rfl rfl wc.heap.size out.length (bufOf out L) 5 hbuf.out (bv n2) (by rw [bv_length, HN2.out]; exact (Nat.min_eq_left (by omega)).symm) (fun _ => ⟨by simp, _, rfl, fun j v hj => by rw [Addr.add_lit, Nat.zero_add]; exact bv_cell hB1 j v hj⟩) (by rw [bv_length, HN2.out, HSIZE]; exact hpre) (bv_one n2) wc.heap.size wc hbw.drew (Nat.le_refl _) ?_; intro w3 hbuf3 hbw3)
            go_wp2
            go_roundw
            case rel => exact ⟨k + 1, by omega, by go_num, by rw [HRS.out, List.length_append, bv_length, HN2.out]; exact num_wrap (by omega), by rw [HRS.out, ← buf_splice out n2 L (by rw [HN2.out]; exact hpre)]; exact hbuf3, hbw3⟩
            case measure => simp [intOf]; omega
          · have e3 : rep1 c1 c2 n1 n2 s[k] = [s[k]] := by simp [rep1, e1, e2]
            rw [e3, List.length_singleton] at hpre
            rw [e3] at HRS
            clear e1 e2 e3 hb
            have hbyI : ((s[k].toNat : Nat) : Int) < 256 := by omega
            have hbyJ : (0 : Int) ≤ ((s[k].toNat : Nat) : Int) := by omega
            have hjI : (0 : Int) ≤ (out.length : Int) := by omega
            have hjJ : (out.length : Int) < (L : Int) := by omega
            have hjN : out.length < L := by omega
            obtain ⟨v0, hv0⟩ : ∃ v, (bufOf out L)[out.length]? = some v := ⟨_, List.getElem?_eq_getElem (by rw [HSIZE]; omega)⟩
            have hcell : wr.cell? ⟨wc.heap.size, out.length, none⟩ = some v0 := (cell_of_block hbuf.out _).trans (by simpa using hv0)
            have hfree := free_of_block hbuf.out out.length
            have hset := block_setCell hbuf.out out.length (.int .u8 (s[k].toNat : Int))
            have hse : (wr.setCell ⟨wc.heap.size, out.length, none⟩ (.int .u8 (s[k].toNat : Int))).heap[wc.heap.size]? = some (.cells (bufOf (out ++ [s[k]]) L).toArray 5 (0, 0)) := by
              rw [hset, ← buf_set out s[k] L hjN]
              simp
            have HSE := Lib.hid hse
            clear hset hse hv0
            go_wp2
            go_roundw
            case rel => exact ⟨k + 1, by omega, by go_num, by rw [HRS.out, List.length_append, List.length_singleton]; go_num, by rw [HRS.out]; exact HSE.out, hbw.setCell (Nat.le_refl _) _⟩
            case measure => simp [intOf]; omega
        · have hke : s.data.toList.take k = s.data.toList := List.take_of_length_le (by rw [HLEN.out]; omega)
          rw [hke] at hbuf
          have hbf : bufOf (repl c1 c2 n1 n2 s.data.toList) L = bv (repl c1 c2 n1 n2 s.data.toList) := by
            unfold bufOf
            rw [HRL.out]
            simp
          rw [hbf] at hbuf
          have hconv := conv_bytes wr wc.heap.size (repl c1 c2 n1 n2 s.data.toList) hbuf.out
          rw [HRL.out] at hconv
          have hbl2 : Below w.heap.size w wr := below_then hbl hbl.size hbw
          clear hke hbf hd
          go_wp2
          go_ret
          exact ⟨rfl, hbl2⟩
end Go.Proofs.YtemcijhpmpdebaaGreatDoor
