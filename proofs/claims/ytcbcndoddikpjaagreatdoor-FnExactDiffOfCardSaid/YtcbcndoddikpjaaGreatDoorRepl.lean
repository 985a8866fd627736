/- The walk of strings.Replacer's build at pairs of one byte and two bytes: the replacer of single bytes that it makes. -/
import Derived.Test.YtcbcndoddikpjaaGreatDoorOnce
import Derived.Deep.WholeRow
import Derived.Lib.ConvBytes
import Derived.Laws.BytesArg
namespace Go.Proofs.YtcbcndoddikpjaaGreatDoor
open Go.RowKit
theorem Tryz.infoStr0 : (Tryz.prog.info? 9).map (fun i => (i.zero, i.size, i.bytes)) = some (some (.string ⟨#[]⟩), 1, 16) := by kernel_rfl
theorem bs_get (v : Value) (j : Nat) (u : Value) (h : j ≠ 256) (hz : Tryz.zeroCells195.toList[j]? = some u) : (Tryz.zeroCells195.toList.set 256 v).toArray[j]? = some u := by
  simp only [List.getElem?_toArray]
  rw [List.getElem?_set_ne (by omega)]
  exact hz
theorem bs_last (v : Value) : (Tryz.zeroCells195.toList.set 256 v).toArray[256]? = some v := by
  simp only [List.getElem?_toArray]
  have h1 : Tryz.zeroCells195.toList.length = 257 := by kernel_rfl
  rw [List.getElem?_set_self (by omega)]
theorem bs_nils : ∀ j, j < 256 → Tryz.zeroCells195.toList[j]? = some (.slice none 0 0) := by
  have h : (Tryz.zeroCells195.toList.take 256) = List.replicate 256 (.slice none 0 0) := by kernel_rfl
  intro j hj
  have e : (Tryz.zeroCells195.toList.take 256)[j]? = (List.replicate 256 (Value.slice none 0 0))[j]? := by rw [h]
  rw [List.getElem?_take_of_lt hj, List.getElem?_replicate, if_pos hj] at e
  exact e
theorem bs_all (v : Value) (h : v.oneCell' = true) : ((Tryz.zeroCells195.toList.set 256 v).toArray).all (·.oneCell') = true := by
  have h0 : Tryz.zeroCells195.toList.all (·.oneCell') = true := by kernel_rfl
  rw [List.all_eq_true] at h0
  simp only [List.all_toArray, List.all_eq_true]
  intro x hx
  rcases List.mem_or_eq_of_mem_set hx with h' | h'
  · exact h0 x h'
  · rw [h']; exact h
theorem bs_store (X : Obj) (w : World) (v : Value) (h : v.oneCell' = true) :
    (storeCells ⟨w.heap.size + 1, 0, none⟩ (Tryz.zeroCells195.toList.set 256 v) 0).run Tryz.prog ((w.alloc X).alloc (.cells Tryz.zeroCells195 195)) = .ok () ((w.alloc X).alloc (.cells (Tryz.zeroCells195.toList.set 256 v).toArray 195)) := by
  have := run_storeCells_new (P := Tryz.prog) (w.alloc X) 195 Tryz.zeroCells195 (Tryz.zeroCells195.toList.set 256 v).toArray (by rw [List.size_toArray, List.length_set]; kernel_rfl) (by simp) (bs_all v h)
  simpa using this
/-- A row of bytes that is read. -/
def BytesAt (w : World) (g : Nat) (l : List UInt8) : Prop := g < w.heap.size ∧ ∀ j u, l[j]? = some u → w.cell? ⟨g, j, none⟩ = some (.int .u8 (u.toNat : Int))
theorem BytesAt.agree {F : Nat → Prop} {w w1 : World} {g : Nat} {l : List UInt8} (h : BytesAt w g l) (ha : Agree F w w1) (hF : F g) : BytesAt w1 g l :=
  ⟨Nat.lt_of_lt_of_le h.1 ha.size, fun j u hj => (ha.cell hF h.1 j).trans (h.2 j u hj)⟩
/-- The replacer of single bytes in block bs: o1 by n1, o2 by n2, whose bytes lie in blocks g1, g2; its texts in block t. -/
structure BSR (B : Nat) (w : World) (bs g1 g2 t : Nat) (o1 o2 : Nat) (n1 n2 : List UInt8) (s1 s2 : ByteArray) : Prop where
  base : B ≤ bs ∧ B ≤ g1 ∧ B ≤ g2 ∧ B ≤ t
  arr : ∃ a : Array Value, w.heap[bs]? = some (.cells a 195 (0, 0)) ∧ (∀ j, j < 256 → j ≠ o1 → j ≠ o2 → a[j]? = some (.slice none 0 0)) ∧ (∃ c, a[o1]? = some (.slice (some ⟨g1, 0, none⟩) n1.length c) ∧ n1.length ≤ c) ∧ (∃ c, a[o2]? = some (.slice (some ⟨g2, 0, none⟩) n2.length c) ∧ n2.length ≤ c) ∧ ∃ c, a[256]? = some (.slice (some ⟨t, 0, none⟩) 2 c) ∧ 2 ≤ c
  b1 : BytesAt w g1 n1
  b2 : BytesAt w g2 n2
  t1 : w.cell? ⟨t, 0, none⟩ = some (.string s2)
  t2 : w.cell? ⟨t, 1, none⟩ = some (.string s1)
  lt : t < w.heap.size
theorem bytes_of_world (w : World) (s : ByteArray) : BytesAt (Lib.bytesWorld w 5 s) w.heap.size s.data.toList := by
  refine ⟨by rw [Lib.bytesWorld_size]; omega, fun j u hj => ?_⟩
  have hlt : j < s.size := by have := (List.getElem?_eq_some_iff.1 hj).1; simpa using this
  rw [Lib.bytesWorld_cell w _ s j hlt]
  rw [List.getD_eq_getElem?_getD, hj]
  rfl
theorem below_bytes {B : Nat} {w W : World} (h : Below B w W) (hB : B ≤ W.heap.size) (e : TypeId) (s : ByteArray) : Below B w (Lib.bytesWorld W e s) :=
  h.trans ⟨rfl, rfl, rfl, by rw [Lib.bytesWorld_size]; omega, fun i hi => Lib.bytesWorld_at_old W e s i (by omega)⟩
theorem agree_bytes (F : Nat → Prop) (W : World) (e : TypeId) (s : ByteArray) : Agree F W (Lib.bytesWorld W e s) :=
  ⟨by rw [Lib.bytesWorld_size]; omega, fun b _ hb => Lib.bytesWorld_at_old W e s b hb⟩
theorem rounds_gen {P : Program} {c : Code} {Q : Exit → Act → World → Prop} {n : Nat} {a : Act} {w : World} (R : World → Prop) (hR : R w) (h : ∀ w', R w' → Code.rounds P c Q n a w') : Code.rounds P c Q n a w := h w hR
/-- One pair is laid: the text behind the texts, the bytes, the place in the table. -/
theorem bs_step {w w2 w3 : World} {ob : Value} {a : Array Value} {xs : List Value} {n c1 : Nat} {A1 : Option Addr} {x : Value} {sv : Value} (hB2 : Below w.heap.size w w2)
    (hbs2 : w2.heap[w.heap.size + 1]? = some (.cells a 195 (0, 0))) (hown2 : w2.ownsRow w.heap.size 9 1 sv n xs) (_hown3 : w3.ownsRow w.heap.size 9 1 (.slice A1 (n + 1) c1) (n + 1) (xs ++ [x])) (hg3 : (w2.alloc (.cells #[ob] 5)).grownBy w3 sv.ownBlock) :
    Below w.heap.size w w3 ∧ w3.heap[w.heap.size + 1]? = some (.cells a 195 (0, 0)) := by
  have hlt := lt_of_block hbs2
  have nb : sv.ownBlock ≠ some (w.heap.size + 1) := by
    intro h
    rcases hown2.2 with ⟨rfl, _⟩ | ⟨g, cap, cur, rfl, _, hh, _⟩
    · simp [Value.ownBlock] at h
    · have : g = w.heap.size + 1 := by simpa [Value.ownBlock] using h
      subst this
      rw [hbs2] at hh
      injection hh with hh
      injection hh with _ ht
      exact absurd ht (by decide)
  refine ⟨(hB2.alloc hB2.size _).grown hg3 (by simp; omega) (fun k hk => (own_base hown2 k hk).1), ?_⟩
  rw [hg3.block _ (by simp; omega) (fun e => nb e.symm), Below.heap_alloc _ _ _ hlt]
  exact hbs2
theorem bs_step2 {w w3 : World} {a : Array Value} {xs : List Value} {n c1 o cc : Nat} {A1 : Option Addr} {s : ByteArray} (hB : Below w.heap.size w w3) (hbs : w3.heap[w.heap.size + 1]? = some (.cells a 195 (0, 0))) (hown : w3.ownsRow w.heap.size 9 1 (.slice A1 (n + 1) c1) (n + 1) xs) :
    let w4 := w3.setCell ⟨w.heap.size + 1, 256, none⟩ (.slice A1 (n + 1) c1)
    let w6 := (Lib.bytesWorld w4 5 s).setCell ⟨w.heap.size + 1, o, none⟩ (.slice (some ⟨w3.heap.size, 0, none⟩) s.size cc)
    Below w.heap.size w w6 ∧ w6.heap[w.heap.size + 1]? = some (.cells ((a.setIfInBounds 256 (.slice A1 (n + 1) c1)).setIfInBounds o (.slice (some ⟨w3.heap.size, 0, none⟩) s.size cc)) 195 (0, 0)) ∧ w6.ownsRow w.heap.size 9 1 (.slice A1 (n + 1) c1) (n + 1) xs ∧ BytesAt w6 w3.heap.size s.data.toList ∧ Agree (fun b => b ≠ w.heap.size + 1) w3 w6 := by
  intro w4 w6
  have hlt := lt_of_block hbs
  have h4 := block_setCell hbs 256 (.slice A1 (n + 1) c1)
  have hs4 : w4.heap.size = w3.heap.size := by simp [w4, World.setCell]
  have nb : ∀ k, (Value.slice A1 (n + 1) c1).ownBlock = some k → k ≠ w.heap.size + 1 := by
    intro k hk e
    subst e
    rcases hown.2 with ⟨_, h0⟩ | ⟨g, cap, cur, hv, _, hh, _⟩
    · omega
    · rw [hv] at hk
      have : g = w.heap.size + 1 := by simpa [Value.ownBlock] using hk
      subst this
      rw [hbs] at hh
      injection hh with hh
      injection hh with _ ht
      exact absurd ht (by decide)
  have ag : Agree (fun b => b ≠ w.heap.size + 1) w3 w6 := ((Agree.of_setCell w3 ⟨w.heap.size + 1, 256, none⟩ _ (fun b hb => hb)).trans (agree_bytes _ _ _ s)).trans (Agree.of_setCell _ ⟨w.heap.size + 1, o, none⟩ _ (fun b hb => hb))
  refine ⟨(below_bytes (hB.setCell (by show w.heap.size ≤ w.heap.size + 1; omega) _) (by show _ ≤ w4.heap.size; rw [hs4]; exact hB.size) _ _).setCell (by show w.heap.size ≤ w.heap.size + 1; omega) _, ?_, own_agree hown ag nb, ?_, ag⟩
  · exact block_setCell ((Lib.bytesWorld_at_old w4 _ s _ (by rw [hs4]; exact hlt)).trans h4) o _
  · have := (bytes_of_world w4 s).agree (F := fun b => b ≠ w.heap.size + 1) (w1 := w6) (Agree.of_setCell _ ⟨w.heap.size + 1, o, none⟩ _ (fun b hb => hb)) (by omega)
    rwa [hs4] at this
set_option maxRecDepth 100000 in
set_option maxHeartbeats 2000000 in
theorem build_quote (rb ob c : Nat) (w : World) (h4 : w.cell? ⟨rb, 4, none⟩ = some (.slice (some ⟨ob, 0, none⟩) 4 c))
    (s0 : w.cell? ⟨ob, 0, none⟩ = some (.string ⟨#[34]⟩)) (s1 : w.cell? ⟨ob, 1, none⟩ = some (.string ⟨#[92, 34]⟩)) (s2 : w.cell? ⟨ob, 2, none⟩ = some (.string ⟨#[92]⟩)) (s3 : w.cell? ⟨ob, 3, none⟩ = some (.string ⟨#[92, 92]⟩)) :
    Calls Tryz.prog 144 #[.pointer (some ⟨rb, 0, none⟩)] w fun e w' => ∃ bs g1 g2 t, e = .returned (.iface 196 (.pointer (some ⟨bs, 0, none⟩))) ∧ Below w.heap.size w w' ∧ BSR w.heap.size w' bs g1 g2 t 34 92 #[92, 34].toList #[92, 92].toList ⟨#[34]⟩ ⟨#[92]⟩ := by
  have hmk : ∀ w, (Instr.makeSlice 37 (.int .i64 0) (.int .i64 2)).run Tryz.prog w = .ok (.slice (some ⟨w.heap.size, 0, none⟩) 0 2) (w.alloc (.cells #[.string ⟨#[]⟩, .string ⟨#[]⟩] 9)) := fun _ => by kernel_rfl
  have hbs := bs_store (.cells #[.string ⟨#[]⟩, .string ⟨#[]⟩] 9) w (.slice (some ⟨w.heap.size, 0, none⟩) 0 2) rfl
  go_enter Tryz.func144, Tryz.ntmps144
  go_wp2_with fail
  refine wp_loop_rounds 3 ?_
  rw [rounds_succ]
  go_wp2_with fail
  rw [rounds_succ]
  go_wp2_with fail
  rw [rounds_succ]
  go_wp2_with fail
  generalize hW : ((w.alloc (Obj.cells #[.string ⟨#[]⟩, .string ⟨#[]⟩] 9)).alloc (Obj.cells (Tryz.zeroCells195.toList.set 256 (.slice (some ⟨w.heap.size, 0, none⟩) 0 2)).toArray 195)) = w2
  have hb2 : Below w.heap.size w w2 := by rw [← hW]; exact ((Below.refl _ _).alloc (Nat.le_refl _) _).alloc (by simp) _
  have hbs2 : w2.heap[w.heap.size + 1]? = some (.cells (Tryz.zeroCells195.toList.set 256 (.slice (some ⟨w.heap.size, 0, none⟩) 0 2)).toArray 195 (0, 0)) := by
    rw [← hW]
    have := heap_alloc_new (w.alloc (Obj.cells #[.string ⟨#[]⟩, .string ⟨#[]⟩] 9)) (Obj.cells (Tryz.zeroCells195.toList.set 256 (.slice (some ⟨w.heap.size, 0, none⟩) 0 2)).toArray 195)
    simpa using this
  have htr2 : w2.heap[w.heap.size]? = some (.cells #[.string ⟨#[]⟩, .string ⟨#[]⟩] 9 (0, 0)) := by
    rw [← hW, Below.heap_alloc _ _ _ (by simp)]
    exact heap_alloc_new _ _
  have hown2 : w2.ownsRow w.heap.size 9 1 (.slice (some ⟨w.heap.size, 0, none⟩) 0 2) 0 [] := ⟨rfl, .inr ⟨w.heap.size, 2, _, rfl, Nat.le_refl _, htr2, by omega, by decide, rfl, rfl⟩⟩
  have hlt := lt_of_block hbs2
  have k1 := (cell_of_block hbs2 92).trans (bs_get _ 92 (.slice none 0 0) (by decide) (bs_nils _ (by decide)))
  have k3 := (cell_of_block hbs2 256).trans (bs_last _)
  have z3 := free_of_block hbs2 256
  have hob := World.block_lt_of_cell? w _ s0
  simp at hob
  have t2 := (hb2.cell (p := ⟨ob, 2, none⟩) hob).trans s2
  have t3 := (hb2.cell (p := ⟨ob, 3, none⟩) hob).trans s3
  have HBS2 := Lib.hid hbs2
  clear hW hbs hmk htr2 hbs2
  have hnil := fun (w : World) (a : Option Addr) (l c : Nat) => Lib.run_eql_slice_nil (P := Tryz.prog) w 102 5 a l c 0 0 Tryz.underlying102
  have q1 : ∀ (h : 0 < (ByteArray.mk #[92]).size), ((ByteArray.mk #[92])[0]'h).toNat = 92 := fun _ => rfl
  have q2 : ∀ (h : 0 < (ByteArray.mk #[34]).size), ((ByteArray.mk #[34])[0]'h).toNat = 34 := fun _ => rfl
  have kcs : ∀ (W : World) (n : Int), (convert 102 9 (.slice (some ⟨W.heap.size, 0, none⟩) 1 1)).run Tryz.prog (W.alloc (.cells #[.int .u8 n] 5)) = .ok (.string (strOfNums [n])) (W.alloc (.cells #[.int .u8 n] 5)) := by
    intro W n
    refine run_convert_bytes_arg _ 102 5 Tryz.underlying102 Tryz.underlying5 W.heap.size 0 1 1 [n] rfl (fun i hi => ?_) 9 Tryz.underlying9
    obtain rfl : i = 0 := by omega
    simp
  have kb := fun (W : World) (s : ByteArray) => Lib.run_convert_string_bytes (P := Tryz.prog) W 9 102 5 s Tryz.underlying9 Tryz.underlying102 Tryz.underlying5
  have kn1 : strOfNums [92] = ⟨#[92]⟩ := by decide
  have kn2 : strOfNums [34] = ⟨#[34]⟩ := by decide
  refine wp_loop_rounds 3 ?_
  rw [rounds_succ]
  go_wp2_with (at_builtin; refine append_one w.heap.size rfl (.tmp 119) (.tmp 123) 37 9 (.string ⟨#[]⟩) 1 16 rfl Tryz.underlying37 Tryz.infoStr0 rfl (by decide) (by decide) _ _ _ [.string ⟨#[92]⟩] rfl rfl (by simp) (by simp [Value.oneCell']) rfl (hown2.alloc _) (by simp; omega) (by omega) ?_)
  intro A1 c1 w3 hc1 hown3 hg3 hat3
  obtain ⟨hB3, hbs3⟩ := bs_step hb2 HBS2.out hown2 hown3 hg3
  obtain ⟨hB6, hbs6, hown6, hby6, hag6⟩ := bs_step2 (o := 92) (s := ⟨#[92, 92]⟩) (cc := grownCap (w3.setCell ⟨w.heap.size + 1, 256, none⟩ (.slice A1 (0 + 1) c1)) 2 0 5) hB3 hbs3 hown3
  have k3' := (cell_of_block hbs3 256).trans (bs_last _)
  have z3' := free_of_block hbs3 256
  have hbs4 := block_setCell hbs3 256 (.slice A1 (0 + 1) c1)
  have hbs5 := (Lib.bytesWorld_at_old (w3.setCell ⟨w.heap.size + 1, 256, none⟩ (.slice A1 (0 + 1) c1)) 5 ⟨#[92, 92]⟩ _ (lt_of_block hbs4)).trans hbs4
  have k5 := (cell_of_block hbs5 92).trans ((Array.getElem?_setIfInBounds_ne (by decide)).trans (bs_get _ 92 _ (by decide) (bs_nils _ (by decide))))
  have z5 := free_of_block hbs5 92
  have hlt3 := lt_of_block hbs3
  have u0 := (hB6.cell (p := ⟨ob, 0, none⟩) hob).trans s0
  have u1 := (hB6.cell (p := ⟨ob, 1, none⟩) hob).trans s1
  clear hbs3 hbs4 hbs5
  go_wp2_with fail
  refine rounds_gen (fun W => Below w.heap.size w W ∧ W.heap[w.heap.size + 1]? = some (.cells (((Tryz.zeroCells195.toList.set 256 (.slice (some ⟨w.heap.size, 0, none⟩) 0 2)).toArray.setIfInBounds 256 (.slice A1 1 c1)).setIfInBounds 92 (.slice (some ⟨w3.heap.size, 0, none⟩) 2 (grownCap (w3.setCell ⟨w.heap.size + 1, 256, none⟩ (.slice A1 1 c1)) 2 0 5))) 195 (0, 0)) ∧ W.ownsRow w.heap.size 9 1 (.slice A1 1 c1) 1 [.string ⟨#[92]⟩] ∧ BytesAt W w3.heap.size #[92, 92].toList ∧ W.cell? ⟨ob, 0, none⟩ = some (.string ⟨#[34]⟩) ∧ W.cell? ⟨ob, 1, none⟩ = some (.string ⟨#[92, 34]⟩)) ⟨hB6, hbs6, hown6, hby6, u0, u1⟩ ?_
  clear hB6 hbs6 hown6 hby6 hag6 u0 u1 k1 k3 z3 t2 t3 k3' z3' k5 z5 HBS2 hown2 hb2
  rintro w6 ⟨hB6, hbs6, hown6, hby6, u0, u1⟩
  have hsz0 : Tryz.zeroCells195.toList.length = 257 := by kernel_rfl
  have k1 := (cell_of_block hbs6 34).trans (((Array.getElem?_setIfInBounds_ne (by decide)).trans (Array.getElem?_setIfInBounds_ne (by decide))).trans (bs_get _ 34 (.slice none 0 0) (by decide) (bs_nils _ (by decide))))
  have l6 : (((Tryz.zeroCells195.toList.set 256 (.slice (some ⟨w.heap.size, 0, none⟩) 0 2)).toArray.setIfInBounds 256 (.slice A1 1 c1)).setIfInBounds 92 (.slice (some ⟨w3.heap.size, 0, none⟩) 2 (grownCap (w3.setCell ⟨w.heap.size + 1, 256, none⟩ (.slice A1 1 c1)) 2 0 5)))[256]? = some (.slice A1 1 c1) := (Array.getElem?_setIfInBounds_ne (by decide)).trans (Array.getElem?_setIfInBounds_self_of_lt (by simp [hsz0]))
  have k3 := (cell_of_block hbs6 256).trans l6
  have hlt6 := lt_of_block hbs6
  have hlt7 := hby6.1
  have HBS6 := Lib.hid hbs6
  have HL6 := Lib.hid l6
  have HSZ := Lib.hid hsz0
  clear hbs6 l6 hsz0
  rw [rounds_succ]
  go_wp2_with (at_builtin; refine append_one w.heap.size rfl (.tmp 119) (.tmp 123) 37 9 (.string ⟨#[]⟩) 1 16 rfl Tryz.underlying37 Tryz.infoStr0 rfl (by decide) (by decide) _ _ _ [.string ⟨#[34]⟩] rfl rfl (by simp) (by simp [Value.oneCell']) rfl (hown6.alloc _) (by simp; omega) (by omega) ?_)
  intro A2 c2 w7 hc2 hown7 hg7 hat7
  obtain ⟨hB7, hbs7⟩ := bs_step hB6 HBS6.out hown6 hown7 hg7
  obtain ⟨hB8, hbs8, hown8, hby8, hag8⟩ := bs_step2 (o := 34) (s := ⟨#[92, 34]⟩) (cc := grownCap (w7.setCell ⟨w.heap.size + 1, 256, none⟩ (.slice A2 (1 + 1) c2)) 2 0 5) hB7 hbs7 hown7
  have k3' := (cell_of_block hbs7 256).trans HL6.out
  have z3' := free_of_block hbs7 256
  have hbs9 := block_setCell hbs7 256 (.slice A2 (1 + 1) c2)
  have hbs10 := (Lib.bytesWorld_at_old (w7.setCell ⟨w.heap.size + 1, 256, none⟩ (.slice A2 (1 + 1) c2)) 5 ⟨#[92, 34]⟩ _ (lt_of_block hbs9)).trans hbs9
  have k5 := (cell_of_block hbs10 34).trans (((Array.getElem?_setIfInBounds_ne (by decide)).trans ((Array.getElem?_setIfInBounds_ne (by decide)).trans (Array.getElem?_setIfInBounds_ne (by decide)))).trans (bs_get _ 34 (.slice none 0 0) (by decide) (bs_nils _ (by decide))))
  have z5 := free_of_block hbs10 34
  have hne6 : ∀ k, (Value.slice A1 1 c1).ownBlock = some k → k ≠ w3.heap.size := by
    intro k hk e
    have := (own_base hown3 k hk).2
    omega
  have hby6' : BytesAt w7 w3.heap.size #[92, 92].toList := hby6.agree (F := fun b => b = w3.heap.size) ⟨Nat.le_trans (by simp) hg7.size, fun b hb hl => (hg7.block b (by simp; omega) (fun e => hne6 _ e.symm hb)).trans (Below.heap_alloc _ _ _ hl)⟩ rfl
  have HFIN := Lib.hid (And.intro hB8 (And.intro hbs8 (And.intro hown8 (And.intro hby8 (hby6'.agree hag8 (by omega : w3.heap.size ≠ w.heap.size + 1))))))
  clear hB8 hbs8 hown8 hby8 hag8 hbs9 hbs10 hby6 hby6'
  go_wp2_with fail
  rw [rounds_succ]
  go_wp2
  go_ret
  obtain ⟨q1, q2, q3, q4, q5⟩ := HFIN.out
  obtain ⟨tg, hA2, htb, htl, htc⟩ := own_open q3 (by omega)
  subst hA2
  refine ⟨w.heap.size + 1, w7.heap.size, w3.heap.size, tg, by simp, q1, ⟨⟨by omega, hB7.size, hB3.size, htb⟩, ⟨_, q2, ?_, ?_, ?_, ?_⟩, q4, q5, htc 0 _ rfl, htc 1 _ rfl, htl⟩⟩
  · intro j hj h1 h2
    rw [Array.getElem?_setIfInBounds_ne (by omega), Array.getElem?_setIfInBounds_ne (by omega), Array.getElem?_setIfInBounds_ne (by omega), Array.getElem?_setIfInBounds_ne (by omega)]
    exact bs_get _ j _ (by omega) (bs_nils _ hj)
  · exact ⟨_, Array.getElem?_setIfInBounds_self_of_lt (by simp [HSZ.out]), grownCap_ge _ _ _ _⟩
  · exact ⟨_, ((Array.getElem?_setIfInBounds_ne (by decide)).trans (Array.getElem?_setIfInBounds_ne (by decide))).trans (Array.getElem?_setIfInBounds_self_of_lt (by simp [HSZ.out])), grownCap_ge _ _ _ _⟩
  · exact ⟨_, (Array.getElem?_setIfInBounds_ne (by decide)).trans (Array.getElem?_setIfInBounds_self_of_lt (by simp [HSZ.out])), hc2⟩
set_option maxRecDepth 100000 in
set_option maxHeartbeats 2000000 in
theorem build_tilde (rb ob c : Nat) (w : World) (h4 : w.cell? ⟨rb, 4, none⟩ = some (.slice (some ⟨ob, 0, none⟩) 4 c))
    (s0 : w.cell? ⟨ob, 0, none⟩ = some (.string ⟨#[126]⟩)) (s1 : w.cell? ⟨ob, 1, none⟩ = some (.string ⟨#[126, 48]⟩)) (s2 : w.cell? ⟨ob, 2, none⟩ = some (.string ⟨#[47]⟩)) (s3 : w.cell? ⟨ob, 3, none⟩ = some (.string ⟨#[126, 49]⟩)) :
    Calls Tryz.prog 144 #[.pointer (some ⟨rb, 0, none⟩)] w fun e w' => ∃ bs g1 g2 t, e = .returned (.iface 196 (.pointer (some ⟨bs, 0, none⟩))) ∧ Below w.heap.size w w' ∧ BSR w.heap.size w' bs g1 g2 t 126 47 #[126, 48].toList #[126, 49].toList ⟨#[126]⟩ ⟨#[47]⟩ := by
  have hmk : ∀ w, (Instr.makeSlice 37 (.int .i64 0) (.int .i64 2)).run Tryz.prog w = .ok (.slice (some ⟨w.heap.size, 0, none⟩) 0 2) (w.alloc (.cells #[.string ⟨#[]⟩, .string ⟨#[]⟩] 9)) := fun _ => by kernel_rfl
  have hbs := bs_store (.cells #[.string ⟨#[]⟩, .string ⟨#[]⟩] 9) w (.slice (some ⟨w.heap.size, 0, none⟩) 0 2) rfl
  go_enter Tryz.func144, Tryz.ntmps144
  go_wp2_with fail
  refine wp_loop_rounds 3 ?_
  rw [rounds_succ]
  go_wp2_with fail
  rw [rounds_succ]
  go_wp2_with fail
  rw [rounds_succ]
  go_wp2_with fail
  generalize hW : ((w.alloc (Obj.cells #[.string ⟨#[]⟩, .string ⟨#[]⟩] 9)).alloc (Obj.cells (Tryz.zeroCells195.toList.set 256 (.slice (some ⟨w.heap.size, 0, none⟩) 0 2)).toArray 195)) = w2
  have hb2 : Below w.heap.size w w2 := by rw [← hW]; exact ((Below.refl _ _).alloc (Nat.le_refl _) _).alloc (by simp) _
  have hbs2 : w2.heap[w.heap.size + 1]? = some (.cells (Tryz.zeroCells195.toList.set 256 (.slice (some ⟨w.heap.size, 0, none⟩) 0 2)).toArray 195 (0, 0)) := by
    rw [← hW]
    have := heap_alloc_new (w.alloc (Obj.cells #[.string ⟨#[]⟩, .string ⟨#[]⟩] 9)) (Obj.cells (Tryz.zeroCells195.toList.set 256 (.slice (some ⟨w.heap.size, 0, none⟩) 0 2)).toArray 195)
    simpa using this
  have htr2 : w2.heap[w.heap.size]? = some (.cells #[.string ⟨#[]⟩, .string ⟨#[]⟩] 9 (0, 0)) := by
    rw [← hW, Below.heap_alloc _ _ _ (by simp)]
    exact heap_alloc_new _ _
  have hown2 : w2.ownsRow w.heap.size 9 1 (.slice (some ⟨w.heap.size, 0, none⟩) 0 2) 0 [] := ⟨rfl, .inr ⟨w.heap.size, 2, _, rfl, Nat.le_refl _, htr2, by omega, by decide, rfl, rfl⟩⟩
  have hlt := lt_of_block hbs2
  have k1 := (cell_of_block hbs2 47).trans (bs_get _ 47 (.slice none 0 0) (by decide) (bs_nils _ (by decide)))
  have k3 := (cell_of_block hbs2 256).trans (bs_last _)
  have z3 := free_of_block hbs2 256
  have hob := World.block_lt_of_cell? w _ s0
  simp at hob
  have t2 := (hb2.cell (p := ⟨ob, 2, none⟩) hob).trans s2
  have t3 := (hb2.cell (p := ⟨ob, 3, none⟩) hob).trans s3
  have HBS2 := Lib.hid hbs2
  clear hW hbs hmk htr2 hbs2
  have hnil := fun (w : World) (a : Option Addr) (l c : Nat) => Lib.run_eql_slice_nil (P := Tryz.prog) w 102 5 a l c 0 0 Tryz.underlying102
  have q1 : ∀ (h : 0 < (ByteArray.mk #[47]).size), ((ByteArray.mk #[47])[0]'h).toNat = 47 := fun _ => rfl
  have q2 : ∀ (h : 0 < (ByteArray.mk #[126]).size), ((ByteArray.mk #[126])[0]'h).toNat = 126 := fun _ => rfl
  have kcs : ∀ (W : World) (n : Int), (convert 102 9 (.slice (some ⟨W.heap.size, 0, none⟩) 1 1)).run Tryz.prog (W.alloc (.cells #[.int .u8 n] 5)) = .ok (.string (strOfNums [n])) (W.alloc (.cells #[.int .u8 n] 5)) := by
    intro W n
    refine run_convert_bytes_arg _ 102 5 Tryz.underlying102 Tryz.underlying5 W.heap.size 0 1 1 [n] rfl (fun i hi => ?_) 9 Tryz.underlying9
    obtain rfl : i = 0 := by omega
    simp
  have kb := fun (W : World) (s : ByteArray) => Lib.run_convert_string_bytes (P := Tryz.prog) W 9 102 5 s Tryz.underlying9 Tryz.underlying102 Tryz.underlying5
  have kn1 : strOfNums [47] = ⟨#[47]⟩ := by decide
  have kn2 : strOfNums [126] = ⟨#[126]⟩ := by decide
  refine wp_loop_rounds 3 ?_
  rw [rounds_succ]
  go_wp2_with (at_builtin; refine append_one w.heap.size rfl (.tmp 119) (.tmp 123) 37 9 (.string ⟨#[]⟩) 1 16 rfl Tryz.underlying37 Tryz.infoStr0 rfl (by decide) (by decide) _ _ _ [.string ⟨#[47]⟩] rfl rfl (by simp) (by simp [Value.oneCell']) rfl (hown2.alloc _) (by simp; omega) (by omega) ?_)
  intro A1 c1 w3 hc1 hown3 hg3 hat3
  obtain ⟨hB3, hbs3⟩ := bs_step hb2 HBS2.out hown2 hown3 hg3
  obtain ⟨hB6, hbs6, hown6, hby6, hag6⟩ := bs_step2 (o := 47) (s := ⟨#[126, 49]⟩) (cc := grownCap (w3.setCell ⟨w.heap.size + 1, 256, none⟩ (.slice A1 (0 + 1) c1)) 2 0 5) hB3 hbs3 hown3
  have k3' := (cell_of_block hbs3 256).trans (bs_last _)
  have z3' := free_of_block hbs3 256
  have hbs4 := block_setCell hbs3 256 (.slice A1 (0 + 1) c1)
  have hbs5 := (Lib.bytesWorld_at_old (w3.setCell ⟨w.heap.size + 1, 256, none⟩ (.slice A1 (0 + 1) c1)) 5 ⟨#[126, 49]⟩ _ (lt_of_block hbs4)).trans hbs4
  have k5 := (cell_of_block hbs5 47).trans ((Array.getElem?_setIfInBounds_ne (by decide)).trans (bs_get _ 47 _ (by decide) (bs_nils _ (by decide))))
  have z5 := free_of_block hbs5 47
  have hlt3 := lt_of_block hbs3
  have u0 := (hB6.cell (p := ⟨ob, 0, none⟩) hob).trans s0
  have u1 := (hB6.cell (p := ⟨ob, 1, none⟩) hob).trans s1
  clear hbs3 hbs4 hbs5
  go_wp2_with fail
  refine rounds_gen (fun W => Below w.heap.size w W ∧ W.heap[w.heap.size + 1]? = some (.cells (((Tryz.zeroCells195.toList.set 256 (.slice (some ⟨w.heap.size, 0, none⟩) 0 2)).toArray.setIfInBounds 256 (.slice A1 1 c1)).setIfInBounds 47 (.slice (some ⟨w3.heap.size, 0, none⟩) 2 (grownCap (w3.setCell ⟨w.heap.size + 1, 256, none⟩ (.slice A1 1 c1)) 2 0 5))) 195 (0, 0)) ∧ W.ownsRow w.heap.size 9 1 (.slice A1 1 c1) 1 [.string ⟨#[47]⟩] ∧ BytesAt W w3.heap.size #[126, 49].toList ∧ W.cell? ⟨ob, 0, none⟩ = some (.string ⟨#[126]⟩) ∧ W.cell? ⟨ob, 1, none⟩ = some (.string ⟨#[126, 48]⟩)) ⟨hB6, hbs6, hown6, hby6, u0, u1⟩ ?_
  clear hB6 hbs6 hown6 hby6 hag6 u0 u1 k1 k3 z3 t2 t3 k3' z3' k5 z5 HBS2 hown2 hb2
  rintro w6 ⟨hB6, hbs6, hown6, hby6, u0, u1⟩
  have hsz0 : Tryz.zeroCells195.toList.length = 257 := by kernel_rfl
  have k1 := (cell_of_block hbs6 126).trans (((Array.getElem?_setIfInBounds_ne (by decide)).trans (Array.getElem?_setIfInBounds_ne (by decide))).trans (bs_get _ 126 (.slice none 0 0) (by decide) (bs_nils _ (by decide))))
  have l6 : (((Tryz.zeroCells195.toList.set 256 (.slice (some ⟨w.heap.size, 0, none⟩) 0 2)).toArray.setIfInBounds 256 (.slice A1 1 c1)).setIfInBounds 47 (.slice (some ⟨w3.heap.size, 0, none⟩) 2 (grownCap (w3.setCell ⟨w.heap.size + 1, 256, none⟩ (.slice A1 1 c1)) 2 0 5)))[256]? = some (.slice A1 1 c1) := (Array.getElem?_setIfInBounds_ne (by decide)).trans (Array.getElem?_setIfInBounds_self_of_lt (by simp [hsz0]))
  have k3 := (cell_of_block hbs6 256).trans l6
  have hlt6 := lt_of_block hbs6
  have hlt7 := hby6.1
  have HBS6 := Lib.hid hbs6
  have HL6 := Lib.hid l6
  have HSZ := Lib.hid hsz0
  clear hbs6 l6 hsz0
  rw [rounds_succ]
  go_wp2_with (at_builtin; refine append_one w.heap.size rfl (.tmp 119) (.tmp 123) 37 9 (.string ⟨#[]⟩) 1 16 rfl Tryz.underlying37 Tryz.infoStr0 rfl (by decide) (by decide) _ _ _ [.string ⟨#[126]⟩] rfl rfl (by simp) (by simp [Value.oneCell']) rfl (hown6.alloc _) (by simp; omega) (by omega) ?_)
  intro A2 c2 w7 hc2 hown7 hg7 hat7
  obtain ⟨hB7, hbs7⟩ := bs_step hB6 HBS6.out hown6 hown7 hg7
  obtain ⟨hB8, hbs8, hown8, hby8, hag8⟩ := bs_step2 (o := 126) (s := ⟨#[126, 48]⟩) (cc := grownCap (w7.setCell ⟨w.heap.size + 1, 256, none⟩ (.slice A2 (1 + 1) c2)) 2 0 5) hB7 hbs7 hown7
  have k3' := (cell_of_block hbs7 256).trans HL6.out
  have z3' := free_of_block hbs7 256
  have hbs9 := block_setCell hbs7 256 (.slice A2 (1 + 1) c2)
  have hbs10 := (Lib.bytesWorld_at_old (w7.setCell ⟨w.heap.size + 1, 256, none⟩ (.slice A2 (1 + 1) c2)) 5 ⟨#[126, 48]⟩ _ (lt_of_block hbs9)).trans hbs9
  have k5 := (cell_of_block hbs10 126).trans (((Array.getElem?_setIfInBounds_ne (by decide)).trans ((Array.getElem?_setIfInBounds_ne (by decide)).trans (Array.getElem?_setIfInBounds_ne (by decide)))).trans (bs_get _ 126 (.slice none 0 0) (by decide) (bs_nils _ (by decide))))
  have z5 := free_of_block hbs10 126
  have hne6 : ∀ k, (Value.slice A1 1 c1).ownBlock = some k → k ≠ w3.heap.size := by
    intro k hk e
    have := (own_base hown3 k hk).2
    omega
  have hby6' : BytesAt w7 w3.heap.size #[126, 49].toList := hby6.agree (F := fun b => b = w3.heap.size) ⟨Nat.le_trans (by simp) hg7.size, fun b hb hl => (hg7.block b (by simp; omega) (fun e => hne6 _ e.symm hb)).trans (Below.heap_alloc _ _ _ hl)⟩ rfl
  have HFIN := Lib.hid (And.intro hB8 (And.intro hbs8 (And.intro hown8 (And.intro hby8 (hby6'.agree hag8 (by omega : w3.heap.size ≠ w.heap.size + 1))))))
  clear hB8 hbs8 hown8 hby8 hag8 hbs9 hbs10 hby6 hby6'
  go_wp2_with fail
  rw [rounds_succ]
  go_wp2
  go_ret
  obtain ⟨q1, q2, q3, q4, q5⟩ := HFIN.out
  obtain ⟨tg, hA2, htb, htl, htc⟩ := own_open q3 (by omega)
  subst hA2
  refine ⟨w.heap.size + 1, w7.heap.size, w3.heap.size, tg, by simp, q1, ⟨⟨by omega, hB7.size, hB3.size, htb⟩, ⟨_, q2, ?_, ?_, ?_, ?_⟩, q4, q5, htc 0 _ rfl, htc 1 _ rfl, htl⟩⟩
  · intro j hj h1 h2
    rw [Array.getElem?_setIfInBounds_ne (by omega), Array.getElem?_setIfInBounds_ne (by omega), Array.getElem?_setIfInBounds_ne (by omega), Array.getElem?_setIfInBounds_ne (by omega)]
    exact bs_get _ j _ (by omega) (bs_nils _ hj)
  · exact ⟨_, Array.getElem?_setIfInBounds_self_of_lt (by simp [HSZ.out]), grownCap_ge _ _ _ _⟩
  · exact ⟨_, ((Array.getElem?_setIfInBounds_ne (by decide)).trans (Array.getElem?_setIfInBounds_ne (by decide))).trans (Array.getElem?_setIfInBounds_self_of_lt (by simp [HSZ.out])), grownCap_ge _ _ _ _⟩
  · exact ⟨_, (Array.getElem?_setIfInBounds_ne (by decide)).trans (Array.getElem?_setIfInBounds_self_of_lt (by simp [HSZ.out])), hc2⟩
end Go.Proofs.YtcbcndoddikpjaaGreatDoor
