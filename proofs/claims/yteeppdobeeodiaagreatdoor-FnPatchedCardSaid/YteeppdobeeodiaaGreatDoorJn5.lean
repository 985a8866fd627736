/- slices.Insert of one element at names and at parts, by its roads: in place; at the end; into a new row. -/
import Derived.Test.YteeppdobeeodiaaGreatDoorJn1
import Derived.Test.YteeppdobeeodiaaGreatDoorJn3
import Derived.Test.YteeppdobeeodiaaGreatDoorBs2
import Derived.Shelf.Spec.SlicesInsertGrow
namespace Go.Proofs.YteeppdobeeodiaaGreatDoor
open Go.Shelf Go.RowKit Go.Lib
theorem run_sizeOf1 {P : Program} {e : TypeId} (h : (P.info? e).map (·.size) = some 1) (w : World) : (Go.sizeOf e).run P w = .ok 1 w := by
  obtain ⟨i, hi, h1⟩ := Option.map_eq_some_iff.1 h
  simp [sizeOf, typeInfo, hi, h1]
/-- The row behind the first copy: what stands from i on, one place on. -/
def shiftA (cur : Array Value) (i : Nat) (xs : List Value) : List Value := cur.toList.take (i + 1) ++ xs.drop i ++ cur.toList.drop (i + 1 + (xs.drop i).length)
/-- .. behind the second: x at i. -/
def putA (L : List Value) (i : Nat) (x : Value) : List Value := L.toArray.toList.take i ++ [x] ++ L.toArray.toList.drop (i + [x].length)
theorem shiftA_length (cur : Array Value) (i : Nat) (xs : List Value) (h : xs.length + 1 ≤ cur.size) (hi : i ≤ xs.length) : (shiftA cur i xs).length = cur.size := by
  simp [shiftA]
  omega
theorem putA_eq (L : List Value) (i : Nat) (x : Value) : putA L i x = L.take i ++ [x] ++ L.drop (i + 1) := by simp [putA]
theorem putA_length (L : List Value) (i : Nat) (x : Value) (h : i < L.length) : (putA L i x).length = L.length := by
  rw [putA_eq]
  simp
  omega
theorem shift_put (cur : Array Value) (xs : List Value) (i n : Nat) (x : Value) (hx : cur.toList.take n = xs) (hn : xs.length = n) (hi : i < n) : ∃ rest, putA (shiftA cur i xs) i x = ins i x xs ++ rest := by
  have h1 : cur.toList.take (i + 1) = xs.take (i + 1) := by rw [← hx, List.take_take, Nat.min_eq_left (by omega)]
  have hl : (xs.take (i + 1)).length = i + 1 := by rw [List.length_take]; omega
  refine ⟨cur.toList.drop (i + 1 + (xs.drop i).length), ?_⟩
  have e : shiftA cur i xs = xs.take (i + 1) ++ (xs.drop i ++ cur.toList.drop (i + 1 + (xs.drop i).length)) := by rw [shiftA, h1, List.append_assoc]
  rw [putA_eq, e, List.take_append_of_le_length (by omega), List.take_take, Nat.min_eq_left (by omega), List.drop_left' hl, ins]
  simp
theorem put_shift (R xs : List Value) (i : Nat) (x : Value) (hR : R.take i = xs.take i) (_hi : i ≤ xs.length) (hr : i < R.length) : ∃ rest, shiftA (putA R i x).toArray i xs = ins i x xs ++ rest := by
  have hl : (R.take i ++ [x]).length = i + 1 := by rw [List.length_append, List.length_take, List.length_singleton]; omega
  refine ⟨(putA R i x).drop (i + 1 + (xs.drop i).length), ?_⟩
  unfold shiftA ins
  rw [← hR]
  have h1 : (putA R i x).take (i + 1) = R.take i ++ [x] := by rw [putA_eq, List.take_left' hl]
  have e : (putA R i x).toArray.toList = putA R i x := rfl
  rw [e, h1]
  simp
def InsPost (base : Nat) (E : TypeId) (xs : List Value) (i : Nat) (x : Value) (n : Nat) (v : Value) (w : World) (en : Ending) (w' : World) : Prop :=
  ∃ A' c', en = .returned (.slice A' (n + 1) c') ∧ n + 1 ≤ c' ∧ w'.ownsRow base E 1 (.slice A' (n + 1) c') (n + 1) (ins i x xs) ∧ w.grownBy w' v.ownBlock ∧ ((Value.slice A' (n + 1) c').ownBlock = v.ownBlock ∨ (Value.slice A' (n + 1) c').ownBlock = some w.heap.size)
theorem owns_of {w : World} {base g : Nat} {E : TypeId} {L ys rest : List Value} {n c : Nat} (hb : base ≤ g) (hh : w.heap[g]? = some (.cells L.toArray E (0, 0))) (hL : L = ys ++ rest) (hl : L.length = c) (hy : ys.length = n) (hc : c ≤ maxLen) : w.ownsRow base E 1 (.slice (some ⟨g, 0, none⟩) n c) n ys := by
  subst hL
  rw [List.length_append] at hl
  exact ⟨by omega, .inr ⟨g, c, _, rfl, hb, hh, by omega, hc, by simp; omega, by simp [← hy]⟩⟩
theorem shift_fin {w : World} {base g n i c : Nat} {E : TypeId} {xs : List Value} {x : Value} {cur : Array Value} (hb : base ≤ g) (hg : w.heap[g]? = some (.cells cur E (0, 0))) (hcs : cur.size = c) (hcx : cur.toList.take n = xs) (hn : xs.length = n) (hi : i < n) (hroom : n + 1 ≤ c) (hc : c ≤ maxLen) :
    InsPost base E xs i x n (.slice (some ⟨g, 0, none⟩) n c) w (.returned (.slice (some ⟨g, 0, none⟩) (n + 1) c)) ((w.drew.setRow g (shiftA cur i xs).toArray).setRow g (putA (shiftA cur i xs) i x).toArray) := by
  obtain ⟨rest, hr⟩ := shift_put cur xs i n x hcx hn hi
  have hl := shiftA_length cur i xs (by omega) (by omega)
  refine ⟨_, _, rfl, hroom, owns_of hb (setRow_heap _ g _ _ E (0, 0) (setRow_heap w.drew g cur _ E (0, 0) hg)) hr (by rw [putA_length _ _ _ (by omega)]; omega) (by rw [ins_length _ _ _ (by omega), hn]) hc, ⟨rfl, rfl, rfl, by rw [size_setRow, size_setRow]; exact Nat.le_refl _, fun k _ hk => ?_⟩, .inl rfl⟩
  have hkg : k ≠ g := fun e => hk (by rw [e]; rfl)
  rw [setRow_other _ g k _ hkg, setRow_other _ g k _ hkg]
  rfl
theorem grow_fin {w W1 w' : World} {base n i c : Nat} {E : TypeId} {xs R : List Value} {x : Value} {v : Value} (hb : base ≤ w.heap.size) (hW : W1 = w.drew.alloc (.cells R.toArray E)) (hn : xs.length = n) (hi : i < n) (hR : R.take i = xs.take i) (hRl : R.length = c) (hroom : n + 1 ≤ c) (hc : c ≤ maxLen)
    (hh : w'.heap = ((W1.setRow w.heap.size (putA R i x).toArray).setRow w.heap.size (shiftA (putA R i x).toArray i xs).toArray).heap) (h1 : w'.os = w.os) (h2 : w'.tape = w.tape) (h3 : w'.output = w.output) :
    InsPost base E xs i x n v w (.returned (.slice (some ⟨w.heap.size, 0, none⟩) (n + 1) c)) w' := by
  obtain ⟨rest, hr⟩ := put_shift R xs i x hR (by omega) (by omega)
  have hp : (putA R i x).length = c := by rw [putA_length _ _ _ (by omega)]; exact hRl
  have hl : (shiftA (putA R i x).toArray i xs).length = c := by rw [shiftA_length _ i xs (by simp; omega) (by omega)]; simpa using hp
  have hg : W1.heap[w.heap.size]? = some (.cells R.toArray E (0, 0)) := by rw [hW]; exact heap_alloc_new w.drew _
  have hs : W1.heap.size = w.heap.size + 1 := by rw [hW]; exact (by simp : (w.drew.alloc (.cells R.toArray E)).heap.size = w.drew.heap.size + 1)
  refine ⟨_, _, rfl, hroom, owns_of hb (by rw [hh]; exact setRow_heap _ _ _ _ E (0, 0) (setRow_heap W1 _ _ _ E (0, 0) hg)) hr hl (by rw [ins_length _ _ _ (by omega), hn]) hc, ⟨h1, h2, h3, by rw [hh]; simp [hs], fun k hk _ => ?_⟩, .inr rfl⟩
  have hkg : k ≠ w.heap.size := by omega
  rw [hh, setRow_other _ _ k _ hkg, setRow_other _ _ k _ hkg, hW]
  exact Go.heap_alloc_old w.drew _ hk

set_option maxHeartbeats 4000000 in
set_option maxRecDepth 100000 in
/-- slices.Insert: room, i < len(s): in place. -/
theorem insShiftS (xs : List Value) (n i c g gv : Nat) (x : Value) (cur : Array Value) (w : World) (hi : i < n) (hroom : n + 1 ≤ c) (hc63 : c ≤ 9223372036854775807) (hvb : gv ≠ g)
    (hcl : xs.length = n) (hg : w.heap[g]? = some (.cells cur 9 (0, 0))) (hcs : cur.size = c) (hcx : cur.toList.take n = xs) (hv : w.heap[gv]? = some (.cells #[x] 9 (0, 0))) (h1c : ∀ v ∈ xs, v.oneCell' = true) (h1v : x.oneCell' = true) :
    Calls Tryz.prog 73 #[.slice (some ⟨g, 0, none⟩) n c, .int .i64 i, .slice (some ⟨gv, 0, none⟩) 1 1] w fun e w' => e = .returned (.slice (some ⟨g, 0, none⟩) (n + 1) c) ∧ w' = (w.drew.setRow g (shiftA cur i xs).toArray).setRow g (putA (shiftA cur i xs) i x).toArray := by
  have hsz : (Tryz.prog.info? 9).map (·.size) = some 1 := info_size infoStr
  have hs1 : ∀ w, (Go.sizeOf 9).run Tryz.prog w = .ok 1 w := fun w => run_sizeOf1 hsz w
  have hsa : w.shape? gv = some (9, 1) := by simp [World.shape?, hv]
  have hsb : w.shape? g = some (9, c) := by simp [World.shape?, hg, hcs]
  have hfa : w.frozen? ⟨gv, 0, none⟩ = false := free_of_block hv 0
  have hfe : w.frozen? ⟨gv, 1, none⟩ = false := free_of_block hv 1
  have hov : ∀ lb cb, (callFunc 105 #[.slice (some ⟨gv, 0, none⟩) 1 1, .slice (some ⟨g, i + 1, none⟩) lb cb]).run Tryz.prog w = .ok (.value (.bool false)) w := fun lb cb => by
    rw [run_callFunc_extern Tryz.func105 (by kernel_rfl) (by kernel_rfl) (by kernel_rfl) (e := Extern.SlicesOverlaps.overlaps #[41, 41] #[4]) (by kernel_rfl),
      Lib.run_overlaps_apart w 41 4 9 Tryz.underlying41 1 hs1 ⟨gv, 0, none⟩ ⟨g, i + 1, none⟩ 1 1 lb cb hvb 9 9 1 c hsa hsb (by omega) hfa hfe]
    rfl
  have hdl : (xs.drop i).length = n - i := by rw [List.length_drop, hcl]
  have hw1 : IntKind.i64.wrap ((i : Int) + 1) = (i : Int) + 1 := by rw [IntKind.wrap_i64]; omega
  have hb1 : (0 : Int) ≤ (i : Int) + 1 := by omega
  have hin : i ≤ n := by omega
  have htn : ((i : Int) + 1).toNat = i + 1 := by omega
  have hz2 : ¬ ((i : Int) = (n : Int)) := by omega
  have hb2 : ¬ (c = i + 1) := by omega
  have hb3 : (i : Int) ≤ (n : Int) + 1 := by omega
  have hb4 : ¬ (c = i) := by omega
  have hcx' : ∀ j v, xs[j]? = some v → w.cell? ⟨g, j, none⟩ = some v := fun j v hj => by
    rw [cell_of_block hg]
    rw [← hcx, List.getElem?_take] at hj
    split at hj
    · simpa using hj
    · cases hj
  have hcp1 : ∀ ty dc sc, (Builtin.copy_ #[41, 41] ty #[.slice (some ⟨g, i + 1, none⟩) (n - i) dc, .slice (some ⟨g, i, none⟩) (n + 1 - i) sc]).run Tryz.prog w.drew = .ok (goInt (xs.drop i).length) (w.drew.setRow g (shiftA cur i xs).toArray) := fun ty dc sc =>
    run_copy_row (P := Tryz.prog) w.drew _ _ ty 9 g (i + 1) (n - i) dc ⟨g, i, none⟩ (n + 1 - i) sc cur 9 (xs.drop i) Tryz.underlying41 hsz hg (by rw [hdl]; simp only [Nat.min_def]; split <;> omega)
      (fun j v hj => by rw [Addr.add_lit]; exact hcx' (i + j) v (by rwa [List.getElem?_drop] at hj)) (by rw [hdl]; omega) (fun v hv => h1c v (List.mem_of_mem_drop hv))
  obtain ⟨W1, hW1⟩ : ∃ W1, W1 = w.drew.setRow g (shiftA cur i xs).toArray := ⟨_, rfl⟩
  have hg1 : W1.heap[g]? = some (.cells (shiftA cur i xs).toArray 9 (0, 0)) := by rw [hW1]; exact setRow_heap w.drew g cur _ 9 (0, 0) hg
  have hv1 : W1.heap[gv]? = some (.cells #[x] 9 (0, 0)) := by rw [hW1, setRow_other w.drew g gv _ hvb]; exact hv
  have hlen : (shiftA cur i xs).length = c := by rw [shiftA_length cur i xs (by rw [hcl, hcs]; omega) (by omega)]; exact hcs
  have hcp2 : ∀ ty dc, (Builtin.copy_ #[41, 41] ty #[.slice (some ⟨g, i, none⟩) (n + 1 - i) dc, .slice (some ⟨gv, 0, none⟩) 1 1]).run Tryz.prog W1 = .ok (goInt 1) (W1.setRow g (putA (shiftA cur i xs) i x).toArray) := fun ty dc => by
    have h := run_copy_row (P := Tryz.prog) W1 41 41 ty 9 g i (n + 1 - i) dc ⟨gv, 0, none⟩ 1 1 (shiftA cur i xs).toArray 9 [x] Tryz.underlying41 hsz hg1 (by simp only [Nat.min_def, List.length_singleton]; split <;> omega)
      (fun j v hj => by
        rw [Addr.add_lit, cell_of_block hv1]
        cases j with
        | zero => simpa using hj
        | succ j => simp at hj) (by simp [hlen]; omega) (fun v hv => by simp at hv; rw [hv]; exact h1v)
    exact h
  have mixed : Tryz.prog.follows Departure.mixedOrders = true := by kernel_rfl
  rw [← hW1] at hcp1
  rw [← hW1]
  have HW := Lib.hid hW1
  clear hW1 hg1 hv1
  go_enter Tryz.func73, Tryz.ntmps73
  go_wp2_with (simp only [hov])
  go_region_law_o (refine step_copy_runI rfl _ _ 41 41 rfl _ _ (by simp [Act.eval, Act.put]) (by simp [Act.eval, Act.put]) (hcp1 _ _ _) ?_)
  go_wp2_with (at_builtin; refine wpList_copy_runI _ rfl _ _ 41 41 rfl _ _ rfl rfl (hcp2 _ _) ?_)
  go_ret
  exact ⟨rfl, rfl⟩
set_option maxHeartbeats 2000000 in
set_option maxRecDepth 100000 in
theorem insEndS (base : Nat) (xs : List Value) (n c gv : Nat) (x : Value) (A : Option Addr) (w : World) (hn : n ≤ 1000000) (hbase : base ≤ w.heap.size) (hcl : xs.length = n) (ho : w.ownsRow base 9 1 (.slice A n c) n xs) (hv : w.heap[gv]? = some (.cells #[x] 9 (0, 0))) (h1v : x.oneCell' = true) :
    Calls Tryz.prog 73 #[.slice A n c, .int .i64 n, .slice (some ⟨gv, 0, none⟩) 1 1] w (InsPost base 9 xs n x n (.slice A n c) w) := by
  have hr : Rds (fun b => b = gv) w (some ⟨gv, 0, none⟩) [x] := rds_blk (L := [x]) hv
  have HR := Lib.hid hr
  obtain ⟨A', c', e', hnc⟩ := own_slice ho
  injection e' with e1 _ e3
  subst e1 e3
  have HO := Lib.hid ho
  clear ho hr
  have e : ins n x xs = xs ++ [x] := by rw [ins, List.take_of_length_le (by omega), List.drop_eq_nil_of_le (by omega)]
  have HE := Lib.hid e
  clear e
  by_cases hcn : c = n
  · subst hcn
    go_enter Tryz.func73, Tryz.ntmps73
    go_wp2_with (at_builtin; refine append_rows base rfl _ _ 41 9 _ 1 16 rfl Tryz.underlying41 infoStr rfl (by decide) (.slice A c c) c xs rfl HO.out (some ⟨gv, 0, none⟩) 1 1 [x] rfl rfl HR.out (fun u hu => by simp at hu; rw [hu]; exact h1v) (by simp only [maxLen]; omega) (by omega) hbase ?_; intro A1 c1 w1 hc1 hown1 hg1 hat1)
    have H1 := Lib.hid hown1
    have H2 := Lib.hid hg1
    have H3 := Lib.hid hat1
    clear hown1 hg1 hat1
    go_wp2
    go_ret
    have h := H1.out
    rw [← HE.out] at h
    exact ⟨A1, c1, rfl, hc1, h, H2.out, H3.out⟩
  · go_enter Tryz.func73, Tryz.ntmps73
    go_wp2_with (at_builtin; refine append_rows base rfl _ _ 41 9 _ 1 16 rfl Tryz.underlying41 infoStr rfl (by decide) (.slice A n c) n xs rfl HO.out (some ⟨gv, 0, none⟩) 1 1 [x] rfl rfl HR.out (fun u hu => by simp at hu; rw [hu]; exact h1v) (by simp only [maxLen]; omega) (by omega) hbase ?_; intro A1 c1 w1 hc1 hown1 hg1 hat1)
    have H1 := Lib.hid hown1
    have H2 := Lib.hid hg1
    have H3 := Lib.hid hat1
    clear hown1 hg1 hat1
    go_wp2
    go_ret
    have h := H1.out
    rw [← HE.out] at h
    exact ⟨A1, c1, rfl, hc1, h, H2.out, H3.out⟩
set_option maxHeartbeats 4000000 in
set_option maxRecDepth 100000 in
theorem insGrowS (base : Nat) (xs : List Value) (n i g gv : Nat) (x : Value) (cur : Array Value) (w : World) (hi : i < n) (hn6 : n ≤ 1000000) (hbase : base ≤ w.heap.size)
    (hcl : xs.length = n) (hg : w.heap[g]? = some (.cells cur 9 (0, 0))) (hcx : cur.toList.take n = xs) (hv : w.heap[gv]? = some (.cells #[x] 9 (0, 0))) (h1c : ∀ v ∈ xs, v.oneCell' = true) (h1v : x.oneCell' = true) :
    Calls Tryz.prog 73 #[.slice (some ⟨g, 0, none⟩) n n, .int .i64 i, .slice (some ⟨gv, 0, none⟩) 1 1] w (InsPost base 9 xs i x n (.slice (some ⟨g, 0, none⟩) n n) w) := by
  obtain ⟨i0, hi0, hz⟩ := Option.map_eq_some_iff.1 infoStr
  simp only [Prod.mk.injEq] at hz
  obtain ⟨hz0, hzs, hzb⟩ := hz
  have hsz : (Tryz.prog.info? 9).map (·.size) = some 1 := info_size infoStr
  have hgw := lt_of_block hg
  have hvw := lt_of_block hv
  have hcx' : ∀ j v, xs[j]? = some v → w.cell? ⟨g, j, none⟩ = some v := fun j v hj => by
    rw [cell_of_block hg]
    rw [← hcx, List.getElem?_take] at hj
    split at hj
    · simpa using hj
    · cases hj
  have hz2 : ¬ ((i : Int) = (n : Int)) := by omega
  have hkk : (n : Int) + 1 - (i : Int) = ((n + 1 - i : Nat) : Int) := by omega
  have hik : i + (n + 1 - i) = n + 1 := by omega
  have hold : (Builtin.firstCells i0.size i (.slice (some ⟨g, 0, none⟩) i n)).run Tryz.prog w.drew = .ok (xs.take i).toArray w.drew := by
    rw [hzs]
    exact run_firstCells_some w.drew 1 i ⟨g, 0, none⟩ i n (xs.take i) (by rw [List.length_take]; omega) (fun j v hj => by
      rw [Addr.add_lit, Nat.zero_add]
      rw [List.getElem?_take] at hj
      split at hj
      · exact hcx' j v hj
      · cases hj)
  obtain ⟨G, hG⟩ : ∃ G, G = grownCap w (n + 1) n 9 := ⟨_, rfl⟩
  have hGn : n + 1 ≤ G := by rw [hG]; exact grownCap_ge w _ _ _
  have hG63 : G ≤ maxLen := by rw [hG]; exact grownCap_le_maxLen w (n + 1) n 9 (by unfold maxLen; omega)
  obtain ⟨R, hR⟩ : ∃ R : List Value, R = xs.take i ++ ((Builtin.zeroCells (.string ⟨#[]⟩ : Value).cells (n + 1 - i)).toList ++ (Builtin.zeroCells (.string ⟨#[]⟩ : Value).cells (G - (n + 1))).toList) := ⟨_, rfl⟩
  have hRa : (xs.take i).toArray ++ Builtin.zeroCells (.string ⟨#[]⟩ : Value).cells (n + 1 - i) ++ Builtin.zeroCells (.string ⟨#[]⟩ : Value).cells (G - (n + 1)) = R.toArray := by rw [hR]; apply Array.ext'; simp
  have hrz : ∀ ty, (Builtin.append_ #[41, 3] ty #[.slice (some ⟨g, 0, none⟩) i n, .int .i64 ((n : Int) + 1 - (i : Int))]).run Tryz.prog w = .ok (.slice (some ⟨w.heap.size, 0, none⟩) (n + 1) G) (w.drew.alloc (.cells R.toArray 9)) := fun ty => by
    have h := Lib.run_append_grow_zeros (P := Tryz.prog) w 41 3 ty 9 i0 _ .i64 .i64 Tryz.underlying41 Tryz.underlying3 hi0 hz0 (some ⟨g, 0, none⟩) i n (xs.take i) hold (n + 1 - i) (by omega) (by omega) (by omega) (by omega) (by rw [hzb]; omega) (by rw [hzb, hik]; exact growslice_fits (by omega) (by omega))
    rw [hik, ← hG, hRa] at h
    rw [hkk]
    exact h
  have hRl : R.length = G := by rw [hR]; simp [Builtin.zeroCells, Value.cells]; omega
  have hRt : R.take i = xs.take i := by rw [hR, List.take_append_of_le_length (by rw [List.length_take]; omega), List.take_take, Nat.min_self]
  obtain ⟨W1, hW1⟩ : ∃ W1, W1 = w.drew.alloc (.cells R.toArray 9) := ⟨_, rfl⟩
  have hN : W1.heap[w.heap.size]? = some (.cells R.toArray 9 (0, 0)) := by rw [hW1]; exact heap_alloc_new w.drew _
  have hO : ∀ k, k < w.heap.size → W1.heap[k]? = w.heap[k]? := fun k hk => by rw [hW1]; exact Go.heap_alloc_old w.drew _ hk
  have hdl : (xs.drop i).length = n - i := by rw [List.length_drop, hcl]
  have hcpA : ∀ (W : World), W.heap = W1.heap → ∀ ty dc, (Builtin.copy_ #[41, 41] ty #[.slice (some ⟨w.heap.size, i, none⟩) (n + 1 - i) dc, .slice (some ⟨gv, 0, none⟩) 1 1]).run Tryz.prog W = .ok (goInt 1) (W.setRow w.heap.size (putA R i x).toArray) := fun W hW ty dc => by
    have h := run_copy_row (P := Tryz.prog) W 41 41 ty 9 w.heap.size i (n + 1 - i) dc ⟨gv, 0, none⟩ 1 1 R.toArray 9 [x] Tryz.underlying41 hsz (by rw [hW]; exact hN) (by simp only [Nat.min_def, List.length_singleton]; split <;> omega)
      (fun j v hj => by
        rw [Addr.add_lit, cell_of_block (show W.heap[gv]? = some (.cells #[x] 9 (0, 0)) by rw [hW, hO gv hvw]; exact hv)]
        cases j with
        | zero => simpa using hj
        | succ j => simp at hj) (by simp [hRl]; omega) (fun v hv => by simp at hv; rw [hv]; exact h1v)
    exact h
  have hcpB : ∀ (W : World), W.heap = (W1.setRow w.heap.size (putA R i x).toArray).heap → ∀ ty dc sc, (Builtin.copy_ #[41, 41] ty #[.slice (some ⟨w.heap.size, i + 1, none⟩) (n - i) dc, .slice (some ⟨g, i, none⟩) (n - i) sc]).run Tryz.prog W = .ok (goInt (xs.drop i).length) (W.setRow w.heap.size (shiftA (putA R i x).toArray i xs).toArray) := fun W hW ty dc sc =>
    run_copy_row (P := Tryz.prog) W 41 41 ty 9 w.heap.size (i + 1) (n - i) dc ⟨g, i, none⟩ (n - i) sc (putA R i x).toArray 9 (xs.drop i) Tryz.underlying41 hsz (by rw [hW]; exact setRow_heap W1 _ _ _ 9 (0, 0) hN) (by rw [hdl]; simp only [Nat.min_def]; split <;> omega)
      (fun j v hj => by
        rw [Addr.add_lit, cell_of_block (show W.heap[g]? = some (.cells cur 9 (0, 0)) by rw [hW, setRow_other _ _ g _ (by omega), hO g hgw]; exact hg), ← cell_of_block hg]
        exact hcx' (i + j) v (by rwa [List.getElem?_drop] at hj)) (by rw [hdl, List.size_toArray, putA_length _ _ _ (by omega), hRl]; omega) (fun v hv => h1c v (List.mem_of_mem_drop hv))
  have hw1 : IntKind.i64.wrap ((i : Int) + 1) = (i : Int) + 1 := by rw [IntKind.wrap_i64]; omega
  have hb1 : (0 : Int) ≤ (i : Int) + 1 := by omega
  have hin : i ≤ n := by omega
  have htn : ((i : Int) + 1).toNat = i + 1 := by omega
  have hb3 : (i : Int) ≤ (n : Int) := by omega
  have hGi : ¬ (G = i) := by omega
  have hGim : ¬ (G = i + 1) := by omega
  have hci : ¬ (n = i) := by omega
  have mixed : Tryz.prog.follows Departure.mixedOrders = true := by kernel_rfl
  have HFIN := Lib.hid (fun W' h h1 h2 h3 => grow_fin (v := .slice (some ⟨g, 0, none⟩) n n) (w' := W') (x := x) hbase hW1 hcl hi hRt hRl hGn hG63 h h1 h2 h3)
  subst hW1
  have hE1 : ((w.alloc (.cells R.toArray 9)).drew).heap = (w.drew.alloc (.cells R.toArray 9)).heap := rfl
  have hE2 : (((w.alloc (.cells R.toArray 9)).drew.setRow w.heap.size (putA R i x).toArray).drew).heap = ((w.drew.alloc (.cells R.toArray 9)).setRow w.heap.size (putA R i x).toArray).heap := rfl
  clear hkk hik hold hRa hR hN hO hRl hRt hG hcx' hdl
  go_enter Tryz.func73, Tryz.ntmps73
  go_wp2_with (first
    | (at_builtin; refine Lib.wpList_append_run _ rfl _ _ _ _ rfl _ _ rfl rfl _ _ (hrz _) ?_)
    | (at_builtin; refine wpList_copy_runI _ rfl _ _ 41 41 rfl _ _ rfl rfl (hcpA _ hE1 _ _) ?_)
    | (at_builtin; refine wpList_copy_runI _ rfl _ _ 41 41 rfl _ _ rfl rfl (hcpB _ hE2 _ _ _) ?_))
  go_region_law_o (refine step_copy_runI rfl _ _ 41 41 rfl (.slice (some ⟨w.heap.size, i + 1, none⟩) (n - i) (G - (i + 1))) (.slice (some ⟨g, i, none⟩) (n - i) (n - i)) (by simp [Act.eval, Act.put]) (by simp [Act.eval, Act.put]) (hcpB _ hE2 _ _ _) ?_)
  go_wp2
  go_ret
  exact HFIN.out _ rfl rfl rfl rfl
theorem insertS_any (base : Nat) (xs : List Value) (n i c gv : Nat) (x : Value) (A : Option Addr) (w : World) (hi : i ≤ n) (hn : n ≤ 1000000) (hbase : base ≤ w.heap.size) (hcl : xs.length = n) (ho : w.ownsRow base 9 1 (.slice A n c) n xs) (hv : w.heap[gv]? = some (.cells #[x] 9 (0, 0)))
    (hne : ∀ k, (Value.slice A n c).ownBlock = some k → gv ≠ k) (h1c : ∀ v ∈ xs, v.oneCell' = true) (h1v : x.oneCell' = true) :
    Calls Tryz.prog 73 #[.slice A n c, .int .i64 i, .slice (some ⟨gv, 0, none⟩) 1 1] w (InsPost base 9 xs i x n (.slice A n c) w) := by
  by_cases hin : i = n
  · subst hin
    exact insEndS base xs i c gv x A w hn hbase hcl ho hv h1v
  · rcases ho.2 with ⟨_, h0⟩ | ⟨g, cap, cur, e, hb, hh, hnc, hcm, hcs, htk⟩
    · omega
    · injection e with e1 _ e3
      subst e1 e3
      rw [Nat.mul_one] at hcs htk
      by_cases hroom : n + 1 ≤ c
      · refine (insShiftS xs n i c g gv x cur w (by omega) hroom (by unfold maxLen at hcm; exact hcm) (hne g rfl) hcl hh hcs htk hv h1c h1v).mono ?_
        rintro e w' ⟨rfl, rfl⟩
        exact shift_fin hb hh hcs htk hcl (by omega) hroom hcm
      · obtain rfl : c = n := by omega
        exact insGrowS base xs c i g gv x cur w (by omega) hn hbase hcl hh htk hv h1c h1v

set_option maxHeartbeats 4000000 in
set_option maxRecDepth 100000 in
/-- slices.Insert: room, i < len(s): in place. -/
theorem insShiftP (xs : List Value) (n i c g gv : Nat) (x : Value) (cur : Array Value) (w : World) (hi : i < n) (hroom : n + 1 ≤ c) (hc63 : c ≤ 9223372036854775807) (hvb : gv ≠ g)
    (hcl : xs.length = n) (hg : w.heap[g]? = some (.cells cur 36 (0, 0))) (hcs : cur.size = c) (hcx : cur.toList.take n = xs) (hv : w.heap[gv]? = some (.cells #[x] 36 (0, 0))) (h1c : ∀ v ∈ xs, v.oneCell' = true) (h1v : x.oneCell' = true) :
    Calls Tryz.prog 74 #[.slice (some ⟨g, 0, none⟩) n c, .int .i64 i, .slice (some ⟨gv, 0, none⟩) 1 1] w fun e w' => e = .returned (.slice (some ⟨g, 0, none⟩) (n + 1) c) ∧ w' = (w.drew.setRow g (shiftA cur i xs).toArray).setRow g (putA (shiftA cur i xs) i x).toArray := by
  have hsz : (Tryz.prog.info? 36).map (·.size) = some 1 := info_size infoPtr
  have hs1 : ∀ w, (Go.sizeOf 36).run Tryz.prog w = .ok 1 w := fun w => run_sizeOf1 hsz w
  have hsa : w.shape? gv = some (36, 1) := by simp [World.shape?, hv]
  have hsb : w.shape? g = some (36, c) := by simp [World.shape?, hg, hcs]
  have hfa : w.frozen? ⟨gv, 0, none⟩ = false := free_of_block hv 0
  have hfe : w.frozen? ⟨gv, 1, none⟩ = false := free_of_block hv 1
  have hov : ∀ lb cb, (callFunc 107 #[.slice (some ⟨gv, 0, none⟩) 1 1, .slice (some ⟨g, i + 1, none⟩) lb cb]).run Tryz.prog w = .ok (.value (.bool false)) w := fun lb cb => by
    rw [run_callFunc_extern Tryz.func107 (by kernel_rfl) (by kernel_rfl) (by kernel_rfl) (e := Extern.SlicesOverlaps.overlaps #[67, 67] #[4]) (by kernel_rfl),
      Lib.run_overlaps_apart w 67 4 36 Tryz.underlying67 1 hs1 ⟨gv, 0, none⟩ ⟨g, i + 1, none⟩ 1 1 lb cb hvb 36 36 1 c hsa hsb (by omega) hfa hfe]
    rfl
  have hdl : (xs.drop i).length = n - i := by rw [List.length_drop, hcl]
  have hw1 : IntKind.i64.wrap ((i : Int) + 1) = (i : Int) + 1 := by rw [IntKind.wrap_i64]; omega
  have hb1 : (0 : Int) ≤ (i : Int) + 1 := by omega
  have hin : i ≤ n := by omega
  have htn : ((i : Int) + 1).toNat = i + 1 := by omega
  have hz2 : ¬ ((i : Int) = (n : Int)) := by omega
  have hb2 : ¬ (c = i + 1) := by omega
  have hb3 : (i : Int) ≤ (n : Int) + 1 := by omega
  have hb4 : ¬ (c = i) := by omega
  have hcx' : ∀ j v, xs[j]? = some v → w.cell? ⟨g, j, none⟩ = some v := fun j v hj => by
    rw [cell_of_block hg]
    rw [← hcx, List.getElem?_take] at hj
    split at hj
    · simpa using hj
    · cases hj
  have hcp1 : ∀ ty dc sc, (Builtin.copy_ #[67, 67] ty #[.slice (some ⟨g, i + 1, none⟩) (n - i) dc, .slice (some ⟨g, i, none⟩) (n + 1 - i) sc]).run Tryz.prog w.drew = .ok (goInt (xs.drop i).length) (w.drew.setRow g (shiftA cur i xs).toArray) := fun ty dc sc =>
    run_copy_row (P := Tryz.prog) w.drew _ _ ty 36 g (i + 1) (n - i) dc ⟨g, i, none⟩ (n + 1 - i) sc cur 36 (xs.drop i) Tryz.underlying67 hsz hg (by rw [hdl]; simp only [Nat.min_def]; split <;> omega)
      (fun j v hj => by rw [Addr.add_lit]; exact hcx' (i + j) v (by rwa [List.getElem?_drop] at hj)) (by rw [hdl]; omega) (fun v hv => h1c v (List.mem_of_mem_drop hv))
  obtain ⟨W1, hW1⟩ : ∃ W1, W1 = w.drew.setRow g (shiftA cur i xs).toArray := ⟨_, rfl⟩
  have hg1 : W1.heap[g]? = some (.cells (shiftA cur i xs).toArray 36 (0, 0)) := by rw [hW1]; exact setRow_heap w.drew g cur _ 36 (0, 0) hg
  have hv1 : W1.heap[gv]? = some (.cells #[x] 36 (0, 0)) := by rw [hW1, setRow_other w.drew g gv _ hvb]; exact hv
  have hlen : (shiftA cur i xs).length = c := by rw [shiftA_length cur i xs (by rw [hcl, hcs]; omega) (by omega)]; exact hcs
  have hcp2 : ∀ ty dc, (Builtin.copy_ #[67, 67] ty #[.slice (some ⟨g, i, none⟩) (n + 1 - i) dc, .slice (some ⟨gv, 0, none⟩) 1 1]).run Tryz.prog W1 = .ok (goInt 1) (W1.setRow g (putA (shiftA cur i xs) i x).toArray) := fun ty dc => by
    have h := run_copy_row (P := Tryz.prog) W1 67 67 ty 36 g i (n + 1 - i) dc ⟨gv, 0, none⟩ 1 1 (shiftA cur i xs).toArray 36 [x] Tryz.underlying67 hsz hg1 (by simp only [Nat.min_def, List.length_singleton]; split <;> omega)
      (fun j v hj => by
        rw [Addr.add_lit, cell_of_block hv1]
        cases j with
        | zero => simpa using hj
        | succ j => simp at hj) (by simp [hlen]; omega) (fun v hv => by simp at hv; rw [hv]; exact h1v)
    exact h
  have mixed : Tryz.prog.follows Departure.mixedOrders = true := by kernel_rfl
  rw [← hW1] at hcp1
  rw [← hW1]
  have HW := Lib.hid hW1
  clear hW1 hg1 hv1
  go_enter Tryz.func74, Tryz.ntmps74
  go_wp2_with (simp only [hov])
  go_region_law_o (refine step_copy_runI rfl _ _ 67 67 rfl _ _ (by simp [Act.eval, Act.put]) (by simp [Act.eval, Act.put]) (hcp1 _ _ _) ?_)
  go_wp2_with (at_builtin; refine wpList_copy_runI _ rfl _ _ 67 67 rfl _ _ rfl rfl (hcp2 _ _) ?_)
  go_ret
  exact ⟨rfl, rfl⟩
set_option maxHeartbeats 2000000 in
set_option maxRecDepth 100000 in
theorem insEndP (base : Nat) (xs : List Value) (n c gv : Nat) (x : Value) (A : Option Addr) (w : World) (hn : n ≤ 1000000) (hbase : base ≤ w.heap.size) (hcl : xs.length = n) (ho : w.ownsRow base 36 1 (.slice A n c) n xs) (hv : w.heap[gv]? = some (.cells #[x] 36 (0, 0))) (h1v : x.oneCell' = true) :
    Calls Tryz.prog 74 #[.slice A n c, .int .i64 n, .slice (some ⟨gv, 0, none⟩) 1 1] w (InsPost base 36 xs n x n (.slice A n c) w) := by
  have hr : Rds (fun b => b = gv) w (some ⟨gv, 0, none⟩) [x] := rds_blk (L := [x]) hv
  have HR := Lib.hid hr
  obtain ⟨A', c', e', hnc⟩ := own_slice ho
  injection e' with e1 _ e3
  subst e1 e3
  have HO := Lib.hid ho
  clear ho hr
  have e : ins n x xs = xs ++ [x] := by rw [ins, List.take_of_length_le (by omega), List.drop_eq_nil_of_le (by omega)]
  have HE := Lib.hid e
  clear e
  by_cases hcn : c = n
  · subst hcn
    go_enter Tryz.func74, Tryz.ntmps74
    go_wp2_with (at_builtin; refine append_rows base rfl _ _ 67 36 _ 1 8 rfl Tryz.underlying67 infoPtr rfl (by decide) (.slice A c c) c xs rfl HO.out (some ⟨gv, 0, none⟩) 1 1 [x] rfl rfl HR.out (fun u hu => by simp at hu; rw [hu]; exact h1v) (by simp only [maxLen]; omega) (by omega) hbase ?_; intro A1 c1 w1 hc1 hown1 hg1 hat1)
    have H1 := Lib.hid hown1
    have H2 := Lib.hid hg1
    have H3 := Lib.hid hat1
    clear hown1 hg1 hat1
    go_wp2
    go_ret
    have h := H1.out
    rw [← HE.out] at h
    exact ⟨A1, c1, rfl, hc1, h, H2.out, H3.out⟩
  · go_enter Tryz.func74, Tryz.ntmps74
    go_wp2_with (at_builtin; refine append_rows base rfl _ _ 67 36 _ 1 8 rfl Tryz.underlying67 infoPtr rfl (by decide) (.slice A n c) n xs rfl HO.out (some ⟨gv, 0, none⟩) 1 1 [x] rfl rfl HR.out (fun u hu => by simp at hu; rw [hu]; exact h1v) (by simp only [maxLen]; omega) (by omega) hbase ?_; intro A1 c1 w1 hc1 hown1 hg1 hat1)
    have H1 := Lib.hid hown1
    have H2 := Lib.hid hg1
    have H3 := Lib.hid hat1
    clear hown1 hg1 hat1
    go_wp2
    go_ret
    have h := H1.out
    rw [← HE.out] at h
    exact ⟨A1, c1, rfl, hc1, h, H2.out, H3.out⟩
set_option maxHeartbeats 4000000 in
set_option maxRecDepth 100000 in
theorem insGrowP (base : Nat) (xs : List Value) (n i g gv : Nat) (x : Value) (cur : Array Value) (w : World) (hi : i < n) (hn6 : n ≤ 1000000) (hbase : base ≤ w.heap.size)
    (hcl : xs.length = n) (hg : w.heap[g]? = some (.cells cur 36 (0, 0))) (hcx : cur.toList.take n = xs) (hv : w.heap[gv]? = some (.cells #[x] 36 (0, 0))) (h1c : ∀ v ∈ xs, v.oneCell' = true) (h1v : x.oneCell' = true) :
    Calls Tryz.prog 74 #[.slice (some ⟨g, 0, none⟩) n n, .int .i64 i, .slice (some ⟨gv, 0, none⟩) 1 1] w (InsPost base 36 xs i x n (.slice (some ⟨g, 0, none⟩) n n) w) := by
  obtain ⟨i0, hi0, hz⟩ := Option.map_eq_some_iff.1 infoPtr
  simp only [Prod.mk.injEq] at hz
  obtain ⟨hz0, hzs, hzb⟩ := hz
  have hsz : (Tryz.prog.info? 36).map (·.size) = some 1 := info_size infoPtr
  have hgw := lt_of_block hg
  have hvw := lt_of_block hv
  have hcx' : ∀ j v, xs[j]? = some v → w.cell? ⟨g, j, none⟩ = some v := fun j v hj => by
    rw [cell_of_block hg]
    rw [← hcx, List.getElem?_take] at hj
    split at hj
    · simpa using hj
    · cases hj
  have hz2 : ¬ ((i : Int) = (n : Int)) := by omega
  have hkk : (n : Int) + 1 - (i : Int) = ((n + 1 - i : Nat) : Int) := by omega
  have hik : i + (n + 1 - i) = n + 1 := by omega
  have hold : (Builtin.firstCells i0.size i (.slice (some ⟨g, 0, none⟩) i n)).run Tryz.prog w.drew = .ok (xs.take i).toArray w.drew := by
    rw [hzs]
    exact run_firstCells_some w.drew 1 i ⟨g, 0, none⟩ i n (xs.take i) (by rw [List.length_take]; omega) (fun j v hj => by
      rw [Addr.add_lit, Nat.zero_add]
      rw [List.getElem?_take] at hj
      split at hj
      · exact hcx' j v hj
      · cases hj)
  obtain ⟨G, hG⟩ : ∃ G, G = grownCap w (n + 1) n 36 := ⟨_, rfl⟩
  have hGn : n + 1 ≤ G := by rw [hG]; exact grownCap_ge w _ _ _
  have hG63 : G ≤ maxLen := by rw [hG]; exact grownCap_le_maxLen w (n + 1) n 36 (by unfold maxLen; omega)
  obtain ⟨R, hR⟩ : ∃ R : List Value, R = xs.take i ++ ((Builtin.zeroCells (.pointer none : Value).cells (n + 1 - i)).toList ++ (Builtin.zeroCells (.pointer none : Value).cells (G - (n + 1))).toList) := ⟨_, rfl⟩
  have hRa : (xs.take i).toArray ++ Builtin.zeroCells (.pointer none : Value).cells (n + 1 - i) ++ Builtin.zeroCells (.pointer none : Value).cells (G - (n + 1)) = R.toArray := by rw [hR]; apply Array.ext'; simp
  have hrz : ∀ ty, (Builtin.append_ #[67, 3] ty #[.slice (some ⟨g, 0, none⟩) i n, .int .i64 ((n : Int) + 1 - (i : Int))]).run Tryz.prog w = .ok (.slice (some ⟨w.heap.size, 0, none⟩) (n + 1) G) (w.drew.alloc (.cells R.toArray 36)) := fun ty => by
    have h := Lib.run_append_grow_zeros (P := Tryz.prog) w 67 3 ty 36 i0 _ .i64 .i64 Tryz.underlying67 Tryz.underlying3 hi0 hz0 (some ⟨g, 0, none⟩) i n (xs.take i) hold (n + 1 - i) (by omega) (by omega) (by omega) (by omega) (by rw [hzb]; omega) (by rw [hzb, hik]; exact growslice_fits (by omega) (by omega))
    rw [hik, ← hG, hRa] at h
    rw [hkk]
    exact h
  have hRl : R.length = G := by rw [hR]; simp [Builtin.zeroCells, Value.cells]; omega
  have hRt : R.take i = xs.take i := by rw [hR, List.take_append_of_le_length (by rw [List.length_take]; omega), List.take_take, Nat.min_self]
  obtain ⟨W1, hW1⟩ : ∃ W1, W1 = w.drew.alloc (.cells R.toArray 36) := ⟨_, rfl⟩
  have hN : W1.heap[w.heap.size]? = some (.cells R.toArray 36 (0, 0)) := by rw [hW1]; exact heap_alloc_new w.drew _
  have hO : ∀ k, k < w.heap.size → W1.heap[k]? = w.heap[k]? := fun k hk => by rw [hW1]; exact Go.heap_alloc_old w.drew _ hk
  have hdl : (xs.drop i).length = n - i := by rw [List.length_drop, hcl]
  have hcpA : ∀ (W : World), W.heap = W1.heap → ∀ ty dc, (Builtin.copy_ #[67, 67] ty #[.slice (some ⟨w.heap.size, i, none⟩) (n + 1 - i) dc, .slice (some ⟨gv, 0, none⟩) 1 1]).run Tryz.prog W = .ok (goInt 1) (W.setRow w.heap.size (putA R i x).toArray) := fun W hW ty dc => by
    have h := run_copy_row (P := Tryz.prog) W 67 67 ty 36 w.heap.size i (n + 1 - i) dc ⟨gv, 0, none⟩ 1 1 R.toArray 36 [x] Tryz.underlying67 hsz (by rw [hW]; exact hN) (by simp only [Nat.min_def, List.length_singleton]; split <;> omega)
      (fun j v hj => by
        rw [Addr.add_lit, cell_of_block (show W.heap[gv]? = some (.cells #[x] 36 (0, 0)) by rw [hW, hO gv hvw]; exact hv)]
        cases j with
        | zero => simpa using hj
        | succ j => simp at hj) (by simp [hRl]; omega) (fun v hv => by simp at hv; rw [hv]; exact h1v)
    exact h
  have hcpB : ∀ (W : World), W.heap = (W1.setRow w.heap.size (putA R i x).toArray).heap → ∀ ty dc sc, (Builtin.copy_ #[67, 67] ty #[.slice (some ⟨w.heap.size, i + 1, none⟩) (n - i) dc, .slice (some ⟨g, i, none⟩) (n - i) sc]).run Tryz.prog W = .ok (goInt (xs.drop i).length) (W.setRow w.heap.size (shiftA (putA R i x).toArray i xs).toArray) := fun W hW ty dc sc =>
    run_copy_row (P := Tryz.prog) W 67 67 ty 36 w.heap.size (i + 1) (n - i) dc ⟨g, i, none⟩ (n - i) sc (putA R i x).toArray 36 (xs.drop i) Tryz.underlying67 hsz (by rw [hW]; exact setRow_heap W1 _ _ _ 36 (0, 0) hN) (by rw [hdl]; simp only [Nat.min_def]; split <;> omega)
      (fun j v hj => by
        rw [Addr.add_lit, cell_of_block (show W.heap[g]? = some (.cells cur 36 (0, 0)) by rw [hW, setRow_other _ _ g _ (by omega), hO g hgw]; exact hg), ← cell_of_block hg]
        exact hcx' (i + j) v (by rwa [List.getElem?_drop] at hj)) (by rw [hdl, List.size_toArray, putA_length _ _ _ (by omega), hRl]; omega) (fun v hv => h1c v (List.mem_of_mem_drop hv))
  have hw1 : IntKind.i64.wrap ((i : Int) + 1) = (i : Int) + 1 := by rw [IntKind.wrap_i64]; omega
  have hb1 : (0 : Int) ≤ (i : Int) + 1 := by omega
  have hin : i ≤ n := by omega
  have htn : ((i : Int) + 1).toNat = i + 1 := by omega
  have hb3 : (i : Int) ≤ (n : Int) := by omega
  have hGi : ¬ (G = i) := by omega
  have hGim : ¬ (G = i + 1) := by omega
  have hci : ¬ (n = i) := by omega
  have mixed : Tryz.prog.follows Departure.mixedOrders = true := by kernel_rfl
  have HFIN := Lib.hid (fun W' h h1 h2 h3 => grow_fin (v := .slice (some ⟨g, 0, none⟩) n n) (w' := W') (x := x) hbase hW1 hcl hi hRt hRl hGn hG63 h h1 h2 h3)
  subst hW1
  have hE1 : ((w.alloc (.cells R.toArray 36)).drew).heap = (w.drew.alloc (.cells R.toArray 36)).heap := rfl
  have hE2 : (((w.alloc (.cells R.toArray 36)).drew.setRow w.heap.size (putA R i x).toArray).drew).heap = ((w.drew.alloc (.cells R.toArray 36)).setRow w.heap.size (putA R i x).toArray).heap := rfl
  clear hkk hik hold hRa hR hN hO hRl hRt hG hcx' hdl
  go_enter Tryz.func74, Tryz.ntmps74
  go_wp2_with (first
    | (at_builtin; refine Lib.wpList_append_run _ rfl _ _ _ _ rfl _ _ rfl rfl _ _ (hrz _) ?_)
    | (at_builtin; refine wpList_copy_runI _ rfl _ _ 67 67 rfl _ _ rfl rfl (hcpA _ hE1 _ _) ?_)
    | (at_builtin; refine wpList_copy_runI _ rfl _ _ 67 67 rfl _ _ rfl rfl (hcpB _ hE2 _ _ _) ?_))
  go_region_law_o (refine step_copy_runI rfl _ _ 67 67 rfl (.slice (some ⟨w.heap.size, i + 1, none⟩) (n - i) (G - (i + 1))) (.slice (some ⟨g, i, none⟩) (n - i) (n - i)) (by simp [Act.eval, Act.put]) (by simp [Act.eval, Act.put]) (hcpB _ hE2 _ _ _) ?_)
  go_wp2
  go_ret
  exact HFIN.out _ rfl rfl rfl rfl
theorem insertP_any (base : Nat) (xs : List Value) (n i c gv : Nat) (x : Value) (A : Option Addr) (w : World) (hi : i ≤ n) (hn : n ≤ 1000000) (hbase : base ≤ w.heap.size) (hcl : xs.length = n) (ho : w.ownsRow base 36 1 (.slice A n c) n xs) (hv : w.heap[gv]? = some (.cells #[x] 36 (0, 0)))
    (hne : ∀ k, (Value.slice A n c).ownBlock = some k → gv ≠ k) (h1c : ∀ v ∈ xs, v.oneCell' = true) (h1v : x.oneCell' = true) :
    Calls Tryz.prog 74 #[.slice A n c, .int .i64 i, .slice (some ⟨gv, 0, none⟩) 1 1] w (InsPost base 36 xs i x n (.slice A n c) w) := by
  by_cases hin : i = n
  · subst hin
    exact insEndP base xs i c gv x A w hn hbase hcl ho hv h1v
  · rcases ho.2 with ⟨_, h0⟩ | ⟨g, cap, cur, e, hb, hh, hnc, hcm, hcs, htk⟩
    · omega
    · injection e with e1 _ e3
      subst e1 e3
      rw [Nat.mul_one] at hcs htk
      by_cases hroom : n + 1 ≤ c
      · refine (insShiftP xs n i c g gv x cur w (by omega) hroom (by unfold maxLen at hcm; exact hcm) (hne g rfl) hcl hh hcs htk hv h1c h1v).mono ?_
        rintro e w' ⟨rfl, rfl⟩
        exact shift_fin hb hh hcs htk hcl (by omega) hroom hcm
      · obtain rfl : c = n := by omega
        exact insGrowP base xs c i g gv x cur w (by omega) hn hbase hcl hh htk hv h1c h1v
end Go.Proofs.YteeppdobeeodiaaGreatDoor
