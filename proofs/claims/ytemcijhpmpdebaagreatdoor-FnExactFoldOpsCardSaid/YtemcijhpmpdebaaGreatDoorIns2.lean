/- slices.Insert of one element at rows of structs: stored documents, sessions. -/
import Derived.Test.YtemcijhpmpdebaaGreatDoorJn3
import Derived.Test.YtemcijhpmpdebaaGreatDoorBs2
import Derived.Shelf.Spec.SlicesInsertGrow
namespace Go.Proofs.YtemcijhpmpdebaaGreatDoor
open Go.Shelf Go.RowKit Go.Lib
theorem run_sizeOfN {P : Program} {e : TypeId} {z : Nat} (h : (P.info? e).map (·.size) = some z) (w : World) : (Go.sizeOf e).run P w = .ok z w := by
  obtain ⟨i, hi, h1⟩ := Option.map_eq_some_iff.1 h
  simp [sizeOf, typeInfo, hi, h1]
/-- copy at rows of structs of z cells: m elements go over. -/
theorem run_copy_rowN {P : Program} (w : World) (dT sT ty elem : TypeId) (g o dLen dCap : Nat) (a : Addr) (sLen sCap : Nat) (cur : Array Value) (t : TypeId) (cs : List Value) (z m : Nat)
    (hu : P.underlying dT = some (.slice elem)) (hs : (P.info? elem).map (·.size) = some z)
    (hg : w.heap[g]? = some (.cells cur t (0, 0))) (hm : Nat.min sLen dLen = m) (hn : cs.length = m * z)
    (hsrc : ∀ j v, cs[j]? = some v → w.cell? (a.add j) = some v) (hfit : o + cs.length ≤ cur.size) (h1 : ∀ v ∈ cs, v.oneCell' = true) :
    (Builtin.copy_ #[dT, sT] ty #[.slice (some ⟨g, o, none⟩) dLen dCap, .slice (some a) sLen sCap]).run P w =
      .ok (goInt m) (w.setRow g (cur.toList.take o ++ cs ++ cur.toList.drop (o + cs.length)).toArray) := by
  have hl := run_loadCells_list (P := P) w a cs hsrc
  have hst := run_storeCells_at P g o t cs 0 cur w hg (by simpa using hfit) h1
  cases hq : P.info? elem with
  | none => simp [hq] at hs
  | some i =>
    have hi : i.size = z := by simpa [hq] using hs
    simp [Builtin.copy_, run_underlying hu, Builtin.lenOf, Builtin.firstCells, sizeOf, typeInfo, hq, hi, hm, ← hn, hl, hst]
/-- The row behind the first copy: what stands from cell k on, d cells on. -/
def shiftN (cur : Array Value) (k d : Nat) (xs : List Value) : List Value := cur.toList.take (k + d) ++ xs.drop k ++ cur.toList.drop (k + d + (xs.drop k).length)
/-- .. behind the second: vs at cell k. -/
def putN (L : List Value) (k : Nat) (vs : List Value) : List Value := L.toArray.toList.take k ++ vs ++ L.toArray.toList.drop (k + vs.length)
def insN (k : Nat) (vs xs : List Value) : List Value := xs.take k ++ vs ++ xs.drop k
theorem shiftN_length (cur : Array Value) (k d : Nat) (xs : List Value) (h : xs.length + d ≤ cur.size) (hi : k ≤ xs.length) : (shiftN cur k d xs).length = cur.size := by
  simp [shiftN]
  omega
theorem putN_length (L : List Value) (k : Nat) (vs : List Value) (h : k + vs.length ≤ L.length) : (putN L k vs).length = L.length := by
  simp [putN]
  omega
theorem insN_length (k : Nat) (vs xs : List Value) (h : k ≤ xs.length) : (insN k vs xs).length = xs.length + vs.length := by
  simp [insN]
  omega
theorem shiftN_put (cur : Array Value) (xs vs : List Value) (k m : Nat) (hx : cur.toList.take m = xs) (hn : xs.length = m) (hi : k + vs.length ≤ m) : ∃ rest, putN (shiftN cur k vs.length xs) k vs = insN k vs xs ++ rest := by
  have h1 : cur.toList.take (k + vs.length) = xs.take (k + vs.length) := by rw [← hx, List.take_take, Nat.min_eq_left hi]
  have hl : (xs.take (k + vs.length)).length = k + vs.length := by rw [List.length_take]; omega
  refine ⟨cur.toList.drop (k + vs.length + (xs.drop k).length), ?_⟩
  have e : shiftN cur k vs.length xs = xs.take (k + vs.length) ++ (xs.drop k ++ cur.toList.drop (k + vs.length + (xs.drop k).length)) := by rw [shiftN, h1, List.append_assoc]
  unfold putN insN
  rw [e]
  show (xs.take (k + vs.length) ++ (xs.drop k ++ cur.toList.drop (k + vs.length + (xs.drop k).length))).take k ++ vs ++ (xs.take (k + vs.length) ++ (xs.drop k ++ cur.toList.drop (k + vs.length + (xs.drop k).length))).drop (k + vs.length) = _
  rw [List.take_append_of_le_length (by omega), List.take_take, Nat.min_eq_left (by omega), List.drop_left' hl]
  simp
theorem putN_shift (R xs vs : List Value) (k : Nat) (hR : R.take k = xs.take k) (hr : k + vs.length ≤ R.length) : ∃ rest, shiftN (putN R k vs).toArray k vs.length xs = insN k vs xs ++ rest := by
  have hl : (R.take k ++ vs).length = k + vs.length := by rw [List.length_append, List.length_take]; omega
  refine ⟨(putN R k vs).drop (k + vs.length + (xs.drop k).length), ?_⟩
  unfold shiftN insN
  rw [← hR]
  have h1 : (putN R k vs).take (k + vs.length) = R.take k ++ vs := by
    unfold putN
    show (R.take k ++ vs ++ R.drop (k + vs.length)).take (k + vs.length) = _
    rw [List.take_left' hl]
  have e : (putN R k vs).toArray.toList = putN R k vs := rfl
  rw [e, h1]
def InsNPost (base : Nat) (E : TypeId) (z : Nat) (xs : List Value) (i : Nat) (vs : List Value) (n : Nat) (v : Value) (w : World) (en : Ending) (w' : World) : Prop :=
  ∃ A' c', en = .returned (.slice A' (n + 1) c') ∧ n + 1 ≤ c' ∧ w'.ownsRow base E z (.slice A' (n + 1) c') (n + 1) (insN (i * z) vs xs) ∧ w.grownBy w' v.ownBlock ∧ ((Value.slice A' (n + 1) c').ownBlock = v.ownBlock ∨ (Value.slice A' (n + 1) c').ownBlock = some w.heap.size)
theorem ownsN_of {w : World} {base g z : Nat} {E : TypeId} {L ys rest : List Value} {n c : Nat} (hb : base ≤ g) (hh : w.heap[g]? = some (.cells L.toArray E (0, 0))) (hL : L = ys ++ rest) (hl : L.length = c * z) (hy : ys.length = n * z) (hnc : n ≤ c) (hc : c ≤ maxLen) : w.ownsRow base E z (.slice (some ⟨g, 0, none⟩) n c) n ys := by
  subst hL
  exact ⟨hy, .inr ⟨g, c, _, rfl, hb, hh, hnc, hc, by simpa using hl, by simp [← hy]⟩⟩
theorem shiftN_fin {w : World} {base g n i c z : Nat} {E : TypeId} {xs vs : List Value} {cur : Array Value} (hb : base ≤ g) (hg : w.heap[g]? = some (.cells cur E (0, 0))) (hcs : cur.size = c * z) (hcx : cur.toList.take (n * z) = xs) (hn : xs.length = n * z) (hv : vs.length = z) (hi : i < n) (hroom : n + 1 ≤ c) (hc : c ≤ maxLen) :
    InsNPost base E z xs i vs n (.slice (some ⟨g, 0, none⟩) n c) w (.returned (.slice (some ⟨g, 0, none⟩) (n + 1) c)) ((w.drew.setRow g (shiftN cur (i * z) z xs).toArray).setRow g (putN (shiftN cur (i * z) z xs) (i * z) vs).toArray) := by
  subst hv
  have h0 : i * vs.length + vs.length ≤ n * vs.length := by
    rw [← Nat.succ_mul]
    exact Nat.mul_le_mul_right _ hi
  have h2 : n * vs.length + vs.length ≤ c * vs.length := by
    rw [← Nat.succ_mul]
    exact Nat.mul_le_mul_right _ hroom
  obtain ⟨rest, hr⟩ := shiftN_put cur xs vs (i * vs.length) (n * vs.length) hcx hn h0
  have hl := shiftN_length cur (i * vs.length) vs.length xs (by omega) (by omega)
  refine ⟨_, _, rfl, hroom, ownsN_of hb (setRow_heap _ g _ _ E (0, 0) (setRow_heap w.drew g cur _ E (0, 0) hg)) hr (by rw [putN_length _ _ _ (by omega)]; omega) (by rw [insN_length _ _ _ (by omega), hn, Nat.succ_mul]) hroom hc, ⟨rfl, rfl, rfl, by rw [size_setRow, size_setRow]; exact Nat.le_refl _, fun k _ hk => ?_⟩, .inl rfl⟩
  have hkg : k ≠ g := fun e => hk (by rw [e]; rfl)
  rw [setRow_other _ g k _ hkg, setRow_other _ g k _ hkg]
  rfl
theorem growN_fin {w W1 w' : World} {base n i c z : Nat} {E : TypeId} {xs vs R : List Value} {v : Value} (hb : base ≤ w.heap.size) (hW : W1 = w.drew.alloc (.cells R.toArray E)) (hn : xs.length = n * z) (hv : vs.length = z) (hi : i < n) (hR : R.take (i * z) = xs.take (i * z)) (hRl : R.length = c * z) (hroom : n + 1 ≤ c) (hc : c ≤ maxLen)
    (hh : w'.heap = ((W1.setRow w.heap.size (putN R (i * z) vs).toArray).setRow w.heap.size (shiftN (putN R (i * z) vs).toArray (i * z) z xs).toArray).heap) (h1 : w'.os = w.os) (h2 : w'.tape = w.tape) (h3 : w'.output = w.output) :
    InsNPost base E z xs i vs n v w (.returned (.slice (some ⟨w.heap.size, 0, none⟩) (n + 1) c)) w' := by
  subst hv
  have h0 : i * vs.length + vs.length ≤ n * vs.length := by
    rw [← Nat.succ_mul]
    exact Nat.mul_le_mul_right _ hi
  have h4 : n * vs.length + vs.length ≤ c * vs.length := by
    rw [← Nat.succ_mul]
    exact Nat.mul_le_mul_right _ hroom
  obtain ⟨rest, hr⟩ := putN_shift R xs vs (i * vs.length) hR (by omega)
  have hp : (putN R (i * vs.length) vs).length = c * vs.length := by rw [putN_length _ _ _ (by omega)]; exact hRl
  have hl : (shiftN (putN R (i * vs.length) vs).toArray (i * vs.length) vs.length xs).length = c * vs.length := by rw [shiftN_length _ _ _ xs (by simp; omega) (by omega)]; simpa using hp
  have hg : W1.heap[w.heap.size]? = some (.cells R.toArray E (0, 0)) := by rw [hW]; exact heap_alloc_new w.drew _
  have hs : W1.heap.size = w.heap.size + 1 := by rw [hW]; exact (by simp : (w.drew.alloc (.cells R.toArray E)).heap.size = w.drew.heap.size + 1)
  refine ⟨_, _, rfl, hroom, ownsN_of hb (by rw [hh]; exact setRow_heap _ _ _ _ E (0, 0) (setRow_heap W1 _ _ _ E (0, 0) hg)) hr hl (by rw [insN_length _ _ _ (by omega), hn, Nat.succ_mul]) hroom hc, ⟨h1, h2, h3, by rw [hh]; simp [hs], fun k hk _ => ?_⟩, .inr rfl⟩
  have hkg : k ≠ w.heap.size := by omega
  rw [hh, setRow_other _ _ k _ hkg, setRow_other _ _ k _ hkg, hW]
  exact Go.heap_alloc_old w.drew _ hk

set_option maxHeartbeats 4000000 in
set_option maxRecDepth 100000 in
/-- slices.Insert: room, i < len(s): in place. -/
theorem insShiftSt (xs vs : List Value) (n i c g gv : Nat) (cur : Array Value) (w : World) (hi : i < n) (hroom : n + 1 ≤ c) (hc63 : c ≤ 9223372036854775807) (hvb : gv ≠ g)
    (hcl : xs.length = n * 2) (hvl : vs.length = 2) (hg : w.heap[g]? = some (.cells cur 94 (0, 0))) (hcs : cur.size = c * 2) (hcx : cur.toList.take (n * 2) = xs) (hv : w.heap[gv]? = some (.cells vs.toArray 94 (0, 0))) (h1c : ∀ v ∈ xs, v.oneCell' = true) (h1v : ∀ v ∈ vs, v.oneCell' = true) :
    Calls Tryz.prog 103 #[.slice (some ⟨g, 0, none⟩) n c, .int .i64 i, .slice (some ⟨gv, 0, none⟩) 1 1] w fun e w' => e = .returned (.slice (some ⟨g, 0, none⟩) (n + 1) c) ∧ w' = (w.drew.setRow g (shiftN cur (i * 2) 2 xs).toArray).setRow g (putN (shiftN cur (i * 2) 2 xs) (i * 2) vs).toArray := by
  have hsz : (Tryz.prog.info? 94).map (·.size) = some 2 := info_size infoStored
  have hs1 : ∀ w, (Go.sizeOf 94).run Tryz.prog w = .ok 2 w := fun w => run_sizeOfN hsz w
  have hsa : w.shape? gv = some (94, 2) := by simp [World.shape?, hv, hvl]
  have hsb : w.shape? g = some (94, c * 2) := by simp [World.shape?, hg, hcs]
  have hfa : w.frozen? ⟨gv, 0, none⟩ = false := free_of_block hv 0
  have hfe : w.frozen? ⟨gv, 2, none⟩ = false := free_of_block hv 2
  have hov : ∀ lb cb, (callFunc 121 #[.slice (some ⟨gv, 0, none⟩) 1 1, .slice (some ⟨g, (i + 1) * 2, none⟩) lb cb]).run Tryz.prog w = .ok (.value (.bool false)) w := fun lb cb => by
    rw [run_callFunc_extern Tryz.func121 (by kernel_rfl) (by kernel_rfl) (by kernel_rfl) (e := Extern.SlicesOverlaps.overlaps #[24, 24] #[4]) (by kernel_rfl),
      Lib.run_overlaps_apart w 24 4 94 Tryz.underlying24 2 hs1 ⟨gv, 0, none⟩ ⟨g, (i + 1) * 2, none⟩ 1 1 lb cb hvb 94 94 2 (c * 2) hsa hsb (by omega) hfa hfe]
    rfl
  have hdl : (xs.drop (i * 2)).length = (n - i) * 2 := by rw [List.length_drop, hcl]; omega
  have hw1 : IntKind.i64.wrap ((i : Int) + 1) = (i : Int) + 1 := by rw [IntKind.wrap_i64]; omega
  have hb1 : (0 : Int) ≤ (i : Int) + 1 := by omega
  have hin : i ≤ n := by omega
  have htn : ((i : Int) + 1).toNat = i + 1 := by omega
  have hz2 : ¬ ((i : Int) = (n : Int)) := by omega
  have hb2 : ¬ (c = i + 1) := by omega
  have hb3 : (i : Int) ≤ (n : Int) + 1 := by omega
  have hb4 : ¬ (c = i) := by omega
  have hcx' : ∀ j v, xs[j]? = some v → w.cell? ⟨g, j, none⟩ = some v := fun j v hj => by
    rw [cell_of_block hg]
    rw [← hcx, List.getElem?_take] at hj
    split at hj
    · simpa using hj
    · cases hj
  have hcp1 : ∀ ty dc sc, (Builtin.copy_ #[24, 24] ty #[.slice (some ⟨g, (i + 1) * 2, none⟩) (n - i) dc, .slice (some ⟨g, i * 2, none⟩) (n + 1 - i) sc]).run Tryz.prog w.drew = .ok (goInt ((n - i : Nat) : Int)) (w.drew.setRow g (shiftN cur (i * 2) 2 xs).toArray) := fun ty dc sc => by
    have h := run_copy_rowN (P := Tryz.prog) w.drew 24 24 ty 94 g ((i + 1) * 2) (n - i) dc ⟨g, i * 2, none⟩ (n + 1 - i) sc cur 94 (xs.drop (i * 2)) 2 (n - i) Tryz.underlying24 hsz hg (by simp only [Nat.min_def]; split <;> omega) hdl
      (fun j v hj => by rw [Addr.add_lit]; exact hcx' (i * 2 + j) v (by rwa [List.getElem?_drop] at hj)) (by rw [hdl]; omega) (fun v hv => h1c v (List.mem_of_mem_drop hv))
    rw [show (i + 1) * 2 = i * 2 + 2 by omega] at h ⊢
    exact h
  obtain ⟨W1, hW1⟩ : ∃ W1, W1 = w.drew.setRow g (shiftN cur (i * 2) 2 xs).toArray := ⟨_, rfl⟩
  have hg1 : W1.heap[g]? = some (.cells (shiftN cur (i * 2) 2 xs).toArray 94 (0, 0)) := by rw [hW1]; exact setRow_heap w.drew g cur _ 94 (0, 0) hg
  have hv1 : W1.heap[gv]? = some (.cells vs.toArray 94 (0, 0)) := by rw [hW1, setRow_other w.drew g gv _ hvb]; exact hv
  have hlen : (shiftN cur (i * 2) 2 xs).length = c * 2 := by rw [shiftN_length cur _ _ xs (by rw [hcl, hcs]; omega) (by omega)]; exact hcs
  have hcp2 : ∀ ty dc, (Builtin.copy_ #[24, 24] ty #[.slice (some ⟨g, i * 2, none⟩) (n + 1 - i) dc, .slice (some ⟨gv, 0, none⟩) 1 1]).run Tryz.prog W1 = .ok (goInt 1) (W1.setRow g (putN (shiftN cur (i * 2) 2 xs) (i * 2) vs).toArray) := fun ty dc =>
    run_copy_rowN (P := Tryz.prog) W1 24 24 ty 94 g (i * 2) (n + 1 - i) dc ⟨gv, 0, none⟩ 1 1 (shiftN cur (i * 2) 2 xs).toArray 94 vs 2 1 Tryz.underlying24 hsz hg1 (by simp only [Nat.min_def]; split <;> omega) (by omega)
      (fun j v hj => by
        rw [Addr.add_lit, cell_of_block hv1, Nat.zero_add]
        simpa using hj) (by simp [hlen]; omega) h1v
  have mixed : Tryz.prog.follows Departure.mixedOrders = true := by kernel_rfl
  rw [← hW1] at hcp1
  rw [← hW1]
  have HW := Lib.hid hW1
  clear hW1 hg1 hv1
  go_enter Tryz.func103, Tryz.ntmps103
  go_wp2_with (simp only [hov])
  go_region_law_o (refine step_copy_runI rfl _ _ 24 24 rfl _ _ (by simp [Act.eval, Act.put]) (by simp [Act.eval, Act.put]) (hcp1 _ _ _) ?_)
  go_wp2_with (at_builtin; refine wpList_copy_runI _ rfl _ _ 24 24 rfl _ _ rfl rfl (hcp2 _ _) ?_)
  go_ret
  exact ⟨rfl, rfl⟩
set_option maxHeartbeats 2000000 in
set_option maxRecDepth 100000 in
theorem insEndSt (base : Nat) (xs vs : List Value) (n c gv : Nat) (A : Option Addr) (w : World) (hn : n ≤ 1000000) (hbase : base ≤ w.heap.size) (hcl : xs.length = n * 2) (hvl : vs.length = 2) (ho : w.ownsRow base 94 2 (.slice A n c) n xs) (hv : w.heap[gv]? = some (.cells vs.toArray 94 (0, 0))) (h1v : ∀ v ∈ vs, v.oneCell' = true) :
    Calls Tryz.prog 103 #[.slice A n c, .int .i64 n, .slice (some ⟨gv, 0, none⟩) 1 1] w (InsNPost base 94 2 xs n vs n (.slice A n c) w) := by
  have hr : Rds (fun b => b = gv) w (some ⟨gv, 0, none⟩) vs := rds_blk hv
  have HR := Lib.hid hr
  obtain ⟨A', c', e', hnc⟩ := own_slice ho
  injection e' with e1 _ e3
  subst e1 e3
  have HO := Lib.hid ho
  clear ho hr
  have e : insN (n * 2) vs xs = xs ++ vs := by rw [insN, List.take_of_length_le (by omega), List.drop_eq_nil_of_le (by omega), List.append_nil]
  have HE := Lib.hid e
  clear e
  by_cases hcn : c = n
  · subst hcn
    go_enter Tryz.func103, Tryz.ntmps103
    go_wp2_with (at_builtin; refine append_rows base rfl _ _ 24 94 _ 2 32 rfl Tryz.underlying24 infoStored rfl (by decide) (.slice A c c) c xs rfl HO.out (some ⟨gv, 0, none⟩) 1 1 vs rfl (by simp [hvl]) HR.out h1v (by simp only [maxLen]; omega) (by omega) hbase ?_; intro A1 c1 w1 hc1 hown1 hg1 hat1)
    have H1 := Lib.hid hown1
    have H2 := Lib.hid hg1
    have H3 := Lib.hid hat1
    clear hown1 hg1 hat1
    go_wp2
    go_ret
    have h := H1.out
    rw [← HE.out] at h
    exact ⟨A1, c1, rfl, hc1, h, H2.out, H3.out⟩
  · go_enter Tryz.func103, Tryz.ntmps103
    go_wp2_with (at_builtin; refine append_rows base rfl _ _ 24 94 _ 2 32 rfl Tryz.underlying24 infoStored rfl (by decide) (.slice A n c) n xs rfl HO.out (some ⟨gv, 0, none⟩) 1 1 vs rfl (by simp [hvl]) HR.out h1v (by simp only [maxLen]; omega) (by omega) hbase ?_; intro A1 c1 w1 hc1 hown1 hg1 hat1)
    have H1 := Lib.hid hown1
    have H2 := Lib.hid hg1
    have H3 := Lib.hid hat1
    clear hown1 hg1 hat1
    go_wp2
    go_ret
    have h := H1.out
    rw [← HE.out] at h
    exact ⟨A1, c1, rfl, hc1, h, H2.out, H3.out⟩
set_option maxHeartbeats 4000000 in
set_option maxRecDepth 100000 in
theorem insGrowSt (base : Nat) (xs vs : List Value) (n i g gv : Nat) (cur : Array Value) (w : World) (hi : i < n) (hn6 : n ≤ 1000000) (hbase : base ≤ w.heap.size)
    (hcl : xs.length = n * 2) (hvl : vs.length = 2) (hg : w.heap[g]? = some (.cells cur 94 (0, 0))) (hcx : cur.toList.take (n * 2) = xs) (hv : w.heap[gv]? = some (.cells vs.toArray 94 (0, 0))) (h1c : ∀ v ∈ xs, v.oneCell' = true) (h1v : ∀ v ∈ vs, v.oneCell' = true) :
    Calls Tryz.prog 103 #[.slice (some ⟨g, 0, none⟩) n n, .int .i64 i, .slice (some ⟨gv, 0, none⟩) 1 1] w (InsNPost base 94 2 xs i vs n (.slice (some ⟨g, 0, none⟩) n n) w) := by
  obtain ⟨i0, hi0, hz⟩ := Option.map_eq_some_iff.1 infoStored
  simp only [Prod.mk.injEq] at hz
  obtain ⟨hz0, hzs, hzb⟩ := hz
  have hsz : (Tryz.prog.info? 94).map (·.size) = some 2 := info_size infoStored
  have hgw := lt_of_block hg
  have hvw := lt_of_block hv
  have hcx' : ∀ j v, xs[j]? = some v → w.cell? ⟨g, j, none⟩ = some v := fun j v hj => by
    rw [cell_of_block hg]
    rw [← hcx, List.getElem?_take] at hj
    split at hj
    · simpa using hj
    · cases hj
  have hz2 : ¬ ((i : Int) = (n : Int)) := by omega
  have hkk : (n : Int) + 1 - (i : Int) = ((n + 1 - i : Nat) : Int) := by omega
  have hik : i + (n + 1 - i) = n + 1 := by omega
  have hold : (Builtin.firstCells i0.size i (.slice (some ⟨g, 0, none⟩) i n)).run Tryz.prog w.drew = .ok (xs.take (i * 2)).toArray w.drew := by
    rw [hzs]
    exact run_firstCells_some w.drew 2 i ⟨g, 0, none⟩ i n (xs.take (i * 2)) (by rw [List.length_take]; omega) (fun j v hj => by
      rw [Addr.add_lit, Nat.zero_add]
      rw [List.getElem?_take] at hj
      split at hj
      · exact hcx' j v hj
      · cases hj)
  obtain ⟨G, hG⟩ : ∃ G, G = grownCap w (n + 1) n 94 := ⟨_, rfl⟩
  have hGn : n + 1 ≤ G := by rw [hG]; exact grownCap_ge w _ _ _
  have hG63 : G ≤ maxLen := by rw [hG]; exact grownCap_le_maxLen w (n + 1) n 94 (by unfold maxLen; omega)
  obtain ⟨R, hR⟩ : ∃ R : List Value, R = xs.take (i * 2) ++ ((Builtin.zeroCells (.agg #[.int .i64 0, .slice none 0 0] : Value).cells (n + 1 - i)).toList ++ (Builtin.zeroCells (.agg #[.int .i64 0, .slice none 0 0] : Value).cells (G - (n + 1))).toList) := ⟨_, rfl⟩
  have hRa : (xs.take (i * 2)).toArray ++ Builtin.zeroCells (.agg #[.int .i64 0, .slice none 0 0] : Value).cells (n + 1 - i) ++ Builtin.zeroCells (.agg #[.int .i64 0, .slice none 0 0] : Value).cells (G - (n + 1)) = R.toArray := by rw [hR]; apply Array.ext'; simp
  have hrz : ∀ ty, (Builtin.append_ #[24, 3] ty #[.slice (some ⟨g, 0, none⟩) i n, .int .i64 ((n : Int) + 1 - (i : Int))]).run Tryz.prog w = .ok (.slice (some ⟨w.heap.size, 0, none⟩) (n + 1) G) (w.drew.alloc (.cells R.toArray 94)) := fun ty => by
    have h := Lib.run_append_grow_zeros (P := Tryz.prog) w 24 3 ty 94 i0 _ .i64 .i64 Tryz.underlying24 Tryz.underlying3 hi0 hz0 (some ⟨g, 0, none⟩) i n (xs.take (i * 2)) hold (n + 1 - i) (by omega) (by omega) (by omega) (by omega) (by rw [hzb]; omega) (by rw [hzb, hik]; exact growslice_fits (by omega) (by omega))
    rw [hik, ← hG, hRa] at h
    rw [hkk]
    exact h
  have hRl : R.length = G * 2 := by rw [hR]; simp [Builtin.zeroCells, Value.cells, hcl]; omega
  have hRt : R.take (i * 2) = xs.take (i * 2) := by rw [hR, List.take_append_of_le_length (by rw [List.length_take]; omega), List.take_take, Nat.min_self]
  obtain ⟨W1, hW1⟩ : ∃ W1, W1 = w.drew.alloc (.cells R.toArray 94) := ⟨_, rfl⟩
  have hN : W1.heap[w.heap.size]? = some (.cells R.toArray 94 (0, 0)) := by rw [hW1]; exact heap_alloc_new w.drew _
  have hO : ∀ k, k < w.heap.size → W1.heap[k]? = w.heap[k]? := fun k hk => by rw [hW1]; exact Go.heap_alloc_old w.drew _ hk
  have hdl : (xs.drop (i * 2)).length = (n - i) * 2 := by rw [List.length_drop, hcl]; omega
  have hcpA : ∀ (W : World), W.heap = W1.heap → ∀ ty dc, (Builtin.copy_ #[24, 24] ty #[.slice (some ⟨w.heap.size, i * 2, none⟩) (n + 1 - i) dc, .slice (some ⟨gv, 0, none⟩) 1 1]).run Tryz.prog W = .ok (goInt 1) (W.setRow w.heap.size (putN R (i * 2) vs).toArray) := fun W hW ty dc =>
    run_copy_rowN (P := Tryz.prog) W 24 24 ty 94 w.heap.size (i * 2) (n + 1 - i) dc ⟨gv, 0, none⟩ 1 1 R.toArray 94 vs 2 1 Tryz.underlying24 hsz (by rw [hW]; exact hN) (by simp only [Nat.min_def]; split <;> omega) (by omega)
      (fun j v hj => by
        rw [Addr.add_lit, cell_of_block (show W.heap[gv]? = some (.cells vs.toArray 94 (0, 0)) by rw [hW, hO gv hvw]; exact hv), Nat.zero_add]
        simpa using hj) (by simp [hRl]; omega) h1v
  have hcpB : ∀ (W : World), W.heap = (W1.setRow w.heap.size (putN R (i * 2) vs).toArray).heap → ∀ ty dc sc, (Builtin.copy_ #[24, 24] ty #[.slice (some ⟨w.heap.size, (i + 1) * 2, none⟩) (n - i) dc, .slice (some ⟨g, i * 2, none⟩) (n - i) sc]).run Tryz.prog W = .ok (goInt ((n - i : Nat) : Int)) (W.setRow w.heap.size (shiftN (putN R (i * 2) vs).toArray (i * 2) 2 xs).toArray) := fun W hW ty dc sc => by
    have h := run_copy_rowN (P := Tryz.prog) W 24 24 ty 94 w.heap.size ((i + 1) * 2) (n - i) dc ⟨g, i * 2, none⟩ (n - i) sc (putN R (i * 2) vs).toArray 94 (xs.drop (i * 2)) 2 (n - i) Tryz.underlying24 hsz (by rw [hW]; exact setRow_heap W1 _ _ _ 94 (0, 0) hN) (by simp only [Nat.min_def]; split <;> omega) hdl
      (fun j v hj => by
        rw [Addr.add_lit, cell_of_block (show W.heap[g]? = some (.cells cur 94 (0, 0)) by rw [hW, setRow_other _ _ g _ (by omega), hO g hgw]; exact hg), ← cell_of_block hg]
        exact hcx' (i * 2 + j) v (by rwa [List.getElem?_drop] at hj)) (by rw [hdl, List.size_toArray, putN_length _ _ _ (by omega), hRl]; omega) (fun v hv => h1c v (List.mem_of_mem_drop hv))
    rw [show (i + 1) * 2 = i * 2 + 2 by omega] at h ⊢
    exact h
  have hw1 : IntKind.i64.wrap ((i : Int) + 1) = (i : Int) + 1 := by rw [IntKind.wrap_i64]; omega
  have hb1 : (0 : Int) ≤ (i : Int) + 1 := by omega
  have hin : i ≤ n := by omega
  have htn : ((i : Int) + 1).toNat = i + 1 := by omega
  have hb3 : (i : Int) ≤ (n : Int) := by omega
  have hGi : ¬ (G = i) := by omega
  have hGim : ¬ (G = i + 1) := by omega
  have hci : ¬ (n = i) := by omega
  have mixed : Tryz.prog.follows Departure.mixedOrders = true := by kernel_rfl
  have HFIN := Lib.hid (fun W' h h1 h2 h3 => growN_fin (z := 2) (v := .slice (some ⟨g, 0, none⟩) n n) (w' := W') (vs := vs) hbase hW1 hcl hvl hi hRt hRl hGn hG63 h h1 h2 h3)
  subst hW1
  have hE1 : ((w.alloc (.cells R.toArray 94)).drew).heap = (w.drew.alloc (.cells R.toArray 94)).heap := rfl
  have hE2 : (((w.alloc (.cells R.toArray 94)).drew.setRow w.heap.size (putN R (i * 2) vs).toArray).drew).heap = ((w.drew.alloc (.cells R.toArray 94)).setRow w.heap.size (putN R (i * 2) vs).toArray).heap := rfl
  clear hkk hik hold hRa hR hN hO hRl hRt hG hcx' hdl
  go_enter Tryz.func103, Tryz.ntmps103
  go_wp2_with (first
    | (at_builtin; refine Lib.wpList_append_run _ rfl _ _ _ _ rfl _ _ rfl rfl _ _ (hrz _) ?_)
    | (at_builtin; refine wpList_copy_runI _ rfl _ _ 24 24 rfl _ _ rfl rfl (hcpA _ hE1 _ _) ?_)
    | (at_builtin; refine wpList_copy_runI _ rfl _ _ 24 24 rfl _ _ rfl rfl (hcpB _ hE2 _ _ _) ?_))
  go_region_law_o (refine step_copy_runI rfl _ _ 24 24 rfl (.slice (some ⟨w.heap.size, (i + 1) * 2, none⟩) (n - i) (G - (i + 1))) (.slice (some ⟨g, i * 2, none⟩) (n - i) (n - i)) (by simp [Act.eval, Act.put]) (by simp [Act.eval, Act.put]) (hcpB _ hE2 _ _ _) ?_)
  go_wp2
  go_ret
  exact HFIN.out _ rfl rfl rfl rfl
theorem insertSt_any (base : Nat) (xs vs : List Value) (n i c gv : Nat) (A : Option Addr) (w : World) (hi : i ≤ n) (hn : n ≤ 1000000) (hbase : base ≤ w.heap.size) (hcl : xs.length = n * 2) (hvl : vs.length = 2) (ho : w.ownsRow base 94 2 (.slice A n c) n xs) (hv : w.heap[gv]? = some (.cells vs.toArray 94 (0, 0)))
    (hne : ∀ k, (Value.slice A n c).ownBlock = some k → gv ≠ k) (h1c : ∀ v ∈ xs, v.oneCell' = true) (h1v : ∀ v ∈ vs, v.oneCell' = true) :
    Calls Tryz.prog 103 #[.slice A n c, .int .i64 i, .slice (some ⟨gv, 0, none⟩) 1 1] w (InsNPost base 94 2 xs i vs n (.slice A n c) w) := by
  by_cases hin : i = n
  · subst hin
    exact insEndSt base xs vs i c gv A w hn hbase hcl hvl ho hv h1v
  · rcases ho.2 with ⟨_, h0⟩ | ⟨g, cap, cur, e, hb, hh, hnc, hcm, hcs, htk⟩
    · omega
    · injection e with e1 _ e3
      subst e1 e3
      by_cases hroom : n + 1 ≤ c
      · refine (insShiftSt xs vs n i c g gv cur w (by omega) hroom (by unfold maxLen at hcm; exact hcm) (hne g rfl) hcl hvl hh hcs htk hv h1c h1v).mono ?_
        rintro e w' ⟨rfl, rfl⟩
        exact shiftN_fin hb hh hcs htk hcl hvl (by omega) hroom hcm
      · obtain rfl : c = n := by omega
        exact insGrowSt base xs vs c i g gv cur w (by omega) hn hbase hcl hvl hh htk hv h1c h1v

set_option maxHeartbeats 4000000 in
set_option maxRecDepth 100000 in
/-- slices.Insert: room, i < len(s): in place. -/
theorem insShiftSs (xs vs : List Value) (n i c g gv : Nat) (cur : Array Value) (w : World) (hi : i < n) (hroom : n + 1 ≤ c) (hc63 : c ≤ 9223372036854775807) (hvb : gv ≠ g)
    (hcl : xs.length = n * 3) (hvl : vs.length = 3) (hg : w.heap[g]? = some (.cells cur 97 (0, 0))) (hcs : cur.size = c * 3) (hcx : cur.toList.take (n * 3) = xs) (hv : w.heap[gv]? = some (.cells vs.toArray 97 (0, 0))) (h1c : ∀ v ∈ xs, v.oneCell' = true) (h1v : ∀ v ∈ vs, v.oneCell' = true) :
    Calls Tryz.prog 83 #[.slice (some ⟨g, 0, none⟩) n c, .int .i64 i, .slice (some ⟨gv, 0, none⟩) 1 1] w fun e w' => e = .returned (.slice (some ⟨g, 0, none⟩) (n + 1) c) ∧ w' = (w.drew.setRow g (shiftN cur (i * 3) 3 xs).toArray).setRow g (putN (shiftN cur (i * 3) 3 xs) (i * 3) vs).toArray := by
  have hsz : (Tryz.prog.info? 97).map (·.size) = some 3 := info_size infoSession
  have hs1 : ∀ w, (Go.sizeOf 97).run Tryz.prog w = .ok 3 w := fun w => run_sizeOfN hsz w
  have hsa : w.shape? gv = some (97, 3) := by simp [World.shape?, hv, hvl]
  have hsb : w.shape? g = some (97, c * 3) := by simp [World.shape?, hg, hcs]
  have hfa : w.frozen? ⟨gv, 0, none⟩ = false := free_of_block hv 0
  have hfe : w.frozen? ⟨gv, 3, none⟩ = false := free_of_block hv 3
  have hov : ∀ lb cb, (callFunc 100 #[.slice (some ⟨gv, 0, none⟩) 1 1, .slice (some ⟨g, (i + 1) * 3, none⟩) lb cb]).run Tryz.prog w = .ok (.value (.bool false)) w := fun lb cb => by
    rw [run_callFunc_extern Tryz.func100 (by kernel_rfl) (by kernel_rfl) (by kernel_rfl) (e := Extern.SlicesOverlaps.overlaps #[25, 25] #[4]) (by kernel_rfl),
      Lib.run_overlaps_apart w 25 4 97 Tryz.underlying25 3 hs1 ⟨gv, 0, none⟩ ⟨g, (i + 1) * 3, none⟩ 1 1 lb cb hvb 97 97 3 (c * 3) hsa hsb (by omega) hfa hfe]
    rfl
  have hdl : (xs.drop (i * 3)).length = (n - i) * 3 := by rw [List.length_drop, hcl]; omega
  have hw1 : IntKind.i64.wrap ((i : Int) + 1) = (i : Int) + 1 := by rw [IntKind.wrap_i64]; omega
  have hb1 : (0 : Int) ≤ (i : Int) + 1 := by omega
  have hin : i ≤ n := by omega
  have htn : ((i : Int) + 1).toNat = i + 1 := by omega
  have hz2 : ¬ ((i : Int) = (n : Int)) := by omega
  have hb2 : ¬ (c = i + 1) := by omega
  have hb3 : (i : Int) ≤ (n : Int) + 1 := by omega
  have hb4 : ¬ (c = i) := by omega
  have hcx' : ∀ j v, xs[j]? = some v → w.cell? ⟨g, j, none⟩ = some v := fun j v hj => by
    rw [cell_of_block hg]
    rw [← hcx, List.getElem?_take] at hj
    split at hj
    · simpa using hj
    · cases hj
  have hcp1 : ∀ ty dc sc, (Builtin.copy_ #[25, 25] ty #[.slice (some ⟨g, (i + 1) * 3, none⟩) (n - i) dc, .slice (some ⟨g, i * 3, none⟩) (n + 1 - i) sc]).run Tryz.prog w.drew = .ok (goInt ((n - i : Nat) : Int)) (w.drew.setRow g (shiftN cur (i * 3) 3 xs).toArray) := fun ty dc sc => by
    have h := run_copy_rowN (P := Tryz.prog) w.drew 25 25 ty 97 g ((i + 1) * 3) (n - i) dc ⟨g, i * 3, none⟩ (n + 1 - i) sc cur 97 (xs.drop (i * 3)) 3 (n - i) Tryz.underlying25 hsz hg (by simp only [Nat.min_def]; split <;> omega) hdl
      (fun j v hj => by rw [Addr.add_lit]; exact hcx' (i * 3 + j) v (by rwa [List.getElem?_drop] at hj)) (by rw [hdl]; omega) (fun v hv => h1c v (List.mem_of_mem_drop hv))
    rw [show (i + 1) * 3 = i * 3 + 3 by omega] at h ⊢
    exact h
  obtain ⟨W1, hW1⟩ : ∃ W1, W1 = w.drew.setRow g (shiftN cur (i * 3) 3 xs).toArray := ⟨_, rfl⟩
  have hg1 : W1.heap[g]? = some (.cells (shiftN cur (i * 3) 3 xs).toArray 97 (0, 0)) := by rw [hW1]; exact setRow_heap w.drew g cur _ 97 (0, 0) hg
  have hv1 : W1.heap[gv]? = some (.cells vs.toArray 97 (0, 0)) := by rw [hW1, setRow_other w.drew g gv _ hvb]; exact hv
  have hlen : (shiftN cur (i * 3) 3 xs).length = c * 3 := by rw [shiftN_length cur _ _ xs (by rw [hcl, hcs]; omega) (by omega)]; exact hcs
  have hcp2 : ∀ ty dc, (Builtin.copy_ #[25, 25] ty #[.slice (some ⟨g, i * 3, none⟩) (n + 1 - i) dc, .slice (some ⟨gv, 0, none⟩) 1 1]).run Tryz.prog W1 = .ok (goInt 1) (W1.setRow g (putN (shiftN cur (i * 3) 3 xs) (i * 3) vs).toArray) := fun ty dc =>
    run_copy_rowN (P := Tryz.prog) W1 25 25 ty 97 g (i * 3) (n + 1 - i) dc ⟨gv, 0, none⟩ 1 1 (shiftN cur (i * 3) 3 xs).toArray 97 vs 3 1 Tryz.underlying25 hsz hg1 (by simp only [Nat.min_def]; split <;> omega) (by omega)
      (fun j v hj => by
        rw [Addr.add_lit, cell_of_block hv1, Nat.zero_add]
        simpa using hj) (by simp [hlen]; omega) h1v
  have mixed : Tryz.prog.follows Departure.mixedOrders = true := by kernel_rfl
  rw [← hW1] at hcp1
  rw [← hW1]
  have HW := Lib.hid hW1
  clear hW1 hg1 hv1
  go_enter Tryz.func83, Tryz.ntmps83
  go_wp2_with (simp only [hov])
  go_region_law_o (refine step_copy_runI rfl _ _ 25 25 rfl _ _ (by simp [Act.eval, Act.put]) (by simp [Act.eval, Act.put]) (hcp1 _ _ _) ?_)
  go_wp2_with (at_builtin; refine wpList_copy_runI _ rfl _ _ 25 25 rfl _ _ rfl rfl (hcp2 _ _) ?_)
  go_ret
  exact ⟨rfl, rfl⟩
set_option maxHeartbeats 2000000 in
set_option maxRecDepth 100000 in
theorem insEndSs (base : Nat) (xs vs : List Value) (n c gv : Nat) (A : Option Addr) (w : World) (hn : n ≤ 1000000) (hbase : base ≤ w.heap.size) (hcl : xs.length = n * 3) (hvl : vs.length = 3) (ho : w.ownsRow base 97 3 (.slice A n c) n xs) (hv : w.heap[gv]? = some (.cells vs.toArray 97 (0, 0))) (h1v : ∀ v ∈ vs, v.oneCell' = true) :
    Calls Tryz.prog 83 #[.slice A n c, .int .i64 n, .slice (some ⟨gv, 0, none⟩) 1 1] w (InsNPost base 97 3 xs n vs n (.slice A n c) w) := by
  have hr : Rds (fun b => b = gv) w (some ⟨gv, 0, none⟩) vs := rds_blk hv
  have HR := Lib.hid hr
  obtain ⟨A', c', e', hnc⟩ := own_slice ho
  injection e' with e1 _ e3
  subst e1 e3
  have HO := Lib.hid ho
  clear ho hr
  have e : insN (n * 3) vs xs = xs ++ vs := by rw [insN, List.take_of_length_le (by omega), List.drop_eq_nil_of_le (by omega), List.append_nil]
  have HE := Lib.hid e
  clear e
  by_cases hcn : c = n
  · subst hcn
    go_enter Tryz.func83, Tryz.ntmps83
    go_wp2_with (at_builtin; refine append_rows base rfl _ _ 25 97 _ 3 24 rfl Tryz.underlying25 infoSession rfl (by decide) (.slice A c c) c xs rfl HO.out (some ⟨gv, 0, none⟩) 1 1 vs rfl (by simp [hvl]) HR.out h1v (by simp only [maxLen]; omega) (by omega) hbase ?_; intro A1 c1 w1 hc1 hown1 hg1 hat1)
    have H1 := Lib.hid hown1
    have H2 := Lib.hid hg1
    have H3 := Lib.hid hat1
    clear hown1 hg1 hat1
    go_wp2
    go_ret
    have h := H1.out
    rw [← HE.out] at h
    exact ⟨A1, c1, rfl, hc1, h, H2.out, H3.out⟩
  · go_enter Tryz.func83, Tryz.ntmps83
    go_wp2_with (at_builtin; refine append_rows base rfl _ _ 25 97 _ 3 24 rfl Tryz.underlying25 infoSession rfl (by decide) (.slice A n c) n xs rfl HO.out (some ⟨gv, 0, none⟩) 1 1 vs rfl (by simp [hvl]) HR.out h1v (by simp only [maxLen]; omega) (by omega) hbase ?_; intro A1 c1 w1 hc1 hown1 hg1 hat1)
    have H1 := Lib.hid hown1
    have H2 := Lib.hid hg1
    have H3 := Lib.hid hat1
    clear hown1 hg1 hat1
    go_wp2
    go_ret
    have h := H1.out
    rw [← HE.out] at h
    exact ⟨A1, c1, rfl, hc1, h, H2.out, H3.out⟩
set_option maxHeartbeats 4000000 in
set_option maxRecDepth 100000 in
theorem insGrowSs (base : Nat) (xs vs : List Value) (n i g gv : Nat) (cur : Array Value) (w : World) (hi : i < n) (hn6 : n ≤ 1000000) (hbase : base ≤ w.heap.size)
    (hcl : xs.length = n * 3) (hvl : vs.length = 3) (hg : w.heap[g]? = some (.cells cur 97 (0, 0))) (hcx : cur.toList.take (n * 3) = xs) (hv : w.heap[gv]? = some (.cells vs.toArray 97 (0, 0))) (h1c : ∀ v ∈ xs, v.oneCell' = true) (h1v : ∀ v ∈ vs, v.oneCell' = true) :
    Calls Tryz.prog 83 #[.slice (some ⟨g, 0, none⟩) n n, .int .i64 i, .slice (some ⟨gv, 0, none⟩) 1 1] w (InsNPost base 97 3 xs i vs n (.slice (some ⟨g, 0, none⟩) n n) w) := by
  obtain ⟨i0, hi0, hz⟩ := Option.map_eq_some_iff.1 infoSession
  simp only [Prod.mk.injEq] at hz
  obtain ⟨hz0, hzs, hzb⟩ := hz
  have hsz : (Tryz.prog.info? 97).map (·.size) = some 3 := info_size infoSession
  have hgw := lt_of_block hg
  have hvw := lt_of_block hv
  have hcx' : ∀ j v, xs[j]? = some v → w.cell? ⟨g, j, none⟩ = some v := fun j v hj => by
    rw [cell_of_block hg]
    rw [← hcx, List.getElem?_take] at hj
    split at hj
    · simpa using hj
    · cases hj
  have hz2 : ¬ ((i : Int) = (n : Int)) := by omega
  have hkk : (n : Int) + 1 - (i : Int) = ((n + 1 - i : Nat) : Int) := by omega
  have hik : i + (n + 1 - i) = n + 1 := by omega
  have hold : (Builtin.firstCells i0.size i (.slice (some ⟨g, 0, none⟩) i n)).run Tryz.prog w.drew = .ok (xs.take (i * 3)).toArray w.drew := by
    rw [hzs]
    exact run_firstCells_some w.drew 3 i ⟨g, 0, none⟩ i n (xs.take (i * 3)) (by rw [List.length_take]; omega) (fun j v hj => by
      rw [Addr.add_lit, Nat.zero_add]
      rw [List.getElem?_take] at hj
      split at hj
      · exact hcx' j v hj
      · cases hj)
  obtain ⟨G, hG⟩ : ∃ G, G = grownCap w (n + 1) n 97 := ⟨_, rfl⟩
  have hGn : n + 1 ≤ G := by rw [hG]; exact grownCap_ge w _ _ _
  have hG63 : G ≤ maxLen := by rw [hG]; exact grownCap_le_maxLen w (n + 1) n 97 (by unfold maxLen; omega)
  obtain ⟨R, hR⟩ : ∃ R : List Value, R = xs.take (i * 3) ++ ((Builtin.zeroCells (.agg #[.int .i64 0, .int .i64 0, .bool false] : Value).cells (n + 1 - i)).toList ++ (Builtin.zeroCells (.agg #[.int .i64 0, .int .i64 0, .bool false] : Value).cells (G - (n + 1))).toList) := ⟨_, rfl⟩
  have hRa : (xs.take (i * 3)).toArray ++ Builtin.zeroCells (.agg #[.int .i64 0, .int .i64 0, .bool false] : Value).cells (n + 1 - i) ++ Builtin.zeroCells (.agg #[.int .i64 0, .int .i64 0, .bool false] : Value).cells (G - (n + 1)) = R.toArray := by rw [hR]; apply Array.ext'; simp
  have hrz : ∀ ty, (Builtin.append_ #[25, 3] ty #[.slice (some ⟨g, 0, none⟩) i n, .int .i64 ((n : Int) + 1 - (i : Int))]).run Tryz.prog w = .ok (.slice (some ⟨w.heap.size, 0, none⟩) (n + 1) G) (w.drew.alloc (.cells R.toArray 97)) := fun ty => by
    have h := Lib.run_append_grow_zeros (P := Tryz.prog) w 25 3 ty 97 i0 _ .i64 .i64 Tryz.underlying25 Tryz.underlying3 hi0 hz0 (some ⟨g, 0, none⟩) i n (xs.take (i * 3)) hold (n + 1 - i) (by omega) (by omega) (by omega) (by omega) (by rw [hzb]; omega) (by rw [hzb, hik]; exact growslice_fits (by omega) (by omega))
    rw [hik, ← hG, hRa] at h
    rw [hkk]
    exact h
  have hRl : R.length = G * 3 := by rw [hR]; simp [Builtin.zeroCells, Value.cells, hcl]; omega
  have hRt : R.take (i * 3) = xs.take (i * 3) := by rw [hR, List.take_append_of_le_length (by rw [List.length_take]; omega), List.take_take, Nat.min_self]
  obtain ⟨W1, hW1⟩ : ∃ W1, W1 = w.drew.alloc (.cells R.toArray 97) := ⟨_, rfl⟩
  have hN : W1.heap[w.heap.size]? = some (.cells R.toArray 97 (0, 0)) := by rw [hW1]; exact heap_alloc_new w.drew _
  have hO : ∀ k, k < w.heap.size → W1.heap[k]? = w.heap[k]? := fun k hk => by rw [hW1]; exact Go.heap_alloc_old w.drew _ hk
  have hdl : (xs.drop (i * 3)).length = (n - i) * 3 := by rw [List.length_drop, hcl]; omega
  have hcpA : ∀ (W : World), W.heap = W1.heap → ∀ ty dc, (Builtin.copy_ #[25, 25] ty #[.slice (some ⟨w.heap.size, i * 3, none⟩) (n + 1 - i) dc, .slice (some ⟨gv, 0, none⟩) 1 1]).run Tryz.prog W = .ok (goInt 1) (W.setRow w.heap.size (putN R (i * 3) vs).toArray) := fun W hW ty dc =>
    run_copy_rowN (P := Tryz.prog) W 25 25 ty 97 w.heap.size (i * 3) (n + 1 - i) dc ⟨gv, 0, none⟩ 1 1 R.toArray 97 vs 3 1 Tryz.underlying25 hsz (by rw [hW]; exact hN) (by simp only [Nat.min_def]; split <;> omega) (by omega)
      (fun j v hj => by
        rw [Addr.add_lit, cell_of_block (show W.heap[gv]? = some (.cells vs.toArray 97 (0, 0)) by rw [hW, hO gv hvw]; exact hv), Nat.zero_add]
        simpa using hj) (by simp [hRl]; omega) h1v
  have hcpB : ∀ (W : World), W.heap = (W1.setRow w.heap.size (putN R (i * 3) vs).toArray).heap → ∀ ty dc sc, (Builtin.copy_ #[25, 25] ty #[.slice (some ⟨w.heap.size, (i + 1) * 3, none⟩) (n - i) dc, .slice (some ⟨g, i * 3, none⟩) (n - i) sc]).run Tryz.prog W = .ok (goInt ((n - i : Nat) : Int)) (W.setRow w.heap.size (shiftN (putN R (i * 3) vs).toArray (i * 3) 3 xs).toArray) := fun W hW ty dc sc => by
    have h := run_copy_rowN (P := Tryz.prog) W 25 25 ty 97 w.heap.size ((i + 1) * 3) (n - i) dc ⟨g, i * 3, none⟩ (n - i) sc (putN R (i * 3) vs).toArray 97 (xs.drop (i * 3)) 3 (n - i) Tryz.underlying25 hsz (by rw [hW]; exact setRow_heap W1 _ _ _ 97 (0, 0) hN) (by simp only [Nat.min_def]; split <;> omega) hdl
      (fun j v hj => by
        rw [Addr.add_lit, cell_of_block (show W.heap[g]? = some (.cells cur 97 (0, 0)) by rw [hW, setRow_other _ _ g _ (by omega), hO g hgw]; exact hg), ← cell_of_block hg]
        exact hcx' (i * 3 + j) v (by rwa [List.getElem?_drop] at hj)) (by rw [hdl, List.size_toArray, putN_length _ _ _ (by omega), hRl]; omega) (fun v hv => h1c v (List.mem_of_mem_drop hv))
    rw [show (i + 1) * 3 = i * 3 + 3 by omega] at h ⊢
    exact h
  have hw1 : IntKind.i64.wrap ((i : Int) + 1) = (i : Int) + 1 := by rw [IntKind.wrap_i64]; omega
  have hb1 : (0 : Int) ≤ (i : Int) + 1 := by omega
  have hin : i ≤ n := by omega
  have htn : ((i : Int) + 1).toNat = i + 1 := by omega
  have hb3 : (i : Int) ≤ (n : Int) := by omega
  have hGi : ¬ (G = i) := by omega
  have hGim : ¬ (G = i + 1) := by omega
  have hci : ¬ (n = i) := by omega
  have mixed : Tryz.prog.follows Departure.mixedOrders = true := by kernel_rfl
  have HFIN := Lib.hid (fun W' h h1 h2 h3 => growN_fin (z := 3) (v := .slice (some ⟨g, 0, none⟩) n n) (w' := W') (vs := vs) hbase hW1 hcl hvl hi hRt hRl hGn hG63 h h1 h2 h3)
  subst hW1
  have hE1 : ((w.alloc (.cells R.toArray 97)).drew).heap = (w.drew.alloc (.cells R.toArray 97)).heap := rfl
  have hE2 : (((w.alloc (.cells R.toArray 97)).drew.setRow w.heap.size (putN R (i * 3) vs).toArray).drew).heap = ((w.drew.alloc (.cells R.toArray 97)).setRow w.heap.size (putN R (i * 3) vs).toArray).heap := rfl
  clear hkk hik hold hRa hR hN hO hRl hRt hG hcx' hdl
  go_enter Tryz.func83, Tryz.ntmps83
  go_wp2_with (first
    | (at_builtin; refine Lib.wpList_append_run _ rfl _ _ _ _ rfl _ _ rfl rfl _ _ (hrz _) ?_)
    | (at_builtin; refine wpList_copy_runI _ rfl _ _ 25 25 rfl _ _ rfl rfl (hcpA _ hE1 _ _) ?_)
    | (at_builtin; refine wpList_copy_runI _ rfl _ _ 25 25 rfl _ _ rfl rfl (hcpB _ hE2 _ _ _) ?_))
  go_region_law_o (refine step_copy_runI rfl _ _ 25 25 rfl (.slice (some ⟨w.heap.size, (i + 1) * 3, none⟩) (n - i) (G - (i + 1))) (.slice (some ⟨g, i * 3, none⟩) (n - i) (n - i)) (by simp [Act.eval, Act.put]) (by simp [Act.eval, Act.put]) (hcpB _ hE2 _ _ _) ?_)
  go_wp2
  go_ret
  exact HFIN.out _ rfl rfl rfl rfl
theorem insertSs_any (base : Nat) (xs vs : List Value) (n i c gv : Nat) (A : Option Addr) (w : World) (hi : i ≤ n) (hn : n ≤ 1000000) (hbase : base ≤ w.heap.size) (hcl : xs.length = n * 3) (hvl : vs.length = 3) (ho : w.ownsRow base 97 3 (.slice A n c) n xs) (hv : w.heap[gv]? = some (.cells vs.toArray 97 (0, 0)))
    (hne : ∀ k, (Value.slice A n c).ownBlock = some k → gv ≠ k) (h1c : ∀ v ∈ xs, v.oneCell' = true) (h1v : ∀ v ∈ vs, v.oneCell' = true) :
    Calls Tryz.prog 83 #[.slice A n c, .int .i64 i, .slice (some ⟨gv, 0, none⟩) 1 1] w (InsNPost base 97 3 xs i vs n (.slice A n c) w) := by
  by_cases hin : i = n
  · subst hin
    exact insEndSs base xs vs i c gv A w hn hbase hcl hvl ho hv h1v
  · rcases ho.2 with ⟨_, h0⟩ | ⟨g, cap, cur, e, hb, hh, hnc, hcm, hcs, htk⟩
    · omega
    · injection e with e1 _ e3
      subst e1 e3
      by_cases hroom : n + 1 ≤ c
      · refine (insShiftSs xs vs n i c g gv cur w (by omega) hroom (by unfold maxLen at hcm; exact hcm) (hne g rfl) hcl hvl hh hcs htk hv h1c h1v).mono ?_
        rintro e w' ⟨rfl, rfl⟩
        exact shiftN_fin hb hh hcs htk hcl hvl (by omega) hroom hcm
      · obtain rfl : c = n := by omega
        exact insGrowSs base xs vs c i g gv cur w (by omega) hn hbase hcl hvl hh htk hv h1c h1v
end Go.Proofs.YtemcijhpmpdebaaGreatDoor
