/- append of a row that is read, onto a row of the call's own; copies of rows of nodes. Copies of values: slices.Clone at nodes, cloneValue, the reference's l5OwnValue. -/
import Derived.Test.YtemcijhpmpdebaaGreatDoorLaw4
import Derived.Laws.OwnMore
namespace Go.Proofs.YtemcijhpmpdebaaGreatDoor
open Go.RowKit
section
variable {P : Program} {W : World}
theorem append_nil (base : Nat) (t ty e : TypeId) (i : TypeInfo) (size : Nat) (ht : P.underlying t = some (.slice e)) (hi : P.info? e = some i)
    (v : Value) (n : Nat) (xs : List Value) (hown : W.ownsRow base e size v n xs) (c : Nat) : (Builtin.append_ #[t, t] ty #[v, .slice none 0 c]).run P W = .ok v W := by
  rcases hown.2 with ⟨rfl, rfl⟩ | ⟨g, cap, cur, rfl, _, _, hnc, _⟩
  · simp [Builtin.append_, run_underlying ht, sizeOf, typeInfo, hi, Builtin.lenOf, Builtin.firstCells]
  · simp [Builtin.append_, run_underlying ht, sizeOf, typeInfo, hi, Builtin.lenOf, Builtin.firstCells, hnc, storeCells]
theorem append_run (base : Nat) (t ty e : TypeId) (z : Value) (size bytes : Nat) (ht : P.underlying t = some (.slice e)) (hinfo : (P.info? e).map (fun i => (i.zero, i.size, i.bytes)) = some (some z, size, bytes)) (hzs : z.cells.size = size) (hsz : 0 < size)
    (v : Value) (n : Nat) (xs : List Value) (hown : W.ownsRow base e size v n xs) {F : Nat → Prop} (A : Option Addr) (m c : Nat) (news : List Value) (hl : news.length = m * size) (hr : Rds F W A news) (h1 : ∀ u ∈ news, u.oneCell' = true)
    (h63 : n + m ≤ maxLen) (hbytes : (n + m) * bytes ≤ 140737488355328) (hbase : base ≤ W.heap.size) :
    ∃ v' w', (Builtin.append_ #[t, t] ty #[v, .slice A m c]).run P W = .ok v' w' ∧ w'.ownsRow base e size v' (n + m) (xs ++ news) ∧ W.grownBy w' v.ownBlock ∧ (v'.ownBlock = v.ownBlock ∨ v'.ownBlock = some W.heap.size) := by
  obtain ⟨i, hi, hzz⟩ := Option.map_eq_some_iff.1 hinfo
  simp only [Prod.mk.injEq] at hzz
  obtain ⟨hz, hsize, hby⟩ := hzz
  rcases A with _ | ad
  · have hn : news = [] := by
      cases news with
      | nil => rfl
      | cons u us => obtain ⟨b, o, h, _⟩ := hr (by simp); cases h
    subst hn
    have hm : m = 0 := by
      rcases Nat.eq_zero_or_pos m with h0 | h0
      · exact h0
      · have := Nat.mul_pos h0 hsz; simp at hl; omega
    subst hm
    exact ⟨v, W, append_nil base t ty e i size ht hi v n xs hown c, by simpa using hown, World.grownBy.refl W _, .inl rfl⟩
  · have hcells : ∀ j u, news[j]? = some u → W.cell? (ad.add j) = some u := by
      intro j u hu
      obtain ⟨b, o, h, _, _, hc⟩ := hr (by intro h; subst h; simp at hu)
      injection h with h
      subst h
      rw [Addr.add_lit]
      exact hc j u hu
    obtain ⟨v', w', hrun, h2, h3, _, h5⟩ := run_append_own_at (P := P) W base t ty e i z size bytes ht hi hz hsize hby hzs hsz v n xs hown ad m c news hl hcells h1 h63 hbytes hbase
    exact ⟨v', w', hrun, h2, h3, h5⟩
theorem append_rows {ops : Array Oper} {rest : List Oper} {o : Oper} {a : Act} {Q : Exit → Act → World → Prop} (base : Nat) (hgd : o.guard = none) (s x : Operand) (t e : TypeId) (z : Value) (size bytes : Nat)
    (ho : o.op = .call { callee := .builtin .append, args := #[s, x], argTypes := #[t, t] })
    (ht : P.underlying t = some (.slice e)) (hinfo : (P.info? e).map (fun i => (i.zero, i.size, i.bytes)) = some (some z, size, bytes)) (hzs : z.cells.size = size) (hsz : 0 < size)
    (v : Value) (n : Nat) (xs : List Value) (hs : a.eval s = v) (hown : W.ownsRow base e size v n xs) {F : Nat → Prop} (A : Option Addr) (m c : Nat) (news : List Value) (hx : a.eval x = .slice A m c) (hl : news.length = m * size) (hr : Rds F W A news) (h1 : ∀ u ∈ news, u.oneCell' = true)
    (h63 : n + m ≤ maxLen) (hbytes : (n + m) * bytes ≤ 140737488355328) (hbase : base ≤ W.heap.size)
    (h : ∀ A1 c1 w1, n + m ≤ c1 → w1.ownsRow base e size (.slice A1 (n + m) c1) (n + m) (xs ++ news) → W.grownBy w1 v.ownBlock → ((Value.slice A1 (n + m) c1).ownBlock = v.ownBlock ∨ (Value.slice A1 (n + m) c1).ownBlock = some W.heap.size) → wpList P ops Q rest (a.put o.dst (.slice A1 (n + m) c1)) w1) :
    wpList P ops Q (o :: rest) a W := by
  refine wpList_plain hgd fun K hK => ?_
  obtain ⟨v', w', hrun, h2, h3, h4⟩ := append_run (P := P) base t o.type e z size bytes ht hinfo hzs hsz v n xs hown A m c news hl hr h1 h63 hbytes hbase
  unfold Oper.wp execOp
  simp only [ho, resolve, invoke, builtin, Sem.run_bind, Sem.run_pure, Result.andThen_ok, List.map_toArray, List.map_cons, List.map_nil, hs, hx, hrun]
  obtain ⟨A1, c1, rfl, hc1⟩ := own_slice h2
  exact hK _ _ (h A1 c1 w' hc1 h2 h3 h4)
end
theorem ndCells_one (l : List Nd) : ∀ u ∈ ndCells l, u.oneCell' = true := by
  intro u hu
  obtain ⟨x, _, hx⟩ := List.mem_flatMap.1 hu
  simp [Nd.cells] at hx
  rcases hx with rfl | rfl | rfl | rfl | rfl <;> rfl
end Go.Proofs.YtemcijhpmpdebaaGreatDoor
namespace Go.Proofs.YtemcijhpmpdebaaGreatDoor
open Go.RowKit
/-- A row of nodes of the call's own. -/
def NdOwn (l : List Nd) (w : World) (v : Value) (w' : World) : Prop := Below w.heap.size w w' ∧ ∃ A c, v = .slice A l.length c ∧ l.length ≤ c ∧ Rds (fun b => w.heap.size ≤ b) w' A (ndCells l) ∧ w'.ownsRow w.heap.size 100 5 (.slice A l.length c) l.length (ndCells l)
def NdClone (l : List Nd) (w : World) (e : Ending) (w' : World) : Prop := ∃ v, e = .returned v ∧ NdOwn l w v w'
def ValClone (l : List Nd) (w : World) (e : Ending) (w' : World) : Prop := ∃ v, e = .returned (.agg #[v]) ∧ NdOwn l w v w'
theorem own_empty (w : World) (e : TypeId) (s : Nat) : (w.alloc (.cells #[] e (0, 0))).ownsRow w.heap.size e s (.slice (some ⟨w.heap.size, 0, none⟩) 0 0) 0 [] := by
  refine ⟨by simp, .inr ⟨w.heap.size, 0, #[], rfl, Nat.le_refl _, heap_alloc_new _ _, ?_⟩⟩
  simp
set_option maxRecDepth 100000 in
theorem cloneNd_any (l : List Nd) (hl : l.length ≤ 1000000000) (F : Nat → Prop) (A : Option Addr) (c : Nat) (w : World) (hr : Rds F w A (ndCells l)) :
    Calls Tryz.prog 65 #[.slice A l.length c] w (NdClone l w) := by
  rcases A with _ | ad
  · have heq : ∀ W : World, (binOp .eql 53 (.slice none 0 c) (.slice none 0 0)).run Tryz.prog W = .ok (.bool true) W := fun W => Lib.run_eql_slice_nil (P := Tryz.prog) W 53 100 none 0 c 0 0 Tryz.underlying53
    have hl0 : l = [] := by
      cases l with
      | nil => rfl
      | cons x l => obtain ⟨b, o, h, _⟩ := hr (by simp [ndCells, Nd.cells]); cases h
    subst hl0
    go_enter Tryz.func65, Tryz.ntmps65
    go_wp2
    go_ret
    exact ⟨_, rfl, Below.refl _ _, none, 0, rfl, Nat.le_refl _, Rds.nil _ _ _, World.ownsRow_nil _ _ _ _⟩
  · have heq : ∀ W : World, (binOp .eql 53 (.slice (some ad) l.length c) (.slice none 0 0)).run Tryz.prog W = .ok (.bool false) W := fun W => Lib.run_eql_slice_nil (P := Tryz.prog) W 53 100 (some ad) l.length c 0 0 Tryz.underlying53
    have HR := Lib.hid hr
    have hbn : Below w.heap.size w (w.alloc (.cells #[] 100 (0, 0))) := (Below.refl _ _).alloc (Nat.le_refl _) _
    have hown : (w.alloc (.cells #[] 100 (0, 0))).ownsRow w.heap.size 100 5 (.slice (some ⟨w.heap.size, 0, none⟩) 0 0) 0 [] := own_empty w _ _
    have HBN := Lib.hid hbn
    have HOWN := Lib.hid hown
    clear hr hbn hown
    go_enter Tryz.func65, Tryz.ntmps65
    go_wp2_with (at_builtin; refine append_rows w.heap.size rfl (.tmp 5) (.tmp 6) 53 100 _ 5 56 rfl Tryz.underlying53 infoNode rfl (by decide) _ 0 [] rfl HOWN.out (some ad) l.length c (ndCells l) rfl (ndCells_length l) (HR.out.frame (Agree.of_below HBN.out)) (ndCells_one l) (by simp only [maxLen]; omega) (by omega) HBN.out.size ?_; intro A1 c1 w1 hc1 hown1 hg1 hat1)
    have HO1 := Lib.hid hown1
    have HB1 := Lib.hid (HBN.out.grown hg1 HBN.out.size (fun k hk => by have h := own_base HOWN.out k hk; omega))
    clear hown1 hg1 hat1
    go_wp2
    go_ret
    have h1 := HO1.out
    rw [Nat.zero_add, List.nil_append] at h1
    exact ⟨_, rfl, HB1.out, A1, c1, rfl, by omega, Rds.of_own h1, h1⟩
theorem own_weaken {w : World} {b b' : Nat} {e : TypeId} {s : Nat} {v : Value} {n : Nat} {xs : List Value} (h : w.ownsRow b e s v n xs) (hb : b' ≤ b) : w.ownsRow b' e s v n xs := by
  obtain ⟨h1, h2 | ⟨g, cap, cur, r1, r2, r3⟩⟩ := h
  · exact ⟨h1, .inl h2⟩
  · exact ⟨h1, .inr ⟨g, cap, cur, r1, by omega, r3⟩⟩
set_option maxRecDepth 100000 in
set_option maxHeartbeats 800000 in
theorem cloneVal_any (l : List Nd) (hl : l.length ≤ 1000000000) (F : Nat → Prop) (A : Option Addr) (c : Nat) (w : World) (hr : Rds F w A (ndCells l)) :
    Calls Tryz.prog 39 #[.agg #[.slice A l.length c]] w (ValClone l w) := by
  obtain ⟨w1, hw⟩ : ∃ w1, w1 = (w.alloc (.cells #[.slice A l.length c] 55 (0, 0))).alloc (.cells #[.slice none 0 0] 55 (0, 0)) := ⟨_, rfl⟩
  have hb1 : Below w.heap.size w w1 := by rw [hw]; exact ((Below.refl _ _).alloc (Nat.le_refl _) _).alloc (by simp) _
  have k1 : w1.heap[w.heap.size + 1]? = some (.cells #[.slice none 0 0] 55 (0, 0)) := by rw [hw]; (repeat (first | with_reducible assumption | (with_reducible refine blk_new _ ?_; (first | rfl | (simp; done) | (simp; omega))) | with_reducible apply block_setCell | (with_reducible refine blk_skip _ _ ?_ ?_; rotate_left; (first | (simp; done) | (simp; omega))) | with_reducible refine blk_old ?_))
  have hs : w1.heap.size = w.heap.size + 1 + 1 := by rw [hw]; simp
  have HC := Lib.hid (cloneNd_any l hl F A c w1 (hr.frame (Agree.of_below hb1)))
  have HW := Lib.hid hw
  clear hw hr
  go_enter Tryz.func39, Tryz.ntmps39
  go_wp2_with fail
  rw [← HW.out]
  clear HW
  refine HC.out.mono ?_
  rintro e w2 ⟨v, rfl, hb2, A1, c1, rfl, hc1, hr1, ho1⟩
  have K1 := block_below k1 hb2
  have x1 := cell_of_block K1 0
  have f1 := free_of_block K1 0
  simp at x1
  have HK1 := Lib.hid K1
  have HB2 := Lib.hid (below_then hb1 hb1.size hb2)
  have HO1 := Lib.hid ho1
  have hs2 := hb2.size
  clear K1 k1 hb1 hb2 hr1 ho1
  go_wp2
  refine bodyPost_ret (results_cell_row rfl _ _ (w.heap.size + 1) _ _ _ _ rfl (block_setCell HK1.out _ _) Tryz.underlying55 rfl ((info_size infoValue).trans (by simp))) rfl ?_
  have h := own_agree HO1.out (Agree.of_setCell (F := fun b => b ≠ w.heap.size + 1) w2 ⟨w.heap.size + 1, 0, none⟩ (.slice A1 l.length c1) (fun b hb => hb)) (fun k hk => by have := (own_base HO1.out k hk).1; omega)
  have h2 := own_weaken h (b' := w.heap.size) (by omega)
  exact ⟨_, rfl, HB2.out.setCell (by show w.heap.size ≤ w.heap.size + 1; omega) _, A1, c1, rfl, hc1, Rds.of_own h2, h2⟩
set_option maxRecDepth 100000 in
set_option maxHeartbeats 800000 in
theorem sOwnVal_any (l : List Nd) (hl : l.length ≤ 1000000000) (F : Nat → Prop) (A : Option Addr) (c : Nat) (w : World) (hr : Rds F w A (ndCells l)) :
    Calls Tryz.prog 32 #[.agg #[.slice A l.length c]] w (ValClone l w) := by
  obtain ⟨w1, hw⟩ : ∃ w1, w1 = (w.alloc (.cells #[.slice A l.length c] 55 (0, 0))).alloc (.cells #[.slice none 0 0] 55 (0, 0)) := ⟨_, rfl⟩
  have hb1 : Below w.heap.size w w1 := by rw [hw]; exact ((Below.refl _ _).alloc (Nat.le_refl _) _).alloc (by simp) _
  have k1 : w1.heap[w.heap.size + 1]? = some (.cells #[.slice none 0 0] 55 (0, 0)) := by rw [hw]; (repeat (first | with_reducible assumption | (with_reducible refine blk_new _ ?_; (first | rfl | (simp; done) | (simp; omega))) | with_reducible apply block_setCell | (with_reducible refine blk_skip _ _ ?_ ?_; rotate_left; (first | (simp; done) | (simp; omega))) | with_reducible refine blk_old ?_))
  have hs : w1.heap.size = w.heap.size + 1 + 1 := by rw [hw]; simp
  have hown : (w1.alloc (.cells #[] 100 (0, 0))).ownsRow w1.heap.size 100 5 (.slice (some ⟨w1.heap.size, 0, none⟩) 0 0) 0 [] := own_empty w1 _ _
  have hbn : Below w1.heap.size w1 (w1.alloc (.cells #[] 100 (0, 0))) := (Below.refl _ _).alloc (Nat.le_refl _) _
  rw [hs] at hown
  have HOWN := Lib.hid hown
  have HBN := Lib.hid (below_then hb1 hb1.size hbn)
  have HB1 := Lib.hid hbn
  have HR := Lib.hid (hr.frame (Agree.of_below (below_then hb1 hb1.size hbn)))
  have HK := Lib.hid (block_below k1 hbn)
  have hsn : (w1.alloc (.cells #[] 100 (0, 0))).heap.size = w.heap.size + 1 + 1 + 1 := by simp [hs]
  have HW := Lib.hid hw
  clear hw hr hown hbn k1 hb1
  go_enter Tryz.func32, Tryz.ntmps32
  go_wp2_with (at_builtin; rw [← HW.out]; refine append_rows (w.heap.size + 1 + 1) rfl (.tmp 3) (.tmp 5) 53 100 _ 5 56 rfl Tryz.underlying53 infoNode rfl (by decide) _ 0 [] rfl HOWN.out A l.length c (ndCells l) rfl (ndCells_length l) HR.out (ndCells_one l) (by simp only [maxLen]; omega) (by omega) (by omega) ?_)
  intro A1 c1 w3 hc1 hown1 hg1 hat1
  have hag : Agree (fun b => b < w.heap.size + 1 + 1) (w1.alloc (.cells #[] 100 (0, 0))) w3 := Agree.of_grown hg1 (fun b hb e => by have h := own_base HOWN.out b e; omega)
  have hK := block_agree HK.out hag (by omega)
  have hB3 := HBN.out.grown hg1 HBN.out.size (fun k hk => by have h := own_base HOWN.out k hk; omega)
  have f1 := free_of_block hK 0
  have x1 := cell_of_block hK 0
  simp at x1
  have HK3 := Lib.hid hK
  have HB3 := Lib.hid hB3
  have HO1 := Lib.hid hown1
  clear hag hK hB3 hg1 hat1 hown1
  go_wp2
  refine bodyPost_ret (results_cell_row rfl _ _ (w.heap.size + 1) _ _ _ _ rfl (block_setCell HK3.out _ _) Tryz.underlying55 rfl ((info_size infoValue).trans (by simp))) rfl ?_
  have h0 := HO1.out
  have h := own_agree h0 (Agree.of_setCell (F := fun b => b ≠ w.heap.size + 1) w3 ⟨w.heap.size + 1, 0, none⟩ (.slice A1 l.length c1) (fun b hb => hb)) (fun k hk => by have := (own_base h0 k hk).1; omega)
  have h2 := own_weaken h (b' := w.heap.size) (by omega)
  exact ⟨_, rfl, by simpa using HB3.out.setCell (p := ⟨w.heap.size + 1, 0, none⟩) (by show w.heap.size ≤ w.heap.size + 1; omega) (.slice A1 l.length c1), A1, c1, rfl, by omega, by simpa using Rds.of_own h2, by simpa using h2⟩
end Go.Proofs.YtemcijhpmpdebaaGreatDoor
