/- The reference's l1Put at a map: a part with a new name. -/
import Derived.Test.YteeppdobeeodiaaGreatDoorSp6
namespace Go.Proofs.YteeppdobeeodiaaGreatDoor
open Go.RowKit
/-- append of a row that is read, as one step of a region that draws its order. -/
theorem step_append_rows {P : Program} {ops : Array Oper} {o : Oper} {a : Act} {W : World} {K : Act → World → Prop} {Q : Exit → Act → World → Prop} {E : Prop} (base : Nat) (hgd : o.guard = none) (s x : Operand) (t e : TypeId) (z : Value) (size bytes : Nat)
    (ho : o.op = .call { callee := .builtin .append, args := #[s, x], argTypes := #[t, t] }) (ht : P.underlying t = some (.slice e)) (hinfo : (P.info? e).map (fun i => (i.zero, i.size, i.bytes)) = some (some z, size, bytes)) (hz : z.cells.size = size) (hs0 : 0 < size)
    (v : Value) (n : Nat) (xs : List Value) (hs : a.eval s = v) (HO : W.ownsRow base e size v n xs) {F : Nat → Prop} (A : Option Addr) (m c : Nat) (news : List Value) (hx : a.eval x = .slice A m c) (hl : news.length = m * size) (hr : Rds F W A news) (h1 : ∀ u ∈ news, u.oneCell' = true)
    (hm : n + m ≤ maxLen) (hb : (n + m) * bytes ≤ 140737488355328) (hbase : base ≤ W.heap.size)
    (h : ∀ A1 c1 w1, n + m ≤ c1 → w1.ownsRow base e size (.slice A1 (n + m) c1) (n + m) (xs ++ news) → W.grownBy w1 v.ownBlock → K (a.put o.dst (.slice A1 (n + m) c1)) w1) :
    if Region.wanted o (yielded ops a.tmps) = true then Oper.wp P o a W K Q else E := by
  have hw : Region.wanted o (yielded ops a.tmps) = true := by simp [Region.wanted, hgd]
  rw [if_pos hw]
  obtain ⟨v', w', hrun, h2, h3, _⟩ := append_run (P := P) base t o.type e z size bytes ht hinfo hz hs0 v n xs HO A m c news hl hr h1 hm hb hbase
  unfold Oper.wp execOp
  simp only [ho, resolve, invoke, builtin, Sem.run_bind, Sem.run_pure, Result.andThen_ok, List.map_toArray, List.map_cons, List.map_nil, hs, hx, hrun]
  obtain ⟨A1, c1, rfl, hc1⟩ := own_slice h2
  exact h A1 c1 w' hc1 h2 h3
/-- The memory while l1Put builds its row of parts and names. -/
structure PRel (n : Int) (x : ByteArray) (g : Nat) (w w1 wx : World) (ms : List ByteArray) (rk : List (List Value)) (An Ak : Option Addr) (cn ck : Nat) : Prop where
  bel : Below w.heap.size w wx
  size : g + 1 ≤ wx.heap.size
  agr : ∀ b, b < g → wx.heap[b]? = w1.heap[b]?
  ko : wx.heap[g]? = some (.cells #[.int .i64 n, .int .i64 0, .string x, .slice An ms.length cn, .slice Ak rk.length ck] 44 (0, 0))
  hn : wx.ownsRow (g + 1) 9 1 (.slice An ms.length cn) ms.length (strs ms)
  hk : wx.ownsRow (g + 1) 44 5 (.slice Ak rk.length ck) rk.length rk.flatten
theorem PRel.below {n : Int} {x : ByteArray} {g : Nat} {w w1 wx wy : World} {ms : List ByteArray} {rk : List (List Value)} {An Ak : Option Addr} {cn ck : Nat} (h : PRel n x g w w1 wx ms rk An Ak cn ck) (hb : Below wx.heap.size wx wy) : PRel n x g w w1 wy ms rk An Ak cn ck := by
  have hs := h.bel.size
  have hz := h.size
  have hz2 := hb.size
  exact ⟨below_then h.bel hs hb, by omega, fun b hb' => (hb.block b (by omega)).trans (h.agr b hb'), block_below h.ko hb, own_below h.hn hb, own_below h.hk hb⟩
theorem PRel.drawn {n : Int} {x : ByteArray} {g : Nat} {w w1 wx : World} {ms : List ByteArray} {rk : List (List Value)} {An Ak : Option Addr} {cn ck : Nat} (h : PRel n x g w w1 wx ms rk An Ak cn ck) : PRel n x g w w1 wx.drew ms rk An Ak cn ck :=
  ⟨h.bel.drew, h.size, h.agr, h.ko, h.hn, h.hk⟩
theorem PRel.kids {n : Int} {x : ByteArray} {g : Nat} {w w1 wx w5 : World} {ms : List ByteArray} {rk rs : List (List Value)} {An Ak A5 : Option Addr} {cn ck c5 m : Nat} (h : PRel n x g w w1 wx ms rk An Ak cn ck) (hw : w.heap.size ≤ g) (hm : m = (rk ++ rs).length)
    (ho : w5.ownsRow (g + 1) 44 5 (.slice A5 m c5) m (rk.flatten ++ rs.flatten)) (hg : wx.grownBy w5 (Value.slice Ak rk.length ck).ownBlock) :
    PRel n x g w w1 (w5.setCell ⟨g, 4, none⟩ (.slice A5 m c5)) ms (rk ++ rs) An A5 cn c5 := by
  subst hm
  have hs := h.size
  have hl := h.bel.size
  have h5 := hg.size
  have hkl := own_base h.hk
  have hnl := own_base h.hn
  have hnk := own_ne h.hn h.hk (by decide)
  have hset : ∀ b, b ≠ g → (w5.setCell ⟨g, 4, none⟩ (.slice A5 (rk ++ rs).length c5)).heap[b]? = w5.heap[b]? := fun b hb => Below.heap_setCell _ _ _ _ hb
  have hss : (w5.setCell ⟨g, 4, none⟩ (.slice A5 (rk ++ rs).length c5)).heap.size = w5.heap.size := by simp [World.setCell]
  have hko : w5.heap[g]? = some (.cells #[.int .i64 n, .int .i64 0, .string x, .slice An ms.length cn, .slice Ak rk.length ck] 44 (0, 0)) := by
    rw [hg.block _ (by omega) (fun e => by have := (hkl _ e.symm).1; omega)]
    exact h.ko
  refine ⟨(h.bel.grown hg (by omega) (fun q hq => by have := (hkl q hq).1; omega)).setCell (p := ⟨g, 4, none⟩) (by show w.heap.size ≤ g; exact hw) _, by omega, fun b hb => ?_, block_setCell hko 4 _, ?_, ?_⟩
  · rw [hset b (by omega), hg.block b (by omega) (fun e => by have := (hkl _ e.symm).1; omega)]
    exact h.agr b hb
  · refine own_agree (F := fun b => b < wx.heap.size ∧ (Value.slice Ak rk.length ck).ownBlock ≠ some b ∧ b ≠ g) h.hn ⟨by omega, fun b hb _ => ?_⟩ (fun q hq => ⟨(hnl q hq).2, hnk q hq, fun e => by have := (hnl q hq).1; omega⟩)
    rw [hset b hb.2.2, hg.block b hb.1 (fun e => hb.2.1 e.symm)]
  · rw [List.flatten_append]
    exact own_agree (F := fun b => b ≠ g) ho ⟨by omega, fun b hb _ => hset b hb⟩ (fun q hq e => by have := (own_base ho q hq).1; omega)
theorem PRel.names {n : Int} {x : ByteArray} {g : Nat} {w w1 wx w5 : World} {ms ns : List ByteArray} {rk : List (List Value)} {An Ak A5 : Option Addr} {cn ck c5 m : Nat} (h : PRel n x g w w1 wx ms rk An Ak cn ck) (hw : w.heap.size ≤ g) (hm : m = (ms ++ ns).length)
    (ho : w5.ownsRow (g + 1) 9 1 (.slice A5 m c5) m (strs ms ++ strs ns)) (hg : wx.grownBy w5 (Value.slice An ms.length cn).ownBlock) :
    PRel n x g w w1 (w5.setCell ⟨g, 3, none⟩ (.slice A5 m c5)) (ms ++ ns) rk A5 Ak c5 ck := by
  subst hm
  have hs := h.size
  have hl := h.bel.size
  have h5 := hg.size
  have hkl := own_base h.hk
  have hnl := own_base h.hn
  have hnk := own_ne h.hk h.hn (by decide)
  have hset : ∀ b, b ≠ g → (w5.setCell ⟨g, 3, none⟩ (.slice A5 (ms ++ ns).length c5)).heap[b]? = w5.heap[b]? := fun b hb => Below.heap_setCell _ _ _ _ hb
  have hss : (w5.setCell ⟨g, 3, none⟩ (.slice A5 (ms ++ ns).length c5)).heap.size = w5.heap.size := by simp [World.setCell]
  have hko : w5.heap[g]? = some (.cells #[.int .i64 n, .int .i64 0, .string x, .slice An ms.length cn, .slice Ak rk.length ck] 44 (0, 0)) := by
    rw [hg.block _ (by omega) (fun e => by have := (hnl _ e.symm).1; omega)]
    exact h.ko
  refine ⟨(h.bel.grown hg (by omega) (fun q hq => by have := (hnl q hq).1; omega)).setCell (p := ⟨g, 3, none⟩) (by show w.heap.size ≤ g; exact hw) _, by omega, fun b hb => ?_, block_setCell hko 3 _, ?_, ?_⟩
  · rw [hset b (by omega), hg.block b (by omega) (fun e => by have := (hnl _ e.symm).1; omega)]
    exact h.agr b hb
  · have e : strs (ms ++ ns) = strs ms ++ strs ns := by simp [strs]
    rw [e]
    exact own_agree (F := fun b => b ≠ g) ho ⟨by omega, fun b hb _ => hset b hb⟩ (fun q hq e => by have := (own_base ho q hq).1; omega)
  · refine own_agree (F := fun b => b < wx.heap.size ∧ (Value.slice An ms.length cn).ownBlock ≠ some b ∧ b ≠ g) h.hk ⟨by omega, fun b hb _ => ?_⟩ (fun q hq => ⟨(hkl q hq).2, hnk q hq, fun e => by have := (hkl q hq).1; omega⟩)
    rw [hset b hb.2.2, hg.block b hb.1 (fun e => hb.2.1 e.symm)]
theorem PRel.outk {n : Int} {x : ByteArray} {g : Nat} {w w1 wx w5 : World} {ms : List ByteArray} {rk : List (List Value)} {An Ak : Option Addr} {cn ck : Nat} (h : PRel n x g w w1 wx ms rk An Ak cn ck) (hg : wx.grownBy w5 (Value.slice Ak rk.length ck).ownBlock) :
    w5.heap[g]? = some (.cells #[.int .i64 n, .int .i64 0, .string x, .slice An ms.length cn, .slice Ak rk.length ck] 44 (0, 0)) := by
  have hs := h.size
  rw [hg.block _ (by omega) (fun e => by have := (own_base h.hk _ e.symm).1; omega)]
  exact h.ko
theorem PRel.outn {n : Int} {x : ByteArray} {g : Nat} {w w1 wx w5 : World} {ms : List ByteArray} {rk : List (List Value)} {An Ak : Option Addr} {cn ck : Nat} (h : PRel n x g w w1 wx ms rk An Ak cn ck) (hg : wx.grownBy w5 (Value.slice An ms.length cn).ownBlock) :
    w5.heap[g]? = some (.cells #[.int .i64 n, .int .i64 0, .string x, .slice An ms.length cn, .slice Ak rk.length ck] 44 (0, 0)) := by
  have hs := h.size
  rw [hg.block _ (by omega) (fun e => by have := (own_base h.hn _ e.symm).1; omega)]
  exact h.ko
theorem Rds.take {F : Nat → Prop} {w : World} {A : Option Addr} {vs : List Value} (h : Rds F w A vs) (k : Nat) : Rds F w A (vs.take k) := by
  intro hx
  obtain ⟨b, o, e, hF, hl, hc⟩ := h (fun h0 => hx (by rw [h0]; simp))
  refine ⟨b, o, e, hF, hl, fun j v hj => hc j v ?_⟩
  rw [List.getElem?_take] at hj
  split at hj
  · exact hj
  · cases hj
theorem Rds.drop {F : Nat → Prop} {w : World} {A : Option Addr} {vs : List Value} (h : Rds F w A vs) (k c p : Nat) (hc0 : c = p → vs.drop k = []) : Rds F w (if c = p then A else A.map (fun x => x.add k)) (vs.drop k) := by
  intro hx
  have hcp : ¬ c = p := fun e => hx (hc0 e)
  rw [if_neg hcp]
  obtain ⟨b, o, e, hF, hl, hc⟩ := h (fun h0 => hx (by rw [h0]; simp))
  subst e
  refine ⟨b, o + k, by simp [Addr.add_lit], hF, hl, fun j v hj => ?_⟩
  rw [List.getElem?_drop] at hj
  have := hc _ v hj
  rw [Nat.add_assoc]
  exact this
theorem flatten_take (rs : List (List Value)) (h : ∀ r ∈ rs, r.length = 5) (p : Nat) : (rs.take p).flatten = rs.flatten.take (p * 5) ∧ (rs.drop p).flatten = rs.flatten.drop (p * 5) := by
  induction rs generalizing p with
  | nil => simp
  | cons y rs ih =>
    have hy : y.length = 5 := h y (by simp)
    cases p with
    | zero => simp
    | succ p =>
      obtain ⟨h1, h2⟩ := ih (fun r hr => h r (List.mem_cons_of_mem _ hr)) p
      rw [List.take_succ_cons, List.drop_succ_cons, List.flatten_cons, List.flatten_cons, h1, h2, List.take_append, List.drop_append, hy, List.take_of_length_le (show y.length ≤ (p + 1) * 5 by omega), List.drop_eq_nil_of_le (show y.length ≤ (p + 1) * 5 by omega)]
      have e1 : (p + 1) * 5 - 5 = p * 5 := by omega
      rw [e1]
      simp
def SPutPost (F : Nat → Prop) (t : Tree) (nm : ByteArray) (x : Tree) (w : World) (e : Ending) (w' : World) : Prop :=
  ∃ cs, e = .returned (.agg cs.toArray) ∧ Below w.heap.size w w' ∧ LtAt (Nw F w.heap.size) w' cs (.mk 7 0 emptyB (ins (insPos t.names nm) nm t.names) (ins (insPos t.names nm) x t.kids))
theorem sput_fin {F : Nat → Prop} {t x : Tree} {nm : ByteArray} {g p : Nat} {w w1 wx : World} {ms : List ByteArray} {rk rs : List (List Value)} {xs : List Value} {An Ak : Option Addr} {cn ck : Nat} {v0 v1 v2 v3 v4 : Value} (h : PRel 7 ⟨#[]⟩ g w w1 wx ms rk An Ak cn ck) (hp : p = insPos t.names nm)
    (hts : LtsAt F w rs t.kids) (hx : LtAt F w xs x) (hms : ms = ins p nm t.names) (hrk : rk = ins p xs rs) (hg : g = w.heap.size + 1 + 1 + 1) :
    SPutPost F t nm x w (.returned (.agg #[.int .i64 7, .int .i64 0, .string ⟨#[]⟩, .slice An ms.length cn, .slice Ak rk.length ck]))
      (((((wx.setCell ⟨w.heap.size + 1 + 1, 0, none⟩ v0).setCell ⟨w.heap.size + 1 + 1, 1, none⟩ v1).setCell ⟨w.heap.size + 1 + 1, 2, none⟩ v2).setCell ⟨w.heap.size + 1 + 1, 3, none⟩ v3).setCell ⟨w.heap.size + 1 + 1, 4, none⟩ v4) := by
  have hleR : ∀ j, w.heap.size ≤ (⟨w.heap.size + 1 + 1, j, none⟩ : Addr).block := fun j => by show w.heap.size ≤ w.heap.size + 1 + 1; omega
  have hB := ((((h.bel.setCell (hleR 0) v0).setCell (hleR 1) v1).setCell (hleR 2) v2).setCell (hleR 3) v3).setCell (hleR 4) v4
  have hne : ∀ c, g + 1 ≤ c → c ≠ w.heap.size + 1 + 1 := fun c h => by omega
  have hA := (((((Agree.refl (fun b => g + 1 ≤ b) wx).set hne 0 v0).set hne 1 v1).set hne 2 v2).set hne 3 v3).set hne 4 v4
  have hR1 := (Rds.of_own h.hn).frame hA
  have hR2 := (Rds.of_own h.hk).frame hA
  obtain ⟨_, _, e1, hc1⟩ := own_slice h.hn
  obtain ⟨_, _, e2, hc2⟩ := own_slice h.hk
  simp only [Value.slice.injEq] at e1 e2
  obtain ⟨_, _, rfl⟩ := e1
  obtain ⟨_, _, rfl⟩ := e2
  have hkeep : ∀ b, F b → b < w.heap.size → Nw F w.heap.size b := fun b h h' => .inl ⟨h, h'⟩
  have hl : LtsAt F w (ins p xs rs) (ins p x t.kids) := by
    obtain ⟨h1, h2⟩ := hts.split p
    have h3 := h1.app ((LtsAt.one hx).app h2)
    simpa [ins] using h3
  have hk := hl.frame (Agree.of_below hB) hkeep
  refine ⟨_, rfl, hB, ?_⟩
  have hlen : (ins p x t.kids).length = rk.length := by rw [hrk]; exact hl.length.symm
  rw [← hp, ← hms]
  simp only [LtAt]
  refine ⟨An, cn, Ak, ck, rk, ?_, hc1, by rw [hlen]; exact hc2, hR1.mono (fun b h _ => .inr (by have h' : g + 1 ≤ b := h; omega)), hR2.mono (fun b h _ => .inr (by have h' : g + 1 ≤ b := h; omega)), by rw [hrk]; exact hk⟩
  rw [hlen]
  rfl
set_option maxRecDepth 100000 in
set_option maxHeartbeats 4000000 in
theorem sPut_any (t : Tree) (nm : ByteArray) (x : Tree) (hk7 : t.kind = 7) (hm : MapOK t.names t.kids) (hni : t.names[insPos t.names nm]? ≠ some nm) (hl : t.kids.length ≤ 1000000) (F : Nat → Prop) (cs xs : List Value) (w : World) (ht : LtAt F w cs t) (hx : LtAt F w xs x) :
    Calls Tryz.prog 48 #[.agg cs.toArray, .string nm, .agg xs.toArray] w (SPutPost F t nm x w) := by
  obtain ⟨A1, c1, A2, c2, rs, rfl, g3, g4, r3, r4, hts⟩ := ht.open
  obtain ⟨B1, d1, B2, d2, rx, rfl, x3, x4, q3, q4, htx⟩ := hx.open
  rw [hk7] at ht ⊢
  obtain ⟨w1, hw⟩ : ∃ w1, w1 = ((w.alloc (.cells #[.int .i64 7, .int .i64 t.num, .string t.text, .slice A1 t.names.length c1, .slice A2 t.kids.length c2] 44 (0, 0))).alloc (.cells #[.int .i64 x.kind, .int .i64 x.num, .string x.text, .slice B1 x.names.length d1, .slice B2 x.kids.length d2] 44 (0, 0))).alloc (.cells #[.int .i64 0, .int .i64 0, .string ⟨#[]⟩, .slice none 0 0, .slice none 0 0] 44 (0, 0)) := ⟨_, rfl⟩
  have hs1 : w1.heap.size = w.heap.size + 1 + 1 + 1 := by rw [hw]; simp
  have hb1 : Below w.heap.size w w1 := by rw [hw]; exact (((Below.refl _ _).alloc (Nat.le_refl _) _).alloc (by simp) _).alloc (by simp <;> omega) _
  have hkv : w1.heap[w.heap.size]? = some (.cells #[.int .i64 7, .int .i64 t.num, .string t.text, .slice A1 t.names.length c1, .slice A2 t.kids.length c2] 44 (0, 0)) := by rw [hw]; (repeat (first | with_reducible assumption | (with_reducible refine blk_new _ ?_; (first | rfl | (simp; done) | (simp; omega))) | with_reducible apply block_setCell | (with_reducible refine blk_skip _ _ ?_ ?_; rotate_left; (first | (simp; done) | (simp; omega))) | with_reducible refine blk_old ?_))
  have hkx : w1.heap[w.heap.size + 1]? = some (.cells #[.int .i64 x.kind, .int .i64 x.num, .string x.text, .slice B1 x.names.length d1, .slice B2 x.kids.length d2] 44 (0, 0)) := by rw [hw]; (repeat (first | with_reducible assumption | (with_reducible refine blk_new _ ?_; (first | rfl | (simp; done) | (simp; omega))) | with_reducible apply block_setCell | (with_reducible refine blk_skip _ _ ?_ ?_; rotate_left; (first | (simp; done) | (simp; omega))) | with_reducible refine blk_old ?_))
  have hkr : w1.heap[w.heap.size + 1 + 1]? = some (.cells #[.int .i64 0, .int .i64 0, .string ⟨#[]⟩, .slice none 0 0, .slice none 0 0] 44 (0, 0)) := by rw [hw]; (repeat (first | with_reducible assumption | (with_reducible refine blk_new _ ?_; (first | rfl | (simp; done) | (simp; omega))) | with_reducible apply block_setCell | (with_reducible refine blk_skip _ _ ?_ ?_; rotate_left; (first | (simp; done) | (simp; omega))) | with_reducible refine blk_old ?_))
  have HT := Lib.hid ht
  have HX := Lib.hid hx
  have HB1 := Lib.hid hb1
  have HKV := Lib.hid hkv
  have HKX := Lib.hid hkx
  have HKR := Lib.hid hkr
  have HFL := Lib.hid (flat_one hts)
  have hfl : rs.flatten.length = t.kids.length * 5 := by rw [flatten_len rs hts.sizes, hts.length]
  have HLEN := Lib.hid hfl
  have R3 := Lib.hid (r3.mono (G := fun b => F b ∧ b < w.heap.size) (fun b h hl => ⟨h, hl⟩))
  have R4 := Lib.hid (r4.mono (G := fun b => F b ∧ b < w.heap.size) (fun b h hl => ⟨h, hl⟩))
  have HTS := Lib.hid hts
  have HW := Lib.hid hw
  have HM := Lib.hid hm
  have HNI := Lib.hid hni
  have hml := hm.len
  have R31 := Lib.hid (R3.out.frame (Agree.of_below hb1))
  clear ht hx r3 r4 hts q3 q4 htx hb1 hkv hkx hkr hfl hm hni hw
  generalize hnl : t.names.length = nl at *
  have HNL := Lib.hid hnl
  have HML := Lib.hid hml
  have hnl1 : nl ≤ 1000000 := by omega
  clear hnl hml
  go_enter Tryz.func48, Tryz.ntmps48
  have z0 := cell_of_block HKV.out 0
  have z3 := cell_of_block HKV.out 3
  have z4 := cell_of_block HKV.out 4
  simp at z0 z3 z4
  go_upto_if 14 with fail
  rw [← HW.out]
  obtain ⟨p, hp⟩ : ∃ p, p = insPos t.names nm := ⟨_, rfl⟩
  have hpl : p ≤ nl := by rw [hp, ← HNL.out]; exact insPos_le _ _
  have HP' := Lib.hid hp
  have HS := Lib.hid HM.out.sorted
  clear hp
  go_cut [7] (fun kv wx => kv = .int .i64 (p : Int) ∧ w1 = wx)
  case first =>
    go_wp2
    go_loop [7] (fun kv => ∃ k : Nat, kv = .int .i64 (k : Int) ∧ k ≤ nl ∧ Hid (∀ i s, i < k → t.names[i]? = some s → ltS s nm = true)) (fun kv => nl - (intOf kv).toNat)
    case atStart => exact ⟨0, rfl, Nat.zero_le _, Lib.hid (fun i s h => by omega)⟩
    case round =>
      obtain ⟨k, rfl, hk, hrel⟩ := hrel
      by_cases hlt : k < nl
      · obtain ⟨s, hs⟩ : ∃ s, t.names[k]? = some s := ⟨_, List.getElem?_eq_getElem (by rw [HNL.out]; exact hlt)⟩
        have hsv : (strs t.names)[k]? = some (.string s) := by rw [strs, List.getElem?_map, hs]; rfl
        obtain ⟨bi, oi, rfl, hbi, hbil⟩ := R31.out.open (by intro h0; rw [h0] at hsv; simp at hsv)
        have hcell := R31.out.at k _ hsv
        have HSK := Lib.hid hs
        clear hs hsv
        by_cases hlts : ltS s nm = true
        · have hbl : Op.bytesLess s.toList nm.toList = true := hlts
          go_wp2
          go_round
          case rel =>
            refine ⟨k + 1, by go_num, by omega, Lib.hid (fun i y hi hy => ?_)⟩
            rcases Nat.lt_or_ge i k with c | c
            · exact hrel.out i y c hy
            · obtain rfl : i = k := by omega
              rw [HSK.out] at hy
              injection hy with hy
              subst hy
              exact hlts
          case measure => simp [intOf]; omega
        · have hpk : p = k := by
            rw [HP'.out]
            refine (insPos_of t.names nm HS.out k (by rw [HNL.out]; exact hk) hrel.out (fun i y hi hy => ?_)).symm
            have h1 : ltS s nm = false := by simpa using hlts
            rcases Nat.lt_or_ge k i with c | c
            · cases d : ltS y nm
              · rfl
              · rw [ltS_trans (sorted_lt HS.out k i s y c HSK.out hy) d] at h1
                cases h1
            · obtain rfl : i = k := by omega
              rw [HSK.out] at hy
              injection hy with hy
              subst hy
              exact h1
          have hbl : Op.bytesLess s.toList nm.toList = false := by
            have h : ltS s nm = false := by simpa using hlts
            exact h
          have hne : (s.toList == nm.toList) = false := by
            simp only [beq_eq_false_iff_ne, ne_eq]
            intro e
            refine HNI.out ?_
            rw [← HP'.out, hpk, HSK.out, ba_eq e]
          have HPK := Lib.hid hpk
          clear hpk
          go_wp2
          go_meet
          exact ⟨by rw [HPK.out], rfl⟩
      · have hpk : p = k := by
          rw [HP'.out]
          refine (insPos_of t.names nm HS.out k (by rw [HNL.out]; exact hk) hrel.out (fun i y hi hy => ?_)).symm
          have := (List.getElem?_eq_some_iff.1 hy).1
          rw [HNL.out] at this
          omega
        have HPK := Lib.hid hpk
        clear hpk
        go_wp2
        go_meet
        exact ⟨by rw [HPK.out], rfl⟩
  case rest =>
    obtain ⟨rfl, rfl⟩ := hcut
    go_upto_region 7 with fail
    have hP0 : PRel 7 ⟨#[]⟩ (w.heap.size + 1 + 1 + 1) w w1 (w1.alloc (.cells #[.int .i64 7, .int .i64 0, .string ⟨#[]⟩, .slice none 0 0, .slice none 0 0] 44 (0, 0))) [] [] none none 0 0 :=
      ⟨HB1.out.alloc HB1.out.size _, by simp; omega, fun b hb => Go.heap_alloc_old w1 _ (by omega), by rw [← hs1]; exact heap_alloc_new _ _, World.ownsRow_nil _ _ _ _, World.ownsRow_nil _ _ _ _⟩
    obtain ⟨wo, hwo⟩ : ∃ wo, wo = w1.alloc (.cells #[.int .i64 7, .int .i64 0, .string ⟨#[]⟩, .slice none 0 0, .slice none 0 0] 44 (0, 0)) := ⟨_, rfl⟩
    rw [← hwo] at hP0 ⊢
    have HP := Lib.hid hP0
    clear hP0 hwo
    clear z0 z3 z4
    have hsz := HTS.out.sizes
    have hrl : rs.length = t.kids.length := HTS.out.length
    have hpk : p ≤ rs.length := by rw [hrl, ← HML.out]; exact hpl
    have HLF := Lib.hid (show (rs.take p).flatten.length = p * 5 by rw [flatten_len _ (fun r hr => hsz r (List.mem_of_mem_take hr)), List.length_take, Nat.min_eq_left hpk])
    have HLB := Lib.hid (show (rs.drop p).flatten.length = (t.kids.length - p) * 5 by rw [flatten_len _ (fun r hr => hsz r (List.mem_of_mem_drop hr)), List.length_drop, hrl])
    have HRF := Lib.hid (fun (W : World) (hb : Below w.heap.size w W) => show Rds (fun b => F b ∧ b < w.heap.size) W A2 (rs.take p).flatten by rw [(flatten_take rs hsz p).1]; exact (R4.out.frame (Agree.of_below hb)).take _)
    have HRB := Lib.hid (fun (W : World) (hb : Below w.heap.size w W) => show Rds (fun b => F b ∧ b < w.heap.size) W (if c2 = p then A2 else A2.map (fun x => x.add (p * 5))) (rs.drop p).flatten by
      rw [(flatten_take rs hsz p).2]
      exact (R4.out.frame (Agree.of_below hb)).drop _ _ _ (fun e => List.drop_eq_nil_of_le (by rw [flatten_len rs hsz, hrl]; omega)))
    have HO1 := Lib.hid (show ∀ u ∈ (rs.take p).flatten, u.oneCell' = true from fun u hu => HFL.out u (by rw [(flatten_take rs hsz p).1] at hu; exact List.mem_of_mem_take hu))
    have HO2 := Lib.hid (show ∀ u ∈ (rs.drop p).flatten, u.oneCell' = true from fun u hu => HFL.out u (by rw [(flatten_take rs hsz p).2] at hu; exact List.mem_of_mem_drop hu))
    have hp2 : p ≤ c2 := by omega
    have HRL := Lib.hid hrl
    have hn5 : ∀ l : List ByteArray, ∀ u ∈ strs l, u.oneCell' = true := fun l u hu => by
      obtain ⟨s, _, rfl⟩ := List.mem_map.1 hu
      rfl
    have HS1 := Lib.hid (hn5 (t.names.take p))
    have HS2 := Lib.hid (hn5 (t.names.drop p))
    have HNF := Lib.hid (show (strs (t.names.take p)).length = p * 1 by have h1 := HNL.out; simp [strs]; omega)
    have HNB := Lib.hid (show (strs (t.names.drop p)).length = (nl - p) * 1 by have h1 := HNL.out; simp [strs]; omega)
    have HRNF := Lib.hid (fun (W : World) (hb : Below w.heap.size w W) => show Rds (fun b => F b ∧ b < w.heap.size) W A1 (strs (t.names.take p)) by
      have e : strs (t.names.take p) = (strs t.names).take p := by simp [strs, List.map_take]
      rw [e]
      exact (R3.out.frame (Agree.of_below hb)).take _)
    have HRNB := Lib.hid (fun (W : World) (hb : Below w.heap.size w W) => show Rds (fun b => F b ∧ b < w.heap.size) W (if c1 = p then A1 else A1.map (fun x => x.add p)) (strs (t.names.drop p)) by
      have e : strs (t.names.drop p) = (strs t.names).drop p := by simp [strs, List.map_drop]
      rw [e]
      exact (R3.out.frame (Agree.of_below hb)).drop _ _ _ (fun e => List.drop_eq_nil_of_le (by have h1 := HNL.out; simp [strs]; omega)))
    have hp1 : p ≤ c1 := by omega
    clear hn5
    clear hsz hrl hpk
    have hp3 : p ≤ t.kids.length := by have := HML.out; omega
    have HE := Lib.hid (show 0 + p = ([] ++ rs.take p).length by have h1 := HRL.out; have h2 := HML.out; simp; omega)
    skip
    go_cut [40] (fun _ wx => ∃ Ak6 ck6, PRel 7 ⟨#[]⟩ (w.heap.size + 1 + 1 + 1) w w1 wx [] ([] ++ rs.take p) none Ak6 0 ck6)
    case first =>
      have z4 := cell_of_block ((HP.out.agr w.heap.size (by omega)).trans HKV.out) 4
      have y4 := cell_of_block HP.out.ko 4
      have f4 := free_of_block HP.out.ko 4
      simp at z4 y4
      go_region_law (refine step_append_rows (w.heap.size + 1 + 1 + 1 + 1) rfl (.tmp 35) (.tmp 39) 42 44 _ 5 80 rfl Tryz.underlying42 infoL1V rfl (by decide) (.slice none (0) 0) (0) ([]) rfl HP.out.drawn.hk _ (p) _ ((rs.take p).flatten) rfl HLF.out (HRF.out _ HP.out.drawn.bel) HO1.out (by simp only [maxLen]; omega) (by omega) (by have := HP.out.size; simp; omega) ?_; intro A5 c5 w5 hc5 ho5 hg5; have HNXT := Lib.hid (HP.out.drawn.kids (by omega) HE.out ho5 hg5); have hk5 := HP.out.drawn.outk hg5; have q4 := cell_of_block hk5 4; have u4 := free_of_block hk5 4; simp at q4; clear ho5 hg5 hk5)
      all_goals
        go_wp2
        go_meet
        refine ⟨A5, c5, ?_⟩
        have h := HNXT.out
        simp only [Nat.zero_add, Nat.add_assoc] at h
        exact h
    case rest =>
      obtain ⟨Ak1, ck1, hP⟩ := hcut
      obtain ⟨rk1, hv⟩ : ∃ v, v = [] ++ rs.take p := ⟨_, rfl⟩
      rw [← hv] at hP
      have Hrk1 := Lib.hid hv
      have hlrk1 : rk1.length = p := by rw [hv]; have h1 := HRL.out; have h2 := HML.out; have h3 := HNL.out; simp <;> omega
      have HLrk1 := Lib.hid hlrk1
      have hbrk1 : rk1.length ≤ 1000001 := by omega
      have HP := Lib.hid hP
      clear hP hv hlrk1
      have x0 := cell_of_block ((HP.out.agr (w.heap.size + 1) (by omega)).trans HKX.out) 0
      have x1 := cell_of_block ((HP.out.agr (w.heap.size + 1) (by omega)).trans HKX.out) 1
      have x2 := cell_of_block ((HP.out.agr (w.heap.size + 1) (by omega)).trans HKX.out) 2
      have x5 := cell_of_block ((HP.out.agr (w.heap.size + 1) (by omega)).trans HKX.out) 3
      have x6 := cell_of_block ((HP.out.agr (w.heap.size + 1) (by omega)).trans HKX.out) 4
      have y4 := cell_of_block HP.out.ko 4
      have f4 := free_of_block HP.out.ko 4
      simp at x0 x1 x2 x5 x6 y4
      go_upto_region 9 with (at_builtin; refine append_one (w.heap.size + 1 + 1 + 1 + 1) rfl (.tmp 43) (.tmp 45) 42 44 _ 5 80 rfl Tryz.underlying42 infoL1V rfl (by decide) (by decide) (.slice Ak1 rk1.length ck1) rk1.length rk1.flatten [.int .i64 x.kind, .int .i64 x.num, .string x.text, .slice B1 x.names.length d1, .slice B2 x.kids.length d2] rfl rfl rfl (by simp [Value.oneCell']) rfl HP.out.hk HP.out.size (by omega) ?_; intro A5 c5 w5 hc5 ho5 hg5 hat5; have HNXT := Lib.hid (HP.out.kids (rs := [[.int .i64 x.kind, .int .i64 x.num, .string x.text, .slice B1 x.names.length d1, .slice B2 x.kids.length d2]]) (by omega) (m := rk1.length + 1) (by simp) (by simpa using ho5) hg5); have hk5 := HP.out.outk hg5; have q4 := cell_of_block hk5 4; have u4 := free_of_block hk5 4; simp at q4; clear ho5 hg5 hk5 hat5)
      generalize hwn : World.setCell _ _ _ = wn at HNXT ⊢
      clear hwn x0 x1 x2 x5 x6 y4 f4 q4 u4 HP
      have hP := HNXT.out
      clear HNXT
      have hcut : ∃ Ak ck, PRel 7 ⟨#[]⟩ (w.heap.size + 1 + 1 + 1) w w1 wn [] (rk1 ++ [[.int .i64 x.kind, .int .i64 x.num, .string x.text, .slice B1 x.names.length d1, .slice B2 x.kids.length d2]]) none Ak 0 ck := ⟨_, _, hP⟩
      clear hP
      obtain ⟨Ak2, ck2, hP⟩ := hcut
      obtain ⟨rk2, hv⟩ : ∃ v, v = rk1 ++ [[.int .i64 x.kind, .int .i64 x.num, .string x.text, .slice B1 x.names.length d1, .slice B2 x.kids.length d2]] := ⟨_, rfl⟩
      rw [← hv] at hP
      have Hrk2 := Lib.hid hv
      have hlrk2 : rk2.length = p + 1 := by rw [hv]; have h1 := HRL.out; have h2 := HML.out; have h3 := HNL.out; have h4 := HLrk1.out; simp <;> omega
      have HLrk2 := Lib.hid hlrk2
      have hbrk2 : rk2.length ≤ 1000001 := by omega
      have HP := Lib.hid hP
      clear hP hv hlrk2
      have HE := Lib.hid (show rk2.length + (t.kids.length - p) = (rk2 ++ rs.drop p).length by have h1 := HRL.out; simp; omega)
      go_upto_region 9 with fail
      go_cut [54] (fun _ wx => ∃ Ak6 ck6, PRel 7 ⟨#[]⟩ (w.heap.size + 1 + 1 + 1) w w1 wx [] (rk2 ++ rs.drop p) none Ak6 0 ck6)
      case first =>
        have z4 := cell_of_block ((HP.out.agr w.heap.size (by omega)).trans HKV.out) 4
        have y4 := cell_of_block HP.out.ko 4
        have f4 := free_of_block HP.out.ko 4
        simp at z4 y4
        go_region_law (refine step_append_rows (w.heap.size + 1 + 1 + 1 + 1) rfl (.tmp 49) (.tmp 53) 42 44 _ 5 80 rfl Tryz.underlying42 infoL1V rfl (by decide) (.slice Ak2 (rk2.length) ck2) (rk2.length) (rk2.flatten) rfl HP.out.drawn.hk _ (t.kids.length - p) _ ((rs.drop p).flatten) rfl HLB.out (HRB.out _ HP.out.drawn.bel) HO2.out (by simp only [maxLen]; omega) (by omega) (by have := HP.out.size; simp; omega) ?_; intro A5 c5 w5 hc5 ho5 hg5; have HNXT := Lib.hid (HP.out.drawn.kids (by omega) HE.out ho5 hg5); have hk5 := HP.out.drawn.outk hg5; have q4 := cell_of_block hk5 4; have u4 := free_of_block hk5 4; simp at q4; clear ho5 hg5 hk5)
        all_goals
          generalize (if c2 = p then A2 else Option.map (fun x => x.add (p * 5)) A2) = Asl
          go_wp2
          go_meet
          refine ⟨A5, c5, ?_⟩
          have h := HNXT.out
          simp only [Nat.add_assoc] at h
          exact h
      case rest =>
        obtain ⟨Ak3, ck3, hP⟩ := hcut
        obtain ⟨rk3, hv⟩ : ∃ v, v = rk2 ++ rs.drop p := ⟨_, rfl⟩
        rw [← hv] at hP
        have Hrk3 := Lib.hid hv
        have hlrk3 : rk3.length = t.kids.length + 1 := by rw [hv]; have h1 := HRL.out; have h2 := HML.out; have h3 := HNL.out; have h4 := HLrk2.out; simp <;> omega
        have HLrk3 := Lib.hid hlrk3
        have hbrk3 : rk3.length ≤ 1000001 := by omega
        have HP := Lib.hid hP
        clear hP hv hlrk3
        have z0 := cell_of_block ((HP.out.agr w.heap.size (by omega)).trans HKV.out) 0
        simp at z0
        go_upto_region 11 with fail
        clear z0
        have HE := Lib.hid (show 0 + p = ([] ++ t.names.take p).length by have h1 := HNL.out; simp; omega)
        go_upto_region 11 with fail
        go_cut [65] (fun _ wx => ∃ An6 cn6, PRel 7 ⟨#[]⟩ (w.heap.size + 1 + 1 + 1) w w1 wx ([] ++ t.names.take p) rk3 An6 Ak3 cn6 ck3)
        case first =>
          have z4 := cell_of_block ((HP.out.agr w.heap.size (by omega)).trans HKV.out) 3
          have y4 := cell_of_block HP.out.ko 3
          have f4 := free_of_block HP.out.ko 3
          simp at z4 y4
          go_region_law (refine step_append_rows (w.heap.size + 1 + 1 + 1 + 1) rfl (.tmp 60) (.tmp 64) 41 9 _ 1 16 rfl Tryz.underlying41 infoStr rfl (by decide) (.slice none (0) 0) (0) ([]) rfl HP.out.drawn.hn _ (p) _ (strs (t.names.take p)) rfl HNF.out (HRNF.out _ HP.out.drawn.bel) HS1.out (by simp only [maxLen]; omega) (by omega) (by have := HP.out.size; simp; omega) ?_; intro A5 c5 w5 hc5 ho5 hg5; have HNXT := Lib.hid (HP.out.drawn.names (by omega) HE.out ho5 hg5); have hk5 := HP.out.drawn.outn hg5; have q4 := cell_of_block hk5 3; have u4 := free_of_block hk5 3; simp at q4; clear ho5 hg5 hk5)
          all_goals
            go_wp2
            go_meet
            refine ⟨A5, c5, ?_⟩
            have h := HNXT.out
            simp only [Nat.zero_add, Nat.add_assoc] at h
            exact h
        case rest =>
          obtain ⟨An1, cn1, hP⟩ := hcut
          obtain ⟨ms1, hv⟩ : ∃ v, v = [] ++ t.names.take p := ⟨_, rfl⟩
          rw [← hv] at hP
          have Hms1 := Lib.hid hv
          have hlms1 : ms1.length = p := by rw [hv]; have h1 := HRL.out; have h2 := HML.out; have h3 := HNL.out; simp <;> omega
          have HLms1 := Lib.hid hlms1
          have hbms1 : ms1.length ≤ 1000001 := by omega
          have HP := Lib.hid hP
          clear hP hv hlms1
          have y4 := cell_of_block HP.out.ko 3
          have f4 := free_of_block HP.out.ko 3
          simp at y4
          go_upto_region 13 with (at_builtin; refine append_one (w.heap.size + 1 + 1 + 1 + 1) rfl (.tmp 68) (.tmp 70) 41 9 _ 1 16 rfl Tryz.underlying41 infoStr rfl (by decide) (by decide) (.slice An1 ms1.length cn1) ms1.length (strs ms1) [.string nm] rfl rfl rfl (by simp [Value.oneCell']) rfl HP.out.hn HP.out.size (by omega) ?_; intro A5 c5 w5 hc5 ho5 hg5 hat5; have HNXT := Lib.hid (HP.out.names (ns := [nm]) (by omega) (m := ms1.length + 1) (by simp) ho5 hg5); have hk5 := HP.out.outn hg5; have q4 := cell_of_block hk5 3; have u4 := free_of_block hk5 3; simp at q4; clear ho5 hg5 hk5 hat5)
          generalize hwn : World.setCell _ _ _ = wn at HNXT ⊢
          clear hwn y4 f4 q4 u4 HP
          have hP := HNXT.out
          clear HNXT
          have hcut : ∃ An cn, PRel 7 ⟨#[]⟩ (w.heap.size + 1 + 1 + 1) w w1 wn (ms1 ++ [nm]) rk3 An Ak3 cn ck3 := ⟨_, _, hP⟩
          clear hP
          obtain ⟨An2, cn2, hP⟩ := hcut
          obtain ⟨ms2, hv⟩ : ∃ v, v = ms1 ++ [nm] := ⟨_, rfl⟩
          rw [← hv] at hP
          have Hms2 := Lib.hid hv
          have hlms2 : ms2.length = p + 1 := by rw [hv]; have h1 := HRL.out; have h2 := HML.out; have h3 := HNL.out; have h4 := HLms1.out; simp <;> omega
          have HLms2 := Lib.hid hlms2
          have hbms2 : ms2.length ≤ 1000001 := by omega
          have HP := Lib.hid hP
          clear hP hv hlms2
          have HE := Lib.hid (show ms2.length + (nl - p) = (ms2 ++ t.names.drop p).length by have h1 := HNL.out; simp; omega)
          go_upto_region 13 with fail
          go_cut [79] (fun _ wx => ∃ An6 cn6, PRel 7 ⟨#[]⟩ (w.heap.size + 1 + 1 + 1) w w1 wx (ms2 ++ t.names.drop p) rk3 An6 Ak3 cn6 ck3)
          case first =>
            have z4 := cell_of_block ((HP.out.agr w.heap.size (by omega)).trans HKV.out) 3
            have y4 := cell_of_block HP.out.ko 3
            have f4 := free_of_block HP.out.ko 3
            simp at z4 y4
            go_region_law (refine step_append_rows (w.heap.size + 1 + 1 + 1 + 1) rfl (.tmp 74) (.tmp 78) 41 9 _ 1 16 rfl Tryz.underlying41 infoStr rfl (by decide) (.slice An2 (ms2.length) cn2) (ms2.length) (strs ms2) rfl HP.out.drawn.hn _ (nl - p) _ (strs (t.names.drop p)) rfl HNB.out (HRNB.out _ HP.out.drawn.bel) HS2.out (by simp only [maxLen]; omega) (by omega) (by have := HP.out.size; simp; omega) ?_; intro A5 c5 w5 hc5 ho5 hg5; have HNXT := Lib.hid (HP.out.drawn.names (by omega) HE.out ho5 hg5); have hk5 := HP.out.drawn.outn hg5; have q4 := cell_of_block hk5 3; have u4 := free_of_block hk5 3; simp at q4; clear ho5 hg5 hk5)
            all_goals
              generalize (if c1 = p then A1 else Option.map (fun x => x.add p) A1) = Asl
              go_wp2
              go_meet
              refine ⟨A5, c5, ?_⟩
              have h := HNXT.out
              simp only [Nat.add_assoc] at h
              exact h
          case rest =>
            obtain ⟨An3, cn3, hP⟩ := hcut
            obtain ⟨ms3, hv⟩ : ∃ v, v = ms2 ++ t.names.drop p := ⟨_, rfl⟩
            rw [← hv] at hP
            have Hms3 := Lib.hid hv
            have hlms3 : ms3.length = nl + 1 := by rw [hv]; have h1 := HRL.out; have h2 := HML.out; have h3 := HNL.out; have h4 := HLms2.out; simp <;> omega
            have HLms3 := Lib.hid hlms3
            have hbms3 : ms3.length ≤ 1000001 := by omega
            have HP := Lib.hid hP
            clear hP hv hlms3
            have k1 := HP.out.ko
            have k2 := (HP.out.agr (w.heap.size + 1 + 1) (by omega)).trans HKR.out
            have o0 := cell_of_block k1 0
            have o1 := cell_of_block k1 1
            have o2 := cell_of_block k1 2
            have o3 := cell_of_block k1 3
            have o4 := cell_of_block k1 4
            have r0 := cell_of_block k2 0
            have r1 := cell_of_block k2 1
            have r2 := cell_of_block k2 2
            have r3 := cell_of_block k2 3
            have r4 := cell_of_block k2 4
            have f0 := free_of_block k2 0
            have f1 := free_of_block k2 1
            have f2 := free_of_block k2 2
            have f3 := free_of_block k2 3
            have f4 := free_of_block k2 4
            simp at o0 o1 o2 o3 o4 r0 r1 r2 r3 r4
            have HK2 := Lib.hid k2
            clear k1 k2
            have hms : ms3 = ins p nm t.names := by rw [Hms3.out, Hms2.out, Hms1.out]; simp [ins]
            have hrk : rk3 = ins p [.int .i64 x.kind, .int .i64 x.num, .string x.text, .slice B1 x.names.length d1, .slice B2 x.kids.length d2] rs := by rw [Hrk3.out, Hrk2.out, Hrk1.out]; simp [ins]
            have HFIN := Lib.hid (fun v0 v1 v2 v3 v4 => sput_fin (nm := nm) (v0 := v0) (v1 := v1) (v2 := v2) (v3 := v3) (v4 := v4) HP.out HP'.out HTS.out HX.out hms hrk (by omega))
            clear hms hrk
            go_wp2
            refine bodyPost_ret (results_cell_row rfl _ _ (w.heap.size + 1 + 1) _ _ _ _ rfl (block_setCell (block_setCell (block_setCell (block_setCell (block_setCell HK2.out _ _) _ _) _ _) _ _) _ _) Tryz.underlying44 rfl ((info_size infoL1V).trans (by simp))) rfl ?_
            exact HFIN.out _ _ _ _ _
end Go.Proofs.YteeppdobeeodiaaGreatDoor
