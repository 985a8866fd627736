/- The reference's l1Tree: a node with all its own as a tree. The reference's l3At at a map: the number of the part that a name leads to. The reference's l3With: another part in a place. -/
import Derived.Test.YteeppdobeeodiaaGreatDoorSp1
import Derived.Test.YteeppdobeeodiaaGreatDoorJn9
import Derived.Test.YteeppdobeeodiaaGreatDoorJn3
import Derived.Test.YteeppdobeeodiaaGreatDoorGoodV
import Derived.Deep.DeepCutAuto
import Derived.Deep.CutBlock
import Derived.Deep.RegionLaw
namespace Go.Proofs.YteeppdobeeodiaaGreatDoor
open Go.RowKit
theorem infoL1V : (Tryz.prog.info? 44).map (fun i => (i.zero, i.size, i.bytes)) = some (some (.agg #[.int .i64 0, .int .i64 0, .string ⟨#[]⟩, .slice none 0 0, .slice none 0 0]), 5, 80) := by kernel_rfl
/-- append of one element, as one step; where the row lies then, too. -/
theorem step_append_at {P : Program} {ops : Array Oper} {o : Oper} {a : Act} {W : World} {K : Act → World → Prop} {Q : Exit → Act → World → Prop} {E : Prop} (base : Nat) (hgd : o.guard = none) (s x : Operand) (t e : TypeId) (z : Value) (size bytes : Nat)
    (ho : o.op = .call { callee := .builtin .append, args := #[s, x], argTypes := #[t, t] }) (ht : P.underlying t = some (.slice e)) (hinfo : (P.info? e).map (fun i => (i.zero, i.size, i.bytes)) = some (some z, size, bytes)) (hz : z.cells.size = size) (hs0 : 0 < size)
    (v : Value) (n : Nat) (xs cs : List Value) (hs : a.eval s = v) {g : Nat} (hx : a.eval x = .slice (some ⟨g, 0, none⟩) 1 1) {T : TypeId} (hg : W.heap[g]? = some (.cells cs.toArray T (0, 0))) (h1 : ∀ u ∈ cs, u.oneCell' = true) (hcs : cs.length = size)
    (HO : W.ownsRow base e size v n xs) (hbase : base ≤ W.heap.size) (hm : n + 1 ≤ maxLen) (hl : (n + 1) * bytes ≤ 140737488355328)
    (h : ∀ A1 c1 w1, n + 1 ≤ c1 → w1.ownsRow base e size (.slice A1 (n + 1) c1) (n + 1) (xs ++ cs) → W.grownBy w1 v.ownBlock → ((Value.slice A1 (n + 1) c1).ownBlock = v.ownBlock ∨ (Value.slice A1 (n + 1) c1).ownBlock = some W.heap.size) → K (a.put o.dst (.slice A1 (n + 1) c1)) w1) :
    if Region.wanted o (yielded ops a.tmps) = true then Oper.wp P o a W K Q else E := by
  have hw : Region.wanted o (yielded ops a.tmps) = true := by simp [Region.wanted, hgd]
  rw [if_pos hw]
  obtain ⟨v', w', hrun, h2, h3, h4⟩ := append_run (P := P) base t o.type e z size bytes ht hinfo hz hs0 v n xs HO (some ⟨g, 0, none⟩) 1 1 cs (by rw [hcs, Nat.one_mul]) (rds_blk hg) h1 hm hl hbase
  unfold Oper.wp execOp
  simp only [ho, resolve, invoke, builtin, Sem.run_bind, Sem.run_pure, Result.andThen_ok, List.map_toArray, List.map_cons, List.map_nil, hs, hx, hrun]
  obtain ⟨A1, c1, rfl, hc1⟩ := own_slice h2
  exact h A1 c1 w' hc1 h2 h3 h4
/-- The names that are put when i parts are. -/
def nmsAt (t : Tree) (i : Nat) : List ByteArray := if t.kind = 7 then t.names.take i else []
/-- What the loop of l1Tree knows of its memory. -/
structure TRel (t : Tree) (w w2 wx : World) (m i : Nat) (An Ak : Option Addr) (cn ck : Nat) (rs : List (List Value)) : Prop where
  bel : Below w.heap.size w wx
  size : w2.heap.size ≤ wx.heap.size
  agr : ∀ b, b < w2.heap.size → b ≠ w.heap.size + 3 → wx.heap[b]? = w2.heap[b]?
  ko : wx.heap[w.heap.size + 3]? = some (.cells #[.int .i64 t.kind, .int .i64 t.num, .string t.text, .slice An (nmsAt t m).length cn, .slice Ak i ck] 44 (0, 0))
  hn : wx.ownsRow w2.heap.size 9 1 (.slice An (nmsAt t m).length cn) (nmsAt t m).length (strs (nmsAt t m))
  hk : wx.ownsRow w2.heap.size 44 5 (.slice Ak i ck) i rs.flatten
  ts : LtsAt (fun b => w2.heap.size ≤ b ∧ (Value.slice An (nmsAt t m).length cn).ownBlock ≠ some b ∧ (Value.slice Ak i ck).ownBlock ≠ some b) wx rs (t.kids.take i)
theorem TRel.kid {t k : Tree} {w w2 wx w4 w5 : World} {m i : Nat} {An Ak A5 : Option Addr} {cn ck c5 : Nat} {rs : List (List Value)} {csk : List Value} {o : Obj} (h : TRel t w w2 wx m i An Ak cn ck rs) (hs : w.heap.size + 3 < w2.heap.size) (hki : t.kids[i]? = some k)
    (hb4 : Below wx.heap.size wx w4) (hlt : LtAt (fun b => wx.heap.size ≤ b) w4 csk k) (ho5 : w5.ownsRow w2.heap.size 44 5 (.slice A5 (i + 1) c5) (i + 1) (rs.flatten ++ csk)) (hg5 : (w4.alloc o).grownBy w5 (Value.slice Ak i ck).ownBlock)
    (hat : (Value.slice A5 (i + 1) c5).ownBlock = (Value.slice Ak i ck).ownBlock ∨ (Value.slice A5 (i + 1) c5).ownBlock = some (w4.alloc o).heap.size) :
    TRel t w w2 (w5.setCell ⟨w.heap.size + 3, 4, none⟩ (.slice A5 (i + 1) c5)) m (i + 1) An A5 cn c5 (rs ++ [csk]) := by
  have hsx := h.size
  have h4s := hb4.size
  have hsa : (w4.alloc o).heap.size = w4.heap.size + 1 := by simp
  have hkl := own_base h.hk
  have hnl := own_base h.hn
  have h5s := hg5.size
  have hsw := h.bel.size
  have hset : ∀ b, b ≠ w.heap.size + 3 → (w5.setCell ⟨w.heap.size + 3, 4, none⟩ (.slice A5 (i + 1) c5)).heap[b]? = w5.heap[b]? := fun b hb => Below.heap_setCell _ _ _ _ hb
  have hss : (w5.setCell ⟨w.heap.size + 3, 4, none⟩ (.slice A5 (i + 1) c5)).heap.size = w5.heap.size := by simp [World.setCell]
  have hstep : ∀ b, b < wx.heap.size → (Value.slice Ak i ck).ownBlock ≠ some b → b ≠ w.heap.size + 3 → (w5.setCell ⟨w.heap.size + 3, 4, none⟩ (.slice A5 (i + 1) c5)).heap[b]? = wx.heap[b]? := fun b h1 h2 h3 => by
    rw [hset b h3, hg5.block b (by omega) (fun e => h2 e.symm), Go.heap_alloc_old w4 o (by omega), hb4.block b h1]
  have hno : ∀ q, (Value.slice Ak i ck).ownBlock = some q → w.heap.size + 3 ≠ q := fun q hq => by have := (hkl q hq).1; omega
  have hnn := own_not_at h.hn h.ko (by decide)
  have hnk := own_ne h.hn h.hk (by decide)
  have hlo := lt_of_block h.ko
  have hko5 : w5.heap[w.heap.size + 3]? = some (.cells #[.int .i64 t.kind, .int .i64 t.num, .string t.text, .slice An (nmsAt t m).length cn, .slice Ak i ck] 44 (0, 0)) := by
    rw [hg5.block _ (by omega) (fun e => hno _ e.symm rfl), Go.heap_alloc_old w4 o (by omega), hb4.block _ hlo]
    exact h.ko
  have hbx : Below w.heap.size w w5 := ((below_then h.bel hsw hb4).alloc (by omega) o).grown hg5 (by omega) (fun q hq => by have := (hkl q hq).1; omega)
  refine ⟨hbx.setCell (p := ⟨w.heap.size + 3, 4, none⟩) (by show w.heap.size ≤ w.heap.size + 3; omega) _, by omega, fun b h1 h2 => ?_, ?_, ?_, ?_, ?_⟩
  · rw [hstep b (by omega) (fun e => by have := (hkl b e).1; omega) h2]
    exact h.agr b h1 h2
  · exact block_setCell hko5 4 _
  · refine own_agree (F := fun b => b < wx.heap.size ∧ (Value.slice Ak i ck).ownBlock ≠ some b ∧ b ≠ w.heap.size + 3) h.hn ⟨by omega, fun b hb _ => hstep b hb.1 hb.2.1 hb.2.2⟩ (fun q hq => ⟨(hnl q hq).2, hnk q hq, fun e => hnn q hq e.symm⟩)
  · rw [List.flatten_append, List.flatten_cons, List.flatten_nil, List.append_nil]
    exact own_agree (F := fun b => b ≠ w.heap.size + 3) ho5 ⟨by omega, fun b hb _ => hset b hb⟩ (fun q hq e => by have := (own_base ho5 q hq).1; omega)
  · have e1 : t.kids.take (i + 1) = t.kids.take i ++ [k] := by rw [List.take_add_one, hki]; rfl
    rw [e1]
    refine LtsAt.app ?_ (LtsAt.one ?_)
    · refine h.ts.frame (w1 := w5.setCell ⟨w.heap.size + 3, 4, none⟩ (.slice A5 (i + 1) c5)) ⟨by omega, fun b hb hl => hstep b hl hb.2.2 (by have := hb.1; omega)⟩ (fun b hb hl => ⟨hb.1, hb.2.1, fun e => ?_⟩)
      rcases hat with e' | e'
      · rw [e'] at e
        exact hb.2.2 e
      · rw [e'] at e
        injection e with e
        omega
    · refine hlt.frame (w1 := w5.setCell ⟨w.heap.size + 3, 4, none⟩ (.slice A5 (i + 1) c5)) ⟨by omega, fun b hb hl => ?_⟩ (fun b hb hl => ⟨by have hb' : wx.heap.size ≤ b := hb; omega, fun e => ?_, fun e => ?_⟩)
      · have hb' : wx.heap.size ≤ b := hb
        rw [hset b (by omega), hg5.block b (by omega) (fun e => by have := (hkl b e.symm).2; omega), Go.heap_alloc_old w4 o hl]
      · have hb' : wx.heap.size ≤ b := hb
        have := (hnl b e).2
        omega
      · have hb' : wx.heap.size ≤ b := hb
        rcases hat with e' | e'
        · rw [e'] at e
          have := (hkl b e).2
          omega
        · rw [e'] at e
          injection e with e
          omega
theorem TRel.drawn {t : Tree} {w w2 wx : World} {m i : Nat} {An Ak : Option Addr} {cn ck : Nat} {rs : List (List Value)} (h : TRel t w w2 wx m i An Ak cn ck rs) : TRel t w w2 wx.drew m i An Ak cn ck rs :=
  ⟨h.bel.drew, h.size, h.agr, h.ko, h.hn, h.hk, h.ts.frame (w := wx) (w1 := wx.drew) ⟨Nat.le_refl _, fun _ _ _ => rfl⟩ (fun _ h _ => h)⟩
theorem TRel.out5 {t : Tree} {w w2 wx w4 w5 : World} {m i : Nat} {An Ak : Option Addr} {cn ck : Nat} {rs : List (List Value)} {o : Obj} (h : TRel t w w2 wx m i An Ak cn ck rs) (hs : w.heap.size + 3 < w2.heap.size)
    (hb4 : Below wx.heap.size wx w4) (hg5 : (w4.alloc o).grownBy w5 (Value.slice Ak i ck).ownBlock) : w5.heap[w.heap.size + 3]? = some (.cells #[.int .i64 t.kind, .int .i64 t.num, .string t.text, .slice An (nmsAt t m).length cn, .slice Ak i ck] 44 (0, 0)) := by
  have hlo := lt_of_block h.ko
  have h4s := hb4.size
  have hsa : (w4.alloc o).heap.size = w4.heap.size + 1 := by simp
  rw [hg5.block _ (by omega) (fun e => by have := (own_base h.hk _ e.symm).1; omega), Go.heap_alloc_old w4 o (by omega), hb4.block _ hlo]
  exact h.ko
theorem TRel.name {t : Tree} {w w2 wx w5 : World} {m i : Nat} {An Ak A5 : Option Addr} {cn ck c5 : Nat} {rs : List (List Value)} {s : ByteArray} {o : Obj} (h : TRel t w w2 wx m i An Ak cn ck rs) (hs : w.heap.size + 3 < w2.heap.size) (hnm : nmsAt t (m + 1) = nmsAt t m ++ [s])
    (ho5 : w5.ownsRow w2.heap.size 9 1 (.slice A5 ((nmsAt t m).length + 1) c5) ((nmsAt t m).length + 1) (strs (nmsAt t m) ++ [.string s])) (hg5 : (wx.alloc o).grownBy w5 (Value.slice An (nmsAt t m).length cn).ownBlock)
    (hat : (Value.slice A5 ((nmsAt t m).length + 1) c5).ownBlock = (Value.slice An (nmsAt t m).length cn).ownBlock ∨ ∃ b, (Value.slice A5 ((nmsAt t m).length + 1) c5).ownBlock = some b ∧ wx.heap.size ≤ b) :
    TRel t w w2 (w5.setCell ⟨w.heap.size + 3, 3, none⟩ (.slice A5 ((nmsAt t m).length + 1) c5)) (m + 1) i A5 Ak c5 ck rs := by
  have hl1 : (nmsAt t (m + 1)).length = (nmsAt t m).length + 1 := by rw [hnm]; simp
  have hst : strs (nmsAt t (m + 1)) = strs (nmsAt t m) ++ [.string s] := by rw [hnm]; simp [strs]
  have hsx := h.size
  have hsa : (wx.alloc o).heap.size = wx.heap.size + 1 := by simp
  have hkl := own_base h.hk
  have hnl := own_base h.hn
  have h5s := hg5.size
  have hsw := h.bel.size
  have hset : ∀ b, b ≠ w.heap.size + 3 → (w5.setCell ⟨w.heap.size + 3, 3, none⟩ (.slice A5 ((nmsAt t m).length + 1) c5)).heap[b]? = w5.heap[b]? := fun b hb => Below.heap_setCell _ _ _ _ hb
  have hss : (w5.setCell ⟨w.heap.size + 3, 3, none⟩ (.slice A5 ((nmsAt t m).length + 1) c5)).heap.size = w5.heap.size := by simp [World.setCell]
  have hstep : ∀ b, b < wx.heap.size → (Value.slice An (nmsAt t m).length cn).ownBlock ≠ some b → b ≠ w.heap.size + 3 → (w5.setCell ⟨w.heap.size + 3, 3, none⟩ (.slice A5 ((nmsAt t m).length + 1) c5)).heap[b]? = wx.heap[b]? := fun b h1 h2 h3 => by
    rw [hset b h3, hg5.block b (by omega) (fun e => h2 e.symm), Go.heap_alloc_old wx o h1]
  have hno : ∀ q, (Value.slice Ak i ck).ownBlock = some q → w.heap.size + 3 ≠ q := fun q hq => by have := (hkl q hq).1; omega
  have hnn := own_not_at h.hn h.ko (by decide)
  have hnk := own_ne h.hk h.hn (by decide)
  have hlo := lt_of_block h.ko
  have hko5 : w5.heap[w.heap.size + 3]? = some (.cells #[.int .i64 t.kind, .int .i64 t.num, .string t.text, .slice An (nmsAt t m).length cn, .slice Ak i ck] 44 (0, 0)) := by
    rw [hg5.block _ (by omega) (fun e => hnn _ e.symm rfl), Go.heap_alloc_old wx o hlo]
    exact h.ko
  have hbx : Below w.heap.size w w5 := (h.bel.alloc hsw o).grown hg5 (by omega) (fun q hq => by have := (hnl q hq).1; omega)
  refine ⟨hbx.setCell (p := ⟨w.heap.size + 3, 3, none⟩) (by show w.heap.size ≤ w.heap.size + 3; omega) _, by omega, fun b h1 h2 => ?_, ?_, ?_, ?_, ?_⟩
  · rw [hstep b (by omega) (fun e => by have := (hnl b e).1; omega) h2]
    exact h.agr b h1 h2
  · rw [hl1]
    exact block_setCell hko5 3 _
  · rw [hl1, hst]
    have h5o := own_not_at ho5 hko5 (by decide)
    exact own_agree (F := fun b => b ≠ w.heap.size + 3) ho5 ⟨by omega, fun b hb _ => hset b hb⟩ (fun q hq e => h5o q hq e.symm)
  · refine own_agree (F := fun b => b < wx.heap.size ∧ (Value.slice An (nmsAt t m).length cn).ownBlock ≠ some b ∧ b ≠ w.heap.size + 3) h.hk ⟨by omega, fun b hb _ => hstep b hb.1 hb.2.1 hb.2.2⟩ (fun q hq => ⟨(hkl q hq).2, hnk q hq, fun e => hno q hq e.symm⟩)
  · rw [hl1]
    refine h.ts.frame (w1 := w5.setCell ⟨w.heap.size + 3, 3, none⟩ (.slice A5 ((nmsAt t m).length + 1) c5)) ⟨by omega, fun b hb hl => hstep b hl hb.2.1 (by have := hb.1; omega)⟩ (fun b hb hl => ⟨hb.1, fun e => ?_, hb.2.2⟩)
    rcases hat with e' | ⟨q, e', hq⟩
    · rw [e'] at e
      exact hb.2.1 e
    · rw [e'] at e
      injection e with e
      omega
def LtPost (t : Tree) (w : World) (e : Ending) (w' : World) : Prop := ∃ cs, e = .returned (.agg cs.toArray) ∧ Below w.heap.size w w' ∧ LtAt (fun b => w.heap.size ≤ b) w' cs t
theorem LtPost.of_rel {t : Tree} {w w2 wx : World} {An Ak : Option Addr} {cn ck : Nat} {rs : List (List Value)} (h : TRel t w w2 wx t.kids.length t.kids.length An Ak cn ck rs) (hs : w.heap.size + 3 < w2.heap.size) (hnm : nmsAt t t.kids.length = t.names) {v0 v1 v2 v3 v4 : Value} {n : Nat} (hn : n = t.names.length) :
    LtPost t w (.returned (.agg #[.int .i64 t.kind, .int .i64 t.num, .string t.text, .slice An n cn, .slice Ak t.kids.length ck])) (((((wx.setCell ⟨w.heap.size + 1, 0, none⟩ v0).setCell ⟨w.heap.size + 1, 1, none⟩ v1).setCell ⟨w.heap.size + 1, 2, none⟩ v2).setCell ⟨w.heap.size + 1, 3, none⟩ v3).setCell ⟨w.heap.size + 1, 4, none⟩ v4) := by
  have hb := h.bel
  have hsx := h.size
  have hok := h.hn
  have hkk := h.hk
  have hts := h.ts
  rw [hnm] at hok hts
  subst hn
  have hle : w.heap.size ≤ (⟨w.heap.size + 1, 0, none⟩ : Addr).block := by show w.heap.size ≤ w.heap.size + 1; omega
  have hag : Agree (fun b => w2.heap.size ≤ b) wx (((((wx.setCell ⟨w.heap.size + 1, 0, none⟩ v0).setCell ⟨w.heap.size + 1, 1, none⟩ v1).setCell ⟨w.heap.size + 1, 2, none⟩ v2).setCell ⟨w.heap.size + 1, 3, none⟩ v3).setCell ⟨w.heap.size + 1, 4, none⟩ v4) := by
    refine ⟨by simp [World.setCell], fun b hb' hl => ?_⟩
    have hne : b ≠ w.heap.size + 1 := by have : w2.heap.size ≤ b := hb'; omega
    rw [Below.heap_setCell _ _ _ _ hne, Below.heap_setCell _ _ _ _ hne, Below.heap_setCell _ _ _ _ hne, Below.heap_setCell _ _ _ _ hne, Below.heap_setCell _ _ _ _ hne]
  obtain ⟨_, _, e1, hc1⟩ := own_slice hok
  obtain ⟨_, _, e2, hc2⟩ := own_slice hkk
  injection e1 with _ _ e1
  injection e2 with _ _ e2
  subst e1 e2
  refine ⟨_, rfl, ?_, ?_⟩
  · exact ((((hb.setCell (p := ⟨w.heap.size + 1, 0, none⟩) hle _).setCell (p := ⟨w.heap.size + 1, 1, none⟩) hle _).setCell (p := ⟨w.heap.size + 1, 2, none⟩) hle _).setCell (p := ⟨w.heap.size + 1, 3, none⟩) hle _).setCell (p := ⟨w.heap.size + 1, 4, none⟩) hle _
  · obtain ⟨kk, nn, tt, ns, ks⟩ := t
    simp only [LtAt]
    simp only [List.take_length] at hts
    have hmono : ∀ b, w2.heap.size ≤ b → w.heap.size ≤ b := fun b h => by omega
    refine ⟨An, cn, Ak, ck, rs, by simp, hc1, hc2, ((Rds.of_own hok).frame hag).mono (fun b h _ => hmono b h), ((Rds.of_own hkk).frame hag).mono (fun b h _ => hmono b h), ?_⟩
    refine hts.frame (w := wx) ⟨hag.size, fun b hb => hag.block b hb.1⟩ (fun b hb _ => hmono b hb.1)
def TrSpec (t : Tree) : Prop := t.ok = true → ∀ (l : List Nd) (_ : l.length ≤ 1000000) (a : Nat) (_ : Sub l a t) (F : Nat → Prop) (A : Option Addr) (c : Nat) (w : World), Rds F w A (ndCells l) →
  Calls Tryz.prog 25 #[.agg #[.slice A l.length c], .int .i64 (a : Int)] w (LtPost t w)
set_option maxRecDepth 100000 in
set_option maxHeartbeats 4000000 in
theorem sTree_any : ∀ t, TrSpec t := Tree.ind fun t ih hok l hl a hsub F A c w hr => by
  obtain ⟨x, hx, hxk, hxn, hxt⟩ := hsub.node
  have hal : a < l.length := (List.getElem?_eq_some_iff.1 hx).1
  obtain ⟨b, o, x', rfl, hF, hbl, hx', g0, g1, g2, g3, g4⟩ := nd_at hr a hal
  obtain rfl : x = x' := by rw [hx] at hx'; injection hx'
  have hok' := hok
  obtain ⟨w1, hw⟩ : ∃ w1, w1 = (((w.alloc (.cells #[.slice (some ⟨b, o, none⟩) l.length c] 25 (0, 0))).alloc (.cells #[.int .i64 0, .int .i64 0, .string ⟨#[]⟩, .slice none 0 0, .slice none 0 0] 44 (0, 0))).alloc (.cells #[.int .i64 t.kind, .int .i64 t.num, .string t.text, .string x.name, .int .i64 x.up] 50 (0, 0))).alloc (.cells #[.int .i64 t.kind, .int .i64 t.num, .string t.text, .slice none 0 0, .slice none 0 0] 44 (0, 0)) := ⟨_, rfl⟩
  have hb1 : Below w.heap.size w w1 := by rw [hw]; exact ((((Below.refl _ _).alloc (Nat.le_refl _) _).alloc (by simp) _).alloc (by simp <;> omega) _).alloc (by simp <;> omega) _
  have kv : w1.heap[w.heap.size]? = some (.cells #[.slice (some ⟨b, o, none⟩) l.length c] 25 (0, 0)) := by rw [hw]; (repeat (first | with_reducible assumption | (with_reducible refine blk_new _ ?_; (first | rfl | (simp; done) | (simp; omega))) | with_reducible apply block_setCell | (with_reducible refine blk_skip _ _ ?_ ?_; rotate_left; (first | (simp; done) | (simp; omega))) | with_reducible refine blk_old ?_))
  have kr : w1.heap[w.heap.size + 1]? = some (.cells #[.int .i64 0, .int .i64 0, .string ⟨#[]⟩, .slice none 0 0, .slice none 0 0] 44 (0, 0)) := by rw [hw]; (repeat (first | with_reducible assumption | (with_reducible refine blk_new _ ?_; (first | rfl | (simp; done) | (simp; omega))) | with_reducible apply block_setCell | (with_reducible refine blk_skip _ _ ?_ ?_; rotate_left; (first | (simp; done) | (simp; omega))) | with_reducible refine blk_old ?_))
  have kn : w1.heap[w.heap.size + 1 + 1]? = some (.cells #[.int .i64 t.kind, .int .i64 t.num, .string t.text, .string x.name, .int .i64 x.up] 50 (0, 0)) := by rw [hw]; (repeat (first | with_reducible assumption | (with_reducible refine blk_new _ ?_; (first | rfl | (simp; done) | (simp; omega))) | with_reducible apply block_setCell | (with_reducible refine blk_skip _ _ ?_ ?_; rotate_left; (first | (simp; done) | (simp; omega))) | with_reducible refine blk_old ?_))
  have ko : w1.heap[w.heap.size + 1 + 1 + 1]? = some (.cells #[.int .i64 t.kind, .int .i64 t.num, .string t.text, .slice none 0 0, .slice none 0 0] 44 (0, 0)) := by rw [hw]; (repeat (first | with_reducible assumption | (with_reducible refine blk_new _ ?_; (first | rfl | (simp; done) | (simp; omega))) | with_reducible apply block_setCell | (with_reducible refine blk_skip _ _ ?_ ?_; rotate_left; (first | (simp; done) | (simp; omega))) | with_reducible refine blk_old ?_))
  have hs1 : w1.heap.size = w.heap.size + 4 := by rw [hw]; simp
  have HW := Lib.hid hw
  have HR := Lib.hid (fun W (hb : Below w.heap.size w W) => hr.frame (Agree.of_below hb))
  have HK := Lib.hid (sKids_any l (by omega) a hal F _ c w1 (hr.frame (Agree.of_below hb1)))
  have HKV := Lib.hid kv
  have HKR := Lib.hid kr
  have HKN := Lib.hid kn
  have HKO := Lib.hid ko
  have HB1 := Lib.hid hb1
  have HSUB := Lib.hid hsub
  have HIH := Lib.hid ih
  have HX := Lib.hid hx
  have HOK := Lib.hid hok
  rw [hxk] at g0
  rw [hxn] at g1
  rw [hxt] at g2
  clear hw kv kr kn ko hb1 hr hsub ih hx hx' hok hok' hxk hxn hxt
  go_enter Tryz.func25, Tryz.ntmps25
  go_wp2_with fail
  rw [← HW.out]
  clear HW
  refine HK.out.mono ?_
  rintro e w2 ⟨hb2, Ak, ck, rfl, hok⟩
  rw [HSUB.out.kidsTo] at hok
  have hkl := kidsPos_len t.kids (a + 1)
  have e1 : (kidsTo l a l.length).length = t.kids.length := by rw [HSUB.out.kidsTo, hkl]
  rw [e1]
  have HRK := Lib.hid (Rds.of_own hok)
  have HB2 := Lib.hid (below_then HB1.out HB1.out.size hb2)
  have hs2 := hb2.size
  have HV2 := Lib.hid (block_below HKV.out hb2)
  have HR2 := Lib.hid (block_below HKR.out hb2)
  have HN2 := Lib.hid (block_below HKN.out hb2)
  have HO2 := Lib.hid (block_below HKO.out hb2)
  clear hb2 hok hkl e1 HK
  have hsw2 : w.heap.size + 3 < w2.heap.size := by omega
  have hrel0 : TRel t w w2 w2 0 0 none none 0 0 [] := by
    have e0 : nmsAt t 0 = [] := by unfold nmsAt; split <;> rfl
    refine ⟨HB2.out, Nat.le_refl _, fun _ _ _ => rfl, ?_, ?_, ?_, ?_⟩
    · rw [e0]
      exact HO2.out
    · rw [e0]
      exact World.ownsRow_nil _ _ _ _
    · exact World.ownsRow_nil _ _ _ _
    · simp [LtsAt]
  have HREL0 := Lib.hid hrel0
  have hkk := Tree.kids_le_count t.kids
  have hcnt := t.count_eq
  have hfit := HSUB.out.fits
  have hkl0 : t.kids.length ≤ 1000000 := by omega
  clear hrel0 g0 g1 g2 g3 g4 hkk hcnt hfit HO2
  go_wp2
  go_loopw [25] (fun iv wx => ∃ (i : Nat) (An Ak' : Option Addr) (cn ck' : Nat) (rs : List (List Value)), iv = .int .i64 (i : Int) ∧ i ≤ t.kids.length ∧ Hid (TRel t w w2 wx i i An Ak' cn ck' rs)) (fun iv _ => t.kids.length - (intOf iv).toNat)
  case atStart => exact ⟨0, none, none, 0, 0, [], rfl, Nat.zero_le _, HREL0.out⟩
  case round =>
    clear HREL0
    obtain ⟨i, An, Ak', cn, ck', rs, rfl, hi, hrel⟩ := hrel
    have HT := Lib.hid hrel
    clear hrel
    by_cases hlt : i < t.kids.length
    · have hki : t.kids[i]? = some t.kids[i] := by simp [hlt]
      generalize t.kids[i] = k at hki
      obtain ⟨q, xq, hq, hsq, hxq, hnq⟩ := HSUB.out.kids.at t.kids i k hki
      have hqv : (intv (kidsPos (a + 1) t.kids))[i]? = some (.int .i64 (q : Int)) := by rw [intv, List.getElem?_map, hq]; rfl
      obtain ⟨bi, oi, rfl, hbi, hbil⟩ := HRK.out.open (by intro h0; rw [h0] at hqv; simp at hqv)
      have hbi' : w1.heap.size ≤ bi := hbi
      have hiv := (World.cell?_of_block (a := ⟨bi, oi + i, none⟩) (HT.out.agr bi hbil (by omega))).trans (HRK.out.at i _ hqv)
      have hkm := List.mem_of_getElem? hki
      have HKI := Lib.hid hki
      have HSQ := Lib.hid hsq
      have HXQ := Lib.hid hxq
      have HNQ := Lib.hid hnq
      have HKM := Lib.hid hkm
      have zo := cell_of_block HT.out.ko 4
      have zn := cell_of_block HT.out.ko 3
      simp at zo zn
      have zv : wr.cell? ⟨w.heap.size, 0, none⟩ = some (.slice (some ⟨b, o, none⟩) l.length c) := cell_of_block ((HT.out.agr _ (by omega) (by omega)).trans HV2.out) 0
      have hbw := HT.out.size
      clear hki hq hsq hxq hnq hkm hqv
      have zo' : wr.cell? ⟨w.heap.size + 1 + 1 + 1, 4, none⟩ = some (.slice Ak' i ck') := zo
      have hko := HT.out.ko
      have hlov : w.heap.size + 1 + 1 + 1 < wr.heap.size := lt_of_block hko
      have hkok : k.ok = true := (okL_iff t.kids).1 (by obtain ⟨kk, nn, tt, ns, ks⟩ := t; have h := HOK.out; simp [Tree.ok] at h; exact h.2) k HKM.out
      have HREC := Lib.hid (fun W (hb : Below wr.heap.size wr W) => HIH.out k HKM.out hkok l hl q HSQ.out F (some ⟨b, o, none⟩) c W (HR.out W (below_then HT.out.bel HT.out.bel.size hb)))
      clear hko hkok
      go_wp2
      go_cut [30] (fun _ wx => ∃ A5 c5 rs', TRel t w w2 wx i (i + 1) An A5 cn c5 rs')
      case first =>
        refine wp_region_any (by kernel_rfl) ?_
        change wpAny _ _ _ _ _ _ _ (World.drew _)
        (refine wpAny_take (i := 0) (v := ?_) rfl (by kernel_rfl) (by kernel_rfl) (by kernel_rfl) (fun _ _ _ h => h) (Or.inl ⟨rfl, ?_⟩) ?_; rotate_left 1; (focus (intro w; go_simp; try (with_reducible rfl))); change wpAny _ _ _ _ _ _ (Act.put _ (some 29) _) _; simp only [Act.put, List.setIfInBounds_toArray, List.set_cons_zero, List.set_cons_succ])
        (refine wpAny_take (i := 3) (v := ?_) rfl (by kernel_rfl) (by kernel_rfl) (by kernel_rfl) (fun _ _ _ h => h) (Or.inl ⟨rfl, ?_⟩) ?_; rotate_left 1; (focus (intro w; go_simp; try (with_reducible rfl))); change wpAny _ _ _ _ _ _ (Act.put _ (some 32) _) _; simp only [Act.put, List.setIfInBounds_toArray, List.set_cons_zero, List.set_cons_succ])
        (refine wpAny_ready (rs := [1, 2]) (by kernel_rfl) (by simp) ?_; refine AllReady.cons rfl (fun K hK => ?_) (AllReady.cons rfl (fun K hK => ?_) (AllReady.nil)))
        · go_simp
          refine hK _ _ ?_
          clear hK K
          (refine wpAny_ready (rs := [2]) (by kernel_rfl) (by simp) ?_; refine AllReady.cons rfl (fun K hK => ?_) (AllReady.nil))
          go_simp
          refine hK _ _ ?_
          clear hK K
          (refine wpAny_ready (rs := [4]) (by kernel_rfl) (by simp) ?_; refine AllReady.cons rfl (fun K hK => ?_) (AllReady.nil))
          go_simp
          refine (HREC.out _ (by exact (Below.refl _ _).drew)).mono ?_
          rintro e w4 ⟨csk, rfl, hb4, hlt4⟩
          obtain ⟨Ax, cx, Ay, cy, rsk, rfl, _⟩ := hlt4.open
          have hb4' : Below wr.heap.size wr w4 := below_then (Below.refl _ _).drew (Nat.le_refl _) hb4
          have zo4 : w4.cell? ⟨w.heap.size + 1 + 1 + 1, 4, none⟩ = some (.slice Ak' i ck') := (World.cell?_of_block (a := ⟨w.heap.size + 3, 4, none⟩) (hb4'.block _ (lt_of_block HT.out.ko))).trans zo
          have ho4 := own_below HT.out.hk hb4'
          have hs4 : w2.heap.size ≤ w4.heap.size := Nat.le_trans hbw hb4'.size
          have hl4 : w.heap.size + 1 + 1 + 1 < w4.heap.size := by omega
          go_simp
          refine hK _ _ ?_
          clear hK K
          (refine wpAny_ready (rs := [5]) (by kernel_rfl) (by simp) ?_; refine AllReady.cons rfl (fun K hK => ?_) (AllReady.nil))
          go_simp
          refine hK _ _ ?_
          clear hK K
          (refine wpAny_ready (rs := [6]) (by kernel_rfl) (by simp) ?_; refine AllReady.cons rfl (fun K hK => ?_) (AllReady.nil))
          refine step_append_at w2.heap.size rfl (.tmp 30) (.tmp 34) 42 44 _ 5 80 rfl Tryz.underlying42 infoL1V rfl (by decide) (.slice Ak' i ck') i rs.flatten [.int .i64 k.kind, .int .i64 k.num, .string k.text, .slice Ax k.names.length cx, .slice Ay k.kids.length cy] rfl rfl (heap_alloc_new _ _) (by simp [Value.oneCell']) rfl (ho4.alloc _) (by simp; omega) (by simp only [maxLen]; omega) (by omega) ?_
          intro A5 c5 w5 hc5 ho5 hg5 hat5
          have hko5 := HT.out.out5 hsw2 hb4' hg5
          have hrel5 := HT.out.kid hsw2 HKI.out hb4' hlt4 ho5 hg5 hat5
          have yo5 := cell_of_block hko5 4
          have fo5 : w5.frozen? ⟨w.heap.size + 1 + 1 + 1, 4, none⟩ = false := free_of_block hko5 4
          replace yo5 : w5.cell? ⟨w.heap.size + 1 + 1 + 1, 4, none⟩ = some (.slice Ak' i ck') := yo5
          clear hb4 hlt4 ho4 hs4 ho5 hg5 hat5 hko5 zo4 hb4'
          refine hK _ _ ?_
          clear hK K
          (refine wpAny_take (i := 7) (v := ?_) rfl (by kernel_rfl) (by kernel_rfl) (by kernel_rfl) (fun _ _ _ h => h) (Or.inl ⟨rfl, ?_⟩) ?_; rotate_left 1; (focus (intro w; go_simp; try (with_reducible rfl))); change wpAny _ _ _ _ _ _ (Act.put _ (some 36) _) _; simp only [Act.put, List.setIfInBounds_toArray])
          (refine wpAny_ready (rs := [8]) (by kernel_rfl) (by simp) ?_; refine AllReady.cons rfl (fun K hK => ?_) (AllReady.nil))
          go_simp
          refine hK _ _ ?_
          clear hK K
          refine wpAny_done (by kernel_rfl) ?_ _
          go_wp2
          go_meet
          exact ⟨A5, c5, _, hrel5⟩
        · go_simp
          refine hK _ _ ?_
          clear hK K
          (refine wpAny_ready (rs := [1, 4]) (by kernel_rfl) (by simp) ?_; refine AllReady.cons rfl (fun K hK => ?_) (AllReady.cons rfl (fun K hK => ?_) (AllReady.nil)))
          · go_simp
            refine hK _ _ ?_
            clear hK K
            (refine wpAny_ready (rs := [4]) (by kernel_rfl) (by simp) ?_; refine AllReady.cons rfl (fun K hK => ?_) (AllReady.nil))
            go_simp
            refine (HREC.out _ (by exact (Below.refl _ _).drew)).mono ?_
            rintro e w4 ⟨csk, rfl, hb4, hlt4⟩
            obtain ⟨Ax, cx, Ay, cy, rsk, rfl, _⟩ := hlt4.open
            have hb4' : Below wr.heap.size wr w4 := below_then (Below.refl _ _).drew (Nat.le_refl _) hb4
            have zo4 : w4.cell? ⟨w.heap.size + 1 + 1 + 1, 4, none⟩ = some (.slice Ak' i ck') := (World.cell?_of_block (a := ⟨w.heap.size + 3, 4, none⟩) (hb4'.block _ (lt_of_block HT.out.ko))).trans zo
            have ho4 := own_below HT.out.hk hb4'
            have hs4 : w2.heap.size ≤ w4.heap.size := Nat.le_trans hbw hb4'.size
            have hl4 : w.heap.size + 1 + 1 + 1 < w4.heap.size := by omega
            go_simp
            refine hK _ _ ?_
            clear hK K
            (refine wpAny_ready (rs := [5]) (by kernel_rfl) (by simp) ?_; refine AllReady.cons rfl (fun K hK => ?_) (AllReady.nil))
            go_simp
            refine hK _ _ ?_
            clear hK K
            (refine wpAny_ready (rs := [6]) (by kernel_rfl) (by simp) ?_; refine AllReady.cons rfl (fun K hK => ?_) (AllReady.nil))
            refine step_append_at w2.heap.size rfl (.tmp 30) (.tmp 34) 42 44 _ 5 80 rfl Tryz.underlying42 infoL1V rfl (by decide) (.slice Ak' i ck') i rs.flatten [.int .i64 k.kind, .int .i64 k.num, .string k.text, .slice Ax k.names.length cx, .slice Ay k.kids.length cy] rfl rfl (heap_alloc_new _ _) (by simp [Value.oneCell']) rfl (ho4.alloc _) (by simp; omega) (by simp only [maxLen]; omega) (by omega) ?_
            intro A5 c5 w5 hc5 ho5 hg5 hat5
            have hko5 := HT.out.out5 hsw2 hb4' hg5
            have hrel5 := HT.out.kid hsw2 HKI.out hb4' hlt4 ho5 hg5 hat5
            have yo5 := cell_of_block hko5 4
            have fo5 : w5.frozen? ⟨w.heap.size + 1 + 1 + 1, 4, none⟩ = false := free_of_block hko5 4
            replace yo5 : w5.cell? ⟨w.heap.size + 1 + 1 + 1, 4, none⟩ = some (.slice Ak' i ck') := yo5
            clear hb4 hlt4 ho4 hs4 ho5 hg5 hat5 hko5 zo4 hb4'
            refine hK _ _ ?_
            clear hK K
            (refine wpAny_take (i := 7) (v := ?_) rfl (by kernel_rfl) (by kernel_rfl) (by kernel_rfl) (fun _ _ _ h => h) (Or.inl ⟨rfl, ?_⟩) ?_; rotate_left 1; (focus (intro w; go_simp; try (with_reducible rfl))); change wpAny _ _ _ _ _ _ (Act.put _ (some 36) _) _; simp only [Act.put, List.setIfInBounds_toArray])
            (refine wpAny_ready (rs := [8]) (by kernel_rfl) (by simp) ?_; refine AllReady.cons rfl (fun K hK => ?_) (AllReady.nil))
            go_simp
            refine hK _ _ ?_
            clear hK K
            refine wpAny_done (by kernel_rfl) ?_ _
            go_wp2
            go_meet
            exact ⟨A5, c5, _, hrel5⟩
          · go_simp
            refine (HREC.out _ (by exact (Below.refl _ _).drew)).mono ?_
            rintro e w4 ⟨csk, rfl, hb4, hlt4⟩
            obtain ⟨Ax, cx, Ay, cy, rsk, rfl, _⟩ := hlt4.open
            have hb4' : Below wr.heap.size wr w4 := below_then (Below.refl _ _).drew (Nat.le_refl _) hb4
            have zo4 : w4.cell? ⟨w.heap.size + 1 + 1 + 1, 4, none⟩ = some (.slice Ak' i ck') := (World.cell?_of_block (a := ⟨w.heap.size + 3, 4, none⟩) (hb4'.block _ (lt_of_block HT.out.ko))).trans zo
            have ho4 := own_below HT.out.hk hb4'
            have hs4 : w2.heap.size ≤ w4.heap.size := Nat.le_trans hbw hb4'.size
            have hl4 : w.heap.size + 1 + 1 + 1 < w4.heap.size := by omega
            go_simp
            refine hK _ _ ?_
            clear hK K
            (refine wpAny_ready (rs := [1, 5]) (by kernel_rfl) (by simp) ?_; refine AllReady.cons rfl (fun K hK => ?_) (AllReady.cons rfl (fun K hK => ?_) (AllReady.nil)))
            · go_simp
              refine hK _ _ ?_
              clear hK K
              (refine wpAny_ready (rs := [5]) (by kernel_rfl) (by simp) ?_; refine AllReady.cons rfl (fun K hK => ?_) (AllReady.nil))
              go_simp
              refine hK _ _ ?_
              clear hK K
              (refine wpAny_ready (rs := [6]) (by kernel_rfl) (by simp) ?_; refine AllReady.cons rfl (fun K hK => ?_) (AllReady.nil))
              refine step_append_at w2.heap.size rfl (.tmp 30) (.tmp 34) 42 44 _ 5 80 rfl Tryz.underlying42 infoL1V rfl (by decide) (.slice Ak' i ck') i rs.flatten [.int .i64 k.kind, .int .i64 k.num, .string k.text, .slice Ax k.names.length cx, .slice Ay k.kids.length cy] rfl rfl (heap_alloc_new _ _) (by simp [Value.oneCell']) rfl (ho4.alloc _) (by simp; omega) (by simp only [maxLen]; omega) (by omega) ?_
              intro A5 c5 w5 hc5 ho5 hg5 hat5
              have hko5 := HT.out.out5 hsw2 hb4' hg5
              have hrel5 := HT.out.kid hsw2 HKI.out hb4' hlt4 ho5 hg5 hat5
              have yo5 := cell_of_block hko5 4
              have fo5 : w5.frozen? ⟨w.heap.size + 1 + 1 + 1, 4, none⟩ = false := free_of_block hko5 4
              replace yo5 : w5.cell? ⟨w.heap.size + 1 + 1 + 1, 4, none⟩ = some (.slice Ak' i ck') := yo5
              clear hb4 hlt4 ho4 hs4 ho5 hg5 hat5 hko5 zo4 hb4'
              refine hK _ _ ?_
              clear hK K
              (refine wpAny_take (i := 7) (v := ?_) rfl (by kernel_rfl) (by kernel_rfl) (by kernel_rfl) (fun _ _ _ h => h) (Or.inl ⟨rfl, ?_⟩) ?_; rotate_left 1; (focus (intro w; go_simp; try (with_reducible rfl))); change wpAny _ _ _ _ _ _ (Act.put _ (some 36) _) _; simp only [Act.put, List.setIfInBounds_toArray])
              (refine wpAny_ready (rs := [8]) (by kernel_rfl) (by simp) ?_; refine AllReady.cons rfl (fun K hK => ?_) (AllReady.nil))
              go_simp
              refine hK _ _ ?_
              clear hK K
              refine wpAny_done (by kernel_rfl) ?_ _
              go_wp2
              go_meet
              exact ⟨A5, c5, _, hrel5⟩
            · go_simp
              refine hK _ _ ?_
              clear hK K
              (refine wpAny_ready (rs := [1]) (by kernel_rfl) (by simp) ?_; refine AllReady.cons rfl (fun K hK => ?_) (AllReady.nil))
              go_simp
              refine hK _ _ ?_
              clear hK K
              (refine wpAny_ready (rs := [6]) (by kernel_rfl) (by simp) ?_; refine AllReady.cons rfl (fun K hK => ?_) (AllReady.nil))
              refine step_append_at w2.heap.size rfl (.tmp 30) (.tmp 34) 42 44 _ 5 80 rfl Tryz.underlying42 infoL1V rfl (by decide) (.slice Ak' i ck') i rs.flatten [.int .i64 k.kind, .int .i64 k.num, .string k.text, .slice Ax k.names.length cx, .slice Ay k.kids.length cy] rfl rfl (heap_alloc_new _ _) (by simp [Value.oneCell']) rfl (ho4.alloc _) (by simp; omega) (by simp only [maxLen]; omega) (by omega) ?_
              intro A5 c5 w5 hc5 ho5 hg5 hat5
              have hko5 := HT.out.out5 hsw2 hb4' hg5
              have hrel5 := HT.out.kid hsw2 HKI.out hb4' hlt4 ho5 hg5 hat5
              have yo5 := cell_of_block hko5 4
              have fo5 : w5.frozen? ⟨w.heap.size + 1 + 1 + 1, 4, none⟩ = false := free_of_block hko5 4
              replace yo5 : w5.cell? ⟨w.heap.size + 1 + 1 + 1, 4, none⟩ = some (.slice Ak' i ck') := yo5
              clear hb4 hlt4 ho4 hs4 ho5 hg5 hat5 hko5 zo4 hb4'
              refine hK _ _ ?_
              clear hK K
              (refine wpAny_take (i := 7) (v := ?_) rfl (by kernel_rfl) (by kernel_rfl) (by kernel_rfl) (fun _ _ _ h => h) (Or.inl ⟨rfl, ?_⟩) ?_; rotate_left 1; (focus (intro w; go_simp; try (with_reducible rfl))); change wpAny _ _ _ _ _ _ (Act.put _ (some 36) _) _; simp only [Act.put, List.setIfInBounds_toArray])
              (refine wpAny_ready (rs := [8]) (by kernel_rfl) (by simp) ?_; refine AllReady.cons rfl (fun K hK => ?_) (AllReady.nil))
              go_simp
              refine hK _ _ ?_
              clear hK K
              refine wpAny_done (by kernel_rfl) ?_ _
              go_wp2
              go_meet
              exact ⟨A5, c5, _, hrel5⟩
      case rest =>
        obtain ⟨A5, c5, rs', hrel5⟩ := hcut
        have HT5 := Lib.hid hrel5
        clear hrel5 zo zo' zn zv hiv HREC
        have zn5 : wc.cell? ⟨w.heap.size + 1 + 1 + 1, 3, none⟩ = some (.slice An (nmsAt t i).length cn) := cell_of_block HT5.out.ko 3
        have fn5 : wc.frozen? ⟨w.heap.size + 1 + 1 + 1, 3, none⟩ = false := free_of_block HT5.out.ko 3
        have zk5 : wc.cell? ⟨w.heap.size + 1 + 1, 0, none⟩ = some (.int .i64 t.kind) := cell_of_block ((HT5.out.agr (w.heap.size + 1 + 1) (by omega) (by omega)).trans HN2.out) 0
        have zv5 : wc.cell? ⟨w.heap.size, 0, none⟩ = some (.slice (some ⟨b, o, none⟩) l.length c) := cell_of_block ((HT5.out.agr _ (by omega) (by omega)).trans HV2.out) 0
        have hbw5 := HT5.out.size
        by_cases h7 : t.kind = 7
        · have hmap := Tree.ok_map HOK.out h7
          have hni := HNQ.out (by simpa using h7) hmap.len
          obtain ⟨bq, oq, xq', e5, _, _, hxq', q0, q1, q2, q3, q4⟩ := nd_at (HR.out wc HT5.out.bel) q (List.getElem?_eq_some_iff.1 HXQ.out).1
          injection e5 with e5
          injection e5 with e6 e7
          subst e6 e7
          obtain rfl : xq = xq' := by have h := HXQ.out; rw [h] at hxq'; injection hxq'
          have hql : q < l.length := (List.getElem?_eq_some_iff.1 HXQ.out).1
          have hnm : nmsAt t (i + 1) = nmsAt t i ++ [xq.name] := by
            unfold nmsAt
            rw [if_pos h7, if_pos h7, List.take_add_one, hni]
            rfl
          have hnl : (nmsAt t i).length ≤ 1000000 := by
            unfold nmsAt
            rw [if_pos h7, List.length_take]
            omega
          have HNM := Lib.hid hnm
          have HO5 := Lib.hid HT5.out.hn
          rw [h7] at zk5
          clear hmap hni hxq' hnm h7
          have hlo5 : w.heap.size + 1 + 1 + 1 < wc.heap.size := lt_of_block HT5.out.ko
          have hlv5 : w.heap.size < wc.heap.size := by omega
          have hlb5 : b < wc.heap.size := by omega
          go_wp2
          refine wp_region_any (by kernel_rfl) ?_
          change wpAny _ _ _ _ _ _ _ (World.drew _)
          (refine wpAny_take (i := 0) (v := ?_) rfl (by kernel_rfl) (by kernel_rfl) (by kernel_rfl) (fun _ _ _ h => h) (Or.inl ⟨rfl, ?_⟩) ?_; rotate_left 1; (focus (intro w; go_simp; try (with_reducible rfl))); change wpAny _ _ _ _ _ _ (Act.put _ (some 40) _) _; simp only [Act.put, List.setIfInBounds_toArray, List.set_cons_zero, List.set_cons_succ])
          (refine wpAny_take (i := 2) (v := ?_) rfl (by kernel_rfl) (by kernel_rfl) (by kernel_rfl) (fun _ _ _ h => h) (Or.inl ⟨rfl, ?_⟩) ?_; rotate_left 1; (focus (intro w; go_simp; try (with_reducible rfl))); change wpAny _ _ _ _ _ _ (Act.put _ (some 42) _) _; simp only [Act.put, List.setIfInBounds_toArray, List.set_cons_zero, List.set_cons_succ])
          (refine wpAny_take (i := 4) (v := ?_) rfl (by kernel_rfl) (by kernel_rfl) (by kernel_rfl) (fun _ _ _ h => h) (Or.inl ⟨rfl, ?_⟩) ?_; rotate_left 1; (focus (intro w; go_simp; try (with_reducible rfl))); change wpAny _ _ _ _ _ _ (Act.put _ (some 44) _) _; simp only [Act.put, List.setIfInBounds_toArray, List.set_cons_zero, List.set_cons_succ])
          (refine wpAny_ready (rs := [1, 3]) (by kernel_rfl) (by simp) ?_; refine AllReady.cons rfl (fun K hK => ?_) (AllReady.cons rfl (fun K hK => ?_) (AllReady.nil)))
          · go_simp
            refine hK _ _ ?_
            clear hK K
            (refine wpAny_ready (rs := [3]) (by kernel_rfl) (by simp) ?_; refine AllReady.cons rfl (fun K hK => ?_) (AllReady.nil))
            go_simp
            refine hK _ _ ?_
            clear hK K
            (refine wpAny_take (i := 5) (v := ?_) rfl (by kernel_rfl) (by kernel_rfl) (by kernel_rfl) (fun _ _ _ h => h) (Or.inl ⟨rfl, ?_⟩) ?_; rotate_left 1; (focus (intro w; go_simp; try (with_reducible rfl))); change wpAny _ _ _ _ _ _ (Act.put _ (some 45) _) _; simp only [Act.put, List.setIfInBounds_toArray, List.set_cons_zero, List.set_cons_succ])
            (refine wpAny_take (i := 6) (v := ?_) rfl (by kernel_rfl) (by kernel_rfl) (by kernel_rfl) (fun _ _ _ h => h) (Or.inl ⟨rfl, ?_⟩) ?_; rotate_left 1; (focus (intro w; go_simp; try (with_reducible rfl))); change wpAny _ _ _ _ _ _ (Act.put _ (some 46) _) _; simp only [Act.put, List.setIfInBounds_toArray, List.set_cons_zero, List.set_cons_succ])
            (refine wpAny_ready (rs := [7]) (by kernel_rfl) (by simp) ?_; refine AllReady.cons rfl (fun K hK => ?_) (AllReady.nil))
            go_simp
            refine hK _ _ ?_
            clear hK K
            (refine wpAny_ready (rs := [8]) (by kernel_rfl) (by simp) ?_; refine AllReady.cons rfl (fun K hK => ?_) (AllReady.nil))
            go_simp
            refine hK _ _ ?_
            clear hK K
            (refine wpAny_ready (rs := [9]) (by kernel_rfl) (by simp) ?_; refine AllReady.cons rfl (fun K hK => ?_) (AllReady.nil))
            refine step_append_at w2.heap.size rfl (.tmp 41) (.tmp 48) 41 9 _ 1 16 rfl Tryz.underlying41 infoStr rfl (by decide) (.slice An (nmsAt t i).length cn) (nmsAt t i).length (strs (nmsAt t i)) [.string xq.name] rfl rfl (heap_alloc_new _ _) (by simp [Value.oneCell']) rfl (HO5.out.alloc _) (by simp; omega) (by simp only [maxLen]; omega) (by omega) ?_
            intro A6 c6 w6 hc6 ho6 hg6 hat6
            have HT6 := Lib.hid (HT5.out.drawn.name hsw2 HNM.out ho6 hg6 (hat6.imp id (fun h => ⟨_, h, by simp⟩)))
            have hko6 := (hg6.block (w.heap.size + 3) (by have := lt_of_block HT5.out.ko; simp; omega) (fun e => by have := (own_base HT5.out.hn _ e.symm).1; omega)).trans ((Go.heap_alloc_old wc.drew _ (lt_of_block HT5.out.ko)).trans HT5.out.ko)
            have yn6 : w6.cell? ⟨w.heap.size + 1 + 1 + 1, 3, none⟩ = some (.slice An (nmsAt t i).length cn) := cell_of_block hko6 3
            have fn6 : w6.frozen? ⟨w.heap.size + 1 + 1 + 1, 3, none⟩ = false := free_of_block hko6 3
            clear ho6 hg6 hat6 hko6
            refine hK _ _ ?_
            clear hK K
            (refine wpAny_take (i := 10) (v := ?_) rfl (by kernel_rfl) (by kernel_rfl) (by kernel_rfl) (fun _ _ _ h => h) (Or.inl ⟨rfl, ?_⟩) ?_; rotate_left 1; (focus (intro w; go_simp; try (with_reducible rfl))); change wpAny _ _ _ _ _ _ (Act.put _ (some 50) _) _; simp only [Act.put, List.setIfInBounds_toArray])
            (refine wpAny_ready (rs := [11]) (by kernel_rfl) (by simp) ?_; refine AllReady.cons rfl (fun K hK => ?_) (AllReady.nil))
            go_simp
            refine hK _ _ ?_
            clear hK K
            refine wpAny_done (by kernel_rfl) ?_ _
            go_wp2
            go_roundw
            case rel => exact ⟨i + 1, A6, A5, c6, c5, rs', by go_num, by omega, HT6.out⟩
            case measure => simp [intOf]; omega
          · go_simp
            refine hK _ _ ?_
            clear hK K
            (refine wpAny_take (i := 5) (v := ?_) rfl (by kernel_rfl) (by kernel_rfl) (by kernel_rfl) (fun _ _ _ h => h) (Or.inl ⟨rfl, ?_⟩) ?_; rotate_left 1; (focus (intro w; go_simp; try (with_reducible rfl))); change wpAny _ _ _ _ _ _ (Act.put _ (some 45) _) _; simp only [Act.put, List.setIfInBounds_toArray, List.set_cons_zero, List.set_cons_succ])
            (refine wpAny_take (i := 6) (v := ?_) rfl (by kernel_rfl) (by kernel_rfl) (by kernel_rfl) (fun _ _ _ h => h) (Or.inl ⟨rfl, ?_⟩) ?_; rotate_left 1; (focus (intro w; go_simp; try (with_reducible rfl))); change wpAny _ _ _ _ _ _ (Act.put _ (some 46) _) _; simp only [Act.put, List.setIfInBounds_toArray, List.set_cons_zero, List.set_cons_succ])
            (refine wpAny_ready (rs := [1, 7]) (by kernel_rfl) (by simp) ?_; refine AllReady.cons rfl (fun K hK => ?_) (AllReady.cons rfl (fun K hK => ?_) (AllReady.nil)))
            · go_simp
              refine hK _ _ ?_
              clear hK K
              (refine wpAny_ready (rs := [7]) (by kernel_rfl) (by simp) ?_; refine AllReady.cons rfl (fun K hK => ?_) (AllReady.nil))
              go_simp
              refine hK _ _ ?_
              clear hK K
              (refine wpAny_ready (rs := [8]) (by kernel_rfl) (by simp) ?_; refine AllReady.cons rfl (fun K hK => ?_) (AllReady.nil))
              go_simp
              refine hK _ _ ?_
              clear hK K
              (refine wpAny_ready (rs := [9]) (by kernel_rfl) (by simp) ?_; refine AllReady.cons rfl (fun K hK => ?_) (AllReady.nil))
              refine step_append_at w2.heap.size rfl (.tmp 41) (.tmp 48) 41 9 _ 1 16 rfl Tryz.underlying41 infoStr rfl (by decide) (.slice An (nmsAt t i).length cn) (nmsAt t i).length (strs (nmsAt t i)) [.string xq.name] rfl rfl (heap_alloc_new _ _) (by simp [Value.oneCell']) rfl (HO5.out.alloc _) (by simp; omega) (by simp only [maxLen]; omega) (by omega) ?_
              intro A6 c6 w6 hc6 ho6 hg6 hat6
              have HT6 := Lib.hid (HT5.out.drawn.name hsw2 HNM.out ho6 hg6 (hat6.imp id (fun h => ⟨_, h, by simp⟩)))
              have hko6 := (hg6.block (w.heap.size + 3) (by have := lt_of_block HT5.out.ko; simp; omega) (fun e => by have := (own_base HT5.out.hn _ e.symm).1; omega)).trans ((Go.heap_alloc_old wc.drew _ (lt_of_block HT5.out.ko)).trans HT5.out.ko)
              have yn6 : w6.cell? ⟨w.heap.size + 1 + 1 + 1, 3, none⟩ = some (.slice An (nmsAt t i).length cn) := cell_of_block hko6 3
              have fn6 : w6.frozen? ⟨w.heap.size + 1 + 1 + 1, 3, none⟩ = false := free_of_block hko6 3
              clear ho6 hg6 hat6 hko6
              refine hK _ _ ?_
              clear hK K
              (refine wpAny_take (i := 10) (v := ?_) rfl (by kernel_rfl) (by kernel_rfl) (by kernel_rfl) (fun _ _ _ h => h) (Or.inl ⟨rfl, ?_⟩) ?_; rotate_left 1; (focus (intro w; go_simp; try (with_reducible rfl))); change wpAny _ _ _ _ _ _ (Act.put _ (some 50) _) _; simp only [Act.put, List.setIfInBounds_toArray])
              (refine wpAny_ready (rs := [11]) (by kernel_rfl) (by simp) ?_; refine AllReady.cons rfl (fun K hK => ?_) (AllReady.nil))
              go_simp
              refine hK _ _ ?_
              clear hK K
              refine wpAny_done (by kernel_rfl) ?_ _
              go_wp2
              go_roundw
              case rel => exact ⟨i + 1, A6, A5, c6, c5, rs', by go_num, by omega, HT6.out⟩
              case measure => simp [intOf]; omega
            · go_simp
              refine hK _ _ ?_
              clear hK K
              (refine wpAny_ready (rs := [1, 8]) (by kernel_rfl) (by simp) ?_; refine AllReady.cons rfl (fun K hK => ?_) (AllReady.cons rfl (fun K hK => ?_) (AllReady.nil)))
              · go_simp
                refine hK _ _ ?_
                clear hK K
                (refine wpAny_ready (rs := [8]) (by kernel_rfl) (by simp) ?_; refine AllReady.cons rfl (fun K hK => ?_) (AllReady.nil))
                go_simp
                refine hK _ _ ?_
                clear hK K
                (refine wpAny_ready (rs := [9]) (by kernel_rfl) (by simp) ?_; refine AllReady.cons rfl (fun K hK => ?_) (AllReady.nil))
                refine step_append_at w2.heap.size rfl (.tmp 41) (.tmp 48) 41 9 _ 1 16 rfl Tryz.underlying41 infoStr rfl (by decide) (.slice An (nmsAt t i).length cn) (nmsAt t i).length (strs (nmsAt t i)) [.string xq.name] rfl rfl (heap_alloc_new _ _) (by simp [Value.oneCell']) rfl (HO5.out.alloc _) (by simp; omega) (by simp only [maxLen]; omega) (by omega) ?_
                intro A6 c6 w6 hc6 ho6 hg6 hat6
                have HT6 := Lib.hid (HT5.out.drawn.name hsw2 HNM.out ho6 hg6 (hat6.imp id (fun h => ⟨_, h, by simp⟩)))
                have hko6 := (hg6.block (w.heap.size + 3) (by have := lt_of_block HT5.out.ko; simp; omega) (fun e => by have := (own_base HT5.out.hn _ e.symm).1; omega)).trans ((Go.heap_alloc_old wc.drew _ (lt_of_block HT5.out.ko)).trans HT5.out.ko)
                have yn6 : w6.cell? ⟨w.heap.size + 1 + 1 + 1, 3, none⟩ = some (.slice An (nmsAt t i).length cn) := cell_of_block hko6 3
                have fn6 : w6.frozen? ⟨w.heap.size + 1 + 1 + 1, 3, none⟩ = false := free_of_block hko6 3
                clear ho6 hg6 hat6 hko6
                refine hK _ _ ?_
                clear hK K
                (refine wpAny_take (i := 10) (v := ?_) rfl (by kernel_rfl) (by kernel_rfl) (by kernel_rfl) (fun _ _ _ h => h) (Or.inl ⟨rfl, ?_⟩) ?_; rotate_left 1; (focus (intro w; go_simp; try (with_reducible rfl))); change wpAny _ _ _ _ _ _ (Act.put _ (some 50) _) _; simp only [Act.put, List.setIfInBounds_toArray])
                (refine wpAny_ready (rs := [11]) (by kernel_rfl) (by simp) ?_; refine AllReady.cons rfl (fun K hK => ?_) (AllReady.nil))
                go_simp
                refine hK _ _ ?_
                clear hK K
                refine wpAny_done (by kernel_rfl) ?_ _
                go_wp2
                go_roundw
                case rel => exact ⟨i + 1, A6, A5, c6, c5, rs', by go_num, by omega, HT6.out⟩
                case measure => simp [intOf]; omega
              · go_simp
                refine hK _ _ ?_
                clear hK K
                (refine wpAny_ready (rs := [1]) (by kernel_rfl) (by simp) ?_; refine AllReady.cons rfl (fun K hK => ?_) (AllReady.nil))
                go_simp
                refine hK _ _ ?_
                clear hK K
                (refine wpAny_ready (rs := [9]) (by kernel_rfl) (by simp) ?_; refine AllReady.cons rfl (fun K hK => ?_) (AllReady.nil))
                refine step_append_at w2.heap.size rfl (.tmp 41) (.tmp 48) 41 9 _ 1 16 rfl Tryz.underlying41 infoStr rfl (by decide) (.slice An (nmsAt t i).length cn) (nmsAt t i).length (strs (nmsAt t i)) [.string xq.name] rfl rfl (heap_alloc_new _ _) (by simp [Value.oneCell']) rfl (HO5.out.alloc _) (by simp; omega) (by simp only [maxLen]; omega) (by omega) ?_
                intro A6 c6 w6 hc6 ho6 hg6 hat6
                have HT6 := Lib.hid (HT5.out.drawn.name hsw2 HNM.out ho6 hg6 (hat6.imp id (fun h => ⟨_, h, by simp⟩)))
                have hko6 := (hg6.block (w.heap.size + 3) (by have := lt_of_block HT5.out.ko; simp; omega) (fun e => by have := (own_base HT5.out.hn _ e.symm).1; omega)).trans ((Go.heap_alloc_old wc.drew _ (lt_of_block HT5.out.ko)).trans HT5.out.ko)
                have yn6 : w6.cell? ⟨w.heap.size + 1 + 1 + 1, 3, none⟩ = some (.slice An (nmsAt t i).length cn) := cell_of_block hko6 3
                have fn6 : w6.frozen? ⟨w.heap.size + 1 + 1 + 1, 3, none⟩ = false := free_of_block hko6 3
                clear ho6 hg6 hat6 hko6
                refine hK _ _ ?_
                clear hK K
                (refine wpAny_take (i := 10) (v := ?_) rfl (by kernel_rfl) (by kernel_rfl) (by kernel_rfl) (fun _ _ _ h => h) (Or.inl ⟨rfl, ?_⟩) ?_; rotate_left 1; (focus (intro w; go_simp; try (with_reducible rfl))); change wpAny _ _ _ _ _ _ (Act.put _ (some 50) _) _; simp only [Act.put, List.setIfInBounds_toArray])
                (refine wpAny_ready (rs := [11]) (by kernel_rfl) (by simp) ?_; refine AllReady.cons rfl (fun K hK => ?_) (AllReady.nil))
                go_simp
                refine hK _ _ ?_
                clear hK K
                refine wpAny_done (by kernel_rfl) ?_ _
                go_wp2
                go_roundw
                case rel => exact ⟨i + 1, A6, A5, c6, c5, rs', by go_num, by omega, HT6.out⟩
                case measure => simp [intOf]; omega
        · have e1 : nmsAt t (i + 1) = nmsAt t i := by
            unfold nmsAt
            rw [if_neg h7, if_neg h7]
          have HT6 := Lib.hid (show TRel t w w2 wc (i + 1) (i + 1) An A5 cn c5 rs' from by
            have h := HT5.out
            exact ⟨h.bel, h.size, h.agr, by rw [e1]; exact h.ko, by rw [e1]; exact h.hn, h.hk, by rw [e1]; exact h.ts⟩)
          clear e1
          go_wp2
          go_roundw
          case rel => exact ⟨i + 1, An, A5, cn, c5, rs', by go_num, by omega, HT6.out⟩
          case measure => simp [intOf]; omega
    · obtain rfl : i = t.kids.length := by omega
      have hko := HT.out.ko
      have z0 := cell_of_block hko 0
      have z1 := cell_of_block hko 1
      have z2 := cell_of_block hko 2
      have z3 := cell_of_block hko 3
      have z4 := cell_of_block hko 4
      simp at z0 z1 z2 z3 z4
      have hkr := (HT.out.agr (w.heap.size + 1) (by omega) (by omega)).trans HR2.out
      have r0 := cell_of_block hkr 0
      have fr := free_of_block hkr
      have fr0 := fr 0
      have fr1 := fr 1
      have fr2 := fr 2
      have fr3 := fr 3
      have fr4 := fr 4
      have r1 := cell_of_block hkr 1
      have r2 := cell_of_block hkr 2
      have r3 := cell_of_block hkr 3
      have r4 := cell_of_block hkr 4
      simp at r0 r1 r2 r3 r4
      clear fr
      have HKR2 := Lib.hid hkr
      clear hko hkr
      have hnm : nmsAt t t.kids.length = t.names := by
        unfold nmsAt
        split
        · rename_i h7
          rw [← (Tree.ok_map HOK.out h7).len, List.take_length]
        · rename_i h7
          obtain ⟨kk, nn, tt, ns, ks⟩ := t
          have h := HOK.out
          simp [Tree.ok] at h h7
          have h2 := h.1.1.2
          rw [if_neg h7] at h2
          simpa using h2.symm
      have HNM := Lib.hid hnm
      have HPOST := Lib.hid (fun v0 v1 v2 v3 v4 => LtPost.of_rel (v0 := v0) (v1 := v1) (v2 := v2) (v3 := v3) (v4 := v4) HT.out hsw2 hnm (n := (nmsAt t t.kids.length).length) (by rw [hnm]))
      clear hnm
      go_wp2
      refine bodyPost_ret (results_cell_row rfl _ _ (w.heap.size + 1) _ _ _ _ rfl (block_setCell (block_setCell (block_setCell (block_setCell (block_setCell HKR2.out _ _) _ _) _ _) _ _) _ _) Tryz.underlying44 rfl ((info_size infoL1V).trans (by simp))) rfl ?_
      exact HPOST.out _ _ _ _ _
end Go.Proofs.YteeppdobeeodiaaGreatDoor
namespace Go.Proofs.YteeppdobeeodiaaGreatDoor
open Go.RowKit
/-- The number of the part that a name leads to, -1 for none. -/
def atP (ns : List ByteArray) (nm : ByteArray) : Int := if ns[insPos ns nm]? = some nm then (insPos ns nm : Int) else -1
theorem sorted_lt {ns : List ByteArray} (h : sortedB ns = true) : ∀ (i j : Nat) (a b : ByteArray), i < j → ns[i]? = some a → ns[j]? = some b → ltS a b = true := by
  induction ns with
  | nil => intro i j a b _ h1; simp at h1
  | cons x ns ih =>
    intro i j a b hij h1 h2
    cases j with
    | zero => omega
    | succ j =>
      simp at h2
      cases i with
      | zero =>
        simp at h1
        subst h1
        exact sortedB_head h b (List.mem_of_getElem? h2)
      | succ i =>
        simp at h1
        exact ih (sortedB_tail h) i j a b (by omega) h1 h2
theorem insPos_found {ns : List ByteArray} {nm : ByteArray} {i : Nat} (hs : sortedB ns = true) (h : ns[i]? = some nm) : insPos ns nm = i := by
  refine (insPos_of ns nm hs i (by have := (List.getElem?_eq_some_iff.1 h).1; omega) (fun j x hj hx => sorted_lt hs j i x nm hj hx h) (fun j x hj hx => ?_)).symm
  rcases Nat.lt_or_ge i j with c | c
  · exact ltS_asymm (sorted_lt hs i j nm x c h hx)
  · obtain rfl : i = j := by omega
    rw [h] at hx
    injection hx with hx
    subst hx
    exact ltS_irrefl _
theorem atP_found {ns : List ByteArray} {nm : ByteArray} {i : Nat} (hs : sortedB ns = true) (h : ns[i]? = some nm) : atP ns nm = (i : Int) := by
  unfold atP
  rw [insPos_found hs h, if_pos h]
theorem atP_none {ns : List ByteArray} {nm : ByteArray} (h : ∀ i, i < ns.length → ns[i]? ≠ some nm) : atP ns nm = -1 := by
  unfold atP
  rw [if_neg]
  intro c
  exact h _ (List.getElem?_eq_some_iff.1 c).1 c
set_option maxRecDepth 100000 in
set_option maxHeartbeats 1000000 in
theorem sAt_any (t : Tree) (hk : t.kind = 7) (hm : MapOK t.names t.kids) (hl : t.kids.length ≤ 1000000) (F : Nat → Prop) (cs : List Value) (nm : ByteArray) (w : World) (ht : LtAt F w cs t) :
    Calls Tryz.prog 47 #[.agg cs.toArray, .string nm] w (fun e w' => e = .returned (.int .i64 (atP t.names nm)) ∧ Below w.heap.size w w') := by
  obtain ⟨A1, c1, A2, c2, rs, rfl, g3, g4, r3, r4, hts⟩ := ht.open
  have HS := Lib.hid hm.sorted
  have hlen := hm.len
  obtain ⟨k, n, x, ns, ks⟩ := t
  change k = 7 at hk
  change ns.length = ks.length at hlen
  change ks.length ≤ 1000000 at hl
  change Rds F w A1 (strs ns) at r3
  change Hid (sortedB ns = true) at HS
  subst hk
  change ns.length ≤ c1 at g3
  change ks.length ≤ c2 at g4
  have hb1 : Below w.heap.size w (w.alloc (.cells #[.int .i64 7, .int .i64 n, .string x, .slice A1 ns.length c1, .slice A2 ks.length c2] 44 (0, 0))) := (Below.refl _ _).alloc (Nat.le_refl _) _
  have R3 := Lib.hid (r3.frame (Agree.of_below hb1))
  have HB1 := Lib.hid hb1
  have HLEN := Lib.hid hlen
  clear r3 r4 hts ht hm hb1 hlen
  go_enter Tryz.func47, Tryz.ntmps47
  go_wp2
  go_loop [9] (fun iv => ∃ i : Nat, iv = .int .i64 (i : Int) ∧ i ≤ ks.length ∧ Hid (∀ j, j < i → ns[j]? ≠ some nm)) (fun iv => ks.length - (intOf iv).toNat)
  case atStart => exact ⟨0, rfl, Nat.zero_le _, Lib.hid (fun j h => by omega)⟩
  case round =>
    obtain ⟨i, rfl, hi, hrel⟩ := hrel
    by_cases hlt : i < ks.length
    · obtain ⟨s, hs⟩ : ∃ s, ns[i]? = some s := ⟨_, List.getElem?_eq_getElem (by have := HLEN.out; omega)⟩
      have hsv : (strs ns)[i]? = some (.string s) := by rw [strs, List.getElem?_map, hs]; rfl
      obtain ⟨bi, oi, rfl, hbi, hbil⟩ := R3.out.open (by intro h0; rw [h0] at hsv; simp at hsv)
      have hcell := R3.out.at i _ hsv
      have hil : i < ns.length := (List.getElem?_eq_some_iff.1 hs).1
      have HSI := Lib.hid hs
      clear hs hsv
      by_cases he : s = nm
      · subst he
        go_wp2
        go_ret
        exact ⟨by rw [atP_found HS.out HSI.out]; rfl, HB1.out⟩
      · have he' : (s.toList == nm.toList) = false := by
          simp only [beq_eq_false_iff_ne, ne_eq]
          exact fun e => he (ba_eq e)
        go_wp2
        go_round
        case rel =>
          refine ⟨i + 1, by go_num, by omega, Lib.hid (fun j hj => ?_)⟩
          rcases Nat.lt_or_ge j i with c | c
          · exact hrel.out j c
          · obtain rfl : j = i := by omega
            rw [HSI.out]
            intro e
            injection e with e
            exact he e
        case measure => simp [intOf]; omega
    · obtain rfl : i = ks.length := by omega
      go_wp2
      go_ret
      exact ⟨by rw [atP_none (fun j hj => hrel.out j (by have := HLEN.out; omega))]; rfl, HB1.out⟩
end Go.Proofs.YteeppdobeeodiaaGreatDoor
namespace Go.Proofs.YteeppdobeeodiaaGreatDoor
open Go.RowKit
/-- The blocks that a value of the call's own may lie in: those of F, and new ones. -/
def Nw (F : Nat → Prop) (base : Nat) : Nat → Prop := fun b => F b ∧ b < base ∨ base ≤ b
theorem set5_eq (l : List Value) (a : Nat) (v0 v1 v2 v3 v4 : Value) (h : a + 5 ≤ l.length) : ((((l.set a v0).set (a + 1) v1).set (a + 2) v2).set (a + 3) v3).set (a + 4) v4 = l.take a ++ [v0, v1, v2, v3, v4] ++ l.drop (a + 5) := by
  apply List.ext_getElem?
  intro j
  rcases Nat.lt_or_ge j a with c | c
  · rw [List.append_assoc, List.getElem?_append_left (by simp; omega)]
    simp only [List.getElem?_set, List.getElem?_take]
    rw [if_neg (by omega), if_neg (by omega), if_neg (by omega), if_neg (by omega), if_neg (by omega), if_pos c]
  · obtain ⟨k, rfl⟩ := Nat.exists_eq_add_of_le c
    rw [List.append_assoc, List.getElem?_append_right (by simp; omega)]
    have e : a + k - (l.take a).length = k := by simp; omega
    rw [e]
    have hl : ∀ i, i < 5 → a + i < l.length := fun i hi => by omega
    match k with
    | 0 => simp [List.getElem?_set]; omega
    | 1 => simp [List.getElem?_set]; omega
    | 2 => simp [List.getElem?_set]; omega
    | 3 => simp [List.getElem?_set]; omega
    | 4 => simp [List.getElem?_set]; omega
    | k + 5 =>
      rw [List.getElem?_append_right (by simp)]
      simp only [List.getElem?_set, List.getElem?_drop]
      rw [if_neg (by omega), if_neg (by omega), if_neg (by omega), if_neg (by omega), if_neg (by omega)]
      congr 1
      simp
      omega
theorem flatten_set (rs : List (List Value)) (h : ∀ r ∈ rs, r.length = 5) (i : Nat) (hi : i < rs.length) (r : List Value) : (rs.set i r).flatten = rs.flatten.take (i * 5) ++ r ++ rs.flatten.drop (i * 5 + 5) := by
  induction rs generalizing i with
  | nil => simp at hi
  | cons y rs ih =>
    have hy : y.length = 5 := h y (by simp)
    cases i with
    | zero => simp [hy]
    | succ i =>
      have := ih (fun r hr => h r (List.mem_cons_of_mem _ hr)) i (by simpa using hi)
      simp only [List.set_cons_succ, List.flatten_cons]
      rw [this, List.take_append, List.drop_append, hy, List.take_of_length_le (l := y) (by omega), List.drop_eq_nil_of_le (show y.length ≤ (i + 1) * 5 + 5 by omega)]
      have e1 : (i + 1) * 5 - 5 = i * 5 := by omega
      have e2 : (i + 1) * 5 + 5 - 5 = i * 5 + 5 := by omega
      rw [e1, e2]
      simp only [List.nil_append, List.append_assoc]
def WithPost (F : Nat → Prop) (t : Tree) (i : Nat) (x : Tree) (w : World) (e : Ending) (w' : World) : Prop :=
  ∃ cs, e = .returned (.agg cs.toArray) ∧ Below w.heap.size w w' ∧ LtAt (Nw F w.heap.size) w' cs (.mk t.kind t.num t.text t.names (t.kids.set i x))
theorem flat_one {F : Nat → Prop} {w : World} {rs : List (List Value)} {ks : List Tree} (h : LtsAt F w rs ks) : ∀ u ∈ rs.flatten, u.oneCell' = true := by
  intro u hu
  obtain ⟨r, hr, hu⟩ := List.mem_flatten.1 hu
  obtain ⟨i, hi, rfl⟩ := List.getElem_of_mem hr
  obtain ⟨r', hr', hk⟩ := h.get i (ks[i]'(by rw [← h.length]; exact hi)) (by simp)
  have e : rs[i] = r' := by rw [List.getElem?_eq_getElem hi] at hr'; injection hr'
  rw [e] at hu
  obtain ⟨A1, c1, A2, c2, rs', rfl, _⟩ := hk.open
  simp at hu
  rcases hu with rfl | rfl | rfl | rfl | rfl <;> rfl
theorem with_facts {w w1 w2 : World} {A3 : Option Addr} {n c3 : Nat} {xs : List Value} {ov ox orr : Obj} (hs : w1.heap.size = w.heap.size + 1 + 1 + 1) (ho : w2.ownsRow (w.heap.size + 1 + 1 + 1) 44 5 (.slice A3 (0 + n) c3) (0 + n) ([] ++ xs))
    (hg : (w1.alloc (.cells #[] 44 (0, 0))).grownBy w2 (Value.slice (some ⟨w.heap.size + 1 + 1 + 1, 0, none⟩) 0 0).ownBlock) (hn : 0 < n) (hb : Below w1.heap.size w1 (w1.alloc (.cells #[] 44 (0, 0)))) (hb1 : Below w.heap.size w w1)
    (hkv : w1.heap[w.heap.size]? = some ov) (hkx : w1.heap[w.heap.size + 1]? = some ox) (hkr : w1.heap[w.heap.size + 1 + 1]? = some orr) :
    ∃ g, A3 = some ⟨g, 0, none⟩ ∧ w.heap.size + 1 + 1 + 1 ≤ g ∧ g < w2.heap.size ∧ Below w.heap.size w w2 ∧ Hid (w2.ownsRow (w.heap.size + 1 + 1 + 1) 44 5 (.slice (some ⟨g, 0, none⟩) n c3) n xs) ∧ w2.heap[w.heap.size]? = some ov ∧ w2.heap[w.heap.size + 1]? = some ox ∧ w2.heap[w.heap.size + 1 + 1]? = some orr := by
  rw [Nat.zero_add, List.nil_append] at ho
  have hsa : (w1.alloc (.cells #[] 44 (0, 0))).heap.size = w1.heap.size + 1 := by simp
  have hk : ∀ b o, b < w.heap.size + 1 + 1 + 1 → w1.heap[b]? = some o → w2.heap[b]? = some o := fun b o hb' h => by
    rw [hg.block b (by omega) (by simp [Value.ownBlock]; omega), Go.heap_alloc_old w1 _ (by omega)]
    exact h
  have hbw : Below w.heap.size w w2 := (below_then hb1 hb1.size hb).grown hg (by omega) (fun k hk => by simp [Value.ownBlock] at hk; omega)
  rcases ho.2 with ⟨e, h0⟩ | ⟨g, cap, cur, e, hgb, hgk, r⟩
  · omega
  · injection e with e1 _ e3
    subst e1 e3
    exact ⟨g, rfl, hgb, lt_of_block hgk, hbw, Lib.hid ho, hk _ _ (by omega) hkv, hk _ _ (by omega) hkx, hk _ _ (by omega) hkr⟩
theorem with_cell {w2 : World} {B n c3 g i : Nat} {xs : List Value} (ho : Hid (w2.ownsRow B 44 5 (.slice (some ⟨g, 0, none⟩) n c3) n xs)) (hl : xs.length = n * 5) (hi : i < n) (j : Nat) (hj : j < 5) : ∃ v, w2.cell? ⟨g, i * 5 + j, none⟩ = some v ∧ w2.frozen? ⟨g, i * 5 + j, none⟩ = false := by
  have hp : xs[i * 5 + j]? = some xs[i * 5 + j] := by rw [List.getElem?_eq_getElem]
  have hc := ho.out.cells (g := g) rfl (i * 5 + j) _ hp
  rw [Addr.add_lit, Nat.zero_add] at hc
  rcases ho.out.2 with ⟨_, h0⟩ | ⟨g', cap, cur, e, hb, hk, _⟩
  · omega
  · injection e with e1
    injection e1 with e1
    injection e1 with e1
    subst e1
    exact ⟨_, hc, free_of_block hk _⟩
theorem own_blk {w : World} {B n c g sz : Nat} {e : TypeId} {xs : List Value} (ho : w.ownsRow B e sz (.slice (some ⟨g, 0, none⟩) n c) n xs) : ∃ cur, B ≤ g ∧ w.heap[g]? = some (.cells cur e (0, 0)) ∧ n ≤ c ∧ c ≤ maxLen ∧ cur.size = c * sz ∧ cur.toList.take (n * sz) = xs := by
  rcases ho.2 with ⟨h, _⟩ | ⟨g', cap, cur, h, hb, hk, hnc, hcm, hcs, htk⟩
  · simp at h
  · simp only [Value.slice.injEq, Option.some.injEq, Addr.mk.injEq] at h
    obtain ⟨⟨rfl, _⟩, _, rfl⟩ := h
    exact ⟨cur, hb, hk, hnc, hcm, hcs, htk⟩
theorem LtAt.names {F : Nat → Prop} {w : World} {a b c : Value} {A1 A2 : Option Addr} {n m c1 c2 : Nat} {t : Tree} (h : LtAt F w [a, b, c, .slice A1 n c1, .slice A2 m c2] t) : t.names.length ≤ c1 ∧ Rds F w A1 (strs t.names) := by
  obtain ⟨A1', c1', A2', c2', rs', e, g3, g4, q3, q4, _⟩ := h.open
  simp at e
  obtain ⟨_, _, _, ⟨rfl, _, rfl⟩, _⟩ := e
  exact ⟨g3, q3⟩
theorem own_set5 {w2 : World} {B n c3 g i : Nat} {xs : List Value} (ho : w2.ownsRow B 44 5 (.slice (some ⟨g, 0, none⟩) n c3) n xs) (hl : xs.length = n * 5) (hi : i < n) (u0 u1 u2 u3 u4 : Value) :
    (((((w2.setCell ⟨g, i * 5, none⟩ u0).setCell ⟨g, i * 5 + 1, none⟩ u1).setCell ⟨g, i * 5 + 2, none⟩ u2).setCell ⟨g, i * 5 + 3, none⟩ u3).setCell ⟨g, i * 5 + 4, none⟩ u4).ownsRow B 44 5 (.slice (some ⟨g, 0, none⟩) n c3) n (xs.take (i * 5) ++ [u0, u1, u2, u3, u4] ++ xs.drop (i * 5 + 5)) := by
  rw [← set5_eq xs (i * 5) u0 u1 u2 u3 u4 (by omega)]
  obtain ⟨cur, hb, hk, hnc, hcm, hcs, htk⟩ := own_blk ho
  have h0 := block_setCell hk (i * 5) u0
  have h1 := block_setCell h0 (i * 5 + 1) u1
  have h2 := block_setCell h1 (i * 5 + 2) u2
  have h3 := block_setCell h2 (i * 5 + 3) u3
  have h4 := block_setCell h3 (i * 5 + 4) u4
  have hlen := ho.1
  have hsz : (((((cur.setIfInBounds (i * 5) u0).setIfInBounds (i * 5 + 1) u1).setIfInBounds (i * 5 + 2) u2).setIfInBounds (i * 5 + 3) u3).setIfInBounds (i * 5 + 4) u4).size = c3 * 5 := by simp only [Array.size_setIfInBounds]; exact hcs
  have htk' : (((((cur.setIfInBounds (i * 5) u0).setIfInBounds (i * 5 + 1) u1).setIfInBounds (i * 5 + 2) u2).setIfInBounds (i * 5 + 3) u3).setIfInBounds (i * 5 + 4) u4).toList.take (n * 5) = ((((xs.set (i * 5) u0).set (i * 5 + 1) u1).set (i * 5 + 2) u2).set (i * 5 + 3) u3).set (i * 5 + 4) u4 := by
    simp only [Array.toList_setIfInBounds, List.take_set, htk]
  exact ⟨by simp only [List.length_set]; exact hlen, .inr ⟨g, c3, _, rfl, hb, h4, hnc, hcm, hsz, htk'⟩⟩
theorem with_fin {F : Nat → Prop} {t x : Tree} {i g c1 c3 d1 d2 : Nat} {A1 A2 B1 B2 : Option Addr} {c2 : Nat} {w w2 : World} {rs : List (List Value)} {r0 r1 r2 r3 r4 : Value} (ho : Hid (w2.ownsRow (w.heap.size + 1 + 1 + 1) 44 5 (.slice (some ⟨g, 0, none⟩) t.kids.length c3) t.kids.length rs.flatten)) (hl : rs.flatten.length = t.kids.length * 5) (hts : LtsAt F w rs t.kids) (hi : i < t.kids.length)
    (ht : LtAt F w [.int .i64 t.kind, .int .i64 t.num, .string t.text, .slice A1 t.names.length c1, .slice A2 t.kids.length c2] t) (hx : LtAt F w [.int .i64 x.kind, .int .i64 x.num, .string x.text, .slice B1 x.names.length d1, .slice B2 x.kids.length d2] x)
    (hb : Below w.heap.size w w2) (hg : w.heap.size + 1 + 1 + 1 ≤ g) (hc : t.kids.length ≤ c3) :
    WithPost F t i x w (.returned (.agg #[.int .i64 t.kind, .int .i64 t.num, .string t.text, .slice A1 t.names.length c1, .slice (some ⟨g, 0, none⟩) t.kids.length c3]))
      (((((((((((w2.setCell ⟨w.heap.size, 4, none⟩ (.slice (some ⟨g, 0, none⟩) t.kids.length c3)).setCell ⟨g, i * 5, none⟩ (.int .i64 x.kind)).setCell ⟨g, i * 5 + 1, none⟩ (.int .i64 x.num)).setCell ⟨g, i * 5 + 2, none⟩ (.string x.text)).setCell ⟨g, i * 5 + 3, none⟩ (.slice B1 x.names.length d1)).setCell ⟨g, i * 5 + 4, none⟩ (.slice B2 x.kids.length d2)).setCell ⟨w.heap.size + 1 + 1, 0, none⟩ r0).setCell ⟨w.heap.size + 1 + 1, 1, none⟩ r1).setCell ⟨w.heap.size + 1 + 1, 2, none⟩ r2).setCell ⟨w.heap.size + 1 + 1, 3, none⟩ r3).setCell ⟨w.heap.size + 1 + 1, 4, none⟩ r4) := by
  obtain ⟨g3, q3⟩ := ht.names
  have hO0 := own_agree (F := fun b => b ≠ w.heap.size) ho.out (Agree.of_setCell w2 ⟨w.heap.size, 4, none⟩ (.slice (some ⟨g, 0, none⟩) t.kids.length c3) (fun b h => h)) (fun k hk e => by have := (own_base ho.out k hk).1; omega)
  have hO := own_set5 hO0 hl hi (.int .i64 x.kind) (.int .i64 x.num) (.string x.text) (.slice B1 x.names.length d1) (.slice B2 x.kids.length d2)
  rw [← flatten_set rs hts.sizes i (by rw [hts.length]; exact hi)] at hO
  have hleV : w.heap.size ≤ (⟨w.heap.size, 4, none⟩ : Addr).block := Nat.le_refl _
  have hleG : ∀ j, w.heap.size ≤ (⟨g, j, none⟩ : Addr).block := fun j => by show w.heap.size ≤ g; omega
  have hleR : ∀ j, w.heap.size ≤ (⟨w.heap.size + 1 + 1, j, none⟩ : Addr).block := fun j => by show w.heap.size ≤ w.heap.size + 1 + 1; omega
  have hB := ((((((((((hb.setCell hleV (.slice (some ⟨g, 0, none⟩) t.kids.length c3)).setCell (hleG (i * 5)) (.int .i64 x.kind)).setCell (hleG (i * 5 + 1)) (.int .i64 x.num)).setCell (hleG (i * 5 + 2)) (.string x.text)).setCell (hleG (i * 5 + 3)) (.slice B1 x.names.length d1)).setCell (hleG (i * 5 + 4)) (.slice B2 x.kids.length d2)).setCell (hleR 0) r0).setCell (hleR 1) r1).setCell (hleR 2) r2).setCell (hleR 3) r3).setCell (hleR 4) r4
  have hne : ∀ c, w.heap.size + 1 + 1 + 1 ≤ c → c ≠ w.heap.size + 1 + 1 := fun c h => by omega
  have hR := (Rds.of_own hO).frame ((((((Agree.refl (fun b => w.heap.size + 1 + 1 + 1 ≤ b) _).set hne 0 r0).set hne 1 r1).set hne 2 r2).set hne 3 r3).set hne 4 r4)
  refine ⟨_, rfl, hB, ?_⟩
  have hkeep : ∀ b, F b → b < w.heap.size → Nw F w.heap.size b := fun b h h' => .inl ⟨h, h'⟩
  have hA : Agree F w _ := Agree.of_below hB
  have hq := (q3.mono (G := fun b => F b ∧ b < w.heap.size) (fun b h hl => ⟨h, hl⟩)).frame (Agree.of_below hB)
  have hk := (hts.set i hx).frame hA hkeep
  simp only [LtAt]
  exact ⟨A1, c1, some ⟨g, 0, none⟩, c3, _, by simp, g3, by simpa using hc, hq.mono (fun b h _ => .inl h), hR.mono (fun b h _ => .inr (by have h' : w.heap.size + 1 + 1 + 1 ≤ b := h; omega)), hk⟩
set_option maxRecDepth 100000 in
set_option maxHeartbeats 2000000 in
theorem sWith_any (t : Tree) (i : Nat) (x : Tree) (hi : i < t.kids.length) (hl : t.kids.length ≤ 1000000) (F : Nat → Prop) (cs xs : List Value) (w : World) (ht : LtAt F w cs t) (hx : LtAt F w xs x) :
    Calls Tryz.prog 49 #[.agg cs.toArray, .int .i64 (i : Int), .agg xs.toArray] w (WithPost F t i x w) := by
  obtain ⟨A1, c1, A2, c2, rs, rfl, g3, g4, r3, r4, hts⟩ := ht.open
  obtain ⟨B1, d1, B2, d2, rx, rfl, x3, x4, q3, q4, htx⟩ := hx.open
  obtain ⟨w1, hw⟩ : ∃ w1, w1 = ((w.alloc (.cells #[.int .i64 t.kind, .int .i64 t.num, .string t.text, .slice A1 t.names.length c1, .slice A2 t.kids.length c2] 44 (0, 0))).alloc (.cells #[.int .i64 x.kind, .int .i64 x.num, .string x.text, .slice B1 x.names.length d1, .slice B2 x.kids.length d2] 44 (0, 0))).alloc (.cells #[.int .i64 0, .int .i64 0, .string ⟨#[]⟩, .slice none 0 0, .slice none 0 0] 44 (0, 0)) := ⟨_, rfl⟩
  have hs1 : w1.heap.size = w.heap.size + 3 := by rw [hw]; simp
  have hb1 : Below w.heap.size w w1 := by rw [hw]; exact (((Below.refl _ _).alloc (Nat.le_refl _) _).alloc (by simp) _).alloc (by simp <;> omega) _
  have hkv : w1.heap[w.heap.size]? = some (.cells #[.int .i64 t.kind, .int .i64 t.num, .string t.text, .slice A1 t.names.length c1, .slice A2 t.kids.length c2] 44 (0, 0)) := by rw [hw]; (repeat (first | with_reducible assumption | (with_reducible refine blk_new _ ?_; (first | rfl | (simp; done) | (simp; omega))) | with_reducible apply block_setCell | (with_reducible refine blk_skip _ _ ?_ ?_; rotate_left; (first | (simp; done) | (simp; omega))) | with_reducible refine blk_old ?_))
  have hkx : w1.heap[w.heap.size + 1]? = some (.cells #[.int .i64 x.kind, .int .i64 x.num, .string x.text, .slice B1 x.names.length d1, .slice B2 x.kids.length d2] 44 (0, 0)) := by rw [hw]; (repeat (first | with_reducible assumption | (with_reducible refine blk_new _ ?_; (first | rfl | (simp; done) | (simp; omega))) | with_reducible apply block_setCell | (with_reducible refine blk_skip _ _ ?_ ?_; rotate_left; (first | (simp; done) | (simp; omega))) | with_reducible refine blk_old ?_))
  have hkr : w1.heap[w.heap.size + 1 + 1]? = some (.cells #[.int .i64 0, .int .i64 0, .string ⟨#[]⟩, .slice none 0 0, .slice none 0 0] 44 (0, 0)) := by rw [hw]; (repeat (first | with_reducible assumption | (with_reducible refine blk_new _ ?_; (first | rfl | (simp; done) | (simp; omega))) | with_reducible apply block_setCell | (with_reducible refine blk_skip _ _ ?_ ?_; rotate_left; (first | (simp; done) | (simp; omega))) | with_reducible refine blk_old ?_))
  have HT := Lib.hid ht
  have HX := Lib.hid hx
  have HB1 := Lib.hid hb1
  have HKV := Lib.hid hkv
  have HKX := Lib.hid hkx
  have HKR := Lib.hid hkr
  have HFL := Lib.hid (flat_one hts)
  have hfl : rs.flatten.length = t.kids.length * 5 := by rw [flatten_len rs hts.sizes, hts.length]
  have HLEN := Lib.hid hfl
  have R4 := Lib.hid (r4.frame (Agree.of_below hb1))
  have HTS := Lib.hid hts
  have hs1' : w1.heap.size = w.heap.size + 1 + 1 + 1 := hs1
  have hown : (w1.alloc (.cells #[] 44 (0, 0))).ownsRow (w.heap.size + 1 + 1 + 1) 44 5 (.slice (some ⟨w.heap.size + 1 + 1 + 1, 0, none⟩) 0 0) 0 [] := by
    have h := own_empty w1 44 5
    rw [hs1'] at h
    exact h
  have HOWN := Lib.hid hown
  have HW := Lib.hid hw
  have HBN := Lib.hid (show Below w1.heap.size w1 (w1.alloc (.cells #[] 44 (0, 0))) from (Below.refl _ _).alloc (Nat.le_refl _) _)
  clear ht hx r3 r4 hts q3 q4 htx hb1 hkv hkx hkr hfl hown hw
  go_enter Tryz.func49, Tryz.ntmps49
  go_wp2_with (at_builtin; rw [← HW.out]; refine append_rows (w.heap.size + 1 + 1 + 1) rfl (.tmp 7) (.tmp 9) 42 44 _ 5 80 rfl Tryz.underlying42 infoL1V rfl (by decide) (.slice (some ⟨w.heap.size + 1 + 1 + 1, 0, none⟩) 0 0) 0 [] rfl HOWN.out A2 t.kids.length c2 rs.flatten rfl HLEN.out (R4.out.frame (Agree.of_below (HBN.out))) HFL.out (by simp only [maxLen]; omega) (by omega) (by simp; omega) ?_; intro A3 c3 w2 hc3 ho3 hg3 hat3; obtain ⟨g, rfl, hgb, hgl, hbl2, HO3, k2, x2, r2⟩ := with_facts hs1' ho3 hg3 (by omega) HBN.out HB1.out HKV.out HKX.out HKR.out; obtain ⟨u0, q0, f0⟩ := with_cell HO3 HLEN.out hi 0 (by omega); rw [Nat.add_zero] at q0 f0; obtain ⟨u1, q1, f1⟩ := with_cell HO3 HLEN.out hi 1 (by omega); obtain ⟨u2, q2, f2⟩ := with_cell HO3 HLEN.out hi 2 (by omega); obtain ⟨u3, q3, f3⟩ := with_cell HO3 HLEN.out hi 3 (by omega); obtain ⟨u4, q4, f4⟩ := with_cell HO3 HLEN.out hi 4 (by omega); have v0 := cell_of_block k2 0; have v1 := cell_of_block k2 1; have v2 := cell_of_block k2 2; have v3 := cell_of_block k2 3; have v4 := cell_of_block k2 4; have fv4 := free_of_block k2 4;have rr0 := cell_of_block r2 0; have fr0 := free_of_block r2 0; have rr1 := cell_of_block r2 1; have fr1 := free_of_block r2 1; have rr2 := cell_of_block r2 2; have fr2 := free_of_block r2 2; have rr3 := cell_of_block r2 3; have fr3 := free_of_block r2 3; have rr4 := cell_of_block r2 4; have fr4 := free_of_block r2 4; have y0 := cell_of_block x2 0; have y1 := cell_of_block x2 1; have y2 := cell_of_block x2 2; have y3 := cell_of_block x2 3; have y4 := cell_of_block x2 4; have gn1 : ¬ g = w.heap.size := (by omega); have gn2 : ¬ w.heap.size = g := (by omega); have gn3 : ¬ g = w.heap.size + 1 := (by omega); have gn4 : ¬ w.heap.size + 1 = g := (by omega); simp at v0 v1 v2 v3 v4 y0 y1 y2 y3 y4 rr0 rr1 rr2 rr3 rr4; have HK2 := Lib.hid k2; have HX2 := Lib.hid x2; have HR2 := Lib.hid r2; clear ho3 hat3 hg3 k2 x2 r2)
  refine bodyPost_ret (results_cell_row rfl _ _ (w.heap.size + 1 + 1) _ _ _ _ rfl (block_setCell (block_setCell (block_setCell (block_setCell (block_setCell ((Below.heap_setCell _ _ _ _ (by simp; omega)).trans ((Below.heap_setCell _ _ _ _ (by simp; omega)).trans ((Below.heap_setCell _ _ _ _ (by simp; omega)).trans ((Below.heap_setCell _ _ _ _ (by simp; omega)).trans ((Below.heap_setCell _ _ _ _ (by simp; omega)).trans ((Below.heap_setCell _ _ _ _ (by simp <;> omega)).trans HR2.out)))))) _ _) _ _) _ _) _ _) _ _) Tryz.underlying44 rfl ((info_size infoL1V).trans (by simp))) rfl ?_
  exact with_fin HO3 HLEN.out HTS.out hi HT.out HX.out hbl2 hgb (by omega)
end Go.Proofs.YteeppdobeeodiaaGreatDoor
