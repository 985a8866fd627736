/- The reference's l4Join: what it joins is what the plain words say. -/
import Derived.Test.YteeppdobeeodiaaGreatDoorSp7
import Derived.Test.YteeppdobeeodiaaGreatDoorJn10
import Derived.Deep.RegionHeld3
namespace Go.Proofs.YteeppdobeeodiaaGreatDoor
open Go.RowKit
/-- The blocks that the value of l4Join may lie in: those of F, and new ones, but not the call's own three. -/
def Nx (F : Nat → Prop) (B : Nat) : Nat → Prop := fun b => F b ∧ b < B ∨ B + 3 ≤ b
def zeroV : List Value := [.int .i64 0, .int .i64 0, .string ⟨#[]⟩, .slice none 0 0, .slice none 0 0]
def SJOpt (F : Nat → Prop) (w : World) (cs : List Value) (f : Bool) : Option Tree → Prop
  | some t => f = true ∧ LtAt F w cs t
  | none => f = false ∧ cs = zeroV
def SJoinPost (F : Nat → Prop) (p q : Tree) (w : World) (e : Ending) (w' : World) : Prop :=
  ∃ cs f, e = .returned (.tuple #[.agg cs.toArray, .bool f]) ∧ Below w.heap.size w w' ∧ SJOpt (Nw F w.heap.size) w' cs f (Tree.join p q)
def SJoinSpec (q : Tree) : Prop := q.ok = true → ∀ (p : Tree) (F : Nat → Prop) (pc qc : List Value) (w : World), p.ok = true → p.count + q.count ≤ 1000000 → LtAt F w pc p → LtAt F w qc q → Calls Tryz.prog 24 #[.agg pc.toArray, .agg qc.toArray] w (SJoinPost F p q w)
structure SJInv (F : Nat → Prop) (p q : Tree) (w wx : World) (i : Nat) (pcs : List Value) (pn : List ByteArray) (pk : List Tree) (qo ro : Obj) : Prop where
  cell : wx.heap[w.heap.size]? = some (.cells pcs.toArray 44 (0, 0))
  lt : LtAt (Nx F w.heap.size) wx pcs (.mk 7 0 emptyB pn pk)
  ok : MapOK pn pk
  eq : Tree.joinL p.names p.kids q.names q.kids = Tree.joinL pn pk (q.names.drop i) (q.kids.drop i)
  cnt : Tree.countL pk + Tree.countL (q.kids.drop i) ≤ Tree.countL p.kids + Tree.countL q.kids
  bel : Below w.heap.size w wx
  size : w.heap.size + 3 ≤ wx.heap.size
  qb : wx.heap[w.heap.size + 1]? = some qo
  rb : wx.heap[w.heap.size + 1 + 1]? = some ro
theorem below_set5 {B g : Nat} {w wx : World} (h : Below B w wx) (hg : B ≤ g) (v0 v1 v2 v3 v4 : Value) : Below B w (((((wx.setCell ⟨g, 0, none⟩ v0).setCell ⟨g, 1, none⟩ v1).setCell ⟨g, 2, none⟩ v2).setCell ⟨g, 3, none⟩ v3).setCell ⟨g, 4, none⟩ v4) := by
  have hle : ∀ j, B ≤ (⟨g, j, none⟩ : Addr).block := fun j => hg
  exact ((((h.setCell (hle 0) v0).setCell (hle 1) v1).setCell (hle 2) v2).setCell (hle 3) v3).setCell (hle 4) v4
theorem LtAt.drawn {F : Nat → Prop} {w : World} {cs : List Value} {t : Tree} (h : LtAt F w cs t) : LtAt F w.drew cs t := h.frame (w := w) (w1 := w.drew) ⟨Nat.le_refl _, fun _ _ _ => rfl⟩ (fun _ h _ => h)
theorem five_of : ∀ (l : List Value), l.length = 5 → ∃ x0 x1 x2 x3 x4, l = [x0, x1, x2, x3, x4]
  | [x0, x1, x2, x3, x4], _ => ⟨x0, x1, x2, x3, x4, rfl⟩
theorem SJOpt.shape {F : Nat → Prop} {w : World} {cs : List Value} {f : Bool} : ∀ {o : Option Tree}, SJOpt F w cs f o → ∃ zk zn zt Z1 l1 g1 Z2 l2 g2, cs = [.int .i64 zk, .int .i64 zn, .string zt, .slice Z1 l1 g1, .slice Z2 l2 g2]
  | some t, h => by
    obtain ⟨Z1, g1, Z2, g2, rs, e, _⟩ := h.2.open
    exact ⟨_, _, _, _, _, _, _, _, _, e⟩
  | none, h => ⟨_, _, _, _, _, _, _, _, _, h.2⟩
theorem SJoinPost.shape {F : Nat → Prop} {p q : Tree} {w0 w : World} {fi : FuncId} {args : Array Value} (hb : Below w0.heap.size w0 w) (h : Calls Tryz.prog fi args w (SJoinPost F p q w)) :
    Calls Tryz.prog fi args w (fun e w' => ∃ zk zn zt Z1 l1 g1 Z2 l2 g2 f, e = .returned (.tuple #[.agg #[.int .i64 zk, .int .i64 zn, .string zt, .slice Z1 l1 g1, .slice Z2 l2 g2], .bool f]) ∧ Below w.heap.size w w' ∧ Below w0.heap.size w0 w' ∧ SJOpt (Nw F w.heap.size) w' [.int .i64 zk, .int .i64 zn, .string zt, .slice Z1 l1 g1, .slice Z2 l2 g2] f (Tree.join p q)) := by
  refine h.mono ?_
  rintro e w' ⟨cs, f, rfl, hb', ho⟩
  obtain ⟨zk, zn, zt, Z1, l1, g1, Z2, l2, g2, rfl⟩ := ho.shape
  exact ⟨zk, zn, zt, Z1, l1, g1, Z2, l2, g2, f, rfl, hb', below_then hb hb.size hb', ho⟩
/-- The memory behind 'x, ok := l4Join(..)'. -/
def JCut (F : Nat → Prop) (w w3 : World) (y x : Tree) (v9 v10 : Value) (wx : World) : Prop := ∃ gx cs f, v9 = .pointer (some ⟨gx, 0, none⟩) ∧ v10 = .bool f ∧ w3.heap.size ≤ gx ∧ wx.heap[gx]? = some (.cells cs.toArray 44 (0, 0)) ∧ Below w3.heap.size w3 wx ∧ SJOpt (Nx F w.heap.size) wx cs f (Tree.join y x)
theorem SJOpt.frame {F G : Nat → Prop} {w w1 : World} {cs : List Value} {f : Bool} (hb : Agree F w w1) (hG : ∀ b, F b → b < w.heap.size → G b) : ∀ {o : Option Tree}, SJOpt F w cs f o → SJOpt G w1 cs f o
  | some _, h => ⟨h.1, h.2.frame hb hG⟩
  | none, h => h
theorem jcut1 {F : Nat → Prop} {w w3 w4 : World} {y x : Tree} {f : Bool} {a0 a1 a2 a3 a4 : Value} (hs : w.heap.size + 3 ≤ w3.heap.size) (hb : Below w3.heap.size w3 w4) (ho : SJOpt (Nw (fun b => Nx F w.heap.size b ∧ b < w3.heap.size) w3.heap.size) w4 [a0, a1, a2, a3, a4] f (Tree.join y x)) :
    JCut F w w3 y x (.pointer (some ⟨w4.heap.size, 0, none⟩)) (.bool f) (w4.alloc (.cells #[a0, a1, a2, a3, a4] 44 (0, 0))) := by
  refine ⟨w4.heap.size, [a0, a1, a2, a3, a4], f, rfl, rfl, hb.size, heap_alloc_new _ _, hb.alloc hb.size _, ho.frame (Agree.of_below ((Below.refl _ _).alloc (Nat.le_refl _) _)) (fun b h _ => ?_)⟩
  rcases h with h | h
  · exact h.1.1
  · exact .inr (by omega)
theorem jcut2 {F : Nat → Prop} {w w3 w4 : World} {y x : Tree} {f : Bool} {a0 a1 a2 a3 a4 z0 z1 z2 z3 z4 : Value} {N : Nat} (hs : w.heap.size + 3 ≤ w3.heap.size) (hz : w4.heap[w3.heap.size]? = some (.cells #[z0, z1, z2, z3, z4] 44 (0, 0))) (hb : Below w3.heap.size w3 w4)
    (ho : SJOpt (Nw (fun b => Nx F w.heap.size b ∧ b < w3.heap.size) N) w4 [a0, a1, a2, a3, a4] f (Tree.join y x)) (hN : N = w3.heap.size + 1) :
    JCut F w w3 y x (.pointer (some ⟨w3.heap.size, 0, none⟩)) (.bool f) (((((w4.setCell ⟨w3.heap.size, 0, none⟩ a0).setCell ⟨w3.heap.size, 1, none⟩ a1).setCell ⟨w3.heap.size, 2, none⟩ a2).setCell ⟨w3.heap.size, 3, none⟩ a3).setCell ⟨w3.heap.size, 4, none⟩ a4) := by
  subst hN
  have h5 := block_setCell (block_setCell (block_setCell (block_setCell (block_setCell hz 0 a0) 1 a1) 2 a2) 3 a3) 4 a4
  have hne : ∀ c, Nw (fun b => Nx F w.heap.size b ∧ b < w3.heap.size) (w3.heap.size + 1) c → c ≠ w3.heap.size := fun c h => by
    rcases h with h | h
    · have := h.1.2; omega
    · omega
  refine ⟨w3.heap.size, [a0, a1, a2, a3, a4], f, rfl, rfl, Nat.le_refl _, h5, below_set5 hb (Nat.le_refl _) _ _ _ _ _, ho.frame ((((((Agree.refl _ w4).set hne 0 a0).set hne 1 a1).set hne 2 a2).set hne 3 a3).set hne 4 a4) (fun b h _ => ?_)⟩
  rcases h with h | h
  · exact h.1.1
  · exact .inr (by omega)
section
variable {F : Nat → Prop} {p q : Tree} {w wx w4 : World} {i : Nat} {pcs : List Value} {pn : List ByteArray} {pk : List Tree} {qo ro : Obj}
theorem SJInv.below (h : SJInv F p q w wx i pcs pn pk qo ro) (hb : Below wx.heap.size wx w4) : SJInv F p q w w4 i pcs pn pk qo ro :=
  ⟨block_below h.cell hb, h.lt.below hb, h.ok, h.eq, h.cnt, below_then h.bel h.bel.size hb, Nat.le_trans h.size hb.size, block_below h.qb hb, block_below h.rb hb⟩
theorem SJInv.store (h : SJInv F p q w wx i pcs pn pk qo ro) {i' : Nat} {pn' : List ByteArray} {pk' : List Tree} {a0 a1 a2 a3 a4 : Value} (hb : Below wx.heap.size wx w4) (ht : LtAt (Nx F w.heap.size) w4 [a0, a1, a2, a3, a4] (.mk 7 0 emptyB pn' pk')) (hok : MapOK pn' pk')
    (heq : Tree.joinL p.names p.kids q.names q.kids = Tree.joinL pn' pk' (q.names.drop i') (q.kids.drop i')) (hcnt : Tree.countL pk' + Tree.countL (q.kids.drop i') ≤ Tree.countL p.kids + Tree.countL q.kids) (hl : pcs.length = 5) :
    SJInv F p q w (((((w4.setCell ⟨w.heap.size, 0, none⟩ a0).setCell ⟨w.heap.size, 1, none⟩ a1).setCell ⟨w.heap.size, 2, none⟩ a2).setCell ⟨w.heap.size, 3, none⟩ a3).setCell ⟨w.heap.size, 4, none⟩ a4) i' [a0, a1, a2, a3, a4] pn' pk' qo ro := by
  have hc := block_below h.cell hb
  have h5 := block_setCell (block_setCell (block_setCell (block_setCell (block_setCell hc 0 a0) 1 a1) 2 a2) 3 a3) 4 a4
  have hle : ∀ j, w.heap.size ≤ (⟨w.heap.size, j, none⟩ : Addr).block := fun j => Nat.le_refl _
  have hbel := ((((((below_then h.bel h.bel.size hb).setCell (hle 0) a0).setCell (hle 1) a1).setCell (hle 2) a2).setCell (hle 3) a3).setCell (hle 4) a4)
  have hA : ∀ G : Nat → Prop, (∀ c, G c → c ≠ w.heap.size) → Agree G w4 (((((w4.setCell ⟨w.heap.size, 0, none⟩ a0).setCell ⟨w.heap.size, 1, none⟩ a1).setCell ⟨w.heap.size, 2, none⟩ a2).setCell ⟨w.heap.size, 3, none⟩ a3).setCell ⟨w.heap.size, 4, none⟩ a4) :=
    fun G hG => (((((Agree.refl G w4).set hG 0 a0).set hG 1 a1).set hG 2 a2).set hG 3 a3).set hG 4 a4
  have hs4 := hb.size
  have hs := h.size
  refine ⟨?_, ht.frame (hA _ (fun c hc e => ?_)) (fun _ h _ => h), hok, heq, hcnt, hbel, ?_, ?_, ?_⟩
  · rw [h5]
    obtain ⟨x0, x1, x2, x3, x4, e5⟩ := five_of pcs hl
    rw [e5]
    rfl
  · subst e
    rcases hc with ⟨_, hc⟩ | hc <;> omega
  · have e := (hA (fun _ => False) (fun c h => h.elim)).size
    omega
  · exact block_agree (block_below h.qb hb) (hA (fun c => c ≠ w.heap.size) (fun _ h => h)) (by omega)
  · exact block_agree (block_below h.rb hb) (hA (fun c => c ≠ w.heap.size) (fun _ h => h)) (by omega)
theorem SJInv.put {s : ByteArray} {x : Tree} {a0 a1 a2 a3 a4 : Value} {wy : World} (h : SJInv F p q w wx i pcs pn pk qo ro) (hs : q.names[i]? = some s) (hx : q.kids[i]? = some x) (hf : ¬ pn[insPos pn s]? = some s) (hso : strOK s = true) (hxo : x.ok = true) (hb : Below wx.heap.size wx w4)
    (hy : w.heap.size + 3 ≤ wy.heap.size) (ht : LtAt (Nw (Nx F w.heap.size) wy.heap.size) w4 [a0, a1, a2, a3, a4] (.mk 7 0 emptyB (ins (insPos pn s) s pn) (ins (insPos pn s) x pk))) :
    SJInv F p q w (((((w4.setCell ⟨w.heap.size, 0, none⟩ a0).setCell ⟨w.heap.size, 1, none⟩ a1).setCell ⟨w.heap.size, 2, none⟩ a2).setCell ⟨w.heap.size, 3, none⟩ a3).setCell ⟨w.heap.size, 4, none⟩ a4) (i + 1) [a0, a1, a2, a3, a4] (ins (insPos pn s) s pn) (ins (insPos pn s) x pk) qo ro := by
  refine h.store hb (ht.frame (Agree.refl _ _) (fun b hb' _ => ?_)) (h.ok.ins hf hso hxo) ?_ ?_ h.lt.length
  · rcases hb' with hb' | hb'
    · exact hb'.1
    · exact .inr (by omega)
  · rw [h.eq, join_step hs hx, if_neg hf]
  · have h1 := h.cnt
    rw [countL_drop hx] at h1
    rw [countL_ins]
    omega
theorem SJInv.set {s : ByteArray} {x y z : Tree} {a0 a1 a2 a3 a4 : Value} {wy : World} (h : SJInv F p q w wx i pcs pn pk qo ro) (hs : q.names[i]? = some s) (hx : q.kids[i]? = some x) (hf : pn[insPos pn s]? = some s) (hxo : x.ok = true) (hy' : pk[insPos pn s]? = some y) (hj : Tree.join y x = some z) (hb : Below wx.heap.size wx w4)
    (hy : w.heap.size + 3 ≤ wy.heap.size) (ht : LtAt (Nw (Nx F w.heap.size) wy.heap.size) w4 [a0, a1, a2, a3, a4] (.mk 7 0 emptyB pn (pk.set (insPos pn s) z))) :
    SJInv F p q w (((((w4.setCell ⟨w.heap.size, 0, none⟩ a0).setCell ⟨w.heap.size, 1, none⟩ a1).setCell ⟨w.heap.size, 2, none⟩ a2).setCell ⟨w.heap.size, 3, none⟩ a3).setCell ⟨w.heap.size, 4, none⟩ a4) (i + 1) [a0, a1, a2, a3, a4] pn (pk.set (insPos pn s) z) qo ro := by
  have hyo : y.ok = true := (okL_iff pk).1 h.ok.ok y (List.mem_of_getElem? hy')
  obtain ⟨hzo, hzc⟩ := join_ok x y z hyo hxo hj
  refine h.store hb (ht.frame (Agree.refl _ _) (fun b hb' _ => ?_)) (h.ok.set _ hzo) ?_ ?_ h.lt.length
  · rcases hb' with hb' | hb'
    · exact hb'.1
    · exact .inr (by omega)
  · rw [h.eq, join_step hs hx, if_pos hf, hy']
    simp only [hj]
  · have h1 := h.cnt
    rw [countL_drop hx] at h1
    have h2 := countL_set pk (insPos pn s) z y hy'
    omega
end
set_option maxRecDepth 100000 in
set_option maxHeartbeats 16000000 in
theorem sJoin_any : ∀ q, SJoinSpec q := Tree.ind fun q ih hq p F pc qc w hp hcount htp htq => by
  have HP := Lib.hid htp
  have HQ := Lib.hid htq
  obtain ⟨A1, c1, A2, c2, rs, rfl, g3, g4, r3, r4, hts⟩ := htp.open
  obtain ⟨A1', c1', A2', c2', rs', rfl, g3', g4', r3', r4', hts'⟩ := htq.open
  obtain ⟨w1, hw⟩ : ∃ w1, w1 = ((w.alloc (.cells #[.int .i64 p.kind, .int .i64 p.num, .string p.text, .slice A1 p.names.length c1, .slice A2 p.kids.length c2] 44 (0, 0))).alloc (.cells #[.int .i64 q.kind, .int .i64 q.num, .string q.text, .slice A1' q.names.length c1', .slice A2' q.kids.length c2'] 44 (0, 0))).alloc (.cells #[.int .i64 0, .int .i64 0, .string ⟨#[]⟩, .slice none 0 0, .slice none 0 0] 44 (0, 0)) := ⟨_, rfl⟩
  have hs1 : w1.heap.size = w.heap.size + 3 := by rw [hw]; simp
  have hb1 : Below w.heap.size w w1 := by rw [hw]; exact (((Below.refl _ _).alloc (Nat.le_refl _) _).alloc (by simp) _).alloc (by simp <;> omega) _
  have hkp : w1.heap[w.heap.size]? = some (.cells #[.int .i64 p.kind, .int .i64 p.num, .string p.text, .slice A1 p.names.length c1, .slice A2 p.kids.length c2] 44 (0, 0)) := by rw [hw]; (repeat (first | with_reducible assumption | (with_reducible refine blk_new _ ?_; (first | rfl | (simp; done) | (simp; omega))) | with_reducible apply block_setCell | (with_reducible refine blk_skip _ _ ?_ ?_; rotate_left; (first | (simp; done) | (simp; omega))) | with_reducible refine blk_old ?_))
  have hkq : w1.heap[w.heap.size + 1]? = some (.cells #[.int .i64 q.kind, .int .i64 q.num, .string q.text, .slice A1' q.names.length c1', .slice A2' q.kids.length c2'] 44 (0, 0)) := by rw [hw]; (repeat (first | with_reducible assumption | (with_reducible refine blk_new _ ?_; (first | rfl | (simp; done) | (simp; omega))) | with_reducible apply block_setCell | (with_reducible refine blk_skip _ _ ?_ ?_; rotate_left; (first | (simp; done) | (simp; omega))) | with_reducible refine blk_old ?_))
  have hkr : w1.heap[w.heap.size + 1 + 1]? = some (.cells #[.int .i64 0, .int .i64 0, .string ⟨#[]⟩, .slice none 0 0, .slice none 0 0] 44 (0, 0)) := by rw [hw]; (repeat (first | with_reducible assumption | (with_reducible refine blk_new _ ?_; (first | rfl | (simp; done) | (simp; omega))) | with_reducible apply block_setCell | (with_reducible refine blk_skip _ _ ?_ ?_; rotate_left; (first | (simp; done) | (simp; omega))) | with_reducible refine blk_old ?_))
  have HB1 := Lib.hid hb1
  have HKP := Lib.hid hkp
  have HKQ := Lib.hid hkq
  have HKR := Lib.hid hkr
  have HW := Lib.hid hw
  clear hw hb1 hkp hkq hkr
  have z0 := cell_of_block HKP.out 0
  have q0 := cell_of_block HKQ.out 0
  simp at z0 q0
  have HF0 := Lib.hid (fun j => free_of_block HKR.out j)
  have HR0 := Lib.hid (fun j => cell_of_block HKR.out j)
  go_enter Tryz.func24, Tryz.ntmps24
  go_upto_if 13 with fail
  rw [← HW.out]
  by_cases hqk : q.kind = 7
  case neg =>
    have q1 := cell_of_block HKQ.out 1
    have q2 := cell_of_block HKQ.out 2
    have q3 := cell_of_block HKQ.out 3
    have q4 := cell_of_block HKQ.out 4
    simp at q1 q2 q3 q4
    have f0 := HF0.out 0
    have f1 := HF0.out 1
    have f2 := HF0.out 2
    have f3 := HF0.out 3
    have f4 := HF0.out 4
    have r0 := HR0.out 0
    have r1 := HR0.out 1
    have r2 := HR0.out 2
    have r3 := HR0.out 3
    have r4 := HR0.out 4
    simp at r0 r1 r2 r3 r4
    go_wp2
    refine bodyPost_ret (results_row_one rfl _ _ (w.heap.size + 1 + 1) _ _ _ _ rfl (block_setCell (block_setCell (block_setCell (block_setCell (block_setCell HKR.out _ _) _ _) _ _) _ _) _ _) Tryz.underlying44 rfl ((info_size infoL1V).trans (by simp))) rfl ?_
    have hB := below_set5 HB1.out (show w.heap.size ≤ w.heap.size + 1 + 1 by omega) (.int .i64 q.kind) (.int .i64 q.num) (.string q.text) (.slice A1' q.names.length c1') (.slice A2' q.kids.length c2')
    refine ⟨_, _, rfl, hB, ?_⟩
    have e : Tree.join p q = some q := by rw [join_eq, if_neg hqk]
    rw [e]
    exact ⟨rfl, HQ.out.frame (Agree.of_below hB) (fun b h h' => .inl ⟨h, h'⟩)⟩
  have HQK := Lib.hid hqk
  by_cases hpk : p.kind = 7
  case neg =>
    rw [hqk] at q0
    have f0 := HF0.out 0
    have f1 := HF0.out 1
    have f2 := HF0.out 2
    have f3 := HF0.out 3
    have f4 := HF0.out 4
    have r0 := HR0.out 0
    have r1 := HR0.out 1
    have r2 := HR0.out 2
    have r3 := HR0.out 3
    have r4 := HR0.out 4
    simp at r0 r1 r2 r3 r4
    rw [hqk]
    clear hqk
    go_wp2
    refine bodyPost_ret (results_row_one rfl _ _ (w.heap.size + 1 + 1) _ _ _ _ rfl (block_setCell (block_setCell (block_setCell (block_setCell (block_setCell HKR.out _ _) _ _) _ _) _ _) _ _) Tryz.underlying44 rfl ((info_size infoL1V).trans (by simp))) rfl ?_
    have hB := below_set5 HB1.out (show w.heap.size ≤ w.heap.size + 1 + 1 by omega) (.int .i64 0) (.int .i64 0) (.string ⟨#[]⟩) (.slice none 0 0) (.slice none 0 0)
    refine ⟨zeroV, _, rfl, hB, ?_⟩
    have e : Tree.join p q = none := by rw [join_eq, if_pos HQK.out, if_neg hpk]
    rw [e]
    exact ⟨rfl, rfl⟩
  have hmq := Tree.ok_map hq hqk
  have hmp := Tree.ok_map hp hpk
  obtain ⟨hz1, hz2⟩ := map_zero hp hpk
  have hcq := q.count_eq
  have hcp := p.count_eq
  have e0 : Tree.join p q = (Tree.joinL p.names p.kids q.names q.kids).map (fun r => .mk 7 0 emptyB r.1 r.2) := by rw [join_eq, if_pos hqk, if_pos hpk]
  have HE := Lib.hid e0
  have hinv0 : SJInv F p q w w1 0 [.int .i64 p.kind, .int .i64 p.num, .string p.text, .slice A1 p.names.length c1, .slice A2 p.kids.length c2] p.names p.kids (.cells #[.int .i64 q.kind, .int .i64 q.num, .string q.text, .slice A1' q.names.length c1', .slice A2' q.kids.length c2'] 44 (0, 0)) (.cells #[.int .i64 0, .int .i64 0, .string ⟨#[]⟩, .slice none 0 0, .slice none 0 0] 44 (0, 0)) := by
    refine ⟨HKP.out, ?_, hmp, by simp, by simp, HB1.out, by omega, HKQ.out, HKR.out⟩
    have h := HP.out.frame (G := Nx F w.heap.size) (Agree.of_below HB1.out) (fun b h h' => .inl ⟨h, h'⟩)
    have et : p = .mk 7 0 emptyB p.names p.kids := by
      obtain ⟨a, b, c, d, e⟩ := p
      simp at hpk hz1 hz2
      subst hpk hz1 hz2
      rfl
    rw [← et]
    exact h
  have HINV0 := Lib.hid hinv0
  have HMQ := Lib.hid hmq
  have HCC := Lib.hid (show 1 + Tree.countL p.kids + (1 + Tree.countL q.kids) ≤ 1000000 by omega)
  have HIH := Lib.hid ih
  have HR3' := Lib.hid (fun W (hb : Below w.heap.size w W) => r3'.frame (Agree.of_below hb))
  have HR4' := Lib.hid (fun W (hb : Below w.heap.size w W) => r4'.frame (Agree.of_below hb))
  have HTS' := Lib.hid (fun W (hb : Below w.heap.size w W) => hts'.frame (G := fun b => F b ∧ b < w.heap.size) (Agree.of_below hb) (fun _ h h' => ⟨h, h'⟩))
  have q3 := cell_of_block HKQ.out 3
  simp at q3
  rw [hqk] at q0 ⊢
  rw [hpk] at z0
  clear r3 r4 hts htp htq ih r3' r4' hts' e0 hmq hmp hz1 hz2 hcq hcp hqk hpk hq hp hcount hinv0 HKP HP HQ HR0 HF0
  go_wp2
  clear z0 q0 q3
  go_loopw [22] (fun iv wx => ∃ (i : Nat) (pcs : List Value) (pn : List ByteArray) (pk : List Tree), iv = .int .i64 (i : Int) ∧ i ≤ q.names.length ∧ Hid (SJInv F p q w wx i pcs pn pk (.cells #[.int .i64 q.kind, .int .i64 q.num, .string q.text, .slice A1' q.names.length c1', .slice A2' q.kids.length c2'] 44 (0, 0)) (.cells #[.int .i64 0, .int .i64 0, .string ⟨#[]⟩, .slice none 0 0, .slice none 0 0] 44 (0, 0)))) (fun iv _ => q.names.length - (intOf iv).toNat)
  case atStart => exact ⟨0, _, p.names, p.kids, rfl, Nat.zero_le _, HINV0.out⟩
  case round =>
    clear HINV0
    obtain ⟨i, pcs, pn, pk, rfl, hi, hinv⟩ := hrel
    have HI := Lib.hid hinv
    have hbx := HI.out.bel
    have hpl : pn.length ≤ 1000000 ∧ pk.length ≤ 1000000 := by
      have h1 := HI.out.cnt
      have h2 := HCC.out
      have h3 := Tree.kids_le_count pk
      have h4 := HI.out.ok.len
      omega
    have hcond : q.names.length = q.kids.length := HMQ.out.len
    obtain ⟨D1, e1, D2, e2, rp, rfl, _, _, _, hrp, htp⟩ := HI.out.lt.open
    have HRP := Lib.hid hrp
    have HTP := Lib.hid htp
    have p0 := cell_of_block HI.out.cell 0
    have p1 := cell_of_block HI.out.cell 1
    have p2 := cell_of_block HI.out.cell 2
    have p3 := cell_of_block HI.out.cell 3
    have p4 := cell_of_block HI.out.cell 4
    simp at p0 p1 p2 p3 p4
    clear hrp htp hinv
    by_cases hlt : i < q.names.length
    · obtain ⟨bn, on, s, rfl, hnl, n0, hs, hsm⟩ := name_at (HR3'.out _ hbx) i hlt
      obtain ⟨bk, ok, r, x, E1, f1, E2, f2, rfl, hFk, hkl, hx, hxm, hri, rfl, hxt, k0, k1, k2, k3, k4⟩ := lt_at (HR4'.out _ hbx) (HTS'.out _ hbx) i (by omega)
      have hltk : i < q.kids.length := by omega
      have hqn : q.names.length ≤ 1000000 := by have h1 := HCC.out; have h2 := Tree.kids_le_count q.kids; omega
      have HSS := Lib.hid hs
      have HSX := Lib.hid hx
      have HXT := Lib.hid hxt
      have HXM := Lib.hid hxm
      have HSOK := Lib.hid (show strOK s = true by have := HMQ.out.str; rw [List.all_eq_true] at this; exact this s hsm)
      have HXOK := Lib.hid (show x.ok = true from (okL_iff q.kids).1 HMQ.out.ok x hxm)
      have HCND := Lib.hid hcond
      have HA := Lib.hid (show Calls Tryz.prog 47 #[.agg #[.int .i64 7, .int .i64 0, .string emptyB, .slice D1 pn.length e1, .slice D2 pk.length e2], .string s] wr (fun e w' => e = .returned (.int .i64 (atP pn s)) ∧ Below wr.heap.size wr w') from sAt_any (.mk 7 0 emptyB pn pk) rfl HI.out.ok hpl.2 (Nx F w.heap.size) _ s wr HI.out.lt)
      have HBK := Lib.hid hkl
      have HK0 := Lib.hid k0
      have HK1 := Lib.hid k1
      have HK2 := Lib.hid k2
      have HK3 := Lib.hid k3
      have HK4 := Lib.hid k4
      clear hs hx hxt hxm hsm hbx hcond hri k0 k1 k2 k3 k4
      go_wp2_with fail
      refine HA.out.mono ?_
      rintro e w3 ⟨rfl, hb3⟩
      have HI3 := Lib.hid (HI.out.below hb3)
      have HXT3 := Lib.hid (HXT.out.below hb3)
      have k0 := (World.cell?_of_block (a := ⟨bk, ok + i * 5, none⟩) (hb3.block bk hkl)).trans HK0.out
      have k1 := (World.cell?_of_block (a := ⟨bk, ok + i * 5 + 1, none⟩) (hb3.block bk hkl)).trans HK1.out
      have k2 := (World.cell?_of_block (a := ⟨bk, ok + i * 5 + 2, none⟩) (hb3.block bk hkl)).trans HK2.out
      have k3 := (World.cell?_of_block (a := ⟨bk, ok + i * 5 + 3, none⟩) (hb3.block bk hkl)).trans HK3.out
      have k4 := (World.cell?_of_block (a := ⟨bk, ok + i * 5 + 4, none⟩) (hb3.block bk hkl)).trans HK4.out
      have q4 := cell_of_block HI3.out.qb 4
      clear p0 p1 p2 p3 p4
      have p0 := cell_of_block HI3.out.cell 0
      have p1 := cell_of_block HI3.out.cell 1
      have p2 := cell_of_block HI3.out.cell 2
      have p3 := cell_of_block HI3.out.cell 3
      have p4 := cell_of_block HI3.out.cell 4
      simp at p0 p1 p2 p3 p4 q4
      have HB3 := Lib.hid hb3
      clear hb3 HA
      have hpos := insPos_le pn s
      by_cases hf : pn[insPos pn s]? = some s
      case neg =>
        rw [show atP pn s = -1 from by unfold atP; rw [if_neg hf]]
        have HP := Lib.hid (sPut_any (.mk 7 0 emptyB pn pk) s x rfl HI3.out.ok hf hpl.2 (Nx F w.heap.size) _ _ w3.drew HI3.out.lt.drawn ((HXT3.out.frame (G := Nx F w.heap.size) (Agree.refl _ _) (fun b h _ => .inl h)).drawn))
        have HF := Lib.hid hf
        have HDR := Lib.hid (show Below w3.heap.size w3 w3.drew from (Below.refl _ _).drew)
        have HDS := Lib.hid (show w3.drew.heap.size = w3.heap.size from rfl)
        clear hf
        go_wp2
        go_still_tail 7, (by kernel_rfl)
        change wpList _ _ _ _ _ w3.drew
        go_wp2_with fail
        refine HP.out.mono ?_
        rintro e w4 ⟨cs4, rfl, hb4, hlt4⟩
        have hb4' : Below w3.heap.size w3 w4 := below_then HDR.out HDR.out.size hb4
        obtain ⟨G1, h1, G2, h2, rs4, e4, _⟩ := hlt4.open
        obtain rfl : cs4 = [.int .i64 7, .int .i64 0, .string emptyB, .slice G1 (ins (insPos pn s) s pn).length h1, .slice G2 (ins (insPos pn s) x pk).length h2] := e4
        have HNEXT := Lib.hid (HI3.out.put HSS.out HSX.out HF.out HSOK.out HXOK.out hb4' (wy := w3.drew) HI3.out.size hlt4)
        have hc4 := block_below HI3.out.cell hb4'
        clear p0 p1 p2 p3 p4
        have p0 := cell_of_block hc4 0
        have p1 := cell_of_block hc4 1
        have p2 := cell_of_block hc4 2
        have p3 := cell_of_block hc4 3
        have p4 := cell_of_block hc4 4
        have f0 := free_of_block hc4 0
        have f1 := free_of_block hc4 1
        have f2 := free_of_block hc4 2
        have f3 := free_of_block hc4 3
        have f4 := free_of_block hc4 4
        simp at p0 p1 p2 p3 p4
        clear hb4 hb4' hlt4 hc4 HP HDR HDS k0 k1 k2 k3 k4 q4 n0
        go_wp2
        go_simp
        exact ⟨⟨_, _, _, _, _, _, .int .i64 ((i : Int) + 1), ⟨i + 1, by go_num, by omega, _, _, _, HNEXT.out⟩, rfl, rfl, rfl, rfl, rfl, rfl, rfl⟩, by simp [intOf]; omega⟩
      case pos =>
        rw [show atP pn s = (insPos pn s : Int) from by unfold atP; rw [if_pos hf]]
        have HF := Lib.hid hf
        have hplt : insPos pn s < pk.length := by
          have := (List.getElem?_eq_some_iff.1 hf).1
          have := HI.out.ok.len
          omega
        obtain ⟨kp, hkp⟩ : ∃ kp, kp = insPos pn s := ⟨_, rfl⟩
        rw [← hkp] at hplt ⊢
        have HKP := Lib.hid hkp
        obtain ⟨bx, oy, ry, y, U1, u1, U2, u2, rfl, hFy, hyl, hy, hym, hryi, rfl, hyt, y0, y1, y2, y3, y4⟩ := lt_at (HRP.out.frame (Agree.of_below HB3.out)) (HTP.out.below HB3.out) kp hplt
        have hyo : y.ok = true := (okL_iff pk).1 HI.out.ok.ok y hym
        have hcy := Tree.countL_mem pk y hym
        have hbnd : y.count + x.count ≤ 1000000 := by
          have h1 := HI.out.cnt
          rw [countL_drop HSX.out] at h1
          have h2 := HCC.out
          omega
        have hnw : ∀ W : World, Below w3.heap.size w3 W → LtAt (fun b => Nx F w.heap.size b ∧ b < w3.heap.size) W [.int .i64 y.kind, .int .i64 y.num, .string y.text, .slice U1 y.names.length u1, .slice U2 y.kids.length u2] y ∧ LtAt (fun b => Nx F w.heap.size b ∧ b < w3.heap.size) W [.int .i64 x.kind, .int .i64 x.num, .string x.text, .slice E1 x.names.length f1, .slice E2 x.kids.length f2] x :=
          fun W hb => ⟨hyt.frame (Agree.of_below hb) (fun b h h' => ⟨h, h'⟩), HXT3.out.frame (Agree.of_below hb) (fun b h h' => ⟨.inl h, h'⟩)⟩
        have HJ := Lib.hid (fun W (hb : Below w3.heap.size w3 W) => SJoinPost.shape hb (HIH.out x HXM.out HXOK.out y (fun b => Nx F w.heap.size b ∧ b < w3.heap.size) _ _ W hyo hbnd (hnw W hb).1 (hnw W hb).2))
        have HY := Lib.hid (show pk[insPos pn s]? = some y by rw [← hkp]; exact hy)
        have hpn1 : (0 : Int) ≤ (kp : Int) := by omega
        have hs3 := HI3.out.size
        have HKEEP := Lib.hid (fun W (hb : Below w3.heap.size w3 W) => show W.cell? ⟨w.heap.size, 4, none⟩ = some (.slice (some ⟨bx, oy, none⟩) pk.length e2) ∧ W.cell? ⟨w.heap.size + 1, 4, none⟩ = some (.slice (some ⟨bk, ok, none⟩) q.kids.length c2') ∧
          W.cell? ⟨bx, oy + kp * 5, none⟩ = some (.int .i64 y.kind) ∧ W.cell? ⟨bx, oy + kp * 5 + 1, none⟩ = some (.int .i64 y.num) ∧ W.cell? ⟨bx, oy + kp * 5 + 2, none⟩ = some (.string y.text) ∧ W.cell? ⟨bx, oy + kp * 5 + 3, none⟩ = some (.slice U1 y.names.length u1) ∧ W.cell? ⟨bx, oy + kp * 5 + 4, none⟩ = some (.slice U2 y.kids.length u2) ∧
          W.cell? ⟨bk, ok + i * 5, none⟩ = some (.int .i64 x.kind) ∧ W.cell? ⟨bk, ok + i * 5 + 1, none⟩ = some (.int .i64 x.num) ∧ W.cell? ⟨bk, ok + i * 5 + 2, none⟩ = some (.string x.text) ∧ W.cell? ⟨bk, ok + i * 5 + 3, none⟩ = some (.slice E1 x.names.length f1) ∧ W.cell? ⟨bk, ok + i * 5 + 4, none⟩ = some (.slice E2 x.kids.length f2) from by
          have g : ∀ (b o : Nat) (v : Value), w3.cell? ⟨b, o, none⟩ = some v → W.cell? ⟨b, o, none⟩ = some v := fun b o v h => (World.cell?_of_block (a := ⟨b, o, none⟩) (hb.block b (World.block_lt_of_cell? w3 _ h))).trans h
          exact ⟨g _ _ _ p4, g _ _ _ q4, g _ _ _ y0, g _ _ _ y1, g _ _ _ y2, g _ _ _ y3, g _ _ _ y4, g _ _ _ k0, g _ _ _ k1, g _ _ _ k2, g _ _ _ k3, g _ _ _ k4⟩)
        clear hf hy hyt hym hyo hcy hryi hkp hnw
        go_upto_region 11 with fail
        go_cut [9, 10] (fun v9 v10 wx => JCut F w w3 y x v9 v10 wx)
        case first =>
          clear p0 p1 p2 p3 p4 k0 k1 k2 k3 k4 q4 n0 y0 y1 y2 y3 y4
          have HJ1 := Lib.hid (HJ.out w3.drew (Below.refl _ _).drew)
          have HJ2 := Lib.hid (HJ.out (w3.drew.alloc (.cells #[.int .i64 0, .int .i64 0, .string ⟨#[]⟩, .slice none 0 0, .slice none 0 0] 44 (0, 0))) ((Below.refl _ _).drew.alloc (Nat.le_refl _) _))
          have HZB := Lib.hid (fun w4 (hb : Below (w3.drew.alloc (.cells #[.int .i64 0, .int .i64 0, .string ⟨#[]⟩, .slice none 0 0, .slice none 0 0] 44 (0, 0))).heap.size (w3.drew.alloc (.cells #[.int .i64 0, .int .i64 0, .string ⟨#[]⟩, .slice none 0 0, .slice none 0 0] 44 (0, 0))) w4) => show w4.heap[w3.heap.size]? = some (.cells #[.int .i64 0, .int .i64 0, .string ⟨#[]⟩, .slice none 0 0, .slice none 0 0] 44 (0, 0)) from (hb.block _ (by simp)).trans (heap_alloc_new w3.drew _))
          clear HJ
          go_region_held3 (fun W => W.cell? ⟨w.heap.size, 4, none⟩ = some (.slice (some ⟨bx, oy, none⟩) pk.length e2) ∧ W.cell? ⟨w.heap.size + 1, 4, none⟩ = some (.slice (some ⟨bk, ok, none⟩) q.kids.length c2') ∧
            W.cell? ⟨bx, oy + kp * 5, none⟩ = some (.int .i64 y.kind) ∧ W.cell? ⟨bx, oy + kp * 5 + 1, none⟩ = some (.int .i64 y.num) ∧ W.cell? ⟨bx, oy + kp * 5 + 2, none⟩ = some (.string y.text) ∧ W.cell? ⟨bx, oy + kp * 5 + 3, none⟩ = some (.slice U1 y.names.length u1) ∧ W.cell? ⟨bx, oy + kp * 5 + 4, none⟩ = some (.slice U2 y.kids.length u2) ∧
            W.cell? ⟨bk, ok + i * 5, none⟩ = some (.int .i64 x.kind) ∧ W.cell? ⟨bk, ok + i * 5 + 1, none⟩ = some (.int .i64 x.num) ∧ W.cell? ⟨bk, ok + i * 5 + 2, none⟩ = some (.string x.text) ∧ W.cell? ⟨bk, ok + i * 5 + 3, none⟩ = some (.slice E1 x.names.length f1) ∧ W.cell? ⟨bk, ok + i * 5 + 4, none⟩ = some (.slice E2 x.kids.length f2))
            (first
              | exact HKEEP.out _ (Below.refl _ _).drew
              | exact HKEEP.out _ ((Below.refl _ _).drew.alloc (Nat.le_refl _) _)
              | exact HKEEP.out _ hbx
              | exact HKEEP.out _ (hbx.alloc hbx.size _)
              | exact HKEEP.out _ (below_set5 hbx (Nat.le_refl _) _ _ _ _ _)
              | exact HKEEP.out _ (below_set5 (hbx.alloc hbx.size _) hbx.size _ _ _ _ _))
            (first
              | (go_at_call 24; refine HJ1.out.mono ?_; rintro e w4 ⟨zk, zn, zt, Z1, l1, g1, Z2, l2, g2, f, rfl, hb4, hbx, hopt⟩)
              | (go_at_call 24; refine HJ2.out.mono ?_; rintro e w4 ⟨zk, zn, zt, Z1, l1, g1, Z2, l2, g2, f, rfl, hb4, hbx, hopt⟩; have hzz := HZB.out w4 hb4; have z0 := cell_of_block hzz 0; have z1 := cell_of_block hzz 1; have z2 := cell_of_block hzz 2; have z3 := cell_of_block hzz 3; have z4 := cell_of_block hzz 4; have f0 := free_of_block hzz 0; have f1 := free_of_block hzz 1; have f2 := free_of_block hzz 2; have f3 := free_of_block hzz 3; have f4 := free_of_block hzz 4; simp at z0 z1 z2 z3 z4))
          · go_wp2
            go_meet
            exact jcut1 hs3 hbx hopt
          · have hzz := HZB.out w4 hb4
            go_wp2
            go_meet
            exact jcut2 hs3 hzz hbx hopt (by simp)
        case rest =>
          obtain ⟨gx, zcs, f, rfl, rfl, hgx, hgk, hb4', hopt⟩ := hcut
          have HI4 := Lib.hid (HI3.out.below hb4')
          have hs4 := HI4.out.size
          have hgl := lt_of_block hgk
          have hl0 : w.heap.size < wc.heap.size := by omega
          have hl2 : w.heap.size + 1 + 1 < wc.heap.size := by omega
          have HB4 := Lib.hid hb4'
          have HGK := Lib.hid hgk
          clear p0 p1 p2 p3 p4 k0 k1 k2 k3 k4 q4 n0 y0 y1 y2 y3 y4 hb4' hgk HJ
          cases hj : Tree.join y x with
          | none =>
            rw [hj] at hopt
            obtain ⟨rfl, rfl⟩ := hopt
            have HJN := Lib.hid hj
            have r0 := cell_of_block HI4.out.rb 0
            have r1 := cell_of_block HI4.out.rb 1
            have r2 := cell_of_block HI4.out.rb 2
            have r3 := cell_of_block HI4.out.rb 3
            have r4 := cell_of_block HI4.out.rb 4
            have f0 := free_of_block HI4.out.rb 0
            have f1 := free_of_block HI4.out.rb 1
            have f2 := free_of_block HI4.out.rb 2
            have f3 := free_of_block HI4.out.rb 3
            have f4 := free_of_block HI4.out.rb 4
            simp at r0 r1 r2 r3 r4
            clear hj
            go_wp2
            refine bodyPost_ret (results_row_one rfl _ _ (w.heap.size + 1 + 1) _ _ _ _ rfl (block_setCell (block_setCell (block_setCell (block_setCell (block_setCell HI4.out.rb _ _) _ _) _ _) _ _) _ _) Tryz.underlying44 rfl ((info_size infoL1V).trans (by simp))) rfl ?_
            have hB := below_set5 HI4.out.bel (show w.heap.size ≤ w.heap.size + 1 + 1 by omega) (.int .i64 0) (.int .i64 0) (.string ⟨#[]⟩) (.slice none 0 0) (.slice none 0 0)
            refine ⟨zeroV, _, rfl, hB, ?_⟩
            have e : Tree.join p q = none := by
              rw [HE.out, HI.out.eq, join_step HSS.out HSX.out, if_pos HF.out, HY.out]
              simp only [HJN.out]
              rfl
            rw [e]
            exact ⟨rfl, rfl⟩
          | some z =>
            rw [hj] at hopt
            obtain ⟨rfl, hzt⟩ := hopt
            obtain ⟨G1, h1, G2, h2, rs4, e4, _⟩ := hzt.open
            subst e4
            have p0 := cell_of_block HI4.out.cell 0
            have p1 := cell_of_block HI4.out.cell 1
            have p2 := cell_of_block HI4.out.cell 2
            have p3 := cell_of_block HI4.out.cell 3
            have p4 := cell_of_block HI4.out.cell 4
            have x0 := cell_of_block HGK.out 0
            have x1 := cell_of_block HGK.out 1
            have x2 := cell_of_block HGK.out 2
            have x3 := cell_of_block HGK.out 3
            have x4 := cell_of_block HGK.out 4
            simp at p0 p1 p2 p3 p4 x0 x1 x2 x3 x4
            have HWI := Lib.hid (sWith_any (.mk 7 0 emptyB pn pk) kp z hplt hpl.2 (Nx F w.heap.size) _ _ _ HI4.out.lt hzt)
            have HJN := Lib.hid hj
            clear hj hzt
            go_wp2_with fail
            refine HWI.out.mono ?_
            rintro e w5 ⟨cs5, rfl, hb5, hlt5⟩
            obtain ⟨D5, i5, D6, i6, rs5, e5, _⟩ := hlt5.open
            obtain rfl : cs5 = [.int .i64 7, .int .i64 0, .string emptyB, .slice D5 pn.length i5, .slice D6 pk.length i6] := by rw [e5]; simp
            have HNEXT := Lib.hid (HI4.out.set HSS.out HSX.out HF.out HXOK.out HY.out HJN.out hb5 (wy := wc) HI4.out.size (by rw [← HKP.out]; exact hlt5))
            have hc5 := block_below HI4.out.cell hb5
            clear p0 p1 p2 p3 p4 x0 x1 x2 x3 x4
            have p0 := cell_of_block hc5 0
            have p1 := cell_of_block hc5 1
            have p2 := cell_of_block hc5 2
            have p3 := cell_of_block hc5 3
            have p4 := cell_of_block hc5 4
            have f0 := free_of_block hc5 0
            have f1 := free_of_block hc5 1
            have f2 := free_of_block hc5 2
            have f3 := free_of_block hc5 3
            have f4 := free_of_block hc5 4
            simp at p0 p1 p2 p3 p4
            clear hb5 hlt5 hc5
            go_wp2
            go_simp
            exact ⟨⟨_, _, _, _, _, _, .int .i64 ((i : Int) + 1), ⟨i + 1, by go_num, by omega, _, _, _, HNEXT.out⟩, rfl, rfl, rfl, rfl, rfl, rfl, rfl⟩, by simp [intOf]; omega⟩
    · obtain rfl : i = q.names.length := by omega
      have e : Tree.join p q = some (.mk 7 0 emptyB pn pk) := by
        rw [HE.out, HI.out.eq, join_end (Nat.le_refl _)]
        rfl
      have HEE := Lib.hid e
      have r0 := cell_of_block HI.out.rb 0
      have r1 := cell_of_block HI.out.rb 1
      have r2 := cell_of_block HI.out.rb 2
      have r3 := cell_of_block HI.out.rb 3
      have r4 := cell_of_block HI.out.rb 4
      have f0 := free_of_block HI.out.rb 0
      have f1 := free_of_block HI.out.rb 1
      have f2 := free_of_block HI.out.rb 2
      have f3 := free_of_block HI.out.rb 3
      have f4 := free_of_block HI.out.rb 4
      simp at r0 r1 r2 r3 r4
      clear e hbx hcond
      go_wp2
      refine bodyPost_ret (results_row_one rfl _ _ (w.heap.size + 1 + 1) _ _ _ _ rfl (block_setCell (block_setCell (block_setCell (block_setCell (block_setCell HI.out.rb _ _) _ _) _ _) _ _) _ _) Tryz.underlying44 rfl ((info_size infoL1V).trans (by simp))) rfl ?_
      have hB := below_set5 HI.out.bel (show w.heap.size ≤ w.heap.size + 1 + 1 by omega) (.int .i64 7) (.int .i64 0) (.string emptyB) (.slice D1 pn.length e1) (.slice D2 pk.length e2)
      refine ⟨[.int .i64 7, .int .i64 0, .string emptyB, .slice D1 pn.length e1, .slice D2 pk.length e2], _, rfl, hB, ?_⟩
      rw [HEE.out]
      have hne : ∀ c, Nx F w.heap.size c → c ≠ w.heap.size + 1 + 1 := fun c h => by
        rcases h with h | h <;> omega
      refine ⟨rfl, HI.out.lt.frame ((((((Agree.refl _ wr).set hne 0 _).set hne 1 _).set hne 2 _).set hne 3 _).set hne 4 _) (fun b h _ => ?_)⟩
      rcases h with h | h
      · exact .inl h
      · exact .inr (by omega)
end Go.Proofs.YteeppdobeeodiaaGreatDoor
