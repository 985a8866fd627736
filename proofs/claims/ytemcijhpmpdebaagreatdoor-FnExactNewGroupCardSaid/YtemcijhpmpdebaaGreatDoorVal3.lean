/- The walk of valFrom. -/
import Derived.Test.YtemcijhpmpdebaaGreatDoorVal2
namespace Go.Proofs.YtemcijhpmpdebaaGreatDoor
open Go.RowKit
theorem Tryz.infoStr : (Tryz.prog.info? 9).map (fun i => (i.zero, i.size, i.bytes)) = some (some (.string ⟨#[]⟩), 1, 16) := by kernel_rfl
theorem Tryz.infoPtr : (Tryz.prog.info? 123).map (fun i => (i.zero, i.size, i.bytes)) = some (some (.pointer none), 1, 8) := by kernel_rfl
/-- What valFrom answers. -/
def VFPost (l : List Nd) (k : Nat) (up : Int) (w : World) (e : Ending) (w' : World) : Prop :=
  Below w.heap.size w w' ∧ ∃ (r : Option (Tree × Nat)) (v : Value), VF l k up r ∧ e = .returned (.tuple #[v, .int .i64 (match r with | some (_, e) => (e : Int) | none => 0)]) ∧ OptAt (fun b => w.heap.size ≤ b) w' v (r.map (·.1))
/-- The loop over the parts: what holds at each round's head. -/
def VRel (l : List Nd) (k : Nat) (x : Nd) (bx bo : Nat) (w : World) (ve : Value) (wr : World) : Prop :=
  ∃ (e : Nat) (ns : List ByteArray) (ks : List Tree) (vN vK : Value) (ps : List Value), ve = .int .i64 e ∧ k < e ∧ e ≤ l.length ∧ (∀ r, VL l k e ns ks r → VL l k (k + 1) [] [] r) ∧ Below w.heap.size w wr ∧
    wr.heap[bx]? = some (.cells #[.int .i64 x.kind, .int .i64 x.num, .string x.text, .string x.name, .int .i64 x.up] 100 (0, 0)) ∧ wr.heap[bo]? = some (.cells #[.int .i64 x.kind, .int .i64 x.num, .string x.text, vN, vK] 168 (0, 0)) ∧
    wr.ownsRow (bo + 1) 9 1 vN ns.length (strs ns) ∧ wr.ownsRow (bo + 1) 123 1 vK ks.length ps ∧
    TreesAt (fun b => w.heap.size ≤ b ∧ bx ≠ b ∧ bo ≠ b ∧ vN.ownBlock ≠ some b ∧ vK.ownBlock ≠ some b) wr ps ks ∧ ns.length = (if x.kind = 7 then ks.length else 0) ∧ ks.length < e ∧ (x.kind ≠ 7 → ns = [])
theorem vstop {l : List Nd} {k e : Nat} {x : Nd} {up : Int} {w wr : World} {bo : Nat} {ns : List ByteArray} {ks : List Tree} {A1 A2 : Option Addr} {c1 c2 : Nat} {ps : List Value} {F : Nat → Prop} (hx : l[k]? = some x) (hok : nodeOKB x up = true) (hk : kidB l k e = false)
    (hc : ∀ r, VL l k e ns ks r → VL l k (k + 1) [] [] r) (hb : Below w.heap.size w wr) (hF : ∀ b, F b → w.heap.size ≤ b) (hwb : w.heap.size ≤ bo)
    (hbo : wr.heap[bo]? = some (.cells #[.int .i64 x.kind, .int .i64 x.num, .string x.text, .slice A1 ns.length c1, .slice A2 ks.length c2] 168 (0, 0)))
    (hN : wr.ownsRow (bo + 1) 9 1 (.slice A1 ns.length c1) ns.length (strs ns)) (hK : wr.ownsRow (bo + 1) 123 1 (.slice A2 ks.length c2) ks.length ps) (g1 : ns.length ≤ c1) (g2 : ks.length ≤ c2) (hts : TreesAt F wr ps ks) :
    VFPost l k up w (.returned (.tuple #[.pointer (some ⟨bo, 0, none⟩), .int .i64 e])) wr := by
  refine ⟨hb, some (.mk x.kind x.num x.text ns ks, e), _, ⟨x, hx, .inr ⟨hok, hc _ (.stop hx hk)⟩⟩, rfl, ?_⟩
  have hc := cell_of_block hbo
  exact ⟨bo, A1, c1, A2, c2, ps, rfl, hwb, lt_of_block hbo, hc 0, hc 1, hc 2, hc 3, g1, (Rds.of_own hN).mono (fun b h _ => by omega), hc 4, g2, (Rds.of_own hK).mono (fun b h _ => by omega), hts.frame (Agree.refl _ _) (fun b h _ => hF b h)⟩
theorem kidB_end {l : List Nd} {k e : Nat} (h : l.length ≤ e) : kidB l k e = false := by
  unfold kidB
  rw [List.getElem?_eq_none h]
  split <;> simp_all
theorem vnone {l : List Nd} {k e : Nat} {x y : Nd} {up : Int} {w wr : World} {ns : List ByteArray} {ks : List Tree} (hx : l[k]? = some x) (hy : l[e]? = some y) (hok : nodeOKB x up = true) (hk : kidB l k e = true)
    (hc : ∀ r, VL l k e ns ks r → VL l k (k + 1) [] [] r) (hb : Below w.heap.size w wr) (h : ordB x.kind ns y.name = false ∨ (ordB x.kind ns y.name = true ∧ VF l e x.kind none)) :
    VFPost l k up w (.returned (.tuple #[.pointer none, .int .i64 0])) wr := by
  refine ⟨hb, none, _, ⟨x, hx, .inr ⟨hok, hc _ ?_⟩⟩, rfl, rfl⟩
  rcases h with h | ⟨h, y', hy', h' | h'⟩
  · exact .order hk hx hy h
  · rw [hy] at hy'
    injection hy' with hy'
    subst hy'
    exact .bad hk hx hy h h'.1
  · rw [hy] at hy'
    injection hy' with hy'
    subst hy'
    exact .none hk hx hy h h'.1 h'.2
theorem vkid {l : List Nd} {k e : Nat} {x y : Nd} {ns : List ByteArray} {ks : List Tree} {t : Tree} {e' : Nat} {r : Option (Tree × Nat)} (hx : l[k]? = some x) (hy : l[e]? = some y) (hk : kidB l k e = true) (ho : ordB x.kind ns y.name = true)
    (hv : VF l e x.kind (some (t, e'))) (h : VL l k e' (if x.kind = 7 then ns ++ [y.name] else ns) (ks ++ [t]) r) : VL l k e ns ks r := by
  obtain ⟨y', hy', h' | h'⟩ := hv
  · cases h'.2
  · rw [hy] at hy'
    injection hy' with hy'
    subst hy'
    exact .kid hk hx hy ho h'.1 h'.2 h
/-- A row of the kids grows by one. -/
theorem trees_grow {w w2 : World} {F G : Nat → Prop} {ps : List Value} {ks : List Tree} {p : Value} {t : Tree} (h : TreesAt F w ps ks) (ht : TreeAt G w p t) (hF : Agree F w w2) (hG : Agree G w w2) {H : Nat → Prop} (h1 : ∀ b, F b → b < w.heap.size → H b) (h2 : ∀ b, G b → b < w.heap.size → H b) :
    TreesAt H w2 (ps ++ [p]) (ks ++ [t]) := (h.frame hF h1).snoc (ht.frame hG h2)
theorem below_own {w0 w w1 : World} {B base : Nat} {e : TypeId} {size n : Nat} {v : Value} {xs : List Value} (h : Below B w0 w) (hg : w.grownBy w1 v.ownBlock) (ho : w.ownsRow base e size v n xs) (hB : B ≤ base) (hl : B ≤ w.heap.size) : Below B w0 w1 :=
  h.grown hg hl (fun k hk => Nat.le_trans hB (own_base ho k hk).1)
/-- One more name in the row of names: what of the rest stays. -/
theorem vname {x : Nd} {bo wb : Nat} {w w2 w3 : World} {ns : List ByteArray} {nm : ByteArray} {ks : List Tree} {vN vK v1 : Value} {ps : List Value} {t : Tree} {p : Value} (hlt : wb < bo) (hws : w.heap.size = wb) (hb : Below w.heap.size w w2)
    (hbx : w2.heap[wb]? = some (.cells #[.int .i64 x.kind, .int .i64 x.num, .string x.text, .string x.name, .int .i64 x.up] 100 (0, 0))) (hbo : w2.heap[bo]? = some (.cells #[.int .i64 x.kind, .int .i64 x.num, .string x.text, vN, vK] 168 (0, 0)))
    (hN : w2.ownsRow (bo + 1) 9 1 vN ns.length (strs ns)) (hK : w2.ownsRow (bo + 1) 123 1 vK ks.length ps) (hts : TreesAt (fun b => w.heap.size ≤ b ∧ wb ≠ b ∧ bo ≠ b ∧ vN.ownBlock ≠ some b ∧ vK.ownBlock ≠ some b) w2 ps ks)
    (ht : TreeAt (fun b => w.heap.size ≤ b ∧ wb ≠ b ∧ bo ≠ b ∧ vN.ownBlock ≠ some b ∧ vK.ownBlock ≠ some b) w2 p t)
    (h1 : w3.ownsRow (bo + 1) 9 1 v1 (ns.length + 1) (strs ns ++ [.string nm])) (hg : w2.grownBy w3 vN.ownBlock) (hat : v1.ownBlock = vN.ownBlock ∨ ∃ b, v1.ownBlock = some b ∧ w2.heap.size ≤ b) :
    Below w.heap.size w (w3.setCell ⟨bo, 3, none⟩ v1) ∧ (w3.setCell ⟨bo, 3, none⟩ v1).heap[wb]? = some (.cells #[.int .i64 x.kind, .int .i64 x.num, .string x.text, .string x.name, .int .i64 x.up] 100 (0, 0)) ∧
    w3.heap[bo]? = some (.cells #[.int .i64 x.kind, .int .i64 x.num, .string x.text, vN, vK] 168 (0, 0)) ∧ (w3.setCell ⟨bo, 3, none⟩ v1).heap[bo]? = some (.cells #[.int .i64 x.kind, .int .i64 x.num, .string x.text, v1, vK] 168 (0, 0)) ∧
    (w3.setCell ⟨bo, 3, none⟩ v1).ownsRow (bo + 1) 9 1 v1 (ns ++ [nm]).length (strs (ns ++ [nm])) ∧ (w3.setCell ⟨bo, 3, none⟩ v1).ownsRow (bo + 1) 123 1 vK ks.length ps ∧
    TreesAt (fun b => w.heap.size ≤ b ∧ wb ≠ b ∧ bo ≠ b ∧ v1.ownBlock ≠ some b ∧ vK.ownBlock ≠ some b) (w3.setCell ⟨bo, 3, none⟩ v1) ps ks ∧ TreeAt (fun b => w.heap.size ≤ b ∧ wb ≠ b ∧ bo ≠ b ∧ v1.ownBlock ≠ some b ∧ vK.ownBlock ≠ some b) (w3.setCell ⟨bo, 3, none⟩ v1) p t := by
  have hlo := lt_of_block hbo
  have nb : ∀ j, vN.ownBlock = some j → bo + 1 ≤ j ∧ j < w2.heap.size := own_base hN
  have hbo3 : w3.heap[bo]? = some (.cells #[.int .i64 x.kind, .int .i64 x.num, .string x.text, vN, vK] 168 (0, 0)) := block_agree hbo (Agree.of_grown (F := fun b => b = bo) hg (fun b hb hk => by have := (nb _ hk).1; omega)) rfl
  have hbx3 : w3.heap[wb]? = some (.cells #[.int .i64 x.kind, .int .i64 x.num, .string x.text, .string x.name, .int .i64 x.up] 100 (0, 0)) := block_agree hbx (Agree.of_grown (F := fun b => b = wb) hg (fun b hb hk => by have := (nb _ hk).1; omega)) rfl
  have hK3 : w3.ownsRow (bo + 1) 123 1 vK ks.length ps := own_agree hK (Agree.of_grown (F := fun b => vK.ownBlock = some b) hg (fun b hb hk => own_ne hK hN (by decide) b hb hk)) (fun k h => h)
  have hB3 : Below w.heap.size w w3 := below_own hb hg hN (by omega) (by omega)
  have hA : ∀ F : Nat → Prop, (∀ b, F b → vN.ownBlock ≠ some b ∧ bo ≠ b) → Agree F w2 (w3.setCell ⟨bo, 3, none⟩ v1) := fun F hF => (Agree.of_grown hg (fun b hb => (hF b hb).1)).trans (Agree.of_setCell _ _ _ (fun b hb => (hF b hb).2.symm))
  have hm : ∀ b, (w.heap.size ≤ b ∧ wb ≠ b ∧ bo ≠ b ∧ vN.ownBlock ≠ some b ∧ vK.ownBlock ≠ some b) → b < w2.heap.size → (w.heap.size ≤ b ∧ wb ≠ b ∧ bo ≠ b ∧ v1.ownBlock ≠ some b ∧ vK.ownBlock ≠ some b) := by
    rintro b ⟨a1, a2, a3, a4, a5⟩ hb2
    refine ⟨a1, a2, a3, ?_, a5⟩
    rcases hat with h | ⟨b', h, h'⟩
    · rw [h]; exact a4
    · rw [h]; intro e; injection e with e; omega
  refine ⟨hB3.setCell (by show w.heap.size ≤ bo; omega) _, ?_, hbo3, by rw [block_setCell hbo3]; rfl, ?_, ?_, hts.frame (hA _ (fun b h => ⟨h.2.2.2.1, h.2.2.1⟩)) hm, ht.frame (hA _ (fun b h => ⟨h.2.2.2.1, h.2.2.1⟩)) hm⟩
  · rw [Below.heap_setCell _ _ _ _ (by show wb ≠ bo; omega)]; exact hbx3
  · have := own_agree h1 (Agree.of_setCell (F := fun b => bo ≠ b) w3 ⟨bo, 3, none⟩ v1 (fun b hb => hb.symm)) (fun k hk => by have := (own_base h1 k hk).1; omega)
    simpa [strs] using this
  · exact own_agree hK3 (Agree.of_setCell (F := fun b => bo ≠ b) w3 ⟨bo, 3, none⟩ v1 (fun b hb => hb.symm)) (fun k hk => by have := (own_base hK3 k hk).1; omega)
/-- One more kid in the row of kids: the relation at the next round. -/
theorem vkids {l : List Nd} {k e2 : Nat} {x : Nd} {bo wb : Nat} {w w2 w3 : World} {ns : List ByteArray} {ks : List Tree} {vN vK v1 : Value} {ps : List Value} {t : Tree} {p : Value} (hlt : wb < bo) (hws : w.heap.size = wb) (hb : Below w.heap.size w w2)
    (hbx : w2.heap[wb]? = some (.cells #[.int .i64 x.kind, .int .i64 x.num, .string x.text, .string x.name, .int .i64 x.up] 100 (0, 0))) (hbo : w2.heap[bo]? = some (.cells #[.int .i64 x.kind, .int .i64 x.num, .string x.text, vN, vK] 168 (0, 0)))
    (hN : w2.ownsRow (bo + 1) 9 1 vN ns.length (strs ns)) (hK : w2.ownsRow (bo + 1) 123 1 vK ks.length ps) (hts : TreesAt (fun b => w.heap.size ≤ b ∧ wb ≠ b ∧ bo ≠ b ∧ vN.ownBlock ≠ some b ∧ vK.ownBlock ≠ some b) w2 ps ks)
    (ht : TreeAt (fun b => w.heap.size ≤ b ∧ wb ≠ b ∧ bo ≠ b ∧ vN.ownBlock ≠ some b ∧ vK.ownBlock ≠ some b) w2 p t)
    (h1 : w3.ownsRow (bo + 1) 123 1 v1 (ks.length + 1) (ps ++ [p])) (hg : w2.grownBy w3 vK.ownBlock) (hat : v1.ownBlock = vK.ownBlock ∨ ∃ b, v1.ownBlock = some b ∧ w2.heap.size ≤ b)
    (hke : k < e2) (he2 : e2 ≤ l.length) (hcont : ∀ r, VL l k e2 ns (ks ++ [t]) r → VL l k (k + 1) [] [] r) (hnl : ns.length = (if x.kind = 7 then ks.length + 1 else 0)) (hkl : ks.length + 1 < e2) (hn0 : x.kind ≠ 7 → ns = []) :
    w3.heap[bo]? = some (.cells #[.int .i64 x.kind, .int .i64 x.num, .string x.text, vN, vK] 168 (0, 0)) ∧ VRel l k x wb bo w (.int .i64 e2) (w3.setCell ⟨bo, 4, none⟩ v1) := by
  have hlo := lt_of_block hbo
  have nb : ∀ j, vK.ownBlock = some j → bo + 1 ≤ j ∧ j < w2.heap.size := own_base hK
  have hbo3 : w3.heap[bo]? = some (.cells #[.int .i64 x.kind, .int .i64 x.num, .string x.text, vN, vK] 168 (0, 0)) := block_agree hbo (Agree.of_grown (F := fun b => b = bo) hg (fun b hb hk => by have := (nb _ hk).1; omega)) rfl
  have hbx3 : w3.heap[wb]? = some (.cells #[.int .i64 x.kind, .int .i64 x.num, .string x.text, .string x.name, .int .i64 x.up] 100 (0, 0)) := block_agree hbx (Agree.of_grown (F := fun b => b = wb) hg (fun b hb hk => by have := (nb _ hk).1; omega)) rfl
  have hN3 : w3.ownsRow (bo + 1) 9 1 vN ns.length (strs ns) := own_agree hN (Agree.of_grown (F := fun b => vN.ownBlock = some b) hg (fun b hb hk => own_ne hN hK (by decide) b hb hk)) (fun k h => h)
  have hB3 : Below w.heap.size w w3 := below_own hb hg hK (by omega) (by omega)
  have hA : ∀ F : Nat → Prop, (∀ b, F b → vK.ownBlock ≠ some b ∧ bo ≠ b) → Agree F w2 (w3.setCell ⟨bo, 4, none⟩ v1) := fun F hF => (Agree.of_grown hg (fun b hb => (hF b hb).1)).trans (Agree.of_setCell _ _ _ (fun b hb => (hF b hb).2.symm))
  have hm : ∀ b, (w.heap.size ≤ b ∧ wb ≠ b ∧ bo ≠ b ∧ vN.ownBlock ≠ some b ∧ vK.ownBlock ≠ some b) → b < w2.heap.size → (w.heap.size ≤ b ∧ wb ≠ b ∧ bo ≠ b ∧ vN.ownBlock ≠ some b ∧ v1.ownBlock ≠ some b) := by
    rintro b ⟨a1, a2, a3, a4, a5⟩ hb2
    refine ⟨a1, a2, a3, a4, ?_⟩
    rcases hat with h | ⟨b', h, h'⟩
    · rw [h]; exact a5
    · rw [h]; intro e; injection e with e; omega
  refine ⟨hbo3, e2, ns, ks ++ [t], vN, v1, ps ++ [p], rfl, hke, he2, hcont, hB3.setCell (by show w.heap.size ≤ bo; omega) _, ?_, by rw [block_setCell hbo3]; rfl, ?_, ?_, trees_grow hts ht (hA _ (fun b h => ⟨h.2.2.2.2, h.2.2.1⟩)) (hA _ (fun b h => ⟨h.2.2.2.2, h.2.2.1⟩)) hm hm, by simpa using hnl, by simpa using hkl, hn0⟩
  · rw [Below.heap_setCell _ _ _ _ (by show wb ≠ bo; omega)]; exact hbx3
  · exact own_agree hN3 (Agree.of_setCell (F := fun b => bo ≠ b) w3 ⟨bo, 4, none⟩ v1 (fun b hb => hb.symm)) (fun k hk => by have := (own_base hN3 k hk).1; omega)
  · have := own_agree h1 (Agree.of_setCell (F := fun b => bo ≠ b) w3 ⟨bo, 4, none⟩ v1 (fun b hb => hb.symm)) (fun k hk => by have := (own_base h1 k hk).1; omega)
    simpa using this
set_option maxRecDepth 100000 in
set_option maxHeartbeats 2000000 in
theorem valFrom_any (l : List Nd) (hb : l.length ≤ 1000000000) (hsz : ∀ x ∈ l, x.text.size ≤ 9223372036854775807 ∧ x.name.size ≤ 9223372036854775807) (F : Nat → Prop) (A : Option Addr) (c : Nat) (_hc : l.length ≤ c) :
    ∀ (d k : Nat) (up : Int) (w : World), l.length - k = d → k < l.length → Rds F w A (ndCells l) →
    Calls Tryz.prog 112 #[.slice A l.length c, .int .i64 k, .int .i64 up] w (VFPost l k up w) := by
  intro d
  induction d using Nat.strongRecOn with
  | _ d ih =>
    intro k up w hd hk hr
    subst hd
    have IH := Lib.hid ih
    clear ih
    obtain ⟨b, o, x, rfl, hF, hl, hx, c0, c1, c2, c3, c4⟩ := nd_at hr k hk
    have hxs := hsz x (List.mem_of_getElem? hx)
    have HX := Lib.hid hx
    clear hx
    go_enter Tryz.func112, Tryz.ntmps112
    go_wp2_with fail
    refine (nodeOK_any x up _ hxs.1 hxs.2).mono ?_
    rintro e w1 ⟨rfl, hb1⟩
    have hbl1 : Below w.heap.size w w1 := ((Below.refl _ _).alloc (Nat.le_refl _) _).trans (hb1.mono (by simp))
    have hx1 : w1.heap[w.heap.size]? = some (.cells #[.int .i64 x.kind, .int .i64 x.num, .string x.text, .string x.name, .int .i64 x.up] 100 (0, 0)) := block_below (heap_alloc_new _ _) hb1
    cases hok : nodeOKB x up
    · have HOK := Lib.hid hok
      clear hok
      go_wp2
      go_ret2
      exact ⟨hbl1, none, .pointer none, ⟨x, HX.out, .inl ⟨HOK.out, rfl⟩⟩, by simp, rfl⟩
    · have HOK := Lib.hid hok
      clear hok
      have hxc := fun j => cell_of_block hx1 j
      have d0 := hxc 0
      have d1 := hxc 1
      have d2 := hxc 2
      clear hxc
      simp at d0 d1 d2
      have hlx := lt_of_block hx1
      go_wp2
      go_loopw [10] (fun ve wr => VRel l k x w.heap.size w1.heap.size w ve wr) (fun ve _ => l.length - (intOf ve).toNat)
      case atStart =>
        refine ⟨k + 1, [], [], .slice none 0 0, .slice none 0 0, [], by go_num, by omega, by omega, fun r h => h, hbl1.alloc hbl1.size _, ?_, heap_alloc_new _ _, World.ownsRow_nil _ _ _ _, World.ownsRow_nil _ _ _ _, by simp [TreesAt], by simp, by simp, by simp⟩
        rw [Below.heap_alloc _ _ _ (by omega)]
        exact hx1
      case round =>
        obtain ⟨e, ns, ks, vN, vK, ps, rfl, hke, hel, hcont, hbw, hbx, hbo, hoN, hoK, hts, hnl, hkl, hn0⟩ := hrel
        have HC := Lib.hid hcont
        have hlo := lt_of_block hbo
        have hlx' := lt_of_block hbx
        obtain ⟨A1, cN, rfl, hcN⟩ := own_slice hoN
        obtain ⟨A2, cK, rfl, hcK⟩ := own_slice hoK
        have q0 := cell_of_block hbx 0
        have q1 := cell_of_block hbo 3
        have q2 := cell_of_block hbo 4
        have f1 := free_of_block hbo 3
        have f2 := free_of_block hbo 4
        have HBX := Lib.hid hbx
        have HBO := Lib.hid hbo
        have HN := Lib.hid hnl
        have hnb : ns.length ≤ 1000000000 := by have := hnl; split at this <;> omega
        clear hcont hbx hbo hnl d0 d1 d2
        simp at q0 q1 q2
        by_cases hh : holdsB x.kind = true
        case neg =>
          go_wp2_with (go_at_call 125; refine (holds_any _ _).mono ?_; rintro e w' ⟨rfl, rfl⟩)
          go_ret2
          exact vstop HX.out HOK.out (by simp [kidB, HX.out]; split <;> simp_all) HC.out hbw (fun b h => h.1) hbl1.size HBO.out hoN hoK hcN hcK hts
        case pos =>
        by_cases hlt : e < l.length
        case neg =>
          go_wp2_with (go_at_call 125; refine (holds_any _ _).mono ?_; rintro e w' ⟨rfl, rfl⟩)
          go_ret2
          exact vstop HX.out HOK.out (kidB_end (by omega)) HC.out hbw (fun b h => h.1) hbl1.size HBO.out hoN hoK hcN hcK hts
        case pos =>
        obtain ⟨y, hy, e0, e1, e2, e3, e4⟩ := nd_at2 (hr.below hbw) e hlt
        have HY := Lib.hid hy
        clear hy
        by_cases hup : y.up = k
        case neg =>
          have hup' : (y.up == (k : Int)) = false := by simpa using hup
          go_wp2_with (go_at_call 125; refine (holds_any _ _).mono ?_; rintro e w' ⟨rfl, rfl⟩)
          go_ret2
          exact vstop HX.out HOK.out (by simp [kidB, HX.out, HY.out, hup]) HC.out hbw (fun b h => h.1) hbl1.size HBO.out hoN hoK hcN hcK hts
        case pos =>
          rw [hup] at e4
          have hkb : kidB l k e = true := by simp [kidB, HX.out, HY.out, hup, hh]
          have HKB := Lib.hid hkb
          clear hkb hup
          have hsum : k + 1 ≤ 1000000000 := by omega
          by_cases h7 : x.kind = 7
          case pos =>
            have H7 := Lib.hid h7
            rw [h7] at q0
            clear h7
            have hor : (ns = [] ∧ ordB x.kind ns y.name = true) ∨ (∃ g on sN, A1 = some ⟨g, on, none⟩ ∧ wr.cell? ⟨g, on + (ns.length - 1), none⟩ = some (.string sN) ∧ 0 < ns.length ∧ ordB x.kind ns y.name = Op.bytesLess sN.toList y.name.toList) := by
              rcases List.eq_nil_or_concat ns with hns | ⟨ns', m, hns⟩
              · exact .inl ⟨hns, by simp [ordB, hns]⟩
              · obtain ⟨g, on, sN, eA, _, hcm, hsN, _⟩ := name_at (Rds.of_own hoN) (ns.length - 1) (by rw [hns]; simp)
                have : sN = m := by rw [hns] at hsN; simpa using hsN.symm
                exact .inr ⟨g, on, sN, eA, hcm, by rw [hns]; simp, by simp [ordB, hns, this, H7.out, ltS]⟩
            cases hord : ordB x.kind ns y.name
            case false =>
              rcases hor with ⟨_, h⟩ | ⟨g, on, sN, rfl, hcm, hnp, h⟩
              · rw [hord] at h; cases h
              · rw [hord] at h
                have hbl := h.symm
                have HORD := Lib.hid hord
                clear hord h
                go_wp2_with (go_at_call 125; refine (holds_any _ _).mono ?_; rintro e w' ⟨rfl, rfl⟩)
                go_ret2
                exact vnone HX.out HY.out HOK.out HKB.out HC.out hbw (.inl HORD.out)
            case true =>
              have HORD := Lib.hid hord
              have hnl7 : ns.length = ks.length := by rw [HN.out, if_pos H7.out]
              have HNL := Lib.hid hnl7
              clear hnl7
              rcases hor with ⟨hns, _⟩ | ⟨g, on, sN, rfl, hcm, hnp, h⟩
              case' inl =>
                have hnz : ¬ 0 < ns.length := by rw [hns]; simp
                clear hns
              case' inr =>
                rw [hord] at h
                have hbl := h.symm
                clear h
              all_goals
                clear hord
                go_wp2_with (go_at_call 125; refine (holds_any _ _).mono ?_; rintro e w' ⟨rfl, rfl⟩)
                refine (IH.out (l.length - e) (by omega) e 7 wr rfl hlt (hr.below hbw)).mono ?_
                rintro e' w2 ⟨hb2, r, v, hvf, rfl, hopt⟩
                have HVF := Lib.hid hvf
                clear hvf
                rcases r with _ | ⟨t, e2⟩
                · obtain rfl : v = .pointer none := hopt
                  go_wp2
                  go_ret2
                  exact vnone HX.out HY.out HOK.out HKB.out HC.out (below_then hbw hbw.size hb2) (.inr ⟨HORD.out, H7.out ▸ HVF.out⟩)
                · obtain ⟨he1, he2⟩ := HVF.out.bound
                  have hopt' : TreeAt (fun b => wr.heap.size ≤ b) w2 v t := hopt
                  obtain ⟨pb, _, _, _, _, _, rfl, hpF, hpl, _⟩ := hopt'.open
                  have hbx2 := block_below HBX.out hb2
                  have hbo2 := block_below HBO.out hb2
                  have hoN2 := own_below hoN hb2
                  have hoK2 := own_below hoK hb2
                  have hts2 := hts.below hb2
                  have hszw := hb2.size
                  clear q0 q1 q2 f1 f2 hopt
                  have q0 := cell_of_block hbx2 0
                  have q1 := cell_of_block hbo2 3
                  have q2 := cell_of_block hbo2 4
                  have f1 := free_of_block hbo2 3
                  have f2 := free_of_block hbo2 4
                  have HBX2 := Lib.hid hbx2
                  have HBO2 := Lib.hid hbo2
                  clear hbx2 hbo2
                  simp at q0 q1 q2
                  rw [H7.out] at q0
                  go_wp2_with (at_builtin; refine append_one (w1.heap.size + 1) rfl (.tmp 97) (.tmp 99) 78 9 (.string ⟨#[]⟩) 1 16 rfl Tryz.underlying78 Tryz.infoStr rfl (by decide) (by decide) _ _ _ [.string y.name] rfl rfl (by simp) (by simp [Value.oneCell']) rfl hoN2 (by omega) (by omega) ?_)
                  intro A3 c3' w3 hc3' hown3 hg3 hat3
                  obtain ⟨hB3, hbx4, hbo3, hbo4, hN4, hK4, hts4, ht4⟩ := vname (wb := w.heap.size) (bo := w1.heap.size) hlx rfl (below_then hbw hbw.size hb2) HBX2.out HBO2.out hoN2 hoK2 hts2 (hopt'.frame (Agree.refl _ _) (fun b h1 h2 => ⟨by omega, by omega, by omega, fun h => by have := (own_base hoN _ h).2; omega, fun h => by have := (own_base hoK _ h).2; omega⟩)) hown3 hg3 hat3
                  have g1 := cell_of_block hbo3 3
                  have g2 := free_of_block hbo3 3
                  have g5 := cell_of_block hbo4 4
                  simp at g1 g5
                  have HBX4 := Lib.hid hbx4
                  have HBO4 := Lib.hid hbo4
                  have hsz4 := lt_of_block hbo4
                  simp [World.setCell] at hsz4
                  clear hbx4 hbo4 hbo3

                  go_wp2_with (at_builtin; refine append_one (w1.heap.size + 1) rfl (.tmp 107) (.tmp 109) 166 123 (.pointer none) 1 8 rfl Tryz.underlying166 Tryz.infoPtr rfl (by decide) (by decide) _ _ _ [.pointer (some ⟨pb, 0, none⟩)] rfl rfl (by simp [World.setCell]) (by simp [Value.oneCell']) rfl hK4 (by simp [World.setCell]; omega) (by omega) ?_)
                  intro A4 c4' w4 hc4' hown4 hg4 hat4
                  obtain ⟨hbo5, hrel5⟩ := vkids (l := l) (k := k) (e2 := e2) (x := x) (wb := w.heap.size) (bo := w1.heap.size) hlx rfl hB3 HBX4.out HBO4.out hN4 hK4 hts4 ht4 hown4 hg4 (by simpa [World.setCell] using hat4) (by omega) he2 (fun r hr' => HC.out r (vkid HX.out HY.out HKB.out HORD.out (by rw [H7.out]; exact HVF.out) (by rw [if_pos H7.out]; exact hr'))) (by rw [if_pos H7.out]; simp [HNL.out]) (by omega) (fun h => absurd H7.out h)
                  have g3 := cell_of_block hbo5 4
                  have g4 := free_of_block hbo5 4
                  simp at g3
                  have HREL := Lib.hid hrel5
                  clear hbo5 hrel5
                  go_wp2
                  go_roundw
                  case rel => exact HREL.out
                  case measure => simp [intOf]; omega
          case neg =>
            have hord : ordB x.kind ns y.name = true := by simp [ordB, h7]
            have HORD := Lib.hid hord
            clear hord
            go_wp2_with (go_at_call 125; refine (holds_any _ _).mono ?_; rintro e w' ⟨rfl, rfl⟩)
            refine (IH.out (l.length - e) (by omega) e x.kind wr rfl hlt (hr.below hbw)).mono ?_
            rintro e' w2 ⟨hb2, r, v, hvf, rfl, hopt⟩
            have HVF := Lib.hid hvf
            clear hvf
            rcases r with _ | ⟨t, e2⟩
            · obtain rfl : v = .pointer none := hopt
              go_wp2
              go_ret2
              exact vnone HX.out HY.out HOK.out HKB.out HC.out (below_then hbw hbw.size hb2) (.inr ⟨HORD.out, HVF.out⟩)
            · obtain ⟨he1, he2⟩ := HVF.out.bound
              have hopt' : TreeAt (fun b => wr.heap.size ≤ b) w2 v t := hopt
              obtain ⟨pb, _, _, _, _, _, rfl, hpF, hpl, _⟩ := hopt'.open
              have hbx2 := block_below HBX.out hb2
              have hbo2 := block_below HBO.out hb2
              have hoN2 := own_below hoN hb2
              have hoK2 := own_below hoK hb2
              have hts2 := hts.below hb2
              have hszw := hb2.size
              clear q0 q1 q2 f1 f2 hopt
              have q0 := cell_of_block hbx2 0
              have q1 := cell_of_block hbo2 3
              have q2 := cell_of_block hbo2 4
              have f1 := free_of_block hbo2 3
              have f2 := free_of_block hbo2 4
              have HBX2 := Lib.hid hbx2
              have HBO2 := Lib.hid hbo2
              clear hbx2 hbo2
              simp at q0 q1 q2
              go_wp2_with (at_builtin; refine append_one (w1.heap.size + 1) rfl (.tmp 107) (.tmp 109) 166 123 (.pointer none) 1 8 rfl Tryz.underlying166 Tryz.infoPtr rfl (by decide) (by decide) _ _ _ [.pointer (some ⟨pb, 0, none⟩)] rfl rfl (by simp) (by simp [Value.oneCell']) rfl hoK2 (by omega) (by omega) ?_)
              intro A4 c4' w4 hc4' hown4 hg4 hat4
              obtain ⟨hbo5, hrel5⟩ := vkids (l := l) (k := k) (e2 := e2) (x := x) (wb := w.heap.size) (bo := w1.heap.size) hlx rfl (below_then hbw hbw.size hb2) HBX2.out HBO2.out hoN2 hoK2 hts2 (hopt'.frame (Agree.refl _ _) (fun b h1 h2 => ⟨by omega, by omega, by omega, fun h => by have := (own_base hoN _ h).2; omega, fun h => by have := (own_base hoK _ h).2; omega⟩)) hown4 hg4 hat4 (by omega) he2 (fun r hr' => HC.out r (vkid HX.out HY.out HKB.out HORD.out HVF.out (by rw [if_neg h7]; exact hr'))) (by rw [if_neg h7]; rw [HN.out, if_neg h7]) (by omega) hn0
              have g3 := cell_of_block hbo5 4
              have g4 := free_of_block hbo5 4
              simp at g3
              have HREL := Lib.hid hrel5
              clear hbo5 hrel5
              go_wp2
              go_roundw
              case rel => exact HREL.out
              case measure => simp [intOf]; omega
end Go.Proofs.YtemcijhpmpdebaaGreatDoor
