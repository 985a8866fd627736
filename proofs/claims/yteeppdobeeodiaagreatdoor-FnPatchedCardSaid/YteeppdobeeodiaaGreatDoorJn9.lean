/- (*val).nodes: the nodes of a tree put behind others; (*val).value, (*val).told. (*val).value, (*val).told. -/
import Derived.Test.YteeppdobeeodiaaGreatDoorJn3
import Derived.Test.YteeppdobeeodiaaGreatDoorBs2
import Derived.Test.YteeppdobeeodiaaGreatDoorJn1
import Derived.Deep.RegionLaw
import Derived.Deep.DeepCutAuto
import Derived.Deep.CutBlock
import Derived.Test.YteeppdobeeodiaaGreatDoorValOf
namespace Go.Proofs.YteeppdobeeodiaaGreatDoor
open Go.RowKit
/-- append of one element, as one step of a region that draws its order. -/
theorem step_append_one {P : Program} {ops : Array Oper} {o : Oper} {a : Act} {W : World} {K : Act → World → Prop} {Q : Exit → Act → World → Prop} {E : Prop} (base : Nat) (hgd : o.guard = none) (s x : Operand) (t e : TypeId) (z : Value) (size bytes : Nat)
    (ho : o.op = .call { callee := .builtin .append, args := #[s, x], argTypes := #[t, t] }) (ht : P.underlying t = some (.slice e)) (hinfo : (P.info? e).map (fun i => (i.zero, i.size, i.bytes)) = some (some z, size, bytes)) (hz : z.cells.size = size) (hs0 : 0 < size)
    (v : Value) (n : Nat) (xs cs : List Value) (hs : a.eval s = v) {g : Nat} (hx : a.eval x = .slice (some ⟨g, 0, none⟩) 1 1) {T : TypeId} (hg : W.heap[g]? = some (.cells cs.toArray T (0, 0))) (h1 : ∀ u ∈ cs, u.oneCell' = true) (hcs : cs.length = size)
    (HO : W.ownsRow base e size v n xs) (hbase : base ≤ W.heap.size) (hm : n + 1 ≤ maxLen) (hl : (n + 1) * bytes ≤ 140737488355328)
    (h : ∀ A1 c1 w1, n + 1 ≤ c1 → w1.ownsRow base e size (.slice A1 (n + 1) c1) (n + 1) (xs ++ cs) → W.grownBy w1 v.ownBlock → K (a.put o.dst (.slice A1 (n + 1) c1)) w1) :
    if Region.wanted o (yielded ops a.tmps) = true then Oper.wp P o a W K Q else E := by
  have hw : Region.wanted o (yielded ops a.tmps) = true := by simp [Region.wanted, hgd]
  rw [if_pos hw]
  obtain ⟨v', w', hrun, h2, h3, _⟩ := append_run (P := P) base t o.type e z size bytes ht hinfo hz hs0 v n xs HO (some ⟨g, 0, none⟩) 1 1 cs (by rw [hcs, Nat.one_mul]) (rds_blk hg) h1 hm hl hbase
  unfold Oper.wp execOp
  simp only [ho, resolve, invoke, builtin, Sem.run_bind, Sem.run_pure, Result.andThen_ok, List.map_toArray, List.map_cons, List.map_nil, hs, hx, hrun]
  obtain ⟨A1, c1, rfl, hc1⟩ := own_slice h2
  exact h A1 c1 w' hc1 h2 h3
theorem flatL_false : ∀ (ks : List Tree) (ns : List ByteArray) (s a : Nat), Tree.flatL false ns ks s a = Tree.flatL false [] ks s a
  | [], _, _, _ => by rw [Tree.flatL, Tree.flatL]
  | k :: ks, ns, s, a => by
    rw [Tree.flatL, Tree.flatL, flatL_false ks ns.tail, flatL_false ks ([] : List ByteArray).tail]
    simp
/-- The row when the first i parts are put. -/
def ndsAt (t : Tree) (name : ByteArray) (up : Int) (xs : List Nd) (i : Nat) : List Nd := xs ++ (⟨t.kind, t.num, t.text, name, up⟩ :: Tree.flatL (t.kind == 7) (if (t.kind == 7) = true then t.names.take i else []) (t.kids.take i) xs.length (xs.length + 1))
def kidName (t : Tree) (i : Nat) : ByteArray := if (t.kind == 7) = true then t.names.getD i emptyB else emptyB
theorem ndsAt_length (t : Tree) (name : ByteArray) (up : Int) (xs : List Nd) (i : Nat) : (ndsAt t name up xs i).length = xs.length + 1 + Tree.countL (t.kids.take i) := by
  rw [ndsAt, List.length_append, List.length_cons, Tree.flatL_length]
  omega
theorem ndsAt_succ {t : Tree} {name : ByteArray} {up : Int} {xs : List Nd} {i : Nat} {k : Tree} (hk : t.kids[i]? = some k) (hsh : t.kind = 7 → t.names.length = t.kids.length) : ndsAt t name up xs (i + 1) = ndsAt t name up xs i ++ k.flat (kidName t i) (xs.length : Int) (ndsAt t name up xs i).length := by
  have hik : i < t.kids.length := (List.getElem?_eq_some_iff.1 hk).1
  have e1 : t.kids.take (i + 1) = t.kids.take i ++ [k] := by rw [List.take_add_one, hk]; rfl
  rw [ndsAt_length, ndsAt, ndsAt, List.append_assoc, List.cons_append]
  congr 2
  have hs := Tree.flatL_snoc (t.kind == 7) (t.kids.take i) (if (t.kind == 7) = true then t.names.take i else []) xs.length (xs.length + 1) k (kidName t i) (fun h => by
    have h7 : t.kind = 7 := by simpa using h
    have := hsh h7
    simp [h, List.length_take]
    omega) (fun h => by simp [kidName, h])
  rw [← hs, e1]
  congr 1
  by_cases h : (t.kind == 7) = true
  · have h7 : t.kind = 7 := by simpa using h
    have hl := hsh h7
    simp only [h, if_true, kidName]
    rw [List.take_add_one, List.getD_eq_getElem?_getD]
    have hn : t.names[i]? = some (t.names[i]'(by omega)) := by simp
    rw [hn]
    rfl
  · simp only [if_neg h]
theorem ndsAt_zero (t : Tree) (name : ByteArray) (up : Int) (xs : List Nd) : ndsAt t name up xs 0 = xs ++ [⟨t.kind, t.num, t.text, name, up⟩] := by simp [ndsAt, Tree.flatL]
theorem ndsAt_all (t : Tree) (name : ByteArray) (up : Int) (xs : List Nd) (hsh : t.kind = 7 → t.names.length = t.kids.length) : ndsAt t name up xs t.kids.length = xs ++ t.flat name up xs.length := by
  rw [Tree.flat_eq, ndsAt, List.take_length]
  by_cases h : (t.kind == 7) = true
  · have h7 : t.kind = 7 := by simpa using h
    rw [if_pos h, ← hsh h7, List.take_length]
  · have h' : (t.kind == 7) = false := by simpa using h
    rw [if_neg h, h', flatL_false t.kids t.names]
theorem agree_base {F : Nat → Prop} {base : Nat} {w w1 : World} (hb : Below base w w1) (hF : ∀ b, F b → b < base) : Agree F w w1 := ⟨hb.size, fun b h _ => hb.block b (hF b h)⟩
def NodesPost (base : Nat) (xs : List Nd) (w : World) (e : Ending) (w' : World) : Prop :=
  ∃ A c, e = .returned (.slice A xs.length c) ∧ w'.ownsRow base 50 5 (.slice A xs.length c) xs.length (ndCells xs) ∧ Below base w w'
def NodesSpec (t : Tree) : Prop := t.shaped → ∀ (base : Nat) (xs : List Nd) (A : Option Addr) (c : Nat) (name : ByteArray) (up : Int) (F : Nat → Prop) (v : Value) (w : World), TreeAt F w v t → (∀ b, F b → b < base) → base ≤ w.heap.size → xs.length + t.count ≤ 1000000000 →
  w.ownsRow base 50 5 (.slice A xs.length c) xs.length (ndCells xs) → Calls Tryz.prog 76 #[v, .slice A xs.length c, .string name, .int .i64 up] w (NodesPost base (xs ++ t.flat name up xs.length) w)
set_option maxRecDepth 100000 in
set_option maxHeartbeats 4000000 in
theorem nodes_any : ∀ t, NodesSpec t := Tree.ind fun t ih hsh base xs A c name up F v w ht hF hbase hsize ho => by
  obtain ⟨b, A1, c1, A2, c2, ps, rfl, hFb, hl, h0, h1, h2, h3, g3, r3, h4, g4, r4, hts⟩ := ht.open
  have hcnt := t.count_eq
  have hbb := hF b hFb
  have HO := Lib.hid ho
  have HTS := Lib.hid hts
  have R3 := Lib.hid r3
  have R4 := Lib.hid r4
  have HIH := Lib.hid ih
  rw [Tree.shaped_eq] at hsh
  have HSH := Lib.hid hsh
  have HFF := Lib.hid hF
  clear ho hts r3 r4 ht ih hsh hF
  go_enter Tryz.func76, Tryz.ntmps76
  go_wp2
  go_cut [1] (fun ov wx => ∃ A3 c3, ov = .slice A3 (xs.length + 1) c3 ∧ wx.ownsRow base 50 5 (.slice A3 (xs.length + 1) c3) (xs.length + 1) (ndCells xs ++ [.int .i64 t.kind, .int .i64 t.num, .string t.text, .string name, .int .i64 up]) ∧ Below base w wx)
  case first =>
    go_region_law (refine step_append_one base rfl (.tmp 15) (.tmp 31) 23 50 _ 5 56 rfl Tryz.underlying23 infoNode rfl (by decide) (.slice A xs.length c) xs.length (ndCells xs) [.int .i64 t.kind, .int .i64 t.num, .string t.text, .string name, .int .i64 up] rfl rfl (heap_alloc_new _ _) (by simp [Value.oneCell']) rfl (HO.out.alloc _) (by simp; omega) (by simp only [maxLen]; omega) (by omega) ?_; intro A3 c3 w1 hc3 hown1 hg1)
    all_goals
      have hb1 : Below base w w1 := ((Below.refl base w).alloc hbase _).drew.grown hg1 (by simp; omega) (fun k hk => (own_base HO.out k hk).1)
      clear hg1
      go_wp2
      go_meet
      exact ⟨A3, c3, rfl, hown1, hb1⟩
  case rest =>
    obtain ⟨A3, c3, rfl, hown1, hb1⟩ := hcut
    have hcell : ∀ j, wc.cell? ⟨b, j, none⟩ = w.cell? ⟨b, j, none⟩ := fun j => World.cell?_of_block (a := ⟨b, j, none⟩) (hb1.block b hbb)
    have q4 := (hcell 4).trans h4
    have HO1 := Lib.hid hown1
    have HB1 := Lib.hid hb1
    clear hown1 hb1 hcell
    have hc1 : (ndsAt t name up xs 0).length = xs.length + 1 := by rw [ndsAt_length]; simp [Tree.countL]
    have ho1 : wc.ownsRow base 50 5 (.slice A3 (ndsAt t name up xs 0).length c3) (ndsAt t name up xs 0).length (ndCells (ndsAt t name up xs 0)) := by
      have h := HO1.out
      rw [hc1, ndsAt_zero]
      simpa [ndCells, Nd.cells] using h
    have HO2 := Lib.hid ho1
    have h0b := h0
    have hcnl := Tree.kids_le_count t.kids
    rw [← hc1]
    clear ho1 hc1 h0 h1 h2 h4
    go_wp2
    go_loopw [1, 38] (fun ov iv wx => ∃ (i : Nat) (A' : Option Addr) (c' : Nat), ov = .slice A' (ndsAt t name up xs i).length c' ∧ iv = .int .i64 (i : Int) ∧ i ≤ t.kids.length ∧ Hid (wx.ownsRow base 50 5 (.slice A' (ndsAt t name up xs i).length c') (ndsAt t name up xs i).length (ndCells (ndsAt t name up xs i))) ∧ Below base w wx) (fun _ iv _ => t.kids.length - (intOf iv).toNat)
    case atStart => exact ⟨0, A3, c3, rfl, rfl, Nat.zero_le _, HO2.out, HB1.out⟩
    case round =>
      obtain ⟨i, A', c', rfl, rfl, hi, hown, hbx⟩ := hrel
      have HON := Lib.hid hown
      have HBX := Lib.hid hbx
      have hszx : base ≤ wr.heap.size := Nat.le_trans hbase hbx.size
      have hcell : ∀ j, wr.cell? ⟨b, j, none⟩ = w.cell? ⟨b, j, none⟩ := fun j => World.cell?_of_block (a := ⟨b, j, none⟩) (hbx.block b hbb)
      by_cases hlt : i < t.kids.length
      · have hag : ∀ G : Nat → Prop, (∀ b, G b → b < base) → Agree G w wr := fun G hG => agree_base hbx hG
        obtain ⟨bk, ok, kp, k, rfl, hkl, k0, hkt, hkx, hkm⟩ := kid_at (R4.out.frame (hag _ HFF.out)) (HTS.out.frame (hag _ HFF.out) (fun _ h _ => h)) i hlt
        have hkc := Tree.countL_take_succ t.kids i k hkx
        have hkc2 := Tree.countL_take_le t.kids (i + 1)
        have HKX := Lib.hid hkx
        have hnl := ndsAt_length t name up xs i
        have hrec := HIH.out k hkm (Tree.shapedL_mem HSH.out.2 hkm) base (ndsAt t name up xs i) A' c' (kidName t i) (xs.length : Int) F kp wr hkt HFF.out hszx (by rw [hnl]; omega) HON.out
        rw [← ndsAt_succ hkx HSH.out.1] at hrec
        have x0 := (hcell 0).trans h0b
        have x3 := (hcell 3).trans h3
        have hr3 := R3.out.frame (hag _ HFF.out)
        clear hown hbx hcell hag hkt hkx hkm hnl
        by_cases h7 : t.kind = 7
        · have hnk := HSH.out.1 h7
          obtain ⟨bn, on, s, rfl, hnl, n0, hs, _⟩ := name_at hr3 i (by omega)
          have hkn : kidName t i = s := by
            rw [kidName, if_pos (by simpa using h7), List.getD_eq_getElem?_getD, hs]
            rfl
          rw [hkn] at hrec
          rw [h7] at x0
          have hltn : i < t.names.length := by omega
          have HREC := Lib.hid hrec
          clear hrec hs hkn hr3 hnk h7 h0b h3
          go_wp2_with fail
          refine HREC.out.mono ?_
          rintro e w4 ⟨A5, c5, rfl, hown5, hb5⟩
          have HO5 := Lib.hid hown5
          have HB5 := Lib.hid (HBX.out.trans hb5)
          clear hown5 hb5 HREC
          go_wp2
          go_roundw
          case rel => exact ⟨i + 1, A5, c5, rfl, by go_num, by omega, HO5.out, HB5.out⟩
          case measure => simp [intOf]; omega
        · have hkn : kidName t i = ⟨#[]⟩ := by
            rw [kidName, if_neg (by simpa using h7)]
            rfl
          rw [hkn] at hrec
          have HREC := Lib.hid hrec
          clear hrec hkn hr3 h0b h3
          go_wp2_with fail
          refine HREC.out.mono ?_
          rintro e w4 ⟨A5, c5, rfl, hown5, hb5⟩
          have HO5 := Lib.hid hown5
          have HB5 := Lib.hid (HBX.out.trans hb5)
          clear hown5 hb5 HREC
          go_wp2
          go_roundw
          case rel => exact ⟨i + 1, A5, c5, rfl, by go_num, by omega, HO5.out, HB5.out⟩
          case measure => simp [intOf]; omega
      · obtain rfl : i = t.kids.length := by omega
        have HALL := Lib.hid (ndsAt_all t name up xs HSH.out.1)
        clear hown hbx hcell
        go_wp2
        go_ret
        refine ⟨A', c', ?_, ?_, HBX.out⟩
        · rw [← HALL.out]
          rfl
        · rw [← HALL.out]
          exact HON.out
end Go.Proofs.YteeppdobeeodiaaGreatDoor
namespace Go.Proofs.YteeppdobeeodiaaGreatDoor
open Go.RowKit
theorem results_row_one {P : Program} {fn : Func} {p u : Tmp} {ty : TypeId} (h : fn.results = #[.cell p ty, .tmp u]) (tmps : Array Value) (w : World) (g : Nat) (t : TypeId) (cs : Array Value) (fr : Nat × Nat) (d : TypeDesc)
    (hp : tmps.getD p undef = .pointer (some ⟨g, 0, none⟩)) (hg : w.heap[g]? = some (.cells cs t fr))
    (hu : P.underlying ty = some d) (hd : (match d with | .struct _ | .array _ _ => true | _ => false) = true) (hi : (P.info? ty).map (·.size) = some cs.size) :
    (results fn tmps).run P w = .ok (.tuple #[.agg cs, tmps.getD u undef]) w := by
  have hp' : tmps[p]?.getD undef = .pointer (some ⟨g, 0, none⟩) := by simpa using hp
  simp [results, h, hp', asAddr, run_loadVar_row w g t ty cs fr d hg hu hd hi]
theorem NdOwn.shape {l : List Nd} {w w' : World} {v : Value} (h : NdOwn l w v w') : ∃ A c, v = .slice A l.length c := by
  obtain ⟨_, A, c, e, _⟩ := h
  exact ⟨A, c, e⟩
/-- A row of nodes of the call's own, behind a cell that is set too. -/
theorem NdOwn.cell {l : List Nd} {w w1 w4 : World} {v : Value} (hb : Below w.heap.size w w1) (h : NdOwn l w1 v w4) {g : Nat} (hg1 : w.heap.size ≤ g) (hg2 : g < w1.heap.size) (u : Value) : NdOwn l w v (w4.setCell ⟨g, 0, none⟩ u) := by
  obtain ⟨h1, A, c, rfl, hc, h2, h3⟩ := h
  have ha : Agree (fun b => w1.heap.size ≤ b) w4 (w4.setCell ⟨g, 0, none⟩ u) := Agree.of_setCell _ _ _ (fun b hb e => by have hb' : w1.heap.size ≤ b := hb; have e' : b = g := e; omega)
  have hs := hb.size
  exact ⟨(below_then hb hs h1).setCell hg1 _, A, c, rfl, hc, (h2.frame ha).mono (fun b hb' _ => Nat.le_trans hs hb'), own_weaken (own_agree h3 ha (fun k hk => (own_base h3 k hk).1)) hs⟩
theorem NdOwn.nil {w w' : World} (hb : Below w.heap.size w w') : NdOwn [] w (.slice none 0 0) w' := ⟨hb, none, 0, rfl, Nat.le_refl _, Rds.nil _ _ _, World.ownsRow_nil _ _ _ _⟩
def ValuePost (t : Tree) (w : World) (e : Ending) (w' : World) : Prop := ∃ v, e = .returned (.agg #[v]) ∧ NdOwn (t.flat emptyB (-1) 0) w v w'
set_option maxRecDepth 100000 in
set_option maxHeartbeats 1600000 in
theorem value_any (t : Tree) (hsh : t.shaped) (hc : t.count ≤ 1000000000) (F : Nat → Prop) (v : Value) (w : World) (ht : TreeAt F w v t) :
    Calls Tryz.prog 44 #[v] w (ValuePost t w) := by
  have hb1 : Below w.heap.size w (w.alloc (.cells #[.slice none 0 0] 25 (0, 0))) := (Below.refl _ _).alloc (Nat.le_refl _) _
  have k1 := heap_alloc_new w (.cells #[.slice none 0 0] 25 (0, 0))
  have hs1 : (w.alloc (.cells #[.slice none 0 0] 25 (0, 0))).heap.size = w.heap.size + 1 := by simp
  have HN := Lib.hid (show Calls Tryz.prog 76 #[v, .slice none 0 0, .string ⟨#[]⟩, .int .i64 (-1)] (w.alloc (.cells #[.slice none 0 0] 25 (0, 0))) (NodesPost (w.heap.size + 1) (t.flat emptyB (-1) 0) (w.alloc (.cells #[.slice none 0 0] 25 (0, 0)))) from nodes_any t hsh (w.heap.size + 1) [] none 0 ⟨#[]⟩ (-1) (fun b => F b ∧ b < w.heap.size) v (w.alloc (.cells #[.slice none 0 0] 25 (0, 0))) (ht.frame (Agree.of_below hb1) (fun b h h' => ⟨h, h'⟩)) (fun b h => by have := h.2; omega) (by omega) (by simpa using hc) (World.ownsRow_nil _ _ _ _))
  obtain ⟨bx, _, _, _, _, _, rfl, _⟩ := ht.open
  have HB1 := Lib.hid hb1
  have HK1 := Lib.hid k1
  clear ht hb1 k1
  go_enter Tryz.func44, Tryz.ntmps44
  go_wp2_with fail
  generalize w.alloc (.cells #[.slice none 0 0] 25 (0, 0)) = w1 at HN HB1 HK1 hs1 ⊢
  refine HN.out.mono ?_
  rintro e w2 ⟨A, c, rfl, ho, hb2⟩
  have hb2' : Below w1.heap.size w1 w2 := by rw [hs1]; exact hb2
  have K1 := block_below HK1.out hb2'
  have x1 := cell_of_block K1 0
  have f1 := free_of_block K1 0
  simp at x1
  have HK2 := Lib.hid K1
  have HO := Lib.hid (show NdOwn (t.flat emptyB (-1) 0) w1 (.slice A (t.flat emptyB (-1) 0).length c) w2 from by
    have ho' := ho
    rw [← hs1] at ho'
    obtain ⟨A', c', e, hc'⟩ := own_slice ho'
    injection e with _ _ e3
    exact ⟨hb2', A, c, rfl, by omega, Rds.of_own ho', ho'⟩)
  clear ho hb2 hb2' K1 HN
  go_wp2
  refine bodyPost_ret (results_cell_row rfl _ _ w.heap.size _ _ _ _ rfl (block_setCell HK2.out _ _) Tryz.underlying25 rfl ((info_size infoValue).trans (by simp))) rfl ?_
  exact ⟨_, rfl, NdOwn.cell HB1.out HO.out (Nat.le_refl _) (by omega) _⟩
/-- What a tree is told as. -/
def Told (o : Option Tree) (l : List Nd) (f : Bool) : Prop := (f = true ∧ ∃ t, o = some t ∧ t.good = true ∧ l = t.flat emptyB (-1) 0) ∨ (f = false ∧ l = [] ∧ goodO o = false)
def ToldPost (o : Option Tree) (w : World) (e : Ending) (w' : World) : Prop := ∃ l v f, e = .returned (.tuple #[.agg #[v], .bool f]) ∧ Told o l f ∧ NdOwn l w v w'
set_option maxRecDepth 100000 in
set_option maxHeartbeats 1600000 in
theorem told_any (o : Option Tree) (ho : ∀ t, o = some t → t.shaped ∧ t.sized ∧ t.count ≤ 1000000000) (F : Nat → Prop) (v : Value) (w : World) (ht : OptAt F w v o) (htab : Tabs w.heap.size w) :
    Calls Tryz.prog 22 #[v] w (ToldPost o w) := by
  have hb1 : Below w.heap.size w (w.alloc (.cells #[.slice none 0 0] 25 (0, 0))) := (Below.refl _ _).alloc (Nat.le_refl _) _
  have k1 := heap_alloc_new w (.cells #[.slice none 0 0] 25 (0, 0))
  have hs1 : (w.alloc (.cells #[.slice none 0 0] 25 (0, 0))).heap.size = w.heap.size + 1 := by simp
  have hot : OptAt F (w.alloc (.cells #[.slice none 0 0] 25 (0, 0))) v o := by
    cases o with
    | none => exact ht
    | some t => exact TreeAt.below ht hb1
  have HG := Lib.hid (good_any o F v _ ho hot ((htab.below hb1).mono hb1.size))
  have HOT := Lib.hid hot
  have HS := Lib.hid ho
  have hv : ∃ a, v = .pointer a := by
    cases o with
    | none => exact ⟨none, ht⟩
    | some t => obtain ⟨bx, _, _, _, _, _, e, _⟩ := TreeAt.open (show TreeAt F w v t from ht); exact ⟨_, e⟩
  obtain ⟨va, rfl⟩ := hv
  have HB1 := Lib.hid hb1
  have HK1 := Lib.hid k1
  clear ht hb1 k1 hot ho htab
  go_enter Tryz.func22, Tryz.ntmps22
  go_wp2_with fail
  generalize w.alloc (.cells #[.slice none 0 0] 25 (0, 0)) = w1 at HG HB1 HK1 HOT hs1 ⊢
  refine HG.out.mono ?_
  rintro e w2 ⟨rfl, hb2⟩
  have HB2 := Lib.hid (below_then HB1.out HB1.out.size hb2)
  have hs2 := hb2.size
  have K1 := block_below HK1.out hb2
  have x1 := cell_of_block K1 0
  have f1 := free_of_block K1 0
  simp at x1
  have HK2 := Lib.hid K1
  have HBB := Lib.hid hb2
  clear hb2 K1 HG
  cases hg : goodO o
  · have HGF := Lib.hid hg
    clear hg
    go_wp2
    refine bodyPost_ret (results_row_one rfl _ _ w.heap.size _ _ _ _ rfl (block_setCell HK2.out _ _) Tryz.underlying25 rfl ((info_size infoValue).trans (by simp))) rfl ?_
    exact ⟨[], _, false, rfl, .inr ⟨rfl, rfl, HGF.out⟩, NdOwn.nil (HB2.out.setCell (p := ⟨w.heap.size, 0, none⟩) (Nat.le_refl _) _)⟩
  · obtain ⟨t, rfl⟩ : ∃ t, o = some t := by
      cases o with
      | none => cases hg
      | some t => exact ⟨t, rfl⟩
    have HGT := Lib.hid (show t.good = true from hg)
    obtain ⟨h1, h2, h3⟩ := HS.out t rfl
    have HV := Lib.hid (value_any t h1 h3 F (.pointer va) w2 (TreeAt.below (show TreeAt F w1 (.pointer va) t from HOT.out) HBB.out))
    clear hg h1 h2
    go_wp2_with fail
    refine HV.out.mono ?_
    rintro e w3 ⟨u, rfl, hown⟩
    obtain ⟨A4, c4, rfl⟩ := hown.shape
    have K3 := block_below HK2.out hown.1
    have x3 := cell_of_block K3 0
    have f3 := free_of_block K3 0
    simp at x3
    have HK3 := Lib.hid K3
    have HO := Lib.hid hown
    clear hown K3 x1 f1
    go_wp2
    refine bodyPost_ret (results_row_one rfl _ _ w.heap.size _ _ _ _ rfl (block_setCell HK3.out _ _) Tryz.underlying25 rfl ((info_size infoValue).trans (by simp))) rfl ?_
    exact ⟨_, _, true, rfl, .inl ⟨rfl, t, rfl, HGT.out, rfl⟩, NdOwn.cell HB2.out HO.out (Nat.le_refl _) (by omega) _⟩
end Go.Proofs.YteeppdobeeodiaaGreatDoor
