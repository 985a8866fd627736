/- The walks of the laws' own functions on values: szNode.., toNode.., eqNode... The walks of toNode, toNodeS, eqNode, eqNodeS; of szValue, toValue, eqValue. The walks of toNodeS, eqNodeS; of szValue, toValue, eqValue. The walk of eqValue. -/
import Derived.Test.YtemcijhpmpdebaaGreatDoorBase
import Derived.Laws.MakeOwn
import Derived.Laws.Entries
import Derived.StillTailTactics
namespace Go.Proofs.YtemcijhpmpdebaaGreatDoor
open Go.RowKit
theorem make_rowN {P : Program} (t e : TypeId) (z : Value) (size bytes : Nat) (ht : P.underlying t = some (.slice e)) (hi : (P.info? e).map (fun i => (i.zero, i.size, i.bytes)) = some (some z, size, bytes))
    (c : Nat) (hbytes : bytes * c ≤ 281474976710656) (h63 : c ≤ 9223372036854775807) (w : World) :
    (Instr.makeSlice t (.int .i64 (c : Int)) (.int .i64 (c : Int))).run P w = .ok (.slice (some ⟨w.heap.size, 0, none⟩) c c) (w.alloc (.cells (madeCells z.cells (c * size)) e)) := by
  obtain ⟨i, hi, hzz⟩ := Option.map_eq_some_iff.1 hi
  simp only [Prod.mk.injEq] at hzz
  obtain ⟨hz0, hz1, hz2⟩ := hzz
  have hb : (i.bytes : Int) * (c : Int) ≤ 281474976710656 := by
    have h : ((i.bytes * c : Nat) : Int) ≤ 281474976710656 := by rw [hz2]; omega
    rwa [Int.natCast_mul] at h
  have hr := run_make (P := P) w t e i z ht hi hz0 .i64 .i64 c c (by omega) (by omega) hb (by omega)
  simp only [Int.toNat_natCast] at hr
  rw [hr, hz1]
theorem info_size {P : Program} {t : TypeId} {z : Option Value} {s b : Nat} (h : (P.info? t).map (fun i => (i.zero, i.size, i.bytes)) = some (z, s, b)) : (P.info? t).map (·.size) = some s := by
  obtain ⟨i, hi, e⟩ := Option.map_eq_some_iff.1 h
  simp only [Prod.mk.injEq] at e
  rw [hi, Option.map_some, e.2.1]
theorem blk_skip {w : World} {b : Nat} {o : Obj} (a : Addr) (v : Value) (h : w.heap[b]? = some o) (ha : b ≠ a.block) : (w.setCell a v).heap[b]? = some o := (Below.heap_setCell w a v b ha).trans h
theorem blk_old {w : World} {b : Nat} {o o' : Obj} (h : w.heap[b]? = some o) : (w.alloc o').heap[b]? = some o := (heap_alloc_old w o' (lt_of_block h)).trans h
theorem blk_new {w : World} {b : Nat} (o : Obj) (h : b = w.heap.size) : (w.alloc o).heap[b]? = some o := by subst h; exact heap_alloc_new w o
/-- What lies in a block behind the steps of a walk. -/

theorem cells5 {w : World} {b : Nat} {v0 v1 v2 v3 v4 : Value} {T : TypeId} (h : w.heap[b]? = some (.cells #[v0, v1, v2, v3, v4] T (0, 0))) :
    w.cell? ⟨b, 0, none⟩ = some v0 ∧ w.cell? ⟨b, 1, none⟩ = some v1 ∧ w.cell? ⟨b, 2, none⟩ = some v2 ∧ w.cell? ⟨b, 3, none⟩ = some v3 ∧ w.cell? ⟨b, 4, none⟩ = some v4 := by
  simp [cell_of_block h]
theorem free5 {w : World} {b : Nat} {cs : Array Value} {T : TypeId} (h : w.heap[b]? = some (.cells cs T (0, 0))) :
    w.frozen? ⟨b, 0, none⟩ = false ∧ w.frozen? ⟨b, 1, none⟩ = false ∧ w.frozen? ⟨b, 2, none⟩ = false ∧ w.frozen? ⟨b, 3, none⟩ = false ∧ w.frozen? ⟨b, 4, none⟩ = false := by
  simp [free_of_block h]
/-! ### sizes -/
/-- All its texts are at most m long. -/
def Nd.small (m : Nat) (x : Nd) : Prop := x.text.size ≤ m ∧ x.name.size ≤ m
set_option maxHeartbeats 800000 in
theorem szNode_any (x : Nd) (n : Nat) (hn : n ≤ 1048576) (w : World) (h1 : x.text.size ≤ 9223372036854775807) (h2 : x.name.size ≤ 9223372036854775807) :
    Calls Tryz.prog 94 #[x.val, .int .i64 (n : Int)] w fun e w' => Below w.heap.size w w' ∧ ∃ r : Int, e = .returned (.int .i64 r) ∧ (r = -1 ∨ ∃ m : Nat, r = m ∧ m ≤ n ∧ x.small 1048576) := by
  unfold Nd.val
  have hb0 : ∀ o, Below w.heap.size w (w.alloc o) := fun o => (Below.refl _ _).alloc (Nat.le_refl _) _
  have e1 : wrap64 ((n : Int) - (x.text.size : Int)) = (n : Int) - (x.text.size : Int) := by unfold wrap64; omega
  by_cases c1 : x.text.size ≤ n
  · have e2 : wrap64 ((n : Int) - (x.text.size : Int) - (x.name.size : Int)) = (n : Int) - (x.text.size : Int) - (x.name.size : Int) := by unfold wrap64; omega
    by_cases c2 : x.text.size + x.name.size ≤ n
    · have d1 : decide ((n : Int) - (x.text.size : Int) < 0) = false := by simp; omega
      have d2 : decide ((n : Int) - (x.text.size : Int) - (x.name.size : Int) < 0) = false := by simp; omega
      go_enter Tryz.func94, Tryz.ntmps94
      go_wp2
      go_ret
      exact ⟨hb0 _, _, rfl, .inr ⟨n - x.text.size - x.name.size, by omega, by omega, by unfold Nd.small; omega⟩⟩
    · have d1 : decide ((n : Int) - (x.text.size : Int) < 0) = false := by simp; omega
      have d2 : decide ((n : Int) - (x.text.size : Int) - (x.name.size : Int) < 0) = true := by simp; omega
      go_enter Tryz.func94, Tryz.ntmps94
      go_wp2
      go_ret
      exact ⟨hb0 _, _, rfl, .inl rfl⟩
  · have d1 : decide ((n : Int) - (x.text.size : Int) < 0) = true := by simp; omega
    go_enter Tryz.func94, Tryz.ntmps94
    go_wp2
    go_ret
    exact ⟨hb0 _, _, rfl, .inl rfl⟩
def SzPost (l : List Nd) (n : Nat) (w : World) (e : Ending) (w' : World) : Prop :=
  Below w.heap.size w w' ∧ ∃ r : Int, e = .returned (.int .i64 r) ∧ (r = -1 ∨ ∃ m : Nat, r = m ∧ m ≤ n ∧ l.length ≤ n ∧ ∀ x ∈ l, x.small 1048576)
set_option maxHeartbeats 1600000 in
theorem szNodeS_any (l : List Nd) (hl : l.length ≤ 9223372036854775807) (hsz : ∀ x ∈ l, x.small 9223372036854775807) (F : Nat → Prop) (A : Option Addr) (c : Nat) (n : Nat) (hn : n ≤ 1048576) (w : World) (hr : Rds F w A (ndCells l)) :
    Calls Tryz.prog 78 #[.slice A l.length c, .int .i64 (n : Int)] w (SzPost l n w) := by
  have e1 : wrap64 ((n : Int) - (l.length : Int)) = (n : Int) - (l.length : Int) := by unfold wrap64; omega
  by_cases c1 : l.length ≤ n
  · have d1 : decide ((n : Int) - (l.length : Int) < 0) = false := by simp; omega
    have HR := Lib.hid hr
    have HS := Lib.hid hsz
    clear hr hsz
    go_enter Tryz.func78, Tryz.ntmps78
    go_wp2
    go_loopw [1, 5] (fun v i wx => ∃ k m : Nat, v = .int .i64 (m : Int) ∧ i = .int .i64 (k : Int) ∧ k ≤ l.length ∧ m ≤ n ∧ (∀ x ∈ l.take k, x.small 1048576) ∧ Below w.heap.size w wx) (fun _ i _ => l.length - (intOf i).toNat)
    case atStart => exact ⟨0, n - l.length, by go_num, rfl, Nat.zero_le _, by omega, fun x h => by simp at h, Below.refl _ _⟩
    case round =>
      obtain ⟨k, m, rfl, rfl, hk, hm, hall, hbx⟩ := hrel
      have HB := Lib.hid hbx
      have HA := Lib.hid hall
      clear hbx hall
      by_cases hlt : k < l.length
      · obtain ⟨b, o, x, rfl, hF, hbl, hx, g0, g1, g2, g3, g4⟩ := nd_at (HR.out.frame (Agree.of_below HB.out)) k hlt
        have hmem : x ∈ l := List.mem_of_getElem? hx
        have HX := Lib.hid hx
        clear hx
        have HC := Lib.hid (szNode_any x m (by omega) (by assumption) (HS.out x hmem).1 (HS.out x hmem).2)
        go_wp2_with fail
        refine HC.out.mono ?_
        rintro e w2 ⟨hb2, r, rfl, hr⟩
        have HB2 := Lib.hid (below_then HB.out HB.out.size hb2)
        rcases hr with rfl | ⟨m', rfl, hm', hs⟩
        · go_wp2
          go_ret
          exact ⟨HB2.out, _, rfl, .inl rfl⟩
        · have HSm := Lib.hid hs
          clear hs hb2
          go_wp2
          go_roundw
          case rel =>
            refine ⟨k+1, m', rfl, by go_num, by omega, by omega, fun y hy => ?_, HB2.out⟩
            rw [List.take_add_one, HX.out] at hy
            rcases List.mem_append.1 hy with hy | hy
            · exact HA.out y hy
            · obtain rfl : y = x := by simpa using hy
              exact HSm.out
          case measure => simp [intOf]; omega
      · go_wp2
        go_ret
        refine ⟨HB.out, _, rfl, .inr ⟨m, rfl, hm, c1, fun y hy => HA.out y ?_⟩⟩
        rw [List.take_of_length_le (by omega)]; exact hy
  · have d1 : decide ((n : Int) - (l.length : Int) < 0) = true := by simp; omega
    go_enter Tryz.func78, Tryz.ntmps78
    go_wp2
    go_ret
    exact ⟨Below.refl _ _, _, rfl, .inl rfl⟩
end Go.Proofs.YtemcijhpmpdebaaGreatDoor
namespace Go.Proofs.YtemcijhpmpdebaaGreatDoor
open Go.RowKit
theorem infoNode : (Tryz.prog.info? 100).map (fun i => (i.zero, i.size, i.bytes)) = some (some (.agg #[.int .i64 0, .int .i64 0, .string ⟨#[]⟩, .string ⟨#[]⟩, .int .i64 0]), 5, 56) := by kernel_rfl
set_option maxHeartbeats 1600000 in
theorem toNode_any (x : Nd) (w : World) :
    Calls Tryz.prog 97 #[x.val] w fun e w' => e = .returned x.val ∧ Below w.heap.size w w' := by
  unfold Nd.val
  go_enter Tryz.func97, Tryz.ntmps97
  go_wp2
  refine bodyPost_ret (results_cell_row rfl _ _ (w.heap.size + 1) _ _ _ _ rfl (by (repeat (first | with_reducible assumption | (with_reducible refine blk_new _ ?_; (first | rfl | (simp; done) | (simp; omega))) | with_reducible apply block_setCell | (with_reducible refine blk_skip _ _ ?_ ?_; rotate_left; (first | (simp; done) | (simp; omega))) | with_reducible refine blk_old ?_))) Tryz.underlying100 rfl ((info_size infoNode).trans (by simp))) rfl ?_
  refine ⟨rfl, ?_⟩
  repeat (first | exact Below.refl _ _ | refine Below.alloc ?_ (by simp <;> omega) _ | refine Below.setCell ?_ _ _ (by simp))
set_option maxHeartbeats 1600000 in
theorem eqNode_any (x y : Nd) (w : World) :
    Calls Tryz.prog 105 #[x.val, y.val] w fun e w' => (∃ r, e = .returned (.bool r) ∧ (x = y → r = true)) ∧ Below w.heap.size w w' := by
  unfold Nd.val
  go_enter Tryz.func105, Tryz.ntmps105
  go_wp2
  all_goals
    go_ret
    refine ⟨⟨_, rfl, fun h => ?_⟩, ((Below.refl _ _).alloc (Nat.le_refl _) _).alloc (by simp) _⟩
    subst h
    simp_all
end Go.Proofs.YtemcijhpmpdebaaGreatDoor
namespace Go.Proofs.YtemcijhpmpdebaaGreatDoor
open Go.RowKit
def zeroNd : Nd := ⟨0, 0, ⟨#[]⟩, ⟨#[]⟩, 0⟩
/-- A row of nodes, of which the first k are filled. -/
def halfRow (l : List Nd) (k : Nat) : List Nd := l.take k ++ List.replicate (l.length - k) zeroNd
theorem madeCells_rep (cs : List Value) (n : Nat) : madeCells cs.toArray (n * cs.length) = ((List.replicate n cs).flatten).toArray := by
  apply Array.ext'
  apply List.ext_getElem?
  intro i
  rcases Nat.eq_zero_or_pos cs.length with h0 | h0
  · have : cs = [] := List.length_eq_zero_iff.1 h0
    subst this
    simp [madeCells]
  · by_cases hi : i < n * cs.length
    · have hd : i / cs.length < n := Nat.div_lt_of_lt_mul (by rw [Nat.mul_comm]; exact hi)
      have hm : i % cs.length < cs.length := Nat.mod_lt _ h0
      have e : i = (i / cs.length) * cs.length + i % cs.length := by rw [Nat.mul_comm]; exact (Nat.div_add_mod i cs.length).symm
      have : (List.replicate n cs).flatten[i]? = cs[i % cs.length]? := by
        have key : ∀ (n i : Nat), i < n * cs.length → (List.replicate n cs).flatten[i]? = cs[i % cs.length]? := by
          intro n
          induction n with
          | zero => intro i h; simp at h
          | succ n ih =>
            intro i h
            rw [List.replicate_succ, List.flatten_cons]
            by_cases hc : i < cs.length
            · rw [List.getElem?_append_left hc, Nat.mod_eq_of_lt hc]
            · rw [List.getElem?_append_right (by omega), ih _ (by rw [Nat.succ_mul] at h; omega), ← Nat.mod_eq_sub_mod (by omega)]
        exact key n i hi
      rw [this]
      simp [madeCells, hi, hm]
    · have : (List.replicate n cs).flatten[i]? = none := by rw [List.getElem?_eq_none_iff]; simp; omega
      rw [this]
      simp [madeCells, hi]
theorem half_zero (l : List Nd) : ndCells (halfRow l 0) = (List.replicate l.length zeroNd.cells).flatten := by
  simp [ndCells, halfRow, List.flatMap, List.map_replicate]
theorem half_all (l : List Nd) (k : Nat) (h : l.length ≤ k) : halfRow l k = l := by
  rw [halfRow, List.take_of_length_le h, Nat.sub_eq_zero_of_le h]; simp
theorem half_length (l : List Nd) (k : Nat) (h : k ≤ l.length) : (halfRow l k).length = l.length := by simp [halfRow]; omega
theorem half_succ (l : List Nd) (k : Nat) (x : Nd) (h : l[k]? = some x) : halfRow l (k+1) = (halfRow l k).set k x := by
  have hk : k < l.length := (List.getElem?_eq_some_iff.1 h).1
  have hx : l[k] = x := (List.getElem?_eq_some_iff.1 h).2
  unfold halfRow
  rw [List.take_succ_eq_append_getElem hk, hx]
  obtain ⟨m, hm⟩ : ∃ m, l.length - k = m + 1 := ⟨l.length - k - 1, by omega⟩
  rw [hm, show l.length - (k+1) = m by omega, List.replicate_succ]
  rw [List.set_append_right _ _ (by simp; omega)]
  simp [List.length_take, Nat.min_eq_left (Nat.le_of_lt hk)]
theorem nd_set (l : List Nd) (k : Nat) (x : Nd) (hk : k < l.length) :
    (((((ndCells l).toArray.setIfInBounds (k*5) (.int .i64 x.kind)).setIfInBounds (k*5+1) (.int .i64 x.num)).setIfInBounds (k*5+2) (.string x.text)).setIfInBounds (k*5+3) (.string x.name)).setIfInBounds (k*5+4) (.int .i64 x.up) = (ndCells (l.set k x)).toArray := by
  induction l generalizing k with
  | nil => simp at hk
  | cons y l ih =>
    cases k with
    | zero => simp [ndCells, Nd.cells]
    | succ k =>
      have := congrArg Array.toList (ih k (by simpa using hk))
      simp at this
      apply Array.ext'
      simp only [ndCells, List.flatMap_cons, Nd.cells, List.set_cons_succ, List.setIfInBounds_toArray, List.cons_append, List.nil_append] at this ⊢
      rw [← this]
      simp only [show (k+1)*5 = k*5+5 by omega, show k*5+5+1 = (k*5+1)+5 by omega, show k*5+5+2 = (k*5+2)+5 by omega, show k*5+5+3 = (k*5+3)+5 by omega, show k*5+5+4 = (k*5+4)+5 by omega, List.set_cons_succ]
theorem five_sets {w : World} {g k : Nat} {cs : Array Value} {T : TypeId} {fr : Nat × Nat} (h : w.heap[g]? = some (.cells cs T fr)) (v0 v1 v2 v3 v4 : Value) :
    (((((w.setCell ⟨g, k, none⟩ v0).setCell ⟨g, k+1, none⟩ v1).setCell ⟨g, k+2, none⟩ v2).setCell ⟨g, k+3, none⟩ v3).setCell ⟨g, k+4, none⟩ v4).heap[g]? = some (.cells (((((cs.setIfInBounds k v0).setIfInBounds (k+1) v1).setIfInBounds (k+2) v2).setIfInBounds (k+3) v3).setIfInBounds (k+4) v4) T fr) :=
  block_setCell (block_setCell (block_setCell (block_setCell (block_setCell h _ _) _ _) _ _) _ _) _ _
theorem five_below {w w0 : World} {g k B : Nat} (h : Below B w0 w) (hg : B ≤ g) (v0 v1 v2 v3 v4 : Value) :
    Below B w0 (((((w.setCell ⟨g, k, none⟩ v0).setCell ⟨g, k+1, none⟩ v1).setCell ⟨g, k+2, none⟩ v2).setCell ⟨g, k+3, none⟩ v3).setCell ⟨g, k+4, none⟩ v4) :=
  ((((h.setCell hg _).setCell hg _).setCell hg _).setCell hg _).setCell hg _
theorem nd_cells_of {w : World} {g : Nat} {l : List Nd} {T : TypeId} (h : w.heap[g]? = some (.cells (ndCells l).toArray T (0, 0))) : Rds (fun b => b = g) w (some ⟨g, 0, none⟩) (ndCells l) := fun _ =>
  ⟨g, 0, rfl, rfl, lt_of_block h, fun j v hj => by rw [cell_of_block h, Nat.zero_add]; simpa using hj⟩
def ToPostW (l : List Nd) (w : World) (e : Ending) (w' : World) : Prop :=
  Below w.heap.size w w' ∧ ∃ A, e = .returned (.slice A l.length l.length) ∧ Own (fun b => w.heap.size ≤ b) w' 100 A (ndCells l)
def ToPost (l : List Nd) (w : World) (e : Ending) (w' : World) : Prop :=
  Below w.heap.size w w' ∧ ∃ A, e = .returned (.slice A l.length l.length) ∧ Rds (fun b => w.heap.size ≤ b) w' A (ndCells l)
set_option maxHeartbeats 1600000 in
theorem toNodeS_w (l : List Nd) (hl : l.length ≤ 1000000000) (F : Nat → Prop) (A : Option Addr) (c : Nat) (w : World) (hr : Rds F w A (ndCells l)) :
    Calls Tryz.prog 80 #[.slice A l.length c] w (ToPostW l w) := by
  have hmk := make_rowN (P := Tryz.prog) 53 100 _ 5 56 Tryz.underlying53 infoNode l.length (by omega) (by omega)
  have hz := madeCells_rep zeroNd.cells l.length
  rw [← half_zero] at hz
  have hz' : madeCells (Value.cells (.agg #[.int .i64 0, .int .i64 0, .string ⟨#[]⟩, .string ⟨#[]⟩, .int .i64 0])) (l.length * 5) = (ndCells (halfRow l 0)).toArray := hz
  rw [hz'] at hmk
  have HR := Lib.hid hr
  clear hr hz hz'
  go_enter Tryz.func80, Tryz.ntmps80
  go_wp2
  go_loopw [4] (fun i wx => ∃ k : Nat, i = .int .i64 (k : Int) ∧ k ≤ l.length ∧ Below w.heap.size w wx ∧ wx.heap[w.heap.size]? = some (.cells (ndCells (halfRow l k)).toArray 100 (0, 0))) (fun i _ => l.length - (intOf i).toNat)
  case atStart => exact ⟨0, rfl, Nat.zero_le _, (Below.refl _ _).alloc (Nat.le_refl _) _, heap_alloc_new _ _⟩
  case round =>
    obtain ⟨k, rfl, hk, hbx, hblk⟩ := hrel
    have HB := Lib.hid hbx
    have HK := Lib.hid hblk
    clear hbx hblk
    by_cases hlt : k < l.length
    · obtain ⟨b, o, x, rfl, hF, hbl, hx, g0, g1, g2, g3, g4⟩ := nd_at (HR.out.frame (Agree.of_below HB.out)) k hlt
      have HX := Lib.hid hx
      clear hx
      go_wp2_with fail
      refine (toNode_any x _).mono ?_
      rintro e w2 ⟨rfl, hb2⟩
      have HB2 := Lib.hid (below_then HB.out HB.out.size hb2)
      have HK2 := Lib.hid (block_below HK.out hb2)
      have hlen := half_length l k hk
      have r := nd_cells_of HK2.out
      obtain ⟨y, _, q0, q1, q2, q3, q4⟩ := nd_at2 r k (by omega)
      simp only [Nat.zero_add] at q0 q1 q2 q3 q4
      have f : ∀ j, w2.frozen? ⟨w.heap.size, j, none⟩ = false := free_of_block HK2.out
      have f0 := f (k*5)
      have f1 := f (k*5+1)
      have f2 := f (k*5+2)
      have f3 := f (k*5+3)
      have f4 := f (k*5+4)
      clear f r hb2 g0 g1 g2 g3 g4 hlen
      unfold Nd.val
      go_wp2
      go_roundw
      case rel =>
        have h5 := five_sets (k := k*5) HK2.out (.int .i64 x.kind) (.int .i64 x.num) (.string x.text) (.string x.name) (.int .i64 x.up)
        rw [nd_set _ _ _ (by rw [half_length l k hk]; exact hlt), ← half_succ l k x HX.out] at h5
        exact ⟨k+1, by go_num, by omega, five_below HB2.out (Nat.le_refl _) _ _ _ _ _, h5⟩
      case measure => simp [intOf]; omega
    · go_wp2
      go_ret
      refine ⟨HB.out, _, rfl, ?_⟩
      have h := HK.out
      rw [half_all l k (by omega)] at h
      exact (Own.of_blk h).mono (fun b hb _ => by subst hb; exact Nat.le_refl _)
theorem toNodeS_any (l : List Nd) (hl : l.length ≤ 1000000000) (F : Nat → Prop) (A : Option Addr) (c : Nat) (w : World) (hr : Rds F w A (ndCells l)) :
    Calls Tryz.prog 80 #[.slice A l.length c] w (ToPost l w) :=
  (toNodeS_w l hl F A c w hr).mono fun _ _ ⟨h1, A', h2, h3⟩ => ⟨h1, A', h2, h3.1⟩
set_option maxRecDepth 100000 in
set_option maxHeartbeats 1600000 in
theorem eqNodeS_any (l l2 : List Nd) (hl : l.length ≤ 1000000000) (h2 : l = l2) (F F2 : Nat → Prop) (A A2 : Option Addr) (c c2 : Nat) (w : World) (hr : Rds F w A (ndCells l)) (hr2 : Rds F2 w A2 (ndCells l2)) :
    Calls Tryz.prog 86 #[.slice A l.length c, .slice A2 l2.length c2] w fun e w' => e = .returned (.bool true) ∧ Below w.heap.size w w' := by
  subst h2
  have HR := Lib.hid hr
  have HR2 := Lib.hid hr2
  clear hr hr2
  go_enter Tryz.func86, Tryz.ntmps86
  go_wp2
  go_loopw [5] (fun i wx => ∃ k : Nat, i = .int .i64 (k : Int) ∧ k ≤ l.length ∧ Below w.heap.size w wx) (fun i _ => l.length - (intOf i).toNat)
  case atStart => exact ⟨0, rfl, Nat.zero_le _, Below.refl _ _⟩
  case round =>
    obtain ⟨k, rfl, hk, hbx⟩ := hrel
    have HB := Lib.hid hbx
    clear hbx
    by_cases hlt : k < l.length
    · obtain ⟨b, o, x, rfl, hF, hbl, hx, g0, g1, g2, g3, g4⟩ := nd_at (HR.out.frame (Agree.of_below HB.out)) k hlt
      obtain ⟨b2, o2, x2, rfl, hF2, hbl2, hx2, q0, q1, q2, q3, q4⟩ := nd_at (HR2.out.frame (Agree.of_below HB.out)) k hlt
      obtain rfl : x = x2 := by rw [hx] at hx2; injection hx2
      clear hx hx2
      have b1 : (k : Int) < (l.length : Int) := by omega
      go_wp2
      go_still_tail 8, (by kernel_rfl)
      have hdr : Below w.heap.size w wr.drew := HB.out.drew
      have HD := Lib.hid hdr
      clear hdr
      change wpList _ _ _ _ _ wr.drew
      generalize wr.drew = w2 at HD ⊢
      go_wp2_with fail
      refine (eqNode_any x x _).mono ?_
      rintro e w3 ⟨⟨r, rfl, hr⟩, hb3⟩
      obtain rfl := hr rfl
      have HB3 := Lib.hid (below_then HD.out HD.out.size hb3)
      clear hr hb3
      go_wp2
      go_roundw
      case rel => exact ⟨k+1, by go_num, by omega, HB3.out⟩
      case measure => simp [intOf]; omega
    · go_wp2
      go_ret
      exact ⟨rfl, HB.out⟩
/-! ### a value -/
def VSz (l : List Nd) (n : Nat) (w : World) (e : Ending) (w' : World) : Prop := SzPost l n w e w'
set_option maxHeartbeats 800000 in
theorem szValue_any (l : List Nd) (hl : l.length ≤ 9223372036854775807) (hsz : ∀ x ∈ l, x.small 9223372036854775807) (F : Nat → Prop) (A : Option Addr) (c : Nat) (n : Nat) (hn : n ≤ 1048576) (w : World) (hr : Rds F w A (ndCells l)) :
    Calls Tryz.prog 48 #[.agg #[.slice A l.length c], .int .i64 (n : Int)] w (SzPost l n w) := by
  have hb0 : ∀ o, Below w.heap.size w (w.alloc o) := fun o => (Below.refl _ _).alloc (Nat.le_refl _) _
  have HC := fun w1 (hb : Below w.heap.size w w1) => szNodeS_any l hl hsz F A c n hn w1 (hr.below hb)
  have H := Lib.hid HC
  clear HC hr hsz
  go_enter Tryz.func48, Tryz.ntmps48
  go_wp2_with fail
  refine (H.out _ (hb0 _)).mono ?_
  rintro e w2 ⟨hb2, r, rfl, hr⟩
  have HB2 := Lib.hid (below_then (hb0 _) (hb0 _).size hb2)
  clear hb2
  rcases hr with rfl | ⟨m', rfl, hm', hs⟩
  · go_wp2
    go_ret
    exact ⟨HB2.out, _, rfl, .inl rfl⟩
  · have HSm := Lib.hid hs
    clear hs
    go_wp2
    go_ret
    exact ⟨HB2.out, _, rfl, .inr ⟨m', rfl, hm', HSm.out⟩⟩
theorem infoValue : (Tryz.prog.info? 55).map (fun i => (i.zero, i.size, i.bytes)) = some (some (.agg #[.slice none 0 0]), 1, 24) := by kernel_rfl
def ToVPostW (l : List Nd) (w : World) (e : Ending) (w' : World) : Prop :=
  Below w.heap.size w w' ∧ ∃ A, e = .returned (.agg #[.slice A l.length l.length]) ∧ Own (fun b => w.heap.size ≤ b) w' 100 A (ndCells l)
def ToVPost (l : List Nd) (w : World) (e : Ending) (w' : World) : Prop :=
  Below w.heap.size w w' ∧ ∃ A, e = .returned (.agg #[.slice A l.length l.length]) ∧ Rds (fun b => w.heap.size ≤ b) w' A (ndCells l)
set_option maxHeartbeats 800000 in
theorem toValue_w (l : List Nd) (hl : l.length ≤ 1000000000) (F : Nat → Prop) (A : Option Addr) (c : Nat) (w : World) (hr : Rds F w A (ndCells l)) :
    Calls Tryz.prog 52 #[.agg #[.slice A l.length c]] w (ToVPostW l w) := by
  have HR := Lib.hid hr
  clear hr
  go_enter Tryz.func52, Tryz.ntmps52
  go_wp2_with fail
  have hb1 : Below w.heap.size w (((w.alloc (.cells #[.slice A l.length c] 49)).alloc (.cells #[.slice none 0 0] 55)).alloc (.cells #[.slice none 0 0] 55)) := (((Below.refl _ _).alloc (Nat.le_refl _) _).alloc (by simp) _).alloc (by simp <;> omega) _
  have k1 : (((w.alloc (.cells #[.slice A l.length c] 49)).alloc (.cells #[.slice none 0 0] 55)).alloc (.cells #[.slice none 0 0] 55)).heap[w.heap.size + 1]? = some (.cells #[.slice none 0 0] 55 (0, 0)) := by (repeat (first | with_reducible assumption | (with_reducible refine blk_new _ ?_; (first | rfl | (simp; done) | (simp; omega))) | with_reducible apply block_setCell | (with_reducible refine blk_skip _ _ ?_ ?_; rotate_left; (first | (simp; done) | (simp; omega))) | with_reducible refine blk_old ?_))
  have k2 : (((w.alloc (.cells #[.slice A l.length c] 49)).alloc (.cells #[.slice none 0 0] 55)).alloc (.cells #[.slice none 0 0] 55)).heap[w.heap.size + 2]? = some (.cells #[.slice none 0 0] 55 (0, 0)) := by (repeat (first | with_reducible assumption | (with_reducible refine blk_new _ ?_; (first | rfl | (simp; done) | (simp; omega))) | with_reducible apply block_setCell | (with_reducible refine blk_skip _ _ ?_ ?_; rotate_left; (first | (simp; done) | (simp; omega))) | with_reducible refine blk_old ?_))
  have hs : (((w.alloc (.cells #[.slice A l.length c] 49)).alloc (.cells #[.slice none 0 0] 55)).alloc (.cells #[.slice none 0 0] 55)).heap.size = w.heap.size + 3 := by simp
  refine (toNodeS_w l hl F A c _ (HR.out.below hb1)).mono ?_
  generalize ((w.alloc (.cells #[.slice A l.length c] 49)).alloc (.cells #[.slice none 0 0] 55)).alloc (.cells #[.slice none 0 0] 55) = w1 at hb1 k1 k2 hs ⊢
  rintro e w2 ⟨hb2, A2, rfl, hr2⟩
  have K1 := block_below k1 hb2
  have K2 := block_below k2 hb2
  have c1 := cell_of_block K1 0
  have c2 := cell_of_block K2 0
  have f1 := free_of_block K1 0
  have f2 := free_of_block K2 0
  simp at c1 c2
  have HK1 := Lib.hid K1
  have HK2 := Lib.hid K2
  have HB2 := Lib.hid (below_then hb1 hb1.size hb2)
  have HR2 := Lib.hid hr2
  have hs2 := hb2.size
  clear K1 K2 k1 k2 hb1 hb2 hr2
  go_wp2
  refine bodyPost_ret (results_cell_row rfl _ _ (w.heap.size + 1) _ _ _ _ rfl (block_setCell ((Below.heap_setCell _ _ _ _ (by simp)).trans HK1.out) _ _) Tryz.underlying55 rfl ((info_size infoValue).trans (by simp))) rfl ?_
  refine ⟨(HB2.out.setCell (by show w.heap.size ≤ w.heap.size + 1 + 1; omega) _).setCell (by show w.heap.size ≤ w.heap.size + 1; omega) _, A2, rfl, ?_⟩
  have hr3 := HR2.out.mono (G := fun b => w1.heap.size ≤ b) (fun b h _ => h)
  refine (Own.frame hr3 ((Agree.of_setCell _ _ _ ?_).trans (Agree.of_setCell _ _ _ ?_))).mono (fun b h _ => by omega)
  · intro b hb; simp; omega
  · intro b hb; simp; omega
theorem toValue_any (l : List Nd) (hl : l.length ≤ 1000000000) (F : Nat → Prop) (A : Option Addr) (c : Nat) (w : World) (hr : Rds F w A (ndCells l)) :
    Calls Tryz.prog 52 #[.agg #[.slice A l.length c]] w (ToVPost l w) :=
  (toValue_w l hl F A c w hr).mono fun _ _ ⟨h1, A', h2, h3⟩ => ⟨h1, A', h2, h3.1⟩
end Go.Proofs.YtemcijhpmpdebaaGreatDoor
namespace Go.Proofs.YtemcijhpmpdebaaGreatDoor
open Go.RowKit
set_option maxRecDepth 100000 in
set_option maxHeartbeats 800000 in
theorem eqValue_any (l l2 : List Nd) (hl : l.length ≤ 1000000000) (h2 : l = l2) (F F2 : Nat → Prop) (A A2 : Option Addr) (c c2 : Nat) (w : World) (hr : Rds F w A (ndCells l)) (hr2 : Rds F2 w A2 (ndCells l2)) :
    Calls Tryz.prog 58 #[.agg #[.slice A l.length c], .agg #[.slice A2 l2.length c2]] w fun e w' => e = .returned (.bool true) ∧ Below w.heap.size w w' := by
  subst h2
  have HC := fun w1 (hb : Below w.heap.size w w1) => eqNodeS_any l l hl rfl F F2 A A2 c c2 w1 (hr.below hb) (hr2.below hb)
  have H := Lib.hid HC
  clear HC hr hr2
  have hb0 : ∀ o o', Below w.heap.size w ((w.alloc o).alloc o') := fun o o' => ((Below.refl _ _).alloc (Nat.le_refl _) _).alloc (by simp) _
  go_enter Tryz.func58, Tryz.ntmps58
  go_wp2_with fail
  have hb1 := hb0 (.cells #[.slice A l.length c] 55) (.cells #[.slice A2 l.length c2] 55)


  generalize (w.alloc (.cells #[.slice A l.length c] 55)).alloc (.cells #[.slice A2 l.length c2] 55) = w1 at hb1 ⊢
  refine (H.out w1 hb1).mono ?_
  rintro e w3 ⟨rfl, hb3⟩
  have HB3 := Lib.hid (below_then hb1 hb1.size hb3)
  clear hb3 hb1 hb0
  go_wp2
  go_ret
  exact ⟨rfl, HB3.out⟩

end Go.Proofs.YtemcijhpmpdebaaGreatDoor
