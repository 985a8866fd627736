/- NewPaxos, the program's and the reference's. -/
import Derived.Test.YtemcijhpmpdebaaGreatDoorNg1
import Derived.Laws.ResultCell
import Derived.Deep.RegionLaw
namespace Go.Proofs.YtemcijhpmpdebaaGreatDoor
open Go.RowKit
theorem infoVoter : (Tryz.prog.info? 128).map (fun i => (i.zero, i.size, i.bytes)) = some (some (.agg #[.int .i64 0, .int .i64 0, .string ⟨#[]⟩]), 3, 32) := by kernel_rfl
theorem infoAsker : (Tryz.prog.info? 131).map (fun i => (i.zero, i.size, i.bytes)) = some (some (.agg #[.int .i64 0, .int .i64 0, .string ⟨#[]⟩, .slice none 0 0, .int .i64 0, .string ⟨#[]⟩, .bool false]), 7, 88) := by kernel_rfl
theorem infoPaxos : (Tryz.prog.info? 73).map (fun i => (i.zero, i.size, i.bytes)) = some (some (.agg #[.slice none 0 0, .slice none 0 0, .slice none 0 0, .slice none 0 0]), 4, 96) := by kernel_rfl
theorem own_blk {w : World} {g : Nat} {L : List Value} {T : TypeId} (h : w.heap[g]? = some (.cells L.toArray T (0, 0))) : Own (fun b => b = g) w T (some ⟨g, 0, none⟩) L :=
  ⟨rds_blk h, fun _ => ⟨g, 0, _, rfl, rfl, h, by simp⟩⟩
theorem results_two {P : Program} {fn : Func} {p u : Tmp} {ty : TypeId} (h : fn.results = #[.cell p ty, .tmp u]) (tmps : Array Value) (w : World) (g : Nat) (t : TypeId) (cs : Array Value) (fr : Nat × Nat) (d : TypeDesc)
    (hp : tmps.getD p undef = .pointer (some ⟨g, 0, none⟩)) (hg : w.heap[g]? = some (.cells cs t fr))
    (hu : P.underlying ty = some d) (hd : (match d with | .struct _ | .array _ _ => true | _ => false) = true) (hi : (P.info? ty).map (·.size) = some cs.size) :
    (results fn tmps).run P w = .ok (.tuple #[.agg cs, tmps.getD u undef]) w := by
  rw [results_cell_tmp h]
  simp only [hp, asAddr, Sem.run_pure, Result.andThen_ok, run_loadVar_row w g t ty cs fr d hg hu hd hi]
/-- What NewPaxos leaves. -/
def NpPost (n : Nat) (w : World) (e : Ending) (w' : World) : Prop :=
  ∃ p : PlR, e = .returned (.tuple #[.agg #[.slice p.av n p.cv, .slice p.ak 3 p.ck, .slice none 0 0, .slice none 0 0], .bool true]) ∧ Below w.heap.size w w' ∧ Own (fun b => w.heap.size ≤ b) w' 128 p.av (zeros zVo n) ∧ Own (fun b => w.heap.size ≤ b) w' 131 p.ak (zeros zAs 3)
theorem bl_three (w : World) (a b c : Obj) : Below w.heap.size w (((w.alloc a).alloc b).alloc c) := (((Below.refl _ _).alloc (Nat.le_refl _) _).alloc (by simp) _).alloc (by simp; omega) _
theorem np_one {n : Nat} {w : World} {V A : Array Value} (hV : V = (zeros zVo n).toArray) (hA : A = (zeros zAs 3).toArray) :
    let W := (((w.alloc (.cells #[.slice (some ⟨w.heap.size + 1, 0, none⟩) n n, .slice (some ⟨w.heap.size + 1 + 1, 0, none⟩) 3 3, .slice none 0 0, .slice none 0 0] 73 (0, 0))).alloc (.cells V 128 (0, 0))).alloc (.cells A 131 (0, 0))).drew
    W.heap[w.heap.size]? = some (.cells #[.slice (some ⟨w.heap.size + 1, 0, none⟩) n n, .slice (some ⟨w.heap.size + 1 + 1, 0, none⟩) 3 3, .slice none 0 0, .slice none 0 0] 73 (0, 0)) ∧ NpPost n w (.returned (.tuple #[.agg #[.slice (some ⟨w.heap.size + 1, 0, none⟩) n n, .slice (some ⟨w.heap.size + 1 + 1, 0, none⟩) 3 3, .slice none 0 0, .slice none 0 0], .bool true])) W := by
  subst hV hA
  intro W
  have e0 : ((((w.alloc (.cells #[.slice (some ⟨w.heap.size + 1, 0, none⟩) n n, .slice (some ⟨w.heap.size + 1 + 1, 0, none⟩) 3 3, .slice none 0 0, .slice none 0 0] 73 (0, 0))).alloc (.cells (zeros zVo n).toArray 128 (0, 0))).alloc (.cells (zeros zAs 3).toArray 131 (0, 0)))).heap[w.heap.size]? = some (.cells #[.slice (some ⟨w.heap.size + 1, 0, none⟩) n n, .slice (some ⟨w.heap.size + 1 + 1, 0, none⟩) 3 3, .slice none 0 0, .slice none 0 0] 73 (0, 0)) := by (repeat (first | with_reducible assumption | (with_reducible refine blk_new _ ?_; (first | rfl | (simp; done) | (simp; omega))) | with_reducible apply block_setCell | (with_reducible refine blk_skip _ _ ?_ ?_; rotate_left; (first | (simp; done) | (simp; omega))) | with_reducible refine blk_old ?_))
  have e1 : ((((w.alloc (.cells #[.slice (some ⟨w.heap.size + 1, 0, none⟩) n n, .slice (some ⟨w.heap.size + 1 + 1, 0, none⟩) 3 3, .slice none 0 0, .slice none 0 0] 73 (0, 0))).alloc (.cells (zeros zVo n).toArray 128 (0, 0))).alloc (.cells (zeros zAs 3).toArray 131 (0, 0)))).heap[w.heap.size + 1]? = some (.cells (zeros zVo n).toArray 128 (0, 0)) := by (repeat (first | with_reducible assumption | (with_reducible refine blk_new _ ?_; (first | rfl | (simp; done) | (simp; omega))) | with_reducible apply block_setCell | (with_reducible refine blk_skip _ _ ?_ ?_; rotate_left; (first | (simp; done) | (simp; omega))) | with_reducible refine blk_old ?_))
  have e2 : ((((w.alloc (.cells #[.slice (some ⟨w.heap.size + 1, 0, none⟩) n n, .slice (some ⟨w.heap.size + 1 + 1, 0, none⟩) 3 3, .slice none 0 0, .slice none 0 0] 73 (0, 0))).alloc (.cells (zeros zVo n).toArray 128 (0, 0))).alloc (.cells (zeros zAs 3).toArray 131 (0, 0)))).heap[w.heap.size + 1 + 1]? = some (.cells (zeros zAs 3).toArray 131 (0, 0)) := by (repeat (first | with_reducible assumption | (with_reducible refine blk_new _ ?_; (first | rfl | (simp; done) | (simp; omega))) | with_reducible apply block_setCell | (with_reducible refine blk_skip _ _ ?_ ?_; rotate_left; (first | (simp; done) | (simp; omega))) | with_reducible refine blk_old ?_))
  exact ⟨e0, ⟨some ⟨w.heap.size + 1, 0, none⟩, n, some ⟨w.heap.size + 1 + 1, 0, none⟩, 3⟩, rfl, (bl_three _ _ _ _).drew, (own_blk (w := W) e1).mono (fun b hb _ => by have h : b = w.heap.size + 1 := hb; omega), (own_blk (w := W) e2).mono (fun b hb _ => by have h : b = w.heap.size + 1 + 1 := hb; omega)⟩
theorem np_two {n : Nat} {w : World} {V A : Array Value} (hV : V = (zeros zVo n).toArray) (hA : A = (zeros zAs 3).toArray) :
    let W := (((w.alloc (.cells #[.slice (some ⟨w.heap.size + 1 + 1, 0, none⟩) n n, .slice (some ⟨w.heap.size + 1, 0, none⟩) 3 3, .slice none 0 0, .slice none 0 0] 73 (0, 0))).alloc (.cells A 131 (0, 0))).alloc (.cells V 128 (0, 0))).drew
    W.heap[w.heap.size]? = some (.cells #[.slice (some ⟨w.heap.size + 1 + 1, 0, none⟩) n n, .slice (some ⟨w.heap.size + 1, 0, none⟩) 3 3, .slice none 0 0, .slice none 0 0] 73 (0, 0)) ∧ NpPost n w (.returned (.tuple #[.agg #[.slice (some ⟨w.heap.size + 1 + 1, 0, none⟩) n n, .slice (some ⟨w.heap.size + 1, 0, none⟩) 3 3, .slice none 0 0, .slice none 0 0], .bool true])) W := by
  subst hV hA
  intro W
  have e0 : ((((w.alloc (.cells #[.slice (some ⟨w.heap.size + 1 + 1, 0, none⟩) n n, .slice (some ⟨w.heap.size + 1, 0, none⟩) 3 3, .slice none 0 0, .slice none 0 0] 73 (0, 0))).alloc (.cells (zeros zAs 3).toArray 131 (0, 0))).alloc (.cells (zeros zVo n).toArray 128 (0, 0)))).heap[w.heap.size]? = some (.cells #[.slice (some ⟨w.heap.size + 1 + 1, 0, none⟩) n n, .slice (some ⟨w.heap.size + 1, 0, none⟩) 3 3, .slice none 0 0, .slice none 0 0] 73 (0, 0)) := by (repeat (first | with_reducible assumption | (with_reducible refine blk_new _ ?_; (first | rfl | (simp; done) | (simp; omega))) | with_reducible apply block_setCell | (with_reducible refine blk_skip _ _ ?_ ?_; rotate_left; (first | (simp; done) | (simp; omega))) | with_reducible refine blk_old ?_))
  have e1 : ((((w.alloc (.cells #[.slice (some ⟨w.heap.size + 1 + 1, 0, none⟩) n n, .slice (some ⟨w.heap.size + 1, 0, none⟩) 3 3, .slice none 0 0, .slice none 0 0] 73 (0, 0))).alloc (.cells (zeros zAs 3).toArray 131 (0, 0))).alloc (.cells (zeros zVo n).toArray 128 (0, 0)))).heap[w.heap.size + 1]? = some (.cells (zeros zAs 3).toArray 131 (0, 0)) := by (repeat (first | with_reducible assumption | (with_reducible refine blk_new _ ?_; (first | rfl | (simp; done) | (simp; omega))) | with_reducible apply block_setCell | (with_reducible refine blk_skip _ _ ?_ ?_; rotate_left; (first | (simp; done) | (simp; omega))) | with_reducible refine blk_old ?_))
  have e2 : ((((w.alloc (.cells #[.slice (some ⟨w.heap.size + 1 + 1, 0, none⟩) n n, .slice (some ⟨w.heap.size + 1, 0, none⟩) 3 3, .slice none 0 0, .slice none 0 0] 73 (0, 0))).alloc (.cells (zeros zAs 3).toArray 131 (0, 0))).alloc (.cells (zeros zVo n).toArray 128 (0, 0)))).heap[w.heap.size + 1 + 1]? = some (.cells (zeros zVo n).toArray 128 (0, 0)) := by (repeat (first | with_reducible assumption | (with_reducible refine blk_new _ ?_; (first | rfl | (simp; done) | (simp; omega))) | with_reducible apply block_setCell | (with_reducible refine blk_skip _ _ ?_ ?_; rotate_left; (first | (simp; done) | (simp; omega))) | with_reducible refine blk_old ?_))
  exact ⟨e0, ⟨some ⟨w.heap.size + 1 + 1, 0, none⟩, n, some ⟨w.heap.size + 1, 0, none⟩, 3⟩, rfl, (bl_three _ _ _ _).drew, (own_blk (w := W) e2).mono (fun b hb _ => by have h : b = w.heap.size + 1 + 1 := hb; omega), (own_blk (w := W) e1).mono (fun b hb _ => by have h : b = w.heap.size + 1 := hb; omega)⟩
set_option maxRecDepth 100000 in
set_option maxHeartbeats 1600000 in
theorem newPaxos_any (n : Nat) (hn : 1 ≤ n ∧ n ≤ 5) (w : World) : Calls Tryz.prog 40 #[.int .i64 (n : Int), .int .i64 3] w (NpPost n w) := by
  have hm1 := make_rowN (P := Tryz.prog) 68 128 _ 3 32 Tryz.underlying68 infoVoter n (by omega) (by omega)
  have hz1 : madeCells (Value.cells (.agg #[.int .i64 0, .int .i64 0, .string ⟨#[]⟩])) (n * 3) = (zeros zVo n).toArray := made_zeros zVo n
  rw [hz1] at hm1
  have hm2 := make_rowN (P := Tryz.prog) 69 131 _ 7 88 Tryz.underlying69 infoAsker 3 (by omega) (by omega)
  have hz2 : madeCells (Value.cells (.agg #[.int .i64 0, .int .i64 0, .string ⟨#[]⟩, .slice none 0 0, .int .i64 0, .string ⟨#[]⟩, .bool false])) (3 * 7) = (zeros zAs 3).toArray := made_zeros zAs 3
  rw [hz2, show ((3 : Nat) : Int) = 3 from rfl] at hm2
  clear hz1 hz2
  have h1 : decide ((1 : Int) ≤ n) = true := by simp; omega
  have h5 : decide ((n : Int) ≤ 5) = true := by simp; omega
  go_enter Tryz.func40, Tryz.ntmps40
  go_wp2_with (go_at_call 35; refine (within_any _ _ _ _).mono ?_; rintro e w' ⟨rfl, rfl⟩)
  go_region
  · go_wp2
    have h := np_one (n := n) (w := w) rfl rfl
    refine bodyPost_ret (results_two rfl _ _ w.heap.size _ _ _ _ rfl h.1 Tryz.underlying73 rfl ((info_size infoPaxos).trans (by simp))) rfl ?_
    exact h.2
  · go_wp2
    have h := np_two (n := n) (w := w) rfl rfl
    refine bodyPost_ret (results_two rfl _ _ w.heap.size _ _ _ _ rfl h.1 Tryz.underlying73 rfl ((info_size infoPaxos).trans (by simp))) rfl ?_
    exact h.2
set_option maxRecDepth 100000 in
set_option maxHeartbeats 1600000 in
theorem sNewPaxos_any (n : Nat) (hn : 1 ≤ n ∧ n ≤ 5) (w : World) : Calls Tryz.prog 34 #[.int .i64 (n : Int), .int .i64 3] w (NpPost n w) := by
  have hm1 := make_rowN (P := Tryz.prog) 68 128 _ 3 32 Tryz.underlying68 infoVoter n (by omega) (by omega)
  have hz1 : madeCells (Value.cells (.agg #[.int .i64 0, .int .i64 0, .string ⟨#[]⟩])) (n * 3) = (zeros zVo n).toArray := made_zeros zVo n
  rw [hz1] at hm1
  have hm2 := make_rowN (P := Tryz.prog) 69 131 _ 7 88 Tryz.underlying69 infoAsker 3 (by omega) (by omega)
  have hz2 : madeCells (Value.cells (.agg #[.int .i64 0, .int .i64 0, .string ⟨#[]⟩, .slice none 0 0, .int .i64 0, .string ⟨#[]⟩, .bool false])) (3 * 7) = (zeros zAs 3).toArray := made_zeros zAs 3
  rw [hz2, show ((3 : Nat) : Int) = 3 from rfl] at hm2
  clear hz1 hz2
  have h1 : decide ((1 : Int) ≤ n) = true := by simp; omega
  have h5 : decide ((n : Int) ≤ 5) = true := by simp; omega
  go_enter Tryz.func34, Tryz.ntmps34
  go_wp2_with (go_at_call 33; refine (sIn_any _ _ _ _).mono ?_; rintro e w' ⟨rfl, rfl⟩)
  go_region
  · go_wp2
    have h := np_one (n := n) (w := w) rfl rfl
    refine bodyPost_ret (results_two rfl _ _ w.heap.size _ _ _ _ rfl h.1 Tryz.underlying73 rfl ((info_size infoPaxos).trans (by simp))) rfl ?_
    exact h.2
  · go_wp2
    have h := np_two (n := n) (w := w) rfl rfl
    refine bodyPost_ret (results_two rfl _ _ w.heap.size _ _ _ _ rfl h.1 Tryz.underlying73 rfl ((info_size infoPaxos).trans (by simp))) rfl ?_
    exact h.2
end Go.Proofs.YtemcijhpmpdebaaGreatDoor
