/- cloneBase of the empty base. -/
import Derived.Test.YtemcijhpmpdebaaGreatDoorFo4
namespace Go.Proofs.YtemcijhpmpdebaaGreatDoor
open Go.RowKit
theorem cloneSsNil_any (w : World) :
    Calls Tryz.prog 81 #[.slice none 0 0] w fun e w' => e = .returned (.slice none 0 0) ∧ w' = w := by
  have heq : ∀ W : World, (binOp .eql 25 (.slice none 0 0) (.slice none 0 0)).run Tryz.prog W = .ok (.bool true) W := fun W => Lib.run_eql_slice_nil (P := Tryz.prog) W 25 97 none 0 0 0 0 Tryz.underlying25
  go_enter Tryz.func81, Tryz.ntmps81
  go_wp2
  go_ret
  exact ⟨rfl, rfl⟩
theorem bl_drew {W W1 : World} (h : Below W.heap.size W W1) : Below W.heap.size W W1.drew := h.drew
theorem bl_alloc {W W1 : World} {o : Obj} (h : Below W.heap.size W W1) : Below W.heap.size W (W1.alloc o) := h.alloc h.size o
/-- The empty base that cloneBase lays: its block. -/
def ZCut (w : World) (v : Value) (wx : World) : Prop :=
  ∃ g A c, v = .pointer (some ⟨g, 0, none⟩) ∧ w.heap.size ≤ g ∧ Below w.heap.size w wx ∧ wx.heap[g]? = some (.cells #[.int .i64 0, .slice A 0 c, .slice none 0 0] 27 (0, 0)) ∧ wx.ownsRow w.heap.size 94 2 (.slice A 0 c) 0 []
def ZPost (w : World) (e : Ending) (w' : World) : Prop :=
  ∃ A c, e = .returned (.agg #[.int .i64 0, .slice A 0 c, .slice none 0 0]) ∧ Below w.heap.size w w' ∧ w'.ownsRow w.heap.size 94 2 (.slice A 0 c) 0 []
theorem zcut_a {w W : World} {k1 k2 : Nat} (hb : Below w.heap.size w W) (h1 : k1 = W.heap.size) (h2 : k2 = W.heap.size + 1) :
    ZCut w (.pointer (some ⟨k2, 0, none⟩)) ((W.alloc (.cells #[] 94 (0, 0))).alloc (.cells #[.int .i64 0, .slice (some ⟨k1, 0, none⟩) 0 0, .slice none 0 0] 27 (0, 0))).drew := by
  subst h1 h2
  have hs := hb.size
  refine ⟨_, some ⟨W.heap.size, 0, none⟩, 0, rfl, by omega, ((hb.alloc hb.size _).alloc (by simp; omega) _).drew, ?_, ?_⟩
  · have h := heap_alloc_new (W.alloc (.cells #[] 94 (0, 0))) (.cells #[.int .i64 0, .slice (some ⟨W.heap.size, 0, none⟩) 0 0, .slice none 0 0] 27 (0, 0))
    rw [show (W.alloc (.cells #[] 94 (0, 0))).heap.size = W.heap.size + 1 from by simp] at h
    exact h
  · exact own_below (own_below (own_weaken (own_empty W 94 2) hs) ((Below.refl _ _).alloc (Nat.le_refl _) _)) (Below.refl _ _).drew
theorem zcut_b {w W : World} {k1 k2 : Nat} (hb : Below w.heap.size w W) (h1 : k1 = W.heap.size + 1) (h2 : k2 = W.heap.size) :
    ZCut w (.pointer (some ⟨k2, 0, none⟩)) ((W.alloc (.cells #[.int .i64 0, .slice (some ⟨k1, 0, none⟩) 0 0, .slice none 0 0] 27 (0, 0))).alloc (.cells #[] 94 (0, 0))).drew := by
  subst h1 h2
  have hs := hb.size
  refine ⟨_, some ⟨W.heap.size + 1, 0, none⟩, 0, rfl, by omega, ((hb.alloc hb.size _).alloc (by simp; omega) _).drew, ?_, ?_⟩
  · exact block_below (block_below (heap_alloc_new W _) ((Below.refl _ _).alloc (Nat.le_refl _) _)) (Below.refl _ _).drew
  · have h := own_empty (W.alloc (.cells #[.int .i64 0, .slice (some ⟨W.heap.size + 1, 0, none⟩) 0 0, .slice none 0 0] 27 (0, 0))) 94 2
    rw [show (W.alloc (.cells #[.int .i64 0, .slice (some ⟨W.heap.size + 1, 0, none⟩) 0 0, .slice none 0 0] 27 (0, 0))).heap.size = W.heap.size + 1 from by simp] at h
    exact own_below (own_weaken h (by omega)) (Below.refl _ _).drew
set_option maxRecDepth 100000 in
set_option maxHeartbeats 4000000 in
theorem cloneZ_any (w : World) : Calls Tryz.prog 54 #[.agg #[.int .i64 0, .slice none 0 0, .slice none 0 0]] w (ZPost w) := by
  have hmk : ∀ W, (Instr.makeSlice 24 (.int .i64 0) (.int .i64 0)).run Tryz.prog W = .ok (.slice (some ⟨W.heap.size, 0, none⟩) 0 0) (W.alloc (.cells #[] 94)) := fun _ => by kernel_rfl
  have HK := Lib.hid (fun (W : World) (hb : Below ((w.alloc (.cells #[.int .i64 0, .slice none 0 0, .slice none 0 0] 27 (0, 0))).alloc (.cells #[.int .i64 0, .slice none 0 0, .slice none 0 0] 27 (0, 0))).heap.size ((w.alloc (.cells #[.int .i64 0, .slice none 0 0, .slice none 0 0] 27 (0, 0))).alloc (.cells #[.int .i64 0, .slice none 0 0, .slice none 0 0] 27 (0, 0))) W) => show W.cell? ⟨w.heap.size, 0, none⟩ = some (.int .i64 0) ∧ W.cell? ⟨w.heap.size, 1, none⟩ = some (.slice none 0 0) ∧ W.cell? ⟨w.heap.size, 2, none⟩ = some (.slice none 0 0) from by
    have h := block_below (block_below (heap_alloc_new w _) ((Below.refl (w.alloc (.cells #[.int .i64 0, .slice none 0 0, .slice none 0 0] 27 (0, 0))).heap.size _).alloc (Nat.le_refl _) _)) hb
    exact ⟨cell_of_block h 0, cell_of_block h 1, cell_of_block h 2⟩)
  have HBOX := Lib.hid (fun (W : World) (hb : Below (w.alloc (.cells #[.int .i64 0, .slice none 0 0, .slice none 0 0] 27 (0, 0))).heap.size (w.alloc (.cells #[.int .i64 0, .slice none 0 0, .slice none 0 0] 27 (0, 0))) W) => show W.heap[w.heap.size]? = some (.cells #[.int .i64 0, .slice none 0 0, .slice none 0 0] 27 (0, 0)) from block_below (heap_alloc_new w _) hb)
  go_enter Tryz.func54, Tryz.ntmps54
  go_upto_region 1 with fail
  go_cut [3] (fun x wx => ZCut ((w.alloc (.cells #[.int .i64 0, .slice none 0 0, .slice none 0 0] 27 (0, 0))).alloc (.cells #[.int .i64 0, .slice none 0 0, .slice none 0 0] 27 (0, 0))) x wx)
  case first =>
    go_region_held3 (fun W => W.cell? ⟨w.heap.size, 0, none⟩ = some (.int .i64 0) ∧ W.cell? ⟨w.heap.size, 1, none⟩ = some (.slice none 0 0) ∧ W.cell? ⟨w.heap.size, 2, none⟩ = some (.slice none 0 0))
      (exact HK.out _ (by repeat (first | exact Below.refl _ _ | apply bl_drew | apply bl_alloc)))
      (first | (go_at_call 81; refine (cloneSsNil_any _).mono ?_; rintro e w5 ⟨rfl, rfl⟩))
    all_goals
      go_wp2
      go_meet
      first
        | exact zcut_a (Below.refl _ _) (by simp) (by simp)
        | exact zcut_b (Below.refl _ _) (by simp) (by simp)
  case rest =>
    obtain ⟨g, A, c, rfl, hg, hb, hk, ho⟩ := hcut
    have HB := Lib.hid hb
    have HKG := Lib.hid hk
    have HO := Lib.hid ho
    have y := HK.out _ hb
    have hres := block_below (heap_alloc_new (w.alloc (.cells #[.int .i64 0, .slice none 0 0, .slice none 0 0] 27 (0, 0))) (.cells #[.int .i64 0, .slice none 0 0, .slice none 0 0] 27 (0, 0))) hb
    rw [show (w.alloc (.cells #[.int .i64 0, .slice none 0 0, .slice none 0 0] 27 (0, 0))).heap.size = w.heap.size + 1 from by simp] at hres
    have HRES := Lib.hid hres
    have r0 := cell_of_block hres 0
    have r1 := cell_of_block hres 1
    have r2 := cell_of_block hres 2
    have f0 := free_of_block hres 0
    have f1 := free_of_block hres 1
    have f2 := free_of_block hres 2
    obtain ⟨y0, y1, y2⟩ := y
    obtain ⟨x0, x1, x2⟩ := cells3 HKG.out
    simp at r0 r1 r2
    have hg2 : w.heap.size + 1 + 1 ≤ g := by simp at hg; omega
    have HNE := Lib.hid (show ∀ k, (Value.slice A 0 c).ownBlock = some k → k ≠ w.heap.size + 1 from fun k hk e => own_not_at HO.out HRES.out (by decide) k hk e.symm)
    clear hb hk ho HK hres hg
    go_wp2
    go_loopw [19] (fun i wx => i = .int .i64 0 ∧ wx = wc) (fun _ _ => 0)
    case atStart => exact ⟨rfl, rfl⟩
    case round =>
      obtain ⟨rfl, rfl⟩ := hrel
      go_wp2
      refine bodyPost_ret (results_cell_row rfl _ _ (w.heap.size + 1) _ _ _ _ rfl (block_setCell (block_setCell (block_setCell HRES.out _ _) _ _) _ _) Tryz.underlying27 rfl ((info_size infoBase).trans (by simp))) rfl ?_
      have hs1 : w.heap.size ≤ w.heap.size + 1 := by omega
      refine ⟨A, c, rfl, ?_, ?_⟩
      · have h := (bl_alloc (bl_alloc (Below.refl w.heap.size w))).trans ((HB.out).mono (by simp; omega : w.heap.size ≤ ((w.alloc (.cells #[.int .i64 0, .slice none 0 0, .slice none 0 0] 27 (0, 0))).alloc (.cells #[.int .i64 0, .slice none 0 0, .slice none 0 0] 27 (0, 0))).heap.size))
        exact ((h.setCell (p := ⟨w.heap.size + 1, 0, none⟩) hs1 _).setCell (p := ⟨w.heap.size + 1, 1, none⟩) hs1 _).setCell (p := ⟨w.heap.size + 1, 2, none⟩) hs1 _
      · exact own_weaken (own_agree HO.out (F := fun k => k ≠ w.heap.size + 1) (((((Agree.refl _ _).set (fun _ h => h) 0 _).set (fun _ h => h) 1 _).set (fun _ h => h) 2 _)) HNE.out) (by simp; omega)
end Go.Proofs.YtemcijhpmpdebaaGreatDoor
