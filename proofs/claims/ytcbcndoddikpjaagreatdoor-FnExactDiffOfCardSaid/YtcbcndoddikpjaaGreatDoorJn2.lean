/- Copies of rows of names and of parts: slices.Clone at strings and at pointers. -/
import Derived.Test.YtcbcndoddikpjaaGreatDoorClone
namespace Go.Proofs.YtcbcndoddikpjaaGreatDoor
open Go.RowKit
theorem infoStr : (Tryz.prog.info? 9).map (fun i => (i.zero, i.size, i.bytes)) = some (some (.string ⟨#[]⟩), 1, 16) := by kernel_rfl
theorem infoPtr : (Tryz.prog.info? 46).map (fun i => (i.zero, i.size, i.bytes)) = some (some (.pointer none), 1, 8) := by kernel_rfl
/-- A row of the call's own with these cells. -/
def RowClone (e : TypeId) (xs : List Value) (n : Nat) (w : World) (en : Ending) (w' : World) : Prop := ∃ A c, en = .returned (.slice A n c) ∧ n ≤ c ∧ Below w.heap.size w w' ∧ w'.ownsRow w.heap.size e 1 (.slice A n c) n xs

set_option maxRecDepth 100000 in
theorem cloneRowS (xs : List Value) (h1 : ∀ u ∈ xs, u.oneCell' = true) (n : Nat) (hn : xs.length = n) (hl : n ≤ 1000000000) (F : Nat → Prop) (A : Option Addr) (c : Nat) (w : World) (hr : Rds F w A xs) :
    Calls Tryz.prog 75 #[.slice A n c] w (RowClone 9 xs n w) := by
  subst hn
  rcases A with _ | ad
  · have heq : ∀ W : World, (binOp .eql 37 (.slice none 0 c) (.slice none 0 0)).run Tryz.prog W = .ok (.bool true) W := fun W => Lib.run_eql_slice_nil (P := Tryz.prog) W 37 9 none 0 c 0 0 Tryz.underlying37
    have hl0 : xs = [] := by
      cases xs with
      | nil => rfl
      | cons x l => obtain ⟨b, o, h, _⟩ := hr (by simp); cases h
    subst hl0
    go_enter Tryz.func75, Tryz.ntmps75
    go_wp2
    go_ret
    exact ⟨none, 0, rfl, Nat.le_refl _, Below.refl _ _, World.ownsRow_nil _ _ _ _⟩
  · have heq : ∀ W : World, (binOp .eql 37 (.slice (some ad) xs.length c) (.slice none 0 0)).run Tryz.prog W = .ok (.bool false) W := fun W => Lib.run_eql_slice_nil (P := Tryz.prog) W 37 9 (some ad) xs.length c 0 0 Tryz.underlying37
    have HR := Lib.hid hr
    have H1 := Lib.hid h1
    have hbn : Below w.heap.size w (w.alloc (.cells #[] 9 (0, 0))) := (Below.refl _ _).alloc (Nat.le_refl _) _
    have hown : (w.alloc (.cells #[] 9 (0, 0))).ownsRow w.heap.size 9 1 (.slice (some ⟨w.heap.size, 0, none⟩) 0 0) 0 [] := own_empty w _ _
    have HBN := Lib.hid hbn
    have HOWN := Lib.hid hown
    clear hr hbn hown h1
    go_enter Tryz.func75, Tryz.ntmps75
    go_wp2_with (at_builtin; refine append_rows w.heap.size rfl (.tmp 5) (.tmp 6) 37 9 _ 1 16 rfl Tryz.underlying37 infoStr rfl (by decide) _ 0 [] rfl HOWN.out (some ad) xs.length c xs rfl (Nat.mul_one _).symm (HR.out.frame (Agree.of_below HBN.out)) H1.out (by simp only [maxLen]; omega) (by omega) HBN.out.size ?_; intro A1 c1 w1 hc1 hown1 hg1 hat1)
    have HO1 := Lib.hid hown1
    have HB1 := Lib.hid (HBN.out.grown hg1 HBN.out.size (fun k hk => by have h := own_base HOWN.out k hk; omega))
    clear hown1 hg1 hat1
    go_wp2
    go_ret
    have h1 := HO1.out
    rw [Nat.zero_add, List.nil_append] at h1
    exact ⟨A1, c1, rfl, by omega, HB1.out, h1⟩

set_option maxRecDepth 100000 in
theorem cloneRowP (xs : List Value) (h1 : ∀ u ∈ xs, u.oneCell' = true) (n : Nat) (hn : xs.length = n) (hl : n ≤ 1000000000) (F : Nat → Prop) (A : Option Addr) (c : Nat) (w : World) (hr : Rds F w A xs) :
    Calls Tryz.prog 76 #[.slice A n c] w (RowClone 46 xs n w) := by
  subst hn
  rcases A with _ | ad
  · have heq : ∀ W : World, (binOp .eql 72 (.slice none 0 c) (.slice none 0 0)).run Tryz.prog W = .ok (.bool true) W := fun W => Lib.run_eql_slice_nil (P := Tryz.prog) W 72 46 none 0 c 0 0 Tryz.underlying72
    have hl0 : xs = [] := by
      cases xs with
      | nil => rfl
      | cons x l => obtain ⟨b, o, h, _⟩ := hr (by simp); cases h
    subst hl0
    go_enter Tryz.func76, Tryz.ntmps76
    go_wp2
    go_ret
    exact ⟨none, 0, rfl, Nat.le_refl _, Below.refl _ _, World.ownsRow_nil _ _ _ _⟩
  · have heq : ∀ W : World, (binOp .eql 72 (.slice (some ad) xs.length c) (.slice none 0 0)).run Tryz.prog W = .ok (.bool false) W := fun W => Lib.run_eql_slice_nil (P := Tryz.prog) W 72 46 (some ad) xs.length c 0 0 Tryz.underlying72
    have HR := Lib.hid hr
    have H1 := Lib.hid h1
    have hbn : Below w.heap.size w (w.alloc (.cells #[] 46 (0, 0))) := (Below.refl _ _).alloc (Nat.le_refl _) _
    have hown : (w.alloc (.cells #[] 46 (0, 0))).ownsRow w.heap.size 46 1 (.slice (some ⟨w.heap.size, 0, none⟩) 0 0) 0 [] := own_empty w _ _
    have HBN := Lib.hid hbn
    have HOWN := Lib.hid hown
    clear hr hbn hown h1
    go_enter Tryz.func76, Tryz.ntmps76
    go_wp2_with (at_builtin; refine append_rows w.heap.size rfl (.tmp 5) (.tmp 6) 72 46 _ 1 8 rfl Tryz.underlying72 infoPtr rfl (by decide) _ 0 [] rfl HOWN.out (some ad) xs.length c xs rfl (Nat.mul_one _).symm (HR.out.frame (Agree.of_below HBN.out)) H1.out (by simp only [maxLen]; omega) (by omega) HBN.out.size ?_; intro A1 c1 w1 hc1 hown1 hg1 hat1)
    have HO1 := Lib.hid hown1
    have HB1 := Lib.hid (HBN.out.grown hg1 HBN.out.size (fun k hk => by have h := own_base HOWN.out k hk; omega))
    clear hown1 hg1 hat1
    go_wp2
    go_ret
    have h1 := HO1.out
    rw [Nat.zero_add, List.nil_append] at h1
    exact ⟨A1, c1, rfl, by omega, HB1.out, h1⟩
end Go.Proofs.YtcbcndoddikpjaaGreatDoor
