/- The walks: l1Text whole; impl.GoodValue. -/
import Derived.Test.YtekamdcojabgeaaGreatDoorText3
namespace Go.Proofs.YtekamdcojabgeaaGreatDoor
open Go.RowKit
theorem sText_any : ∀ t : Tree, TxSpec t := Tree.ind fun t ih => by
  intro hok
  obtain ⟨⟨_, h7⟩, _⟩ := t.ok_eq hok
  by_cases h5 : t.kind ≤ 5
  · exact text_leaf t h5 hok
  · by_cases h6 : t.kind = 6
    · exact text_list t h6 ih hok
    · exact text_map t (by omega) ih hok
theorem ValOf.iff {l : List Nd} {o : Option Tree} (h : ValOf l o) : o.isSome = true ↔ ∃ t, IsGood l t := by
  cases o with
  | none => exact ⟨fun h => (by cases h), fun ⟨t, ht⟩ => absurd ht (h.2 rfl t)⟩
  | some t => exact ⟨fun _ => ⟨t, h.1 t rfl⟩, fun _ => rfl⟩
theorem ValOf.same {l : List Nd} {o o' : Option Tree} (h : ValOf l o) (h' : ValOf l o') : o.isSome = o'.isSome := by
  rw [Bool.eq_iff_iff, h.iff, h'.iff]
def GVPost (l : List Nd) (w : World) (e : Ending) (w' : World) : Prop := Below w.heap.size w w' ∧ ∃ o, e = .returned (.bool o.isSome) ∧ ValOf l o
set_option maxHeartbeats 800000 in
theorem goodValue_any (l : List Nd) (hn : l.length ≤ 1000000000000) (hsz : ∀ x ∈ l, x.text.size ≤ 9223372036854775807 ∧ x.name.size ≤ 9223372036854775807) (F : Nat → Prop) (A : Option Addr) (c : Nat) (hc : l.length ≤ c) (w : World) (hr : Rds F w A (ndCells l)) (htab : Tabs w.heap.size w) :
    Calls Tryz.prog 42 #[.agg #[.slice A l.length c]] w (GVPost l w) := by
  have hb0 : ∀ o, Below w.heap.size w (w.alloc o) := fun o => (Below.refl _ _).alloc (Nat.le_refl _) _
  have HC := Lib.hid (fun w1 (hb : Below w.heap.size w w1) => valOf_any l hn hsz F A c hc w1 (hr.frame (Agree.of_below hb)) ((htab.below hb).mono hb.size))
  clear hr htab
  go_enter Tryz.func42, Tryz.ntmps42
  go_wp2_with fail
  refine (HC.out _ (hb0 _)).mono ?_
  rintro e w2 ⟨hb2, o, v, rfl, hopt, hvo⟩
  have HB := Lib.hid (below_then (hb0 _) (hb0 _).size hb2)
  have HV := Lib.hid hvo
  clear hb2 hvo
  rcases o with _ | t
  · obtain rfl : v = .pointer none := hopt
    go_wp2
    go_ret
    exact ⟨HB.out, none, rfl, HV.out⟩
  · obtain ⟨pb, _, _, _, _, _, rfl, _⟩ := TreeAt.open hopt
    clear hopt
    go_wp2
    go_ret
    exact ⟨HB.out, some t, rfl, HV.out⟩
end Go.Proofs.YtekamdcojabgeaaGreatDoor
