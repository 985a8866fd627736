/- The walk of the reference's GoodValue. -/
import Derived.Test.YtemcijhpmpdebaaGreatDoorShape5
import Derived.Test.YtemcijhpmpdebaaGreatDoorGoodV
namespace Go.Proofs.YtemcijhpmpdebaaGreatDoor
open Go.RowKit
theorem flat_inj {l : List Nd} {t t' : Tree} (h : l = t.flat emptyB (-1) 0) (hok : t.ok = true) (h' : l = t'.flat emptyB (-1) 0) (hok' : t'.ok = true) : t = t' := by
  have hlen : l.length = t.count := by rw [h, Tree.flat_length]
  have hvf := VF.complete (l := l) t emptyB (-1) 0 0 hok (by simp; rw [ByteArray.toList_eq]; rfl) (by rw [Nat.zero_add, ← hlen, seg_all]; exact h) (by
    intro y hy
    have := (List.getElem?_eq_some_iff.1 hy).1
    omega)
  have hup : ∀ x, l[0]? = some x → x.up = -1 := fun x hx => by
    rw [h, t.flat_eq] at hx
    simp at hx
    rw [← hx]
  have := (VF_iff hvf hup t').2 ⟨h', hok'⟩
  injection this with this
  injection this
def IsVal (l : List Nd) (g : Bool) : Prop := g = true ↔ ∃ t, IsGood l t
def GVP (l : List Nd) (w : World) (e : Ending) (w' : World) : Prop := Below w.heap.size w w' ∧ ∃ g, e = .returned (.bool g) ∧ IsVal l g
theorem IsVal.eq {l : List Nd} {g g' : Bool} (h : IsVal l g) (h' : IsVal l g') : g = g' := by
  have := h.trans h'.symm
  cases g <;> cases g' <;> simp_all
theorem gvp_of {l : List Nd} {w : World} {e : Ending} {w' : World} (h : GVPost l w e w') : GVP l w e w' := by
  obtain ⟨hb, o, he, ho⟩ := h
  exact ⟨hb, _, he, ho.iff⟩
set_option maxHeartbeats 1000000 in
theorem sGoodValue_any (l : List Nd) (hl : l.length ≤ 1000000000) (hsz : ∀ x ∈ l, x.text.size ≤ 9223372036854775807 ∧ x.name.size ≤ 9223372036854775807) (F : Nat → Prop) (A : Option Addr) (c : Nat) (w : World) (hr : Rds F w A (ndCells l)) :
    Calls Tryz.prog 61 #[.agg #[.slice A l.length c]] w (GVP l w) := by
  have hb0 : ∀ o1, Below w.heap.size w (w.alloc o1) := fun o1 => (Below.refl _ _).alloc (Nat.le_refl _) _
  have HB0 := Lib.hid (hb0 (.cells #[.slice A l.length c] 55 (0, 0)))
  have k0 : (w.alloc (.cells #[.slice A l.length c] 55 (0, 0))).heap[w.heap.size]? = some (.cells #[.slice A l.length c] 55 (0, 0)) := heap_alloc_new _ _
  have HR := Lib.hid hr
  have HS := Lib.hid hsz
  clear hr hsz hb0
  go_enter Tryz.func61, Tryz.ntmps61
  go_wp2_with fail
  refine (sShape_any l (by omega) HS.out F A c _ (HR.out.frame (Agree.of_below HB0.out))).mono ?_
  generalize w.alloc (.cells #[.slice A l.length c] 55 (0, 0)) = w1 at HB0 k0 ⊢
  rintro e w2 ⟨hb2, r, rfl, hr⟩
  have x0 := cell_of_block (block_below k0 hb2) 0
  simp at x0
  have HB2 := Lib.hid (below_then HB0.out HB0.out.size hb2)
  have HRR := Lib.hid hr
  clear hr hb2 k0
  cases r
  · go_wp2
    go_ret
    exact ⟨HB2.out, false, rfl, (fun h => by cases h), fun ⟨t, h⟩ => HRR.out.2 (shape_iff.2 ⟨t, (isGood_iff.1 h).1⟩)⟩
  · have hl80 := (HRR.out.1 rfl).2.2
    obtain ⟨t, t1, t2, t3, t4⟩ := shape_good (HRR.out.1 rfl)
    have HT1 := Lib.hid t1
    have hwl := t.wr_len (t.ok_bounded t2)
    have HTX := Lib.hid (fun W hr => sText_any t t2 (by omega) l (by omega) 0 (Sub.of_flat t1) F A c W hr)
    clear t1
    go_wp2_with fail
    refine (HTX.out _ (HR.out.frame (Agree.of_below HB2.out))).mono ?_
    rintro e w3 ⟨rfl, hb3⟩
    have HB3 := Lib.hid (below_then HB2.out HB2.out.size hb3)
    clear hb3
    go_wp2
    go_ret
    refine ⟨HB3.out, _, rfl, ?_⟩
    constructor
    · intro h
      exact ⟨t, isGood_iff.2 ⟨⟨HT1.out, t2, t3, t4⟩, by simp at h; omega⟩⟩
    · rintro ⟨t', h⟩
      obtain ⟨⟨h1, h2, _, _⟩, h5⟩ := isGood_iff.1 h
      obtain rfl := flat_inj HT1.out t2 h1 h2
      simp
      omega
end Go.Proofs.YtemcijhpmpdebaaGreatDoor
