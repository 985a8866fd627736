/- NewGroup: plain words; what is not good among operations. -/
import Derived.Test.YtemcijhpmpdebaaGreatDoorNg2
import Derived.Test.YtemcijhpmpdebaaGreatDoorGoodOp
namespace Go.Proofs.YtemcijhpmpdebaaGreatDoor
open Go.RowKit
def fineD (d : OpD) : Prop := ∃ g, IsVal d.doc g ∧ opG d.o d.doc g = true
theorem gop_fine {d : OpD} {w : World} {e : Ending} {w' : World} (h : GOP d.o d.doc w e w') : Below w.heap.size w w' ∧ ∃ r, e = .returned (.bool r) ∧ (r = true ↔ fineD d) := by
  obtain ⟨hb, g, he, hg⟩ := h
  refine ⟨hb, _, he, fun h => ⟨g, hg, h⟩, fun ⟨g', hg', h'⟩ => ?_⟩
  rw [hg.eq hg']
  exact h'
def SzD (ds : List OpD) : Prop := ∀ d ∈ ds, d.doc.length ≤ 1000000000 ∧ ∀ x ∈ d.doc, x.text.size ≤ 9223372036854775807 ∧ x.name.size ≤ 9223372036854775807
theorem infoPlace : (Tryz.prog.info? 77).map (fun i => (i.zero, i.size, i.bytes)) = some (some (.agg #[.slice none 0 0, .slice none 0 0, .slice none 0 0, .slice none 0 0]), 4, 96) := by kernel_rfl
theorem infoReplica : (Tryz.prog.info? 80).map (fun i => (i.zero, i.size, i.bytes)) = some (some (.agg #[.slice none 0 0, .int .i64 0, .slice none 0 0, .slice none 0 0, .int .i64 0, .slice none 0 0, .slice none 0 0]), 7, 136) := by kernel_rfl
theorem infoGroup : (Tryz.prog.info? 40).map (fun i => (i.zero, i.size, i.bytes)) = some (some (.agg #[.slice none 0 0, .slice none 0 0, .slice none 0 0]), 3, 72) := by kernel_rfl
theorem infoText : (Tryz.prog.info? 9).map (fun i => (i.zero, i.size, i.bytes)) = some (some (.string ⟨#[]⟩), 1, 16) := by kernel_rfl
def zPl : List Value := [.slice none 0 0, .slice none 0 0, .slice none 0 0, .slice none 0 0]
def zRp : List Value := [.slice none 0 0, .int .i64 0, .slice none 0 0, .slice none 0 0, .int .i64 0, .slice none 0 0, .slice none 0 0]
set_option maxRecDepth 100000 in
theorem notFine_any (r : OpR) (hl : r.d.doc.length ≤ 1000000000) (hsz : ∀ x ∈ r.d.doc, x.text.size ≤ 9223372036854775807 ∧ x.name.size ≤ 9223372036854775807) (F : Nat → Prop) (w : World) (hc : r.d.doc.length ≤ r.cap) (hr : Rds F w r.adr (ndCells r.d.doc)) (htab : Tabs w.heap.size w) :
    Calls Tryz.prog 37 #[.agg #[.int .i64 r.d.o.kind, .int .i64 r.d.o.id, .slice r.adr r.d.doc.length r.cap, .int .i64 r.d.o.session, .int .i64 r.d.o.no]] w (fun e w' => ∃ g, e = .returned (.bool g) ∧ Below w.heap.size w w' ∧ (g = false ↔ fineD r.d)) := by
  have hb0 : Below w.heap.size w (w.alloc (.cells #[.int .i64 r.d.o.kind, .int .i64 r.d.o.id, .slice r.adr r.d.doc.length r.cap, .int .i64 r.d.o.session, .int .i64 r.d.o.no] 57 (0, 0))) := (Below.refl _ _).alloc (Nat.le_refl _) _
  have h := goodOp_any r.d.o r.d.doc hl hsz F r.adr r.cap hc _ (hr.frame (Agree.of_below hb0)) ((htab.below hb0).mono hb0.size)
  unfold OpV.val at h
  have HC := Lib.hid h
  have HB0 := Lib.hid hb0
  clear h hb0 hr htab
  go_enter Tryz.func37, Tryz.ntmps37
  go_wp2_with fail
  refine HC.out.mono ?_
  rintro e w2 h2
  obtain ⟨hb2, r', rfl, hr'⟩ := gop_fine h2
  have HR := Lib.hid hr'
  have HB2 := Lib.hid (below_then HB0.out HB0.out.size hb2)
  clear h2 hb2 hr' HC
  go_wp2
  go_ret
  refine ⟨_, rfl, HB2.out, ?_⟩
  rw [← HR.out]
  simp
/-- What tells whether one is not good. -/
def BadP (ds : List OpD) (w : World) (e : Ending) (w' : World) : Prop := ∃ z : Int, e = .returned (.int .i64 z) ∧ Below w.heap.size w w' ∧ (0 ≤ z ↔ ¬ ∀ d ∈ ds, fineD d)
set_option maxRecDepth 100000 in
set_option maxHeartbeats 1600000 in
theorem indexBad_any (ds : List OpD) (hl : ds.length ≤ 1000000000) (hsz : SzD ds) (F : Nat → Prop) (A : Option Addr) (c : Nat) (w : World) (hr : OpAt F w A ds) (htab : Tabs w.heap.size w) :
    Calls Tryz.prog 63 #[.slice A ds.length c, .func (.func 37) #[] #[]] w (BadP ds w) := by
  have HR := Lib.hid hr
  have HT := Lib.hid htab
  have HSZ := Lib.hid hsz
  have hg := Tryz.call37
  clear hr htab hsz
  go_enter Tryz.func63, Tryz.ntmps63
  go_wp2
  go_loopw [5, 8] (fun _ i wr => ∃ k : Nat, k ≤ ds.length ∧ i = .int .i64 (k : Int) ∧ Below w.heap.size w wr ∧ Hid (∀ d ∈ ds.take k, fineD d)) (fun _ i _ => ds.length - (intOf i).toNat)
  case atStart => exact ⟨0, Nat.zero_le _, rfl, Below.refl _ _, Lib.hid (fun d hd => by simp at hd)⟩
  case round =>
    obtain ⟨k, hk, rfl, hbx, HN⟩ := hrel
    have HB := Lib.hid hbx
    clear hbx
    by_cases hlt : k < ds.length
    · obtain ⟨b, o, r, rfl, hF, hbl, hx, g0, g1, g2, g3, g4, hcp, hrr⟩ := op_at (HR.out.frame (Agree.of_below HB.out)) k hlt
      have hmem : r.d ∈ ds := List.mem_of_getElem? hx
      have HX := Lib.hid hx
      have HC := Lib.hid (notFine_any r (HSZ.out r.d hmem).1 (HSZ.out r.d hmem).2 F wr hcp hrr ((HT.out.below HB.out).mono HB.out.size))
      clear hx hrr
      go_wp2_with fail
      refine HC.out.mono ?_
      rintro e w2 ⟨g, rfl, hb2, hg2⟩
      have HB2 := Lib.hid (below_then HB.out HB.out.size hb2)
      have HG := Lib.hid hg2
      clear hb2 hg2 HC g0 g1 g2 g3 g4
      cases g
      · go_wp2
        go_roundw
        case rel =>
          refine ⟨k + 1, by omega, by go_num, HB2.out, Lib.hid (fun d hd => ?_)⟩
          rw [List.take_add_one, HX.out, Option.toList_some] at hd
          rcases List.mem_append.1 hd with hd | hd
          · exact HN.out d hd
          · simp at hd
            subst hd
            simpa using HG.out
        case measure => simp [intOf]; omega
      · go_wp2
        go_ret
        refine ⟨_, rfl, HB2.out, fun _ h => ?_, fun _ => by omega⟩
        have h1 := h r.d hmem
        have h2 := HG.out
        simp at h2
        exact h2 h1
    · go_wp2
      go_ret
      obtain rfl : k = ds.length := by omega
      have h := HN.out
      rw [List.take_length] at h
      exact ⟨_, rfl, HB.out, (fun h0 => by omega), fun h0 => absurd h h0⟩
set_option maxRecDepth 100000 in
theorem containsBad_any (ds : List OpD) (hl : ds.length ≤ 1000000000) (hsz : SzD ds) (F : Nat → Prop) (A : Option Addr) (c : Nat) (w : World) (hr : OpAt F w A ds) (htab : Tabs w.heap.size w) :
    Calls Tryz.prog 36 #[.slice A ds.length c, .func (.func 37) #[] #[]] w (fun e w' => ∃ g, e = .returned (.bool g) ∧ Below w.heap.size w w' ∧ (g = false ↔ ∀ d ∈ ds, fineD d)) := by
  have HC := Lib.hid (indexBad_any ds hl hsz F A c w hr htab)
  clear hr htab hsz
  go_enter Tryz.func36, Tryz.ntmps36
  go_wp2_with fail
  refine HC.out.mono ?_
  rintro e w2 ⟨z, rfl, hb2, hz⟩
  have HB := Lib.hid hb2
  have HZ := Lib.hid hz
  clear hb2 hz HC
  go_wp2
  go_ret
  refine ⟨_, rfl, HB.out, ?_⟩
  have h := HZ.out
  constructor
  · intro h0
    have h1 : ¬ 0 ≤ z := by simpa using h0
    exact Classical.byContradiction fun h2 => h1 (h.2 h2)
  · intro h0
    have h1 : ¬ 0 ≤ z := fun h2 => (h.1 h2) h0
    simpa using h1
end Go.Proofs.YtemcijhpmpdebaaGreatDoor
