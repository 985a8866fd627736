/- NewGroup answers as the reference's NewGroup at every argument (FnExactNewGroup): no condition beyond the given row's. -/
import Derived.Test.YtemcijhpmpdebaaGreatDoorCards
import Derived.Test.YtemcijhpmpdebaaGreatDoorTie
import Derived.Test.YtemcijhpmpdebaaGreatDoorOpO
import Derived.Test.YtemcijhpmpdebaaGreatDoorLawNewGroup
import Derived.Deep.DeepHandedRow
import Derived.Lib.LaidTab
import Derived.Stop.LaidErr
namespace Go.Proofs.YtemcijhpmpdebaaGreatDoor.fnExactNewGroup
open Go.ChangeShapes Go.WideShapes Go.ChangeAt Go.RowKit
theorem own : ownKnob Tryz.prog.godebug = none := by kernel_rfl
theorem laidOut : laidOutB Tryz.prog = true := by kernel_rfl
theorem gTab : Tryz.prog.globalNamed "internal/strconv.uint64pow10" = some 0 := by kernel_rfl
theorem gTabType : (Tryz.prog.globals[0]?).map (·.type) = some 225 := by kernel_rfl
theorem cellsA : Tryz.prog.cellsOf 225 = 20 := by kernel_rfl
theorem cellsE : Tryz.prog.cellsOf 216 = 1 := by kernel_rfl
theorem table {W : World} (h : laidMetH Tryz.prog Rows.fnExactNewGroupRow.laid W) : Lib.TabIs Tryz.prog W "internal/strconv.uint64pow10" .u64 Lib.pow10Tab :=
  Lib.tabIs_of_head (rest := []) gTab gTabType Tryz.underlying225 Tryz.underlying216 cellsE cellsA (laidMet.tail (laidMet.tail h))
theorem tabs {W : World} (h : laidMetH Tryz.prog Rows.fnExactNewGroupRow.laid W) : Tabs W.heap.size W := by
  have ht := table h
  refine ⟨ht, ?_⟩
  have hc := ht.cell gTab 0 (by decide)
  cases hh : W.heap[0]? with
  | none => simp [World.cell?, hh] at hc
  | some o => exact (Array.getElem?_eq_some_iff.1 hh).1
theorem spec_fn (H : Type) (ds : List (DataW H)) (h : ds.length = Tryz.f4.params.size) : Rows.fnExactNewGroupSpec.fn H ds = { results := [.lit (.bool true)], args := ds } := by
  rw [Tryz.params4] at h
  match ds, h with
  | [d0, d1], _ => rfl
set_option maxRecDepth 100000 in
theorem contract (H : Type) (enc : TypeId × Value → H) (W : World) (base : Nat) (args : Array Value) (ds gs : List (DataW H)) (before : List MemPlace)
    (hval : ∀ (j : Nat) t v, Tryz.f4.params[j]? = some t → args[j]? = some v → Value.okWide Tryz.prog W .any base t v)
    (hW : DataW.Whole enc Tryz.prog Tryz.f4.params.toList Rows.fnExactNewGroupSpec.vars false W args.toList ds gs before) (hL : laidMetH Tryz.prog Rows.fnExactNewGroupRow.laid W) :
    Calls Tryz.prog 4 args W fun e W' => ∃ v, e = .returned v ∧ Rows.fnExactNewGroupSpec.post enc Tryz.prog Tryz.f4 false true false false W args v W' := by
  have hW' := hW
  obtain ⟨p, q, hA0, hV, rfl, hfz, hnd⟩ := hW
  have hA : DataW.TrodAll enc Tryz.prog W 0 (fun _ => true) true Tryz.f4.params.toList args.toList ds p := hA0
  rw [Tryz.params4] at hA hval
  obtain ⟨v0, vs0, d0, ds0, p0, q0, hargs, rfl, rfl, h0, r0⟩ := trodAll_cons hA
  obtain ⟨v1, vs1, d1, ds1, p1, q1, rfl, rfl, rfl, h1, r1⟩ := trodAll_cons r0
  obtain ⟨rfl, rfl, rfl⟩ := trodAll_nil r1
  obtain rfl : args = #[v0, v1] := by cases args; simp_all
  obtain ⟨A0, c0, l0, rfl, hc0, hl0, hr0, hs0⟩ := open_opsArg (hval 0 _ v0 rfl rfl) h0
  obtain ⟨n1, rfl, i1⟩ := open_intArg (hval 1 _ v1 rfl rfl)
  refine (lawNewGroup_any l0 hl0 hs0 _ A0 c0 n1 i1 W hr0 (tabs hL)).mono fun e W' ⟨he, hb⟩ => ?_
  subst he
  exact ⟨_, rfl, law_post laidOut spec_fn rfl ⟨4, by kernel_rfl, Tryz.underlying4⟩ (by kernel_rfl) hW' hb⟩
def laidCells (d : DataW Unit) : Array Value := match d with
  | .agg l => (l.map fun x => match x with | .lit (.int k z) => Value.int k z | _ => Value.nilIface).toArray
  | _ => #[]
def fillAt (h : Array Obj) (g : Nat) (cs : Array Value) : Array Obj := h.modify g fun
  | .cells _ t frozen => .cells cs t frozen
  | o => o
/-- The settled world, the listed tables holding what their initialisers lay. -/
noncomputable def laidWorld (os : Os) : World :=
  { World.holding Tryz.prog os ⟨#[], #[], []⟩ with heap := fillAt (fillAt (fillAt (World.holding Tryz.prog os ⟨#[], #[], []⟩).heap 1 (laidCells Rows.laid_math_bits_deBruijn32tab)) 2 (laidCells Rows.laid_math_bits_deBruijn64tab)) 0 (laidCells Rows.laid_internal_strconv_uint64pow10) }
def arg0 : Value := .slice none 0 0
def arg1 : Value := .int .i64 0
theorem laid_met (os : Os) : laidMet Tryz.prog Rows.fnExactNewGroupRow.laid ((laidWorld os).forCall (fun _ _ => 0) ⟨#[], #[arg0, arg1], []⟩).memory :=
  laidMet_of_run' 8 (by kernel_rfl) (by kernel_rfl)
theorem reads (os : Os) {H : Type} (enc : TypeId × Value → H) : ∃ places, DataW.whole enc Tryz.prog ((laidWorld os).forCall (fun _ _ => 0) ⟨#[], #[arg0, arg1], []⟩).memory Tryz.f4.params.toList Rows.fnExactNewGroupSpec.vars false #[arg0, arg1].toList 8 = some ([.nil, .lit (.int .i64 0)], [], places) :=
  ⟨[], by kernel_rfl⟩
set_option maxRecDepth 100000 in
theorem lifted (os : Os) (started : os.Started) (H : Type) (enc : TypeId × Value → H) (F : Stop.Interp) :
    ReturnsInHanded {} Tryz.checked os 4 .any ((OpenSpec.ofChange Rows.fnExactNewGroupSpec).preRow enc Tryz.prog Tryz.f4 Rows.fnExactNewGroupRow.domain false Rows.fnExactNewGroupRow.laid) (((OpenSpec.ofChange Rows.fnExactNewGroupSpec).at F).post enc Tryz.prog Tryz.f4 false true false false) := by
  obtain ⟨places, hx⟩ := reads os enc
  refine returnsInHanded_of_row (C := Tryz.checked) (s := OpenSpec.ofChange Rows.fnExactNewGroupSpec) own started (by kernel_rfl) Tryz.func4
    (witness_row_at (enc := enc) (C := Tryz.checked) false (laidWorld os) #[arg0, arg1] rfl (by kernel_rfl) (by kernel_rfl) (by kernel_rfl)
      (OpenSpec.preRow_of_cond 8 hx (by kernel_rfl) (fun k hk => by cases hk) (by kernel_rfl) (laid_met os))) ?_
  intro W base args ds gs before hval hW _ _ _ hL _ _
  exact contract H enc W base args ds gs before hval hW hL
theorem said : Rows.FnExactNewGroupSaid :=
  OpenClaim.holds_of_cond 4 Tryz.f4 rfl rfl rfl rfl rfl rfl rfl ⟨rfl, rfl, rfl, rfl, rfl⟩ rfl rfl rfl rfl rfl (by kernel_rfl) Tryz.func4 (by kernel_rfl)
    (of_decide_eq_true (by kernel_rfl)) (by unfold Func.isWrapper; first | (rw [if_pos (by decide +kernel)]; kernel_rfl) | (rw [if_neg (by decide +kernel)]; exact ⟨rfl, rfl⟩))
    (fun os started H enc _ F => by rw [OpenClaim.pre_eq_preRow]; exact lifted os started H enc F)
theorem plain (f : FuncId) (fn : Func) (hf : Tryz.pinned.checked.prog.funcNamed "loop.example/g00274/laws.FnExactNewGroup" = some f) (hfn : Tryz.pinned.checked.prog.funcs[f]? = some fn) :
    true = Tryz.pinned.checked.prog.looks [] ∧ ∀ (j : Nat) t, fn.params[j]? = some t → Tryz.pinned.checked.prog.wantsStandIn t = false := by
  obtain rfl : f = 4 := Option.some.inj ((show Tryz.prog.funcNamed "loop.example/g00274/laws.FnExactNewGroup" = some 4 by kernel_rfl).symm.trans hf) |>.symm
  obtain rfl : fn = Tryz.f4 := (Option.some.inj (Tryz.func4.symm.trans hfn)).symm
  refine ⟨by kernel_rfl, fun j t ht => ?_⟩
  rw [Tryz.params4] at ht
  have hm : t = 22 ∨ t = 3 := by simpa using Array.mem_of_getElem? ht
  rcases hm with rfl | rfl
  · exact (show Tryz.prog.wantsStandIn 22 = false by kernel_rfl)
  · exact (show Tryz.prog.wantsStandIn 3 = false by kernel_rfl)
/-- The card. -/
theorem card : Rows.FnExactNewGroupCardSaid :=
  Claim7.holds_tied_plain_at .later [] _ _ _ _ said (fun _ h => by cases h) (by kernel_rfl) (fun _ h => by cases h) fnExactNewGroup_row_tie rfl ⟨rfl, rfl⟩ (by kernel_rfl) rfl plain (by kernel_rfl)
#print axioms card
end Go.Proofs.YtemcijhpmpdebaaGreatDoor.fnExactNewGroup
