/- Finding a session: what a search among rising ids finds; the walks of slices.BinarySearchFunc at sessions and of (*Base).session. -/
import Derived.Test.YtemcijhpmpdebaaGreatDoorBin
namespace Go.Proofs.YtemcijhpmpdebaaGreatDoor
open Go.RowKit
def RisingS (ds : List SsV) (id : Int) : Prop := (0 ≤ id ∧ id ≤ 100) ∧ (∀ (k : Nat) (d : SsV), ds[k]? = some d → 0 ≤ d.id ∧ d.id ≤ 100) ∧ ∀ (i j : Nat) (d e : SsV), ds[i]? = some d → ds[j]? = some e → i < j → d.id < e.id
/-- All ahead of lo are less, all from hi on are not. -/
def PartedS (ds : List SsV) (id : Int) (lo hi : Nat) : Prop := RisingS ds id → (∀ (k : Nat) (d : SsV), k < lo → ds[k]? = some d → d.id < id) ∧ ∀ (k : Nat) (d : SsV), hi ≤ k → ds[k]? = some d → id ≤ d.id
theorem partedS_start (ds : List SsV) (id : Int) : PartedS ds id 0 ds.length := fun _ => ⟨fun k d h => by omega, fun k d h hd => by have := (List.getElem?_eq_some_iff.1 hd).1; omega⟩
theorem partedS_up {ds : List SsV} {id : Int} {lo hi m : Nat} {d : SsV} (h : PartedS ds id lo hi) (hd : ds[m]? = some d) (hc : wrap64 (d.id - id) < 0) : PartedS ds id (m + 1) hi := by
  intro hr
  refine ⟨fun k e hk he => ?_, (h hr).2⟩
  have h1 := hr.2.1 m d hd
  have h2 := hr.1
  have h3 : d.id < id := by unfold wrap64 at hc; omega
  by_cases c : k = m
  · subst c
    rw [hd] at he
    injection he with he
    rw [← he]
    exact h3
  · have := hr.2.2 k m e d he hd (by omega)
    omega
theorem partedS_down {ds : List SsV} {id : Int} {lo hi m : Nat} {d : SsV} (h : PartedS ds id lo hi) (hd : ds[m]? = some d) (hc : ¬ wrap64 (d.id - id) < 0) : PartedS ds id lo m := by
  intro hr
  refine ⟨(h hr).1, fun k e hk he => ?_⟩
  have h1 := hr.2.1 m d hd
  have h2 := hr.1
  have h3 : id ≤ d.id := by unfold wrap64 at hc; omega
  by_cases c : k = m
  · subst c
    rw [hd] at he
    injection he with he
    rw [← he]
    exact h3
  · have := hr.2.2 m k d e hd he (by omega)
    omega
def BinAtS (ds : List SsV) (id : Int) (i : Nat) (f : Bool) : Prop := i ≤ ds.length ∧ (f = true ↔ ∃ d : SsV, ds[i]? = some d ∧ wrap64 (d.id - id) = 0) ∧ PartedS ds id i i
set_option maxHeartbeats 800000 in
theorem sessCmp_any (d : SsV) (id : Int) (w : World) :
    Calls Tryz.prog 99 #[.agg #[.int .i64 d.id, .int .i64 d.no, .bool d.fine], .int .i64 id] w fun e w' => e = .returned (.int .i64 (wrap64 (d.id - id))) ∧ Below w.heap.size w w' := by
  go_enter Tryz.func99, Tryz.ntmps99
  go_wp2
  go_ret
  exact ⟨rfl, by first | exact Below.refl _ _ | exact (Below.refl _ _).alloc (Nat.le_refl _) _⟩
def BinPostS (ds : List SsV) (id : Int) (w : World) (e : Ending) (w' : World) : Prop :=
  Below w.heap.size w w' ∧ ∃ i f, e = .returned (.tuple #[.int .i64 ((i : Nat) : Int), .bool f]) ∧ BinAtS ds id i f
set_option maxRecDepth 100000 in
set_option maxHeartbeats 1600000 in
theorem binSs_any (ds : List SsV) (hl : ds.length ≤ 1000000000) (id : Int) (F : Nat → Prop) (A : Option Addr) (c : Nat) (w : World) (hr : Rds F w A (ssCells ds)) :
    Calls Tryz.prog 98 #[.slice A ds.length c, .int .i64 id, .func (.func 99) #[] #[]] w (BinPostS ds id w) := by
  have HR := Lib.hid hr
  have hg := Tryz.call99
  clear hr
  go_enter Tryz.func98, Tryz.ntmps98
  go_wp2
  go_loopw [9, 10] (fun i j wx => ∃ lo hi : Nat, i = .int .i64 (lo : Int) ∧ j = .int .i64 (hi : Int) ∧ lo ≤ hi ∧ hi ≤ ds.length ∧ Below w.heap.size w wx ∧ Hid (PartedS ds id lo hi)) (fun i j _ => (intOf j).toNat - (intOf i).toNat)
  case atStart => exact ⟨0, ds.length, rfl, rfl, Nat.zero_le _, Nat.le_refl _, Below.refl _ _, partedS_start ds id⟩
  case round =>
    obtain ⟨lo, hi, rfl, rfl, hlh, hhi, hbx, hp⟩ := hrel
    have HB := Lib.hid hbx
    have HP := Lib.hid hp
    clear hbx hp
    by_cases hlt : lo < hi
    · obtain ⟨b, o, r, rfl, hF, hbl, hx, g0, g1, g2⟩ := ss_at (HR.out.frame (Agree.of_below HB.out)) ((lo + hi) / 2) (by omega)
      have HX := Lib.hid hx
      clear hx
      by_cases hc : wrap64 (r.id - id) < 0
      · have HC := Lib.hid hc
        go_wp2_with fail
        refine (sessCmp_any r id _).mono ?_
        rintro e w2 ⟨rfl, hb2⟩
        have HB2 := Lib.hid (below_then HB.out HB.out.size hb2)
        go_wp2
        go_roundw
        case rel => exact ⟨(lo + hi) / 2 + 1, hi, by rw [show ((lo : Int) + (hi : Int)) / 2 + 1 = (((lo + hi) / 2 + 1 : Nat) : Int) by omega], rfl, by omega, hhi, HB2.out, partedS_up HP.out HX.out HC.out⟩
        case measure => simp [intOf]; omega
      · have HC := Lib.hid hc
        go_wp2_with fail
        refine (sessCmp_any r id _).mono ?_
        rintro e w2 ⟨rfl, hb2⟩
        have HB2 := Lib.hid (below_then HB.out HB.out.size hb2)
        go_wp2
        go_roundw
        case rel => exact ⟨lo, (lo + hi) / 2, rfl, by rw [show ((lo : Int) + (hi : Int)) / 2 = (((lo + hi) / 2 : Nat) : Int) by omega], by omega, by omega, HB2.out, partedS_down HP.out HX.out (Int.not_lt.2 HC.out)⟩
        case measure => simp [intOf]; omega
    · obtain rfl : hi = lo := by omega
      by_cases hn : hi < ds.length
      · obtain ⟨b, o, r, rfl, hF, hbl, hx, g0, g1, g2⟩ := ss_at (HR.out.frame (Agree.of_below HB.out)) hi hn
        have HX := Lib.hid hx
        clear hx
        go_wp2_with fail
        refine (sessCmp_any r id _).mono ?_
        rintro e w2 ⟨rfl, hb2⟩
        have HB2 := Lib.hid (below_then HB.out HB.out.size hb2)
        go_wp2
        go_ret2
        refine ⟨HB2.out, hi, wrap64 (r.id - id) == 0, rfl, hhi, ?_, HP.out⟩
        rw [beq_iff_eq]
        constructor
        · exact fun h => ⟨r, HX.out, h⟩
        · rintro ⟨d, hd, he⟩
          rw [HX.out] at hd
          injection hd with hd
          rw [hd]
          exact he
      · go_wp2
        go_ret2
        refine ⟨HB.out, hi, false, rfl, hhi, ⟨(fun h => nomatch h), ?_⟩, HP.out⟩
        rintro ⟨d, hd, _⟩
        have := (List.getElem?_eq_some_iff.1 hd).1
        omega
set_option maxHeartbeats 1600000 in
theorem session_any (ds : List SsV) (hl : ds.length ≤ 1000000000) (id : Int) (F : Nat → Prop) (g : Nat) (v0 v1 : Value) (T : TypeId) (A : Option Addr) (c : Nat) (w : World) (hk : w.heap[g]? = some (.cells #[v0, v1, .slice A ds.length c] T (0, 0))) (hr : Rds F w A (ssCells ds)) :
    Calls Tryz.prog 82 #[.pointer (some ⟨g, 0, none⟩), .int .i64 id] w (BinPostS ds id w) := by
  obtain ⟨x0, x1, x2⟩ := cells3 hk
  have HC := Lib.hid (binSs_any ds hl id F A c w hr)
  clear hr hk
  go_enter Tryz.func82, Tryz.ntmps82
  go_wp2_with fail
  refine HC.out.mono ?_
  rintro e w2 ⟨hb2, i, f, rfl, hbin⟩
  have HB2 := Lib.hid hb2
  have HN := Lib.hid hbin
  clear hb2 hbin
  go_wp2
  go_ret2
  exact ⟨HB2.out, i, f, rfl, HN.out⟩
end Go.Proofs.YtemcijhpmpdebaaGreatDoor
