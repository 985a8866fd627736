/- Finding a stored document: what a search among rising ids finds; the walks of slices.BinarySearchFunc at stored documents and of (*Base).doc. -/
import Derived.Test.YtemcijhpmpdebaaGreatDoorBsG2
namespace Go.Proofs.YtemcijhpmpdebaaGreatDoor
open Go.RowKit
theorem st_rise {ds : List StV} (h : ∀ (k : Nat) (d : StV), ds[k]? = some d → StOK ds k d) : ∀ (i j : Nat) (d e : StV), ds[i]? = some d → ds[j]? = some e → i < j → d.id < e.id := by
  intro i j
  induction j with
  | zero => intro d e _ _ hij; omega
  | succ j ih =>
    intro d e hd he hij
    have hj : j < ds.length := by have := (List.getElem?_eq_some_iff.1 he).1; omega
    have hp : ds[j]? = some ds[j] := by simp [hj]
    have h1 := (h _ _ he).2.2 j _ rfl hp
    by_cases c : i = j
    · subst c
      rw [hd] at hp
      injection hp with hp
      rw [hp]
      exact h1
    · have := ih d _ hd hp (by omega)
      omega
def Rising (ds : List StV) (id : Int) : Prop := (0 ≤ id ∧ id ≤ 100) ∧ (∀ (k : Nat) (d : StV), ds[k]? = some d → 0 ≤ d.id ∧ d.id ≤ 100) ∧ ∀ (i j : Nat) (d e : StV), ds[i]? = some d → ds[j]? = some e → i < j → d.id < e.id
/-- All ahead of lo are less, all from hi on are not. -/
def Parted (ds : List StV) (id : Int) (lo hi : Nat) : Prop := Rising ds id → (∀ (k : Nat) (d : StV), k < lo → ds[k]? = some d → d.id < id) ∧ ∀ (k : Nat) (d : StV), hi ≤ k → ds[k]? = some d → id ≤ d.id
theorem parted_start (ds : List StV) (id : Int) : Parted ds id 0 ds.length := fun _ => ⟨fun k d h => by omega, fun k d h hd => by have := (List.getElem?_eq_some_iff.1 hd).1; omega⟩
theorem parted_up {ds : List StV} {id : Int} {lo hi m : Nat} {d : StV} (h : Parted ds id lo hi) (hd : ds[m]? = some d) (hc : wrap64 (d.id - id) < 0) : Parted ds id (m + 1) hi := by
  intro hr
  refine ⟨fun k e hk he => ?_, (h hr).2⟩
  have h1 := hr.2.1 m d hd
  have h2 := hr.1
  have h3 : d.id < id := by unfold wrap64 at hc; omega
  by_cases c : k = m
  · subst c
    rw [hd] at he
    injection he with he
    rw [← he]
    exact h3
  · have := hr.2.2 k m e d he hd (by omega)
    omega
theorem parted_down {ds : List StV} {id : Int} {lo hi m : Nat} {d : StV} (h : Parted ds id lo hi) (hd : ds[m]? = some d) (hc : ¬ wrap64 (d.id - id) < 0) : Parted ds id lo m := by
  intro hr
  refine ⟨(h hr).1, fun k e hk he => ?_⟩
  have h1 := hr.2.1 m d hd
  have h2 := hr.1
  have h3 : id ≤ d.id := by unfold wrap64 at hc; omega
  by_cases c : k = m
  · subst c
    rw [hd] at he
    injection he with he
    rw [← he]
    exact h3
  · have := hr.2.2 m k d e hd he (by omega)
    omega
def BinAt (ds : List StV) (id : Int) (i : Nat) (f : Bool) : Prop := i ≤ ds.length ∧ (f = true ↔ ∃ d : StV, ds[i]? = some d ∧ wrap64 (d.id - id) = 0) ∧ Parted ds id i i
theorem wrap_zero {a b : Int} (ha : 0 ≤ a ∧ a ≤ 100) (hb : -9223372036854775808 ≤ b ∧ b ≤ 9223372036854775807) : wrap64 (a - b) = 0 ↔ a = b := by
  unfold wrap64
  omega
theorem BinAt.same {b : BsV} {id : Int} {i : Nat} {f : Bool} (h : BinAt b.docs id i f) (hg : BsGood b) (hid : -9223372036854775808 ≤ id ∧ id ≤ 9223372036854775807) : f = true ↔ ∃ d : StV, b.docs[i]? = some d ∧ d.id = id := by
  rw [h.2.1]
  constructor
  · rintro ⟨d, hd, he⟩
    exact ⟨d, hd, (wrap_zero (hg.2.2.2.1 i d hd).1 hid).1 he⟩
  · rintro ⟨d, hd, he⟩
    exact ⟨d, hd, (wrap_zero (hg.2.2.2.1 i d hd).1 hid).2 he⟩
theorem BinAt.found {b : BsV} {id : Int} {i : Nat} {f : Bool} (h : BinAt b.docs id i f) (hg : BsGood b) (hid : -9223372036854775808 ≤ id ∧ id ≤ 9223372036854775807) : f = true ↔ ∃ d ∈ b.docs, d.id = id := by
  constructor
  · intro hf
    obtain ⟨d, hd, he⟩ := (h.same hg hid).1 hf
    exact ⟨d, List.mem_of_getElem? hd, he⟩
  · rintro ⟨d, hm, he⟩
    obtain ⟨k, hk⟩ := List.mem_iff_getElem?.1 hm
    have hds := hg.2.2.2.1
    have hr : Rising b.docs id := ⟨by have := (hds k d hk).1; omega, fun k d hk => (hds k d hk).1, st_rise hds⟩
    obtain ⟨h1, h2⟩ := h.2.2 hr
    have hik : i ≤ k := by
      rcases Nat.lt_or_ge k i with c | c
      · have := h1 k d c hk
        omega
      · exact c
    have hi : i < b.docs.length := by have := (List.getElem?_eq_some_iff.1 hk).1; omega
    have hp : b.docs[i]? = some b.docs[i] := by simp [hi]
    have h3 := h2 i _ (Nat.le_refl _) hp
    refine (h.same hg hid).2 ⟨_, hp, ?_⟩
    by_cases c : i = k
    · subst c
      rw [hk] at hp
      injection hp with hp
      rw [← hp]
      exact he
    · have := hr.2.2 i k _ d hp hk (by omega)
      omega
/-- What is found under an id: the document's nodes, or nothing. -/
def Found (b : BsV) (id : Int) (l : List Nd) (f : Bool) : Prop :=
  (f = true ∧ BsGood b ∧ ∃ (k : Nat) (d : StV), b.docs[k]? = some d ∧ d.id = id ∧ d.doc = l) ∨ (f = false ∧ l = [] ∧ ¬ (BsGood b ∧ ∃ d ∈ b.docs, d.id = id))
theorem Found.one {b : BsV} {id : Int} {l l' : List Nd} {f f' : Bool} (h : Found b id l f) (h' : Found b id l' f') : l = l' ∧ f = f' := by
  rcases h with ⟨rfl, hg, k, d, hk, he, rfl⟩ | ⟨rfl, rfl, hn⟩
  · rcases h' with ⟨rfl, _, k', d', hk', he', rfl⟩ | ⟨rfl, rfl, hn⟩
    · have hr := st_rise hg.2.2.2.1
      rcases Nat.lt_trichotomy k k' with c | c | c
      · have := hr _ _ _ _ hk hk' c
        omega
      · subst c
        rw [hk] at hk'
        injection hk' with hk'
        exact ⟨by rw [hk'], rfl⟩
      · have := hr _ _ _ _ hk' hk c
        omega
    · exact absurd ⟨hg, d, List.mem_of_getElem? hk, he⟩ hn
  · rcases h' with ⟨rfl, hg, k', d', hk', he', rfl⟩ | ⟨rfl, rfl, _⟩
    · exact absurd ⟨hg, d', List.mem_of_getElem? hk', he'⟩ hn
    · exact ⟨rfl, rfl⟩
set_option maxHeartbeats 800000 in
theorem docCmp_any (d : StV) (A : Option Addr) (n c : Nat) (id : Int) (w : World) :
    Calls Tryz.prog 120 #[.agg #[.int .i64 d.id, .slice A n c], .int .i64 id] w fun e w' => e = .returned (.int .i64 (wrap64 (d.id - id))) ∧ Below w.heap.size w w' := by
  go_enter Tryz.func120, Tryz.ntmps120
  go_wp2
  go_ret
  exact ⟨rfl, by first | exact Below.refl _ _ | exact (Below.refl _ _).alloc (Nat.le_refl _) _⟩
def BinPost (ds : List StV) (id : Int) (w : World) (e : Ending) (w' : World) : Prop :=
  Below w.heap.size w w' ∧ ∃ i f, e = .returned (.tuple #[.int .i64 ((i : Nat) : Int), .bool f]) ∧ BinAt ds id i f
set_option maxRecDepth 100000 in
set_option maxHeartbeats 1600000 in
theorem binSt_any (ds : List StV) (hl : ds.length ≤ 1000000000) (id : Int) (F : Nat → Prop) (A : Option Addr) (c : Nat) (w : World) (hr : StAt F w A ds) :
    Calls Tryz.prog 119 #[.slice A ds.length c, .int .i64 id, .func (.func 120) #[] #[]] w (BinPost ds id w) := by
  have HR := Lib.hid hr
  have hg := Tryz.call120
  clear hr
  go_enter Tryz.func119, Tryz.ntmps119
  go_wp2
  go_loopw [9, 10] (fun i j wx => ∃ lo hi : Nat, i = .int .i64 (lo : Int) ∧ j = .int .i64 (hi : Int) ∧ lo ≤ hi ∧ hi ≤ ds.length ∧ Below w.heap.size w wx ∧ Hid (Parted ds id lo hi)) (fun i j _ => (intOf j).toNat - (intOf i).toNat)
  case atStart => exact ⟨0, ds.length, rfl, rfl, Nat.zero_le _, Nat.le_refl _, Below.refl _ _, parted_start ds id⟩
  case round =>
    obtain ⟨lo, hi, rfl, rfl, hlh, hhi, hbx, hp⟩ := hrel
    have HB := Lib.hid hbx
    have HP := Lib.hid hp
    clear hbx hp
    by_cases hlt : lo < hi
    · obtain ⟨b, o, r, rfl, hF, hbl, hx, g0, g1, hcp, hrr⟩ := st_at (HR.out.frame (Agree.of_below HB.out)) ((lo + hi) / 2) (by omega)
      have HX := Lib.hid hx
      clear hx hrr
      by_cases hc : wrap64 (r.d.id - id) < 0
      · have HC := Lib.hid hc
        go_wp2_with fail
        refine (docCmp_any r.d r.adr r.d.doc.length r.cap id _).mono ?_
        rintro e w2 ⟨rfl, hb2⟩
        have HB2 := Lib.hid (below_then HB.out HB.out.size hb2)
        go_wp2
        go_roundw
        case rel => exact ⟨(lo + hi) / 2 + 1, hi, by rw [show ((lo : Int) + (hi : Int)) / 2 + 1 = (((lo + hi) / 2 + 1 : Nat) : Int) by omega], rfl, by omega, hhi, HB2.out, parted_up HP.out HX.out HC.out⟩
        case measure => simp [intOf]; omega
      · have HC := Lib.hid hc
        go_wp2_with fail
        refine (docCmp_any r.d r.adr r.d.doc.length r.cap id _).mono ?_
        rintro e w2 ⟨rfl, hb2⟩
        have HB2 := Lib.hid (below_then HB.out HB.out.size hb2)
        go_wp2
        go_roundw
        case rel => exact ⟨lo, (lo + hi) / 2, rfl, by rw [show ((lo : Int) + (hi : Int)) / 2 = (((lo + hi) / 2 : Nat) : Int) by omega], by omega, by omega, HB2.out, parted_down HP.out HX.out (Int.not_lt.2 HC.out)⟩
        case measure => simp [intOf]; omega
    · obtain rfl : hi = lo := by omega
      by_cases hn : hi < ds.length
      · obtain ⟨b, o, r, rfl, hF, hbl, hx, g0, g1, hcp, hrr⟩ := st_at (HR.out.frame (Agree.of_below HB.out)) hi hn
        have HX := Lib.hid hx
        clear hx hrr
        go_wp2_with fail
        refine (docCmp_any r.d r.adr r.d.doc.length r.cap id _).mono ?_
        rintro e w2 ⟨rfl, hb2⟩
        have HB2 := Lib.hid (below_then HB.out HB.out.size hb2)
        go_wp2
        go_ret2
        refine ⟨HB2.out, hi, wrap64 (r.d.id - id) == 0, rfl, hhi, ?_, HP.out⟩
        rw [beq_iff_eq]
        constructor
        · exact fun h => ⟨r.d, HX.out, h⟩
        · rintro ⟨d, hd, he⟩
          rw [HX.out] at hd
          injection hd with hd
          rw [hd]
          exact he
      · go_wp2
        go_ret2
        refine ⟨HB.out, hi, false, rfl, hhi, ⟨(fun h => nomatch h), ?_⟩, HP.out⟩
        rintro ⟨d, hd, _⟩
        have := (List.getElem?_eq_some_iff.1 hd).1
        omega
set_option maxHeartbeats 1600000 in
theorem doc_any (ds : List StV) (hl : ds.length ≤ 1000000000) (id : Int) (F : Nat → Prop) (g : Nat) (v0 v2 : Value) (T : TypeId) (A : Option Addr) (c : Nat) (w : World) (hk : w.heap[g]? = some (.cells #[v0, .slice A ds.length c, v2] T (0, 0))) (hr : StAt F w A ds) :
    Calls Tryz.prog 102 #[.pointer (some ⟨g, 0, none⟩), .int .i64 id] w (BinPost ds id w) := by
  obtain ⟨x0, x1, x2⟩ := cells3 hk
  have HC := Lib.hid (binSt_any ds hl id F A c w hr)
  clear hr hk
  go_enter Tryz.func102, Tryz.ntmps102
  go_wp2_with fail
  refine HC.out.mono ?_
  rintro e w2 ⟨hb2, i, f, rfl, hbin⟩
  have HB2 := Lib.hid hb2
  have HN := Lib.hid hbin
  clear hb2 hbin
  go_wp2
  go_ret2
  exact ⟨HB2.out, i, f, rfl, HN.out⟩
end Go.Proofs.YtemcijhpmpdebaaGreatDoor
