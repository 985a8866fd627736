/- The walk of l1Kids. A part of a row of nodes that is a tree; where its kids lie. Plain words. -/
import Derived.Test.YtcbcndoddikpjaaGreatDoorSpec1
import Derived.Test.YtcbcndoddikpjaaGreatDoorVal3
import Derived.Deep.Onto
import Derived.Test.YtcbcndoddikpjaaGreatDoorFlat
namespace Go.Proofs.YtcbcndoddikpjaaGreatDoor
open Go.RowKit
def isKid (l : List Nd) (k i : Nat) : Bool := decide (k < i) && (match l[i]? with | some x => x.up == (k : Int) | none => false)
def kidsTo (l : List Nd) (k j : Nat) : List Nat := (List.range j).filter (isKid l k)
theorem kidsTo_len (l : List Nd) (k j : Nat) : (kidsTo l k j).length ≤ j := by
  have := List.length_filter_le (isKid l k) (List.range j)
  simpa [kidsTo] using this
theorem kidsTo_succ (l : List Nd) (k j : Nat) : kidsTo l k (j+1) = kidsTo l k j ++ (if isKid l k j then [j] else []) := by
  simp [kidsTo, List.range_succ, List.filter_append, List.filter_cons]
theorem kidsTo_low (l : List Nd) (k : Nat) : ∀ j, j ≤ k + 1 → kidsTo l k j = [] := by
  intro j hj
  rw [kidsTo, List.filter_eq_nil_iff]
  intro i hi
  have : i < j := by simpa using hi
  simp [isKid]
  omega
def intv (l : List Nat) : List Value := l.map fun (i : Nat) => Value.int .i64 (i : Int)
theorem infoInt : (Tryz.prog.info? 3).map (fun i => (i.zero, i.size, i.bytes)) = some (some (.int .i64 0), 1, 8) := by kernel_rfl
def KidsPost (l : List Nd) (k : Nat) (w : World) (e : Ending) (w' : World) : Prop :=
  Below w.heap.size w w' ∧ ∃ A c, e = .returned (.slice A (kidsTo l k l.length).length c) ∧ w'.ownsRow w.heap.size 3 1 (.slice A (kidsTo l k l.length).length c) (kidsTo l k l.length).length (intv (kidsTo l k l.length))
set_option maxRecDepth 100000 in
set_option maxHeartbeats 2000000 in
theorem sKids_any (l : List Nd) (hl : l.length ≤ 1000000000) (k : Nat) (hk : k < l.length) (F : Nat → Prop) (A : Option Addr) (c : Nat) (w : World) (hr : Rds F w A (ndCells l)) :
    Calls Tryz.prog 42 #[.agg #[.slice A l.length c], .int .i64 (k : Int)] w (KidsPost l k w) := by
  have HR := Lib.hid hr
  clear hr
  go_enter Tryz.func42, Tryz.ntmps42
  go_wp2
  go_loopw [5, 6] (fun v i wx => ∃ j : Nat, ∃ A1 c1, v = .slice A1 (kidsTo l k j).length c1 ∧ i = .int .i64 (j : Int) ∧ k + 1 ≤ j ∧ j ≤ l.length ∧ Below w.heap.size w wx ∧ wx.heap[w.heap.size]? = some (.cells #[.slice A l.length c] 28 (0, 0)) ∧ wx.ownsRow (w.heap.size + 1) 3 1 (.slice A1 (kidsTo l k j).length c1) (kidsTo l k j).length (intv (kidsTo l k j))) (fun _ i _ => l.length - (intOf i).toNat)
  case atStart =>
    refine ⟨k+1, none, 0, by rw [kidsTo_low l k _ (Nat.le_refl _)]; rfl, by go_num, by omega, by omega, (Below.refl _ _).alloc (Nat.le_refl _) _, heap_alloc_new _ _, ?_⟩
    rw [kidsTo_low l k _ (Nat.le_refl _)]
    exact World.ownsRow_nil _ _ _ _
  case round =>
    obtain ⟨j, A1, c1, rfl, rfl, hj1, hj2, hb, hbox, hown⟩ := hrel
    have kb := cell_of_block hbox 0
    simp at kb
    have HB := Lib.hid hb
    have HX := Lib.hid hbox
    have hlb := lt_of_block hbox
    have hle := kidsTo_len l k j
    clear hb hbox
    by_cases hlt : j < l.length
    · obtain ⟨b, o, x, rfl, hF, hbl, hx, g0, g1, g2, g3, g4⟩ := nd_at (HR.out.frame (Agree.of_below HB.out)) j hlt
      have hlt' : (j : Int) < (l.length : Int) := by omega
      have hs := kidsTo_succ l k j
      by_cases hu : x.up = (k : Int)
      · have hkid : isKid l k j = true := by simp [isKid, hx, hu]; omega
        rw [hkid, if_pos rfl] at hs
        have HS := Lib.hid hs
        rw [hu] at g4
        clear hs hkid hx hu
        have HO := Lib.hid hown
        clear hown
        go_wp2_with (at_builtin; refine append_one (w.heap.size + 1) rfl (.tmp 24) (.tmp 26) 64 3 (.int .i64 0) 1 8 rfl Tryz.underlying64 infoInt rfl (by decide) (by decide) _ _ _ [.int .i64 (j : Int)] rfl rfl rfl (by simp [Value.oneCell']) rfl HO.out (by omega) (by omega) ?_)
        intro A2 c2 w3 hc2 hown3 hg3 hat3
        have hlow : ∀ g, (Value.slice A1 (kidsTo l k j).length c1).ownBlock = some g → w.heap.size + 1 ≤ g := fun g hg => (own_base HO.out g hg).1
        have hb3 := below_own HB.out hg3 HO.out (Nat.le_succ _) (Nat.le_of_lt hlb)
        have hbox3 := block_agree HX.out (Agree.of_grown (F := fun b => b = w.heap.size) hg3 (fun b hb h => by have := hlow b h; omega)) rfl
        have HB3 := Lib.hid hb3
        have HX3 := Lib.hid hbox3
        have HO3 := Lib.hid hown3
        clear hb3 hbox3 hown3 hg3 hat3 hlow
        go_wp2
        go_roundw
        case rel =>
          have e : kidsTo l k (j+1) = kidsTo l k j ++ [j] := HS.out
          refine ⟨j+1, A2, c2, by rw [e]; simp, by go_num, by omega, by omega, HB3.out, HX3.out, ?_⟩
          have := HO3.out
          rw [e]
          simpa [intv] using this
        case measure => simp [intOf]; omega
      · have hkid : isKid l k j = false := by simp [isKid, hx, hu]
        rw [hkid] at hs
        have HS := Lib.hid hs
        have hu' : (x.up == (k : Int)) = false := by simpa using hu
        clear hs hkid hx hu
        go_wp2
        go_roundw
        case rel =>
          refine ⟨j+1, A1, c1, ?_, by go_num, by omega, by omega, HB.out, HX.out, ?_⟩
          · rw [HS.out]; simp
          · rw [HS.out]; simpa using hown
        case measure => simp [intOf]; omega
    · obtain rfl : j = l.length := by omega
      go_wp2
      go_ret
      exact ⟨HB.out, A1, c1, rfl, World.ownsRow.mono hown (by omega)⟩
end Go.Proofs.YtcbcndoddikpjaaGreatDoor
namespace Go.Proofs.YtcbcndoddikpjaaGreatDoor
open Go.RowKit
mutual
theorem Tree.flat_ups : ∀ (t : Tree) (name : ByteArray) (up : Int) (a : Nat) (j : Nat) (x : Nd), (t.flat name up a)[j]? = some x → 0 < j → (a : Int) ≤ x.up ∧ x.up < (a : Int) + t.count
  | .mk k n t ns ks, name, up, a, j, x, h, hj => by
    rw [Tree.flat] at h
    obtain ⟨j', rfl⟩ : ∃ j', j = j' + 1 := ⟨j - 1, by omega⟩
    rw [List.getElem?_cons_succ] at h
    rw [Tree.count]
    rcases Tree.flatL_ups ks (k == 7) ns a (a + 1) j' x h with h | h
    · omega
    · omega
theorem Tree.flatL_ups : ∀ (ks : List Tree) (map : Bool) (ns : List ByteArray) (s p : Nat) (j : Nat) (x : Nd), (Tree.flatL map ns ks s p)[j]? = some x → x.up = (s : Int) ∨ ((p : Int) ≤ x.up ∧ x.up < (p : Int) + Tree.countL ks)
  | [], _, _, _, _, j, x, h => by rw [Tree.flatL] at h; simp at h
  | k :: ks, map, ns, s, p, j, x, h => by
    rw [Tree.flatL] at h
    rw [Tree.countL]
    by_cases hj : j < k.count
    · rw [List.getElem?_append_left (by rw [Tree.flat_length]; exact hj)] at h
      by_cases h0 : j = 0
      · subst h0
        rw [Tree.flat_eq] at h
        simp at h
        subst h
        exact .inl rfl
      · have := Tree.flat_ups k _ _ p j x h (by omega)
        omega
    · rw [List.getElem?_append_right (by rw [Tree.flat_length]; omega)] at h
      rcases Tree.flatL_ups ks _ _ s _ _ x h with h | h
      · exact .inl h
      · right; omega
end
def kidsPos : Nat → List Tree → List Nat
  | _, [] => []
  | p, k :: ks => p :: kidsPos (p + k.count) ks
/-- At a there lies the tree t, and what lies behind it hangs elsewhere. -/
structure Sub (l : List Nd) (a : Nat) (t : Tree) : Prop where
  fits : a + t.count ≤ l.length
  row : ∃ name up, seg l a (a + t.count) = t.flat name up a
  rest : ∀ i x, a + t.count ≤ i → l[i]? = some x → x.up < (a : Int) ∨ (a : Int) + t.count ≤ x.up
theorem seg_at (l : List Nd) (a c j : Nat) (h : a + j < c) : (seg l a c)[j]? = l[a + j]? := by
  unfold seg
  rw [List.getElem?_take_of_lt (by omega), List.getElem?_drop]
theorem Sub.of_flat {l : List Nd} {t : Tree} {name : ByteArray} {up : Int} (h : l = t.flat name up 0) : Sub l 0 t := by
  have hl : l.length = t.count := by rw [h, Tree.flat_length]
  refine ⟨by omega, ⟨name, up, ?_⟩, fun i x hi hx => ?_⟩
  · rw [Nat.zero_add, ← hl, seg_all]; exact h
  · have := (List.getElem?_eq_some_iff.1 hx).1
    omega
theorem Sub.node {l : List Nd} {a : Nat} {t : Tree} (h : Sub l a t) : ∃ x, l[a]? = some x ∧ x.kind = t.kind ∧ x.num = t.num ∧ x.text = t.text := by
  obtain ⟨name, up, hr⟩ := h.row
  have hc := t.count_eq
  have := seg_at l a (a + t.count) 0 (by omega)
  rw [hr, Tree.flat_eq] at this
  simp at this
  exact ⟨_, this.symm, rfl, rfl, rfl⟩
/-- The kids' part. -/
structure SubL (l : List Nd) (s p e : Nat) (map : Bool) (ns : List ByteArray) (ks : List Tree) : Prop where
  eq : e = p + Tree.countL ks
  fits : e ≤ l.length
  low : s < p
  row : seg l p e = Tree.flatL map ns ks s p
  rest : ∀ i x, e ≤ i → l[i]? = some x → x.up < (s : Int) ∨ (e : Int) ≤ x.up
theorem Sub.kids {l : List Nd} {a : Nat} {t : Tree} (h : Sub l a t) : SubL l a (a + 1) (a + t.count) (t.kind == 7) t.names t.kids := by
  obtain ⟨name, up, hr⟩ := h.row
  obtain ⟨x, hx, _⟩ := h.node
  have hc := t.count_eq
  rw [seg_cons l a _ x hx (by omega), Tree.flat_eq] at hr
  injection hr with _ hr
  exact ⟨by omega, h.fits, by omega, hr, fun i x hi hx => by have := h.rest i x hi hx; omega⟩
theorem SubL.head {l : List Nd} {s p e : Nat} {map : Bool} {ns : List ByteArray} {k : Tree} {ks : List Tree} (h : SubL l s p e map ns (k :: ks)) :
    Sub l p k ∧ SubL l s (p + k.count) e map ns.tail ks ∧ (∃ x, l[p]? = some x ∧ x.up = (s : Int) ∧ x.name = if map then ns.headD emptyB else emptyB) := by
  have he := h.eq
  rw [Tree.countL] at he
  have hrow := h.row
  have hlow := h.low
  have hfit := h.fits
  have hkc := k.count_eq
  rw [← seg_append l p (p + k.count) e (by omega) (by omega), Tree.flatL] at hrow
  have hlen : (seg l p (p + k.count)).length = (k.flat (if map then ns.headD emptyB else emptyB) (s : Int) p).length := by
    rw [Tree.flat_length]; simp [seg]; omega
  obtain ⟨h1, h2⟩ := List.append_inj hrow hlen
  refine ⟨⟨by omega, ⟨_, _, h1⟩, fun i x hi hx => ?_⟩, ⟨by omega, hfit, by omega, h2, h.rest⟩, ?_⟩
  · by_cases hie : i < e
    · have g := seg_at l (p + k.count) e (i - (p + k.count)) (by omega)
      rw [h2, show p + k.count + (i - (p + k.count)) = i by omega, hx] at g
      rcases Tree.flatL_ups ks map ns.tail s (p + k.count) _ x g with g | g <;> omega
    · have := h.rest i x (by omega) hx
      omega
  · have g := seg_at l p (p + k.count) 0 (by omega)
    rw [h1, Tree.flat_eq] at g
    simp at g
    exact ⟨_, g.symm, rfl, by simp⟩
theorem filter_skip (f : Nat → Bool) (p n : Nat) (h : ∀ i, p ≤ i → i < p + n → f i = false) : (List.range' p n).filter f = [] := by
  rw [List.filter_eq_nil_iff]
  intro i hi
  rw [List.mem_range'_1] at hi
  simp [h i hi.1 hi.2]
theorem SubL.filter {l : List Nd} {s : Nat} : ∀ (ks : List Tree) {p e : Nat} {map : Bool} {ns : List ByteArray}, SubL l s p e map ns ks → (List.range' p (Tree.countL ks)).filter (isKid l s) = kidsPos p ks
  | [], p, e, map, ns, _ => by simp [Tree.countL, kidsPos]
  | k :: ks, p, e, map, ns, h => by
    obtain ⟨h1, h2, x, hx, hup, _⟩ := h.head
    have hc := k.count_eq
    obtain ⟨name, up, hr⟩ := h1.row
    rw [Tree.countL, ← List.range'_append_1, List.filter_append, SubL.filter ks h2, kidsPos]
    obtain ⟨m, hm⟩ : ∃ m, k.count = m + 1 := ⟨k.count - 1, by omega⟩
    have hlow := h.low
    rw [hm, List.range'_succ, List.filter_cons]
    have hk : isKid l s p = true := by simp [isKid, hx, hup, hlow]
    rw [if_pos hk, filter_skip (isKid l s) (p+1) m (fun i h3 h4 => ?_)]
    · rfl
    · have g := seg_at l p (p + k.count) (i - p) (by omega)
      rw [hr, show p + (i - p) = i by omega] at g
      cases hi : l[i]? with
      | none => simp [isKid, hi]
      | some y =>
        rw [hi] at g
        have := Tree.flat_ups k name up p (i - p) y g (by omega)
        simp [isKid, hi]
        omega
theorem Sub.kidsTo {l : List Nd} {a : Nat} {t : Tree} (h : Sub l a t) : kidsTo l a l.length = kidsPos (a + 1) t.kids := by
  have hk := h.kids
  have he := hk.eq
  have hf := h.fits
  have hc := t.count_eq
  unfold Go.Proofs.YtcbcndoddikpjaaGreatDoor.kidsTo
  obtain ⟨m, hm⟩ : ∃ m, l.length = (a + 1) + (Tree.countL t.kids + m) := ⟨l.length - (a + t.count), by omega⟩
  have e1 : List.range l.length = List.range' 0 (a + 1) ++ (List.range' (a + 1) (Tree.countL t.kids) ++ List.range' (a + 1 + Tree.countL t.kids) m) := by
    rw [List.range_eq_range', hm, List.range'_append_1]
    have := List.range'_append_1 (s := 0) (m := a + 1) (n := Tree.countL t.kids + m)
    rw [Nat.zero_add] at this
    exact this.symm
  rw [e1, List.filter_append, List.filter_append]
  rw [filter_skip _ 0 (a+1) (fun i h1 h2 => by simp [isKid]; omega), SubL.filter t.kids hk, filter_skip _ _ _ (fun i h1 h2 => ?_)]
  · simp
  · cases hi : l[i]? with
    | none => simp [isKid, hi]
    | some y =>
      have := h.rest i y (by omega) hi
      simp [isKid, hi]
      omega
end Go.Proofs.YtcbcndoddikpjaaGreatDoor
