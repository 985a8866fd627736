/- The reference's l3At at a map: the number of the part that a name leads to. -/
import Derived.Test.YtcbcndoddikpjaaGreatDoorSp4
namespace Go.Proofs.YtcbcndoddikpjaaGreatDoor
open Go.RowKit
/-- The number of the part that a name leads to, -1 for none. -/
def atP (ns : List ByteArray) (nm : ByteArray) : Int := if ns[insPos ns nm]? = some nm then (insPos ns nm : Int) else -1
theorem sorted_lt {ns : List ByteArray} (h : sortedB ns = true) : ∀ (i j : Nat) (a b : ByteArray), i < j → ns[i]? = some a → ns[j]? = some b → ltS a b = true := by
  induction ns with
  | nil => intro i j a b _ h1; simp at h1
  | cons x ns ih =>
    intro i j a b hij h1 h2
    cases j with
    | zero => omega
    | succ j =>
      simp at h2
      cases i with
      | zero =>
        simp at h1
        subst h1
        exact sortedB_head h b (List.mem_of_getElem? h2)
      | succ i =>
        simp at h1
        exact ih (sortedB_tail h) i j a b (by omega) h1 h2
theorem insPos_found {ns : List ByteArray} {nm : ByteArray} {i : Nat} (hs : sortedB ns = true) (h : ns[i]? = some nm) : insPos ns nm = i := by
  refine (insPos_of ns nm hs i (by have := (List.getElem?_eq_some_iff.1 h).1; omega) (fun j x hj hx => sorted_lt hs j i x nm hj hx h) (fun j x hj hx => ?_)).symm
  rcases Nat.lt_or_ge i j with c | c
  · exact ltS_asymm (sorted_lt hs i j nm x c h hx)
  · obtain rfl : i = j := by omega
    rw [h] at hx
    injection hx with hx
    subst hx
    exact ltS_irrefl _
theorem atP_found {ns : List ByteArray} {nm : ByteArray} {i : Nat} (hs : sortedB ns = true) (h : ns[i]? = some nm) : atP ns nm = (i : Int) := by
  unfold atP
  rw [insPos_found hs h, if_pos h]
theorem atP_none {ns : List ByteArray} {nm : ByteArray} (h : ∀ i, i < ns.length → ns[i]? ≠ some nm) : atP ns nm = -1 := by
  unfold atP
  rw [if_neg]
  intro c
  exact h _ (List.getElem?_eq_some_iff.1 c).1 c
set_option maxRecDepth 100000 in
set_option maxHeartbeats 1000000 in
theorem sAt_any (t : Tree) (hk : t.kind = 7) (hm : MapOK t.names t.kids) (hl : t.kids.length ≤ 1000000) (F : Nat → Prop) (cs : List Value) (nm : ByteArray) (w : World) (ht : LtAt F w cs t) :
    Calls Tryz.prog 39 #[.agg cs.toArray, .string nm] w (fun e w' => e = .returned (.int .i64 (atP t.names nm)) ∧ Below w.heap.size w w') := by
  obtain ⟨A1, c1, A2, c2, rs, rfl, g3, g4, r3, r4, hts⟩ := ht.open
  have HS := Lib.hid hm.sorted
  have hlen := hm.len
  obtain ⟨k, n, x, ns, ks⟩ := t
  change k = 7 at hk
  change ns.length = ks.length at hlen
  change ks.length ≤ 1000000 at hl
  change Rds F w A1 (strs ns) at r3
  change Hid (sortedB ns = true) at HS
  subst hk
  change ns.length ≤ c1 at g3
  change ks.length ≤ c2 at g4
  have hb1 : Below w.heap.size w (w.alloc (.cells #[.int .i64 7, .int .i64 n, .string x, .slice A1 ns.length c1, .slice A2 ks.length c2] 40 (0, 0))) := (Below.refl _ _).alloc (Nat.le_refl _) _
  have R3 := Lib.hid (r3.frame (Agree.of_below hb1))
  have HB1 := Lib.hid hb1
  have HLEN := Lib.hid hlen
  clear r3 r4 hts ht hm hb1 hlen
  go_enter Tryz.func39, Tryz.ntmps39
  go_wp2
  go_loop [9] (fun iv => ∃ i : Nat, iv = .int .i64 (i : Int) ∧ i ≤ ks.length ∧ Hid (∀ j, j < i → ns[j]? ≠ some nm)) (fun iv => ks.length - (intOf iv).toNat)
  case atStart => exact ⟨0, rfl, Nat.zero_le _, Lib.hid (fun j h => by omega)⟩
  case round =>
    obtain ⟨i, rfl, hi, hrel⟩ := hrel
    by_cases hlt : i < ks.length
    · obtain ⟨s, hs⟩ : ∃ s, ns[i]? = some s := ⟨_, List.getElem?_eq_getElem (by have := HLEN.out; omega)⟩
      have hsv : (strs ns)[i]? = some (.string s) := by rw [strs, List.getElem?_map, hs]; rfl
      obtain ⟨bi, oi, rfl, hbi, hbil⟩ := R3.out.open (by intro h0; rw [h0] at hsv; simp at hsv)
      have hcell := R3.out.at i _ hsv
      have hil : i < ns.length := (List.getElem?_eq_some_iff.1 hs).1
      have HSI := Lib.hid hs
      clear hs hsv
      by_cases he : s = nm
      · subst he
        go_wp2
        go_ret
        exact ⟨by rw [atP_found HS.out HSI.out]; rfl, HB1.out⟩
      · have he' : (s.toList == nm.toList) = false := by
          simp only [beq_eq_false_iff_ne, ne_eq]
          exact fun e => he (ba_eq e)
        go_wp2
        go_round
        case rel =>
          refine ⟨i + 1, by go_num, by omega, Lib.hid (fun j hj => ?_)⟩
          rcases Nat.lt_or_ge j i with c | c
          · exact hrel.out j c
          · obtain rfl : j = i := by omega
            rw [HSI.out]
            intro e
            injection e with e
            exact he e
        case measure => simp [intOf]; omega
    · obtain rfl : i = ks.length := by omega
      go_wp2
      go_ret
      exact ⟨by rw [atP_none (fun j hj => hrel.out j (by have := HLEN.out; omega))]; rfl, HB1.out⟩
end Go.Proofs.YtcbcndoddikpjaaGreatDoor
