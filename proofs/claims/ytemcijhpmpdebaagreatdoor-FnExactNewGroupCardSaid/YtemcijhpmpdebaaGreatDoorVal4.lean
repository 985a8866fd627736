/- The walk of bounded. -/
import Derived.Test.YtemcijhpmpdebaaGreatDoorGen1
import Derived.Test.YtemcijhpmpdebaaGreatDoorVal2
namespace Go.Proofs.YtemcijhpmpdebaaGreatDoor
open Go.RowKit
def numOK (n : Int) : Bool := decide (-1000000000 ≤ n) && decide (n ≤ 1000000000)
mutual
def Tree.bounded : Tree → Bool
  | .mk _ n t ns ks => numOK n && strOK t && ns.all strOK && Tree.boundedL ks
def Tree.boundedL : List Tree → Bool
  | [] => true
  | k :: ks => k.bounded && Tree.boundedL ks
end
theorem Tree.bounded_eq (t : Tree) : t.bounded = (numOK t.num && strOK t.text && t.names.all strOK && Tree.boundedL t.kids) := by cases t; rfl
theorem Tree.boundedL_all (ks : List Tree) : Tree.boundedL ks = ks.all Tree.bounded := by
  induction ks with
  | nil => rfl
  | cons k ks ih => simp [Tree.boundedL, ih]
/-- Texts of a size that can be read. -/
def Sized (s : ByteArray) : Prop := s.size ≤ 9223372036854775807
mutual
def Tree.sized : Tree → Prop
  | .mk _ _ t ns ks => Sized t ∧ ns.length ≤ 1000000000000 ∧ ks.length ≤ 1000000000000 ∧ (∀ s ∈ ns, Sized s) ∧ Tree.sizedL ks
def Tree.sizedL : List Tree → Prop
  | [] => True
  | k :: ks => k.sized ∧ Tree.sizedL ks
end
theorem Tree.sized_eq (t : Tree) : t.sized = (Sized t.text ∧ t.names.length ≤ 1000000000000 ∧ t.kids.length ≤ 1000000000000 ∧ (∀ s ∈ t.names, Sized s) ∧ Tree.sizedL t.kids) := by cases t; rfl
theorem Tree.sizedL_mem : ∀ {ks : List Tree} {k : Tree}, Tree.sizedL ks → k ∈ ks → k.sized
  | [], _, _, h => by simp at h
  | x :: ks, k, hs, h => by
    simp only [Tree.sizedL] at hs
    rcases List.mem_cons.1 h with h | h
    · rw [h]; exact hs.1
    · exact Tree.sizedL_mem hs.2 h
theorem bounded1_any (s : ByteArray) (w : World) (hs : Sized s) :
    Calls Tryz.prog 138 #[.string s] w fun e w' => e = .returned (.bool (!strOK s)) ∧ w = w' := by
  go_enter Tryz.func138, Tryz.ntmps138
  go_wp2_with (go_at_call 126; refine (stringOK_any _ _ hs).mono ?_; rintro e w' ⟨rfl, rfl⟩)
  go_ret
  exact ⟨rfl, rfl⟩
set_option maxHeartbeats 1000000 in
theorem bounded_any (t : Tree) : t.sized → ∀ (F : Nat → Prop) (v : Value) (w : World), TreeAt F w v t →
    Calls Tryz.prog 127 #[v] w fun e w' => e = .returned (.bool t.bounded) ∧ w = w' := by
  induction t using Tree.ind with
  | _ t ih =>
    intro hsized F v w ht
    rw [Tree.sized_eq] at hsized
    obtain ⟨s1, s2, s3, s4, s5⟩ := hsized
    obtain ⟨b, A1, c1, A2, c2, ps, rfl, hF, hl, h0, h1, h2, h3, g3, r3, h4, g4, r4, hks⟩ := ht.open
    have HE := Lib.hid t.bounded_eq
    have hlen := hks.length
    have hnl : (strs t.names).length = t.names.length := by simp [strs]
    -- the names
    have hn : Calls Tryz.prog 137 #[.slice A1 t.names.length c1, .func (.func 138) #[] #[]] w fun e w' => e = .returned (.bool (t.names.any fun s => !strOK s)) ∧ w = w' := by
      have := containsFuncQS 138 #[] Tryz.call138 F A1 t.names.length c1 (strs t.names) w r3 hnl s2 (fun i => match t.names[i]? with | some s => !strOK s | none => false) (by
        intro i v hv
        obtain ⟨s, hs, rfl⟩ : ∃ s, t.names[i]? = some s ∧ v = .string s := by
          rw [strs, List.getElem?_map] at hv
          cases he : t.names[i]? with
          | none => rw [he] at hv; simp at hv
          | some s => rw [he] at hv; simp at hv; exact ⟨s, rfl, hv.symm⟩
        rw [hs]
        exact bounded1_any s w (s4 s (List.mem_of_getElem? hs)))
      rw [anyIdx_list t.names (fun s => !strOK s) _ (fun i x hx => by rw [hx])] at this
      exact this
    have hk : Calls Tryz.prog 139 #[.slice A2 t.kids.length c2, .func (.func 140) #[] #[]] w fun e w' => e = .returned (.bool (t.kids.any fun k => !k.bounded)) ∧ w = w' := by
      have := containsFuncQP 140 #[] Tryz.call140 F A2 t.kids.length c2 ps w r4 hlen s3 (fun i => match t.kids[i]? with | some k => !k.bounded | none => false) (by
        intro i v hv
        have hi : i < t.kids.length := by rw [← hlen]; exact (List.getElem?_eq_some_iff.1 hv).1
        obtain ⟨p, hp, hpt⟩ := hks.get i t.kids[i] (by simp [hi])
        rw [hv] at hp
        injection hp with hp
        subst hp
        have e : t.kids[i]? = some t.kids[i] := by simp [hi]
        rw [e]
        have hIH := Lib.hid (ih t.kids[i] (List.getElem_mem hi) (Tree.sizedL_mem s5 (List.getElem_mem hi)) F v w hpt)
        clear ih
        show Calls _ _ #[v] w _
        go_enter Tryz.func140, Tryz.ntmps140
        go_wp2_with fail
        refine hIH.out.mono ?_
        rintro e w' ⟨rfl, rfl⟩
        go_wp2
        go_ret
        exact ⟨rfl, rfl⟩)
      rw [anyIdx_list t.kids (fun k => !k.bounded) _ (fun i x hx => by rw [hx])] at this
      exact this
    have HN := Lib.hid hn
    have HK := Lib.hid hk
    have HL := Lib.hid (Tree.boundedL_all t.kids)
    clear hn hk ih ht h0 hlen hnl
    have hna : t.names.all strOK = !(t.names.any fun s => !strOK s) := by simp [List.not_any_eq_all_not]
    have hka : t.kids.all Tree.bounded = !(t.kids.any fun k => !k.bounded) := by simp [List.not_any_eq_all_not]
    have HNA := Lib.hid hna
    have HKA := Lib.hid hka
    clear hna hka
    cases hnum : numOK t.num
    · have HNUM := Lib.hid hnum
      unfold numOK at hnum
      go_enter Tryz.func127, Tryz.ntmps127
      go_wp2_with (go_at_call 35; refine (within_any _ _ _ _).mono ?_; rintro e w' ⟨rfl, rfl⟩)
      go_ret
      exact ⟨by simp [HE.out, HNUM.out], rfl⟩
    · have HNUM := Lib.hid hnum
      unfold numOK at hnum
      cases hstr : strOK t.text
      · have HSTR := Lib.hid hstr
        go_enter Tryz.func127, Tryz.ntmps127
        go_wp2_with (first | (go_at_call 35; refine (within_any _ _ _ _).mono ?_; rintro e w' ⟨rfl, rfl⟩) | (go_at_call 126; refine (stringOK_any _ _ s1).mono ?_; rintro e w' ⟨rfl, rfl⟩))
        go_ret
        exact ⟨by simp [HE.out, HSTR.out], rfl⟩
      · have HSTR := Lib.hid hstr
        cases hany : t.names.any fun s => !strOK s
        · have HANY := Lib.hid hany
          cases hany2 : t.kids.any fun k => !k.bounded
          all_goals
            have HANY2 := Lib.hid hany2
            go_enter Tryz.func127, Tryz.ntmps127
            go_wp2_with (first | (go_at_call 35; refine (within_any _ _ _ _).mono ?_; rintro e w' ⟨rfl, rfl⟩) | (go_at_call 126; refine (stringOK_any _ _ s1).mono ?_; rintro e w' ⟨rfl, rfl⟩) | (go_at_call 137; refine HN.out.mono ?_; rintro e w' ⟨rfl, rfl⟩) | (go_at_call 139; refine HK.out.mono ?_; rintro e w' ⟨rfl, rfl⟩))
            go_ret
            exact ⟨by simp only [HE.out, HNUM.out, HSTR.out, HL.out, HNA.out, HKA.out, HANY.out, HANY2.out]; rfl, rfl⟩
        · have HANY := Lib.hid hany
          go_enter Tryz.func127, Tryz.ntmps127
          go_wp2_with (first | (go_at_call 35; refine (within_any _ _ _ _).mono ?_; rintro e w' ⟨rfl, rfl⟩) | (go_at_call 126; refine (stringOK_any _ _ s1).mono ?_; rintro e w' ⟨rfl, rfl⟩) | (go_at_call 137; refine HN.out.mono ?_; rintro e w' ⟨rfl, rfl⟩))
          go_ret
          exact ⟨by simp only [HE.out, HNUM.out, HSTR.out, HNA.out, HANY.out]; rfl, rfl⟩
end Go.Proofs.YtemcijhpmpdebaaGreatDoor
