/- Trees and their nodes in a row: what valFrom accepts is the row of a right tree, and the other way round. Plain words. The walk of l1Kids. A part of a row of nodes that is a tree; where its kids lie. Plain words. -/
import Derived.Test.YtemcijhpmpdebaaGreatDoorVal2
import Derived.Test.YtemcijhpmpdebaaGreatDoorGood
import Derived.Test.YtemcijhpmpdebaaGreatDoorSpec2
import Derived.Test.YtemcijhpmpdebaaGreatDoorVal3
import Derived.Deep.Onto
namespace Go.Proofs.YtemcijhpmpdebaaGreatDoor
open Go.RowKit
def emptyB : ByteArray := ⟨#[]⟩
mutual
def Tree.flat : Tree → ByteArray → Int → Nat → List Nd
  | .mk k n t ns ks, name, up, at_ => ⟨k, n, t, name, up⟩ :: Tree.flatL (k == 7) ns ks at_ (at_ + 1)
def Tree.flatL (map : Bool) : List ByteArray → List Tree → Nat → Nat → List Nd
  | _, [], _, _ => []
  | ns, k :: ks, self, at_ => k.flat (if map then ns.headD emptyB else emptyB) (self : Int) at_ ++ Tree.flatL map ns.tail ks self (at_ + k.count)
end
def sortedB : List ByteArray → Bool
  | a :: b :: r => ltS a b && sortedB (b :: r)
  | _ => true
mutual
def Tree.ok : Tree → Bool
  | .mk k n t ns ks => (decide (1 ≤ k ∧ k ≤ 7) && (k == 4 || n == 0) && (k == 5 || t.toList.isEmpty) && numOK n && strOK t) && (if k = 7 then decide (ns.length = ks.length) && ns.all strOK && sortedB ns else ns.isEmpty) && (holdsB k || ks.isEmpty) && Tree.okL ks
def Tree.okL : List Tree → Bool
  | [] => true
  | k :: ks => k.ok && Tree.okL ks
end
theorem Tree.flat_eq (t : Tree) (name : ByteArray) (up : Int) (a : Nat) : t.flat name up a = ⟨t.kind, t.num, t.text, name, up⟩ :: Tree.flatL (t.kind == 7) t.names t.kids a (a + 1) := by
  cases t; rw [Tree.flat]; rfl
mutual
theorem Tree.flat_length : ∀ (t : Tree) (name : ByteArray) (up : Int) (a : Nat), (t.flat name up a).length = t.count
  | .mk k n t ns ks, name, up, a => by
    rw [Tree.flat, Tree.count, List.length_cons, Tree.flatL_length ks]; omega
theorem Tree.flatL_length : ∀ (ks : List Tree) (map : Bool) (ns : List ByteArray) (s a : Nat), (Tree.flatL map ns ks s a).length = Tree.countL ks
  | [], _, _, _, _ => by rw [Tree.flatL, Tree.countL]; rfl
  | k :: ks, map, ns, s, a => by
    rw [Tree.flatL, Tree.countL, List.length_append, Tree.flat_length k, Tree.flatL_length ks]
end
theorem Tree.flatL_snoc (map : Bool) : ∀ (ks : List Tree) (ns : List ByteArray) (s a : Nat) (k : Tree) (nm : ByteArray), (map = true → ns.length = ks.length) → (map = false → nm = emptyB) →
    Tree.flatL map (if map then ns ++ [nm] else ns) (ks ++ [k]) s a = Tree.flatL map ns ks s a ++ k.flat nm (s : Int) (a + Tree.countL ks)
  | [], ns, s, a, k, nm, h1, h2 => by
    cases map with
    | true =>
      have : ns = [] := List.eq_nil_of_length_eq_zero (h1 rfl)
      subst this
      simp [Tree.flatL, Tree.countL]
    | false => simp [Tree.flatL, Tree.countL, h2 rfl]
  | x :: ks, ns, s, a, k, nm, h1, h2 => by
    cases map with
    | true =>
      cases ns with
      | nil => have := h1 rfl; simp at this
      | cons y ns =>
        have ih := Tree.flatL_snoc true ks ns s (a + x.count) k nm (fun _ => by have := h1 rfl; simpa using this) (fun h => by cases h)
        simp only [if_true] at ih
        simp only [if_true, List.cons_append, Tree.flatL, List.tail_cons, List.headD_cons, ih, Tree.countL, List.append_assoc, Nat.add_assoc]
    | false =>
      have ih := Tree.flatL_snoc false ks ns.tail s (a + x.count) k nm (fun h => by cases h) h2
      simp only [Bool.false_eq_true, if_false] at ih
      simp only [Bool.false_eq_true, if_false, List.cons_append, Tree.flatL, ih, Tree.countL, List.append_assoc, Nat.add_assoc]
theorem Tree.countL_append (a b : List Tree) : Tree.countL (a ++ b) = Tree.countL a + Tree.countL b := by
  induction a with
  | nil => simp [Tree.countL]
  | cons x a ih => simp [Tree.countL, ih, Nat.add_assoc]
theorem Tree.okL_append (a b : List Tree) : Tree.okL (a ++ b) = (Tree.okL a && Tree.okL b) := by
  induction a with
  | nil => simp [Tree.okL]
  | cons x a ih => simp [Tree.okL, ih, Bool.and_assoc]
theorem sortedB_snoc : ∀ (ns : List ByteArray) (nm : ByteArray), sortedB (ns ++ [nm]) = (sortedB ns && match ns.getLast? with | some m => ltS m nm | none => true)
  | [], nm => by simp [sortedB]
  | [a], nm => by simp [sortedB]
  | a :: b :: r, nm => by
    have ih := sortedB_snoc (b :: r) nm
    simp only [List.cons_append] at ih ⊢
    rw [sortedB, ih, sortedB, Bool.and_assoc, List.getLast?_cons_cons]
/-- What is known of the parts so far. -/
structure PartsOK (kind : Int) (ns : List ByteArray) (ks : List Tree) : Prop where
  names : if kind = 7 then ns.length = ks.length ∧ ns.all strOK = true ∧ sortedB ns = true else ns = []
  ok : Tree.okL ks = true
  holds : holdsB kind = true ∨ ks = []
theorem PartsOK.tree {x : Nd} {up : Int} {ns : List ByteArray} {ks : List Tree} (h : PartsOK x.kind ns ks) (hx : nodeOKB x up = true) : (Tree.mk x.kind x.num x.text ns ks).ok = true := by
  simp only [nodeOKB, Bool.and_eq_true] at hx
  obtain ⟨⟨⟨⟨⟨h1, h2⟩, h3⟩, _⟩, h5⟩, h6⟩ := hx
  rw [Tree.ok]
  have hn := h.names
  simp only [Bool.and_eq_true]
  refine ⟨⟨⟨⟨⟨⟨⟨h1, h2⟩, h3⟩, by simpa [numOK] using h5⟩, h6⟩, ?_⟩, ?_⟩, h.ok⟩
  · split at hn
    · rename_i hk; rw [if_pos hk]; simp [hn]
    · rename_i hk; rw [if_neg hk, hn]; rfl
  · rcases h.holds with h | h
    · simp [h]
    · simp [h]
def seg (l : List Nd) (a b : Nat) : List Nd := (l.drop a).take (b - a)
theorem seg_append (l : List Nd) (a b c : Nat) (h1 : a ≤ b) (h2 : b ≤ c) : seg l a b ++ seg l b c = seg l a c := by
  unfold seg
  have e : c - a = (b - a) + (c - b) := by omega
  rw [e, List.take_add]
  congr 2
  rw [List.drop_drop]
  congr 1
  omega
theorem seg_cons (l : List Nd) (a c : Nat) (x : Nd) (h : l[a]? = some x) (h1 : a < c) : seg l a c = x :: seg l (a + 1) c := by
  unfold seg
  obtain ⟨h2, h3⟩ := List.getElem?_eq_some_iff.1 h
  rw [← List.getElem_cons_drop h2, h3, show c - a = (c - (a + 1)) + 1 by omega, List.take_succ_cons]
theorem seg_self (l : List Nd) (a : Nat) : seg l a a = [] := by simp [seg]
theorem seg_all (l : List Nd) : seg l 0 l.length = l := by simp [seg]
theorem empty_eq (s : ByteArray) (h : s.toList.isEmpty = true) : s = emptyB := by
  rw [ByteArray.toList_eq] at h
  exact bytes_ext (by rw [List.isEmpty_iff.1 h]; rfl)
theorem kidB_up {l : List Nd} {k e : Nat} {x y : Nd} (h : kidB l k e = true) (hx : l[k]? = some x) (hy : l[e]? = some y) : holdsB x.kind = true ∧ y.up = (k : Int) := by
  unfold kidB at h
  rw [hx, hy] at h
  simpa using h
/-- What valFrom accepts is the row of a right tree. -/
theorem VL.sound {l : List Nd} {k e : Nat} {ns : List ByteArray} {ks : List Tree} {r : Option (Tree × Nat)} (h : VL l k e ns ks r) : ∀ x up, l[k]? = some x → nodeOKB x up = true → k < e → e ≤ l.length → PartsOK x.kind ns ks → e = k + 1 + Tree.countL ks → seg l (k + 1) e = Tree.flatL (x.kind == 7) ns ks k (k + 1) →
    ∀ t e', r = some (t, e') → t.ok = true ∧ t.kind = x.kind ∧ t.num = x.num ∧ t.text = x.text ∧ e' = k + t.count ∧ e' ≤ l.length ∧ seg l (k + 1) e' = Tree.flatL (t.kind == 7) t.names t.kids k (k + 1) := by
  induction h with
  | @stop k e ns ks x0 h1 h2 =>
    intro x up hx hok hke hel hp he hs t e' hr
    rw [hx] at h1
    injection h1 with h1
    subst h1
    injection hr with hr
    injection hr with hr1 hr2
    subst hr1 hr2
    exact ⟨hp.tree hok, rfl, rfl, rfl, by rw [Tree.count]; omega, hel, hs⟩
  | order => intro x up _ _ _ _ _ _ _ t e' hr; cases hr
  | bad => intro x up _ _ _ _ _ _ _ t e' hr; cases hr
  | none => intro x up _ _ _ _ _ _ _ t e' hr; cases hr
  | @kid k e ns ks x0 y t0 e0 r h1 h2 h3 h4 h5 h6 h7 ih1 ih2 =>
    intro x up hx hok hke hel hp he hs t e' hr
    rw [hx] at h2
    injection h2 with h2
    subst h2
    obtain ⟨hh, hup⟩ := kidB_up h1 hx h3
    have hey := (List.getElem?_eq_some_iff.1 h3).1
    obtain ⟨o1, o2, o3, o4, o5, o6, o7⟩ := ih1 y x.kind h3 h5 (by omega) (by omega) ⟨by split <;> simp [sortedB], rfl, .inr rfl⟩ (by simp [Tree.countL]) (by rw [seg_self, Tree.flatL]) t0 e0 rfl
    have hc0 := t0.count_eq
    have hseg : seg l e e0 = t0.flat y.name (k : Int) e := by
      rw [seg_cons l e e0 y h3 (by omega), o7, Tree.flat_eq]
      congr 1
      cases y
      simp only at o2 o3 o4 hup
      rw [o2, o3, o4, hup]
    have hyn : (x.kind == 7) = false → y.name = emptyB := by
      intro hk
      have hk' : x.kind ≠ 7 := by simpa using hk
      simp only [nodeOKB, Bool.and_eq_true] at h5
      have := h5.1.1.2
      rw [if_neg (by simp [hk])] at this
      exact empty_eq _ this
    have hp' : PartsOK x.kind (if x.kind = 7 then ns ++ [y.name] else ns) (ks ++ [t0]) := by
      refine ⟨?_, by rw [Tree.okL_append, hp.ok]; simp [Tree.okL, o1], .inl hh⟩
      have hn := hp.names
      by_cases hk : x.kind = 7
      · rw [if_pos hk] at hn
        rw [if_pos hk, if_pos hk]
        have hyo : strOK y.name = true := by
          simp only [nodeOKB, Bool.and_eq_true] at h5
          have := h5.1.1.2
          rw [if_pos (by simp [hk])] at this
          exact this
        refine ⟨by simp [hn.1], by simp [hn.2.1, hyo], ?_⟩
        rw [sortedB_snoc, hn.2.2]
        unfold ordB at h4
        simp only [hk] at h4
        cases hg : ns.getLast? with
        | none => rfl
        | some m => rw [hg] at h4; simpa using h4
      · rw [if_neg hk] at hn
        rw [if_neg hk, if_neg hk]
        exact hn
    refine ih2 x up hx hok (by omega) (by omega) hp' (by rw [Tree.countL_append]; simp [Tree.countL]; omega) ?_ t e' hr
    have hfs := Tree.flatL_snoc (x.kind == 7) ks ns k (k + 1) t0 y.name (fun hk => by have hn := hp.names; rw [if_pos (by simpa using hk)] at hn; exact hn.1) hyn
    have hif : (if x.kind = 7 then ns ++ [y.name] else ns) = (if (x.kind == 7) = true then ns ++ [y.name] else ns) := by simp
    rw [hif, hfs, ← hs, ← he, ← hseg, seg_append l (k + 1) e e0 (by omega) (by omega)]
/-- There is one answer. -/
theorem VL.det {l : List Nd} {k e : Nat} {ns : List ByteArray} {ks : List Tree} {r : Option (Tree × Nat)} (h : VL l k e ns ks r) : ∀ r', VL l k e ns ks r' → r' = r := by
  have inj : ∀ {a b : Option Nd} {x y : Nd}, a = some x → b = some y → a = b → x = y := fun h1 h2 h3 => by rw [h1, h2] at h3; exact Option.some.inj h3
  induction h with
  | stop h1 h2 =>
    intro r' h'
    cases h' with
    | stop g1 g2 => rw [inj h1 g1 rfl]
    | order g1 => rw [h2] at g1; cases g1
    | bad g1 => rw [h2] at g1; cases g1
    | none g1 => rw [h2] at g1; cases g1
    | kid g1 => rw [h2] at g1; cases g1
  | order h1 h2 h3 h4 =>
    intro r' h'
    cases h' with
    | stop g1 g2 => rw [h1] at g2; cases g2
    | order => rfl
    | bad => rfl
    | none => rfl
    | kid g1 g2 g3 g4 => rw [inj h2 g2 rfl, inj h3 g3 rfl] at h4; rw [h4] at g4; cases g4
  | bad h1 h2 h3 h4 h5 =>
    intro r' h'
    cases h' with
    | stop g1 g2 => rw [h1] at g2; cases g2
    | order => rfl
    | bad => rfl
    | none => rfl
    | kid g1 g2 g3 g4 g5 => rw [inj h2 g2 rfl, inj h3 g3 rfl] at h5; rw [h5] at g5; cases g5
  | none h1 h2 h3 h4 h5 h6 ih =>
    intro r' h'
    cases h' with
    | stop g1 g2 => rw [h1] at g2; cases g2
    | order => rfl
    | bad => rfl
    | none => rfl
    | kid g1 g2 g3 g4 g5 g6 => have := ih _ g6; cases this
  | kid h1 h2 h3 h4 h5 h6 h7 ih1 ih2 =>
    intro r' h'
    cases h' with
    | stop g1 g2 => rw [h1] at g2; cases g2
    | order g1 g2 g3 g4 => rw [inj h2 g2 rfl, inj h3 g3 rfl] at h4; rw [h4] at g4; cases g4
    | bad g1 g2 g3 g4 g5 => rw [inj h2 g2 rfl, inj h3 g3 rfl] at h5; rw [h5] at g5; cases g5
    | none g1 g2 g3 g4 g5 g6 => have := ih1 _ g6; cases this
    | kid g1 g2 g3 g4 g5 g6 g7 =>
      have := ih1 _ g6
      injection this with this
      injection this with e1 e2
      subst e1 e2
      have hx := inj h2 g2 rfl
      have hy := inj h3 g3 rfl
      subst hx hy
      exact ih2 _ g7
theorem seg_get {l m : List Nd} {a b : Nat} (h : seg l a b = m) (i : Nat) (x : Nd) (hx : m[i]? = some x) : l[a + i]? = some x := by
  subst h
  unfold seg at hx
  rw [List.getElem?_take] at hx
  split at hx
  · rwa [List.getElem?_drop] at hx
  · cases hx
theorem seg_split {l m1 m2 : List Nd} {a c : Nat} (h : seg l a c = m1 ++ m2) (hc : a + m1.length + m2.length = c) : seg l a (a + m1.length) = m1 ∧ seg l (a + m1.length) c = m2 := by
  have h1 := seg_append l a (a + m1.length) c (by omega) (by omega)
  rw [h] at h1
  have hl := congrArg List.length h
  unfold seg at hl
  rw [List.length_take, List.length_drop, List.length_append] at hl
  have hlen : (seg l a (a + m1.length)).length = m1.length := by
    unfold seg
    rw [List.length_take, List.length_drop]
    omega
  exact List.append_inj h1 hlen
theorem sortedB_pre : ∀ (a b : List ByteArray), sortedB (a ++ b) = true → sortedB a = true
  | [], _, _ => by simp [sortedB]
  | [_], _, _ => by simp [sortedB]
  | x :: y :: a, b, h => by
    simp only [List.cons_append] at h
    rw [sortedB] at h ⊢
    simp only [Bool.and_eq_true] at h ⊢
    exact ⟨h.1, sortedB_pre (y :: a) b h.2⟩
/-- The node behind a part is no part of it. -/
def NotIn (l : List Nd) (k e : Nat) : Prop := ∀ y, l[e]? = some y → y.up < (k : Int)
mutual
/-- The row of a right tree is accepted. -/
theorem VF.complete {l : List Nd} : ∀ (t : Tree) (name : ByteArray) (up : Int) (k : Nat) (upk : Int), t.ok = true → (if upk == 7 then strOK name else name.toList.isEmpty) = true → seg l k (k + t.count) = t.flat name up k → NotIn l k (k + t.count) →
    VF l k upk (some (t, k + t.count))
  | .mk kd n tx ns ks, name, up, k, upk, hok, hnm, hs, hni => by
    rw [Tree.ok] at hok
    simp only [Bool.and_eq_true] at hok
    obtain ⟨⟨⟨⟨⟨⟨⟨a1, a2⟩, a3⟩, a4⟩, a5⟩, a6⟩, a7⟩, a8⟩ := hok
    have hx : l[k]? = some ⟨kd, n, tx, name, up⟩ := by
      have := seg_get hs 0 ⟨kd, n, tx, name, up⟩ (by rw [Tree.flat]; rfl)
      simpa using this
    have hx' : nodeOKB ⟨kd, n, tx, name, up⟩ upk = true := by
      unfold nodeOKB
      simp only [Bool.and_eq_true]
      exact ⟨⟨⟨⟨⟨a1, a2⟩, a3⟩, hnm⟩, by simpa [numOK] using a4⟩, a5⟩
    refine ⟨_, hx, .inr ⟨hx', ?_⟩⟩
    have hcnt : (Tree.mk kd n tx ns ks).count = 1 + Tree.countL ks := by rw [Tree.count]
    rw [hcnt] at hs hni ⊢
    rw [seg_cons l k (k + (1 + Tree.countL ks)) _ hx (by omega), Tree.flat] at hs
    injection hs with _ hs
    rw [show k + (1 + Tree.countL ks) = k + 1 + Tree.countL ks by omega] at hs hni ⊢
    refine VF.completeL ks ns [] [] k (k + 1) ⟨kd, n, tx, name, up⟩ (by omega) hx a8 ?_ ?_ hs hni ?_
    · intro hk
      rw [if_pos hk] at a6
      simp only [Bool.and_eq_true, decide_eq_true_eq] at a6
      exact ⟨a6.1.1, a6.1.2, by simpa using a6.2⟩
    · intro hk
      rw [if_neg hk] at a6
      simpa using a6
    · intro hne
      rcases ks with _ | ⟨x, ks⟩
      · exact absurd rfl hne
      · simpa using a7
theorem VF.completeL {l : List Nd} : ∀ (ks : List Tree) (ns ns0 : List ByteArray) (ks0 : List Tree) (k a : Nat) (x : Nd), k < a → l[k]? = some x → Tree.okL ks = true → (x.kind = 7 → ns.length = ks.length ∧ ns.all strOK = true ∧ sortedB (ns0 ++ ns) = true) → (x.kind ≠ 7 → ns = []) →
    seg l a (a + Tree.countL ks) = Tree.flatL (x.kind == 7) ns ks k a → NotIn l k (a + Tree.countL ks) → (ks ≠ [] → holdsB x.kind = true) → VL l k a ns0 ks0 (some (.mk x.kind x.num x.text (ns0 ++ ns) (ks0 ++ ks), a + Tree.countL ks))
  | [], ns, ns0, ks0, k, a, x, _, hx, _, h7, hn7, _, hni, _ => by
    have hns : ns = [] := by
      by_cases hk : x.kind = 7
      · exact List.eq_nil_of_length_eq_zero (h7 hk).1
      · exact hn7 hk
    subst hns
    simp only [Tree.countL, Nat.add_zero, List.append_nil] at hni ⊢
    refine .stop hx ?_
    unfold kidB
    rw [hx]
    cases hy : l[a]? with
    | none => rfl
    | some y =>
      have := hni y hy
      have : (y.up == (k : Int)) = false := by simpa using (by omega : y.up ≠ (k : Int))
      simp [this]
  | c :: ks, ns, ns0, ks0, k, a, x, hka, hx, hok, h7, hn7, hs, hni, hh => by
    rw [Tree.okL] at hok
    simp only [Bool.and_eq_true] at hok
    have hcl : Tree.countL (c :: ks) = c.count + Tree.countL ks := by rw [Tree.countL]
    rw [hcl] at hs hni ⊢
    rw [Tree.flatL] at hs
    have hfl := Tree.flat_length c (if (x.kind == 7) = true then ns.headD emptyB else emptyB) (k : Int) a
    have hfl2 := Tree.flatL_length ks (x.kind == 7) ns.tail k (a + c.count)
    obtain ⟨s1, s2⟩ := seg_split hs (by rw [hfl, hfl2]; omega)
    rw [hfl] at s1 s2
    have hcc := c.count_eq
    -- the first node of the kid
    have hy : l[a]? = some ⟨c.kind, c.num, c.text, if (x.kind == 7) = true then ns.headD emptyB else emptyB, k⟩ := by
      have := seg_get s1 0 _ (by rw [Tree.flat_eq]; rfl)
      simpa using this
    have hhold := hh (by simp)
    -- the node behind the kid
    have hni1 : NotIn l a (a + c.count) := by
      intro y hy2
      cases ks with
      | nil =>
        have := hni y (by simpa [Tree.countL] using hy2)
        omega
      | cons c2 ks =>
        have := seg_get s2 0 _ (by rw [Tree.flatL, Tree.flat_eq]; rfl)
        rw [Nat.add_zero, hy2] at this
        injection this with this
        rw [this]
        show (k : Int) < a
        omega
    have hnm : (if x.kind == 7 then strOK (if (x.kind == 7) = true then ns.headD emptyB else emptyB) else (if (x.kind == 7) = true then ns.headD emptyB else emptyB).toList.isEmpty) = true := by
      by_cases hk : x.kind = 7
      · obtain ⟨g1, g2, _⟩ := h7 hk
        simp only [hk, beq_self_eq_true, if_true]
        cases ns with
        | nil => simp at g1
        | cons nm ns => simp at g2; simpa using g2.1
      · have hk' : (x.kind == 7) = false := by simpa using hk
        simp [hk', emptyB, ByteArray.toList_eq]
    obtain ⟨y', hy', hv⟩ := VF.complete c _ (k : Int) a x.kind hok.1 hnm s1 hni1
    rw [hy] at hy'
    injection hy' with hy'
    rcases hv with ⟨_, hv⟩ | ⟨hv1, hv2⟩
    · cases hv
    subst hy'
    have hrest : ∀ ns0' : List ByteArray, ns0' = (if x.kind = 7 then ns0 ++ [if (x.kind == 7) = true then ns.headD emptyB else emptyB] else ns0) → ns0' ++ ns.tail = ns0 ++ ns := by
      intro ns0' h'
      by_cases hk : x.kind = 7
      · obtain ⟨g1, _, _⟩ := h7 hk
        cases ns with
        | nil => simp at g1
        | cons nm ns => rw [h', if_pos hk]; simp [hk]
      · rw [h', if_neg hk, hn7 hk]; rfl
    have ih := VF.completeL ks ns.tail (if x.kind = 7 then ns0 ++ [if (x.kind == 7) = true then ns.headD emptyB else emptyB] else ns0) (ks0 ++ [c]) k (a + c.count) x (by omega) hx hok.2
      (by
        intro hk
        obtain ⟨g1, g2, g3⟩ := h7 hk
        refine ⟨by simp [g1], ?_, by rw [hrest _ rfl]; exact g3⟩
        rw [List.all_eq_true] at g2 ⊢
        exact fun z hz => g2 z (List.mem_of_mem_tail hz))
      (by intro hk; rw [hn7 hk]; rfl) (by rw [← s2]; congr 1; omega) (by rw [show a + c.count + Tree.countL ks = a + (c.count + Tree.countL ks) by omega]; exact hni) (fun _ => hhold)
    rw [hrest _ rfl, List.append_assoc, show a + c.count + Tree.countL ks = a + (c.count + Tree.countL ks) by omega] at ih
    refine .kid ?_ hx hy ?_ hv1 hv2 ih
    · unfold kidB
      rw [hx, hy]
      simp [hhold]
    · unfold ordB
      by_cases hk : x.kind = 7
      · obtain ⟨g1, _, g3⟩ := h7 hk
        cases ns with
        | nil => simp at g1
        | cons nm ns =>
          have hp := sortedB_pre (ns0 ++ [nm]) ns (by simpa using g3)
          rw [sortedB_snoc] at hp
          simp only [hk, beq_self_eq_true, if_true, List.headD_cons, Bool.true_and]
          simp only [Bool.and_eq_true] at hp
          cases hg : ns0.getLast? with
          | none => rfl
          | some m => rw [hg] at hp; simpa using hp.2
      · have hk' : (x.kind == 7) = false := by simpa using hk
        simp [hk']
end
/-- The row of a right tree, no more and no less, is what valFrom accepts. -/
theorem VF_iff {l : List Nd} {r : Option (Tree × Nat)} (h : VF l 0 0 r) (hup : ∀ x, l[0]? = some x → x.up = -1) (t : Tree) : r = some (t, l.length) ↔ l = t.flat emptyB (-1) 0 ∧ t.ok = true := by
  obtain ⟨x, hx, h⟩ := h
  constructor
  · intro hr
    subst hr
    rcases h with ⟨_, h⟩ | ⟨hok, h⟩
    · cases h
    · obtain ⟨o1, o2, o3, o4, o5, o6, o7⟩ := h.sound x 0 hx hok (by omega) (by have := (List.getElem?_eq_some_iff.1 hx).1; omega) ⟨by split <;> simp [sortedB], rfl, .inr rfl⟩ (by simp [Tree.countL]) (by rw [seg_self, Tree.flatL]) t l.length rfl
      refine ⟨?_, o1⟩
      have hl : 0 < l.length := (List.getElem?_eq_some_iff.1 hx).1
      have e1 := seg_all l
      rw [seg_cons l 0 l.length x hx hl, o7] at e1
      have hn : x.name = emptyB := by
        simp only [nodeOKB, Bool.and_eq_true] at hok
        exact empty_eq _ (by simpa using hok.1.1.2)
      have hu := hup x hx
      rw [← e1, Tree.flat_eq]
      congr 1
      cases x
      simp only at o2 o3 o4 hn hu
      rw [o2, o3, o4, hn, hu]
  · rintro ⟨hl, hok⟩
    have hlen : l.length = t.count := by rw [hl, Tree.flat_length]
    have hc := VF.complete (l := l) t emptyB (-1) 0 0 hok (by simp [emptyB, ByteArray.toList_eq]) (by rw [Nat.zero_add, ← hlen, seg_all]; exact hl) (by
      intro y hy
      rw [Nat.zero_add, ← hlen] at hy
      simp at hy)
    rw [Nat.zero_add, ← hlen] at hc
    obtain ⟨x', hx', hc⟩ := hc
    rw [hx] at hx'
    injection hx' with hx'
    subst hx'
    rcases h with ⟨g1, g2⟩ | ⟨g1, g2⟩
    · rcases hc with ⟨f1, f2⟩ | ⟨f1, f2⟩
      · cases f2
      · rw [g1] at f1; cases f1
    · rcases hc with ⟨f1, f2⟩ | ⟨f1, f2⟩
      · cases f2
      · exact (g2.det _ f2).symm
end Go.Proofs.YtemcijhpmpdebaaGreatDoor
namespace Go.Proofs.YtemcijhpmpdebaaGreatDoor
open Go.RowKit
def isKid (l : List Nd) (k i : Nat) : Bool := decide (k < i) && (match l[i]? with | some x => x.up == (k : Int) | none => false)
def kidsTo (l : List Nd) (k j : Nat) : List Nat := (List.range j).filter (isKid l k)
theorem kidsTo_len (l : List Nd) (k j : Nat) : (kidsTo l k j).length ≤ j := by
  have := List.length_filter_le (isKid l k) (List.range j)
  simpa [kidsTo] using this
theorem kidsTo_succ (l : List Nd) (k j : Nat) : kidsTo l k (j+1) = kidsTo l k j ++ (if isKid l k j then [j] else []) := by
  simp [kidsTo, List.range_succ, List.filter_append, List.filter_cons]
theorem kidsTo_low (l : List Nd) (k : Nat) : ∀ j, j ≤ k + 1 → kidsTo l k j = [] := by
  intro j hj
  rw [kidsTo, List.filter_eq_nil_iff]
  intro i hi
  have : i < j := by simpa using hi
  simp [isKid]
  omega
def intv (l : List Nat) : List Value := l.map fun (i : Nat) => Value.int .i64 (i : Int)
theorem infoInt : (Tryz.prog.info? 3).map (fun i => (i.zero, i.size, i.bytes)) = some (some (.int .i64 0), 1, 8) := by kernel_rfl
def KidsPost (l : List Nd) (k : Nat) (w : World) (e : Ending) (w' : World) : Prop :=
  Below w.heap.size w w' ∧ ∃ A c, e = .returned (.slice A (kidsTo l k l.length).length c) ∧ w'.ownsRow w.heap.size 3 1 (.slice A (kidsTo l k l.length).length c) (kidsTo l k l.length).length (intv (kidsTo l k l.length))
set_option maxRecDepth 100000 in
set_option maxHeartbeats 2000000 in
theorem sKids_any (l : List Nd) (hl : l.length ≤ 1000000000) (k : Nat) (hk : k < l.length) (F : Nat → Prop) (A : Option Addr) (c : Nat) (w : World) (hr : Rds F w A (ndCells l)) :
    Calls Tryz.prog 111 #[.agg #[.slice A l.length c], .int .i64 (k : Int)] w (KidsPost l k w) := by
  have HR := Lib.hid hr
  clear hr
  go_enter Tryz.func111, Tryz.ntmps111
  go_wp2
  go_loopw [5, 6] (fun v i wx => ∃ j : Nat, ∃ A1 c1, v = .slice A1 (kidsTo l k j).length c1 ∧ i = .int .i64 (j : Int) ∧ k + 1 ≤ j ∧ j ≤ l.length ∧ Below w.heap.size w wx ∧ wx.heap[w.heap.size]? = some (.cells #[.slice A l.length c] 55 (0, 0)) ∧ wx.ownsRow (w.heap.size + 1) 3 1 (.slice A1 (kidsTo l k j).length c1) (kidsTo l k j).length (intv (kidsTo l k j))) (fun _ i _ => l.length - (intOf i).toNat)
  case atStart =>
    refine ⟨k+1, none, 0, by rw [kidsTo_low l k _ (Nat.le_refl _)]; rfl, by go_num, by omega, by omega, (Below.refl _ _).alloc (Nat.le_refl _) _, heap_alloc_new _ _, ?_⟩
    rw [kidsTo_low l k _ (Nat.le_refl _)]
    exact World.ownsRow_nil _ _ _ _
  case round =>
    obtain ⟨j, A1, c1, rfl, rfl, hj1, hj2, hb, hbox, hown⟩ := hrel
    have kb := cell_of_block hbox 0
    simp at kb
    have HB := Lib.hid hb
    have HX := Lib.hid hbox
    have hlb := lt_of_block hbox
    have hle := kidsTo_len l k j
    clear hb hbox
    by_cases hlt : j < l.length
    · obtain ⟨b, o, x, rfl, hF, hbl, hx, g0, g1, g2, g3, g4⟩ := nd_at (HR.out.frame (Agree.of_below HB.out)) j hlt
      have hlt' : (j : Int) < (l.length : Int) := by omega
      have hs := kidsTo_succ l k j
      by_cases hu : x.up = (k : Int)
      · have hkid : isKid l k j = true := by simp [isKid, hx, hu]; omega
        rw [hkid, if_pos rfl] at hs
        have HS := Lib.hid hs
        rw [hu] at g4
        clear hs hkid hx hu
        have HO := Lib.hid hown
        clear hown
        go_wp2_with (at_builtin; refine append_one (w.heap.size + 1) rfl (.tmp 24) (.tmp 26) 129 3 (.int .i64 0) 1 8 rfl Tryz.underlying129 infoInt rfl (by decide) (by decide) _ _ _ [.int .i64 (j : Int)] rfl rfl rfl (by simp [Value.oneCell']) rfl HO.out (by omega) (by omega) ?_)
        intro A2 c2 w3 hc2 hown3 hg3 hat3
        have hlow : ∀ g, (Value.slice A1 (kidsTo l k j).length c1).ownBlock = some g → w.heap.size + 1 ≤ g := fun g hg => (own_base HO.out g hg).1
        have hb3 := below_own HB.out hg3 HO.out (Nat.le_succ _) (Nat.le_of_lt hlb)
        have hbox3 := block_agree HX.out (Agree.of_grown (F := fun b => b = w.heap.size) hg3 (fun b hb h => by have := hlow b h; omega)) rfl
        have HB3 := Lib.hid hb3
        have HX3 := Lib.hid hbox3
        have HO3 := Lib.hid hown3
        clear hb3 hbox3 hown3 hg3 hat3 hlow
        go_wp2
        go_roundw
        case rel =>
          have e : kidsTo l k (j+1) = kidsTo l k j ++ [j] := HS.out
          refine ⟨j+1, A2, c2, by rw [e]; simp, by go_num, by omega, by omega, HB3.out, HX3.out, ?_⟩
          have := HO3.out
          rw [e]
          simpa [intv] using this
        case measure => simp [intOf]; omega
      · have hkid : isKid l k j = false := by simp [isKid, hx, hu]
        rw [hkid] at hs
        have HS := Lib.hid hs
        have hu' : (x.up == (k : Int)) = false := by simpa using hu
        clear hs hkid hx hu
        go_wp2
        go_roundw
        case rel =>
          refine ⟨j+1, A1, c1, ?_, by go_num, by omega, by omega, HB.out, HX.out, ?_⟩
          · rw [HS.out]; simp
          · rw [HS.out]; simpa using hown
        case measure => simp [intOf]; omega
    · obtain rfl : j = l.length := by omega
      go_wp2
      go_ret
      exact ⟨HB.out, A1, c1, rfl, World.ownsRow.mono hown (by omega)⟩
end Go.Proofs.YtemcijhpmpdebaaGreatDoor
namespace Go.Proofs.YtemcijhpmpdebaaGreatDoor
open Go.RowKit
mutual
theorem Tree.flat_ups : ∀ (t : Tree) (name : ByteArray) (up : Int) (a : Nat) (j : Nat) (x : Nd), (t.flat name up a)[j]? = some x → 0 < j → (a : Int) ≤ x.up ∧ x.up < (a : Int) + t.count
  | .mk k n t ns ks, name, up, a, j, x, h, hj => by
    rw [Tree.flat] at h
    obtain ⟨j', rfl⟩ : ∃ j', j = j' + 1 := ⟨j - 1, by omega⟩
    rw [List.getElem?_cons_succ] at h
    rw [Tree.count]
    rcases Tree.flatL_ups ks (k == 7) ns a (a + 1) j' x h with h | h
    · omega
    · omega
theorem Tree.flatL_ups : ∀ (ks : List Tree) (map : Bool) (ns : List ByteArray) (s p : Nat) (j : Nat) (x : Nd), (Tree.flatL map ns ks s p)[j]? = some x → x.up = (s : Int) ∨ ((p : Int) ≤ x.up ∧ x.up < (p : Int) + Tree.countL ks)
  | [], _, _, _, _, j, x, h => by rw [Tree.flatL] at h; simp at h
  | k :: ks, map, ns, s, p, j, x, h => by
    rw [Tree.flatL] at h
    rw [Tree.countL]
    by_cases hj : j < k.count
    · rw [List.getElem?_append_left (by rw [Tree.flat_length]; exact hj)] at h
      by_cases h0 : j = 0
      · subst h0
        rw [Tree.flat_eq] at h
        simp at h
        subst h
        exact .inl rfl
      · have := Tree.flat_ups k _ _ p j x h (by omega)
        omega
    · rw [List.getElem?_append_right (by rw [Tree.flat_length]; omega)] at h
      rcases Tree.flatL_ups ks _ _ s _ _ x h with h | h
      · exact .inl h
      · right; omega
end
def kidsPos : Nat → List Tree → List Nat
  | _, [] => []
  | p, k :: ks => p :: kidsPos (p + k.count) ks
/-- At a there lies the tree t, and what lies behind it hangs elsewhere. -/
structure Sub (l : List Nd) (a : Nat) (t : Tree) : Prop where
  fits : a + t.count ≤ l.length
  row : ∃ name up, seg l a (a + t.count) = t.flat name up a
  rest : ∀ i x, a + t.count ≤ i → l[i]? = some x → x.up < (a : Int) ∨ (a : Int) + t.count ≤ x.up
theorem seg_at (l : List Nd) (a c j : Nat) (h : a + j < c) : (seg l a c)[j]? = l[a + j]? := by
  unfold seg
  rw [List.getElem?_take_of_lt (by omega), List.getElem?_drop]
theorem Sub.of_flat {l : List Nd} {t : Tree} {name : ByteArray} {up : Int} (h : l = t.flat name up 0) : Sub l 0 t := by
  have hl : l.length = t.count := by rw [h, Tree.flat_length]
  refine ⟨by omega, ⟨name, up, ?_⟩, fun i x hi hx => ?_⟩
  · rw [Nat.zero_add, ← hl, seg_all]; exact h
  · have := (List.getElem?_eq_some_iff.1 hx).1
    omega
theorem Sub.node {l : List Nd} {a : Nat} {t : Tree} (h : Sub l a t) : ∃ x, l[a]? = some x ∧ x.kind = t.kind ∧ x.num = t.num ∧ x.text = t.text := by
  obtain ⟨name, up, hr⟩ := h.row
  have hc := t.count_eq
  have := seg_at l a (a + t.count) 0 (by omega)
  rw [hr, Tree.flat_eq] at this
  simp at this
  exact ⟨_, this.symm, rfl, rfl, rfl⟩
/-- The kids' part. -/
structure SubL (l : List Nd) (s p e : Nat) (map : Bool) (ns : List ByteArray) (ks : List Tree) : Prop where
  eq : e = p + Tree.countL ks
  fits : e ≤ l.length
  low : s < p
  row : seg l p e = Tree.flatL map ns ks s p
  rest : ∀ i x, e ≤ i → l[i]? = some x → x.up < (s : Int) ∨ (e : Int) ≤ x.up
theorem Sub.kids {l : List Nd} {a : Nat} {t : Tree} (h : Sub l a t) : SubL l a (a + 1) (a + t.count) (t.kind == 7) t.names t.kids := by
  obtain ⟨name, up, hr⟩ := h.row
  obtain ⟨x, hx, _⟩ := h.node
  have hc := t.count_eq
  rw [seg_cons l a _ x hx (by omega), Tree.flat_eq] at hr
  injection hr with _ hr
  exact ⟨by omega, h.fits, by omega, hr, fun i x hi hx => by have := h.rest i x hi hx; omega⟩
theorem SubL.head {l : List Nd} {s p e : Nat} {map : Bool} {ns : List ByteArray} {k : Tree} {ks : List Tree} (h : SubL l s p e map ns (k :: ks)) :
    Sub l p k ∧ SubL l s (p + k.count) e map ns.tail ks ∧ (∃ x, l[p]? = some x ∧ x.up = (s : Int) ∧ x.name = if map then ns.headD emptyB else emptyB) := by
  have he := h.eq
  rw [Tree.countL] at he
  have hrow := h.row
  have hlow := h.low
  have hfit := h.fits
  have hkc := k.count_eq
  rw [← seg_append l p (p + k.count) e (by omega) (by omega), Tree.flatL] at hrow
  have hlen : (seg l p (p + k.count)).length = (k.flat (if map then ns.headD emptyB else emptyB) (s : Int) p).length := by
    rw [Tree.flat_length]; simp [seg]; omega
  obtain ⟨h1, h2⟩ := List.append_inj hrow hlen
  refine ⟨⟨by omega, ⟨_, _, h1⟩, fun i x hi hx => ?_⟩, ⟨by omega, hfit, by omega, h2, h.rest⟩, ?_⟩
  · by_cases hie : i < e
    · have g := seg_at l (p + k.count) e (i - (p + k.count)) (by omega)
      rw [h2, show p + k.count + (i - (p + k.count)) = i by omega, hx] at g
      rcases Tree.flatL_ups ks map ns.tail s (p + k.count) _ x g with g | g <;> omega
    · have := h.rest i x (by omega) hx
      omega
  · have g := seg_at l p (p + k.count) 0 (by omega)
    rw [h1, Tree.flat_eq] at g
    simp at g
    exact ⟨_, g.symm, rfl, by simp⟩
theorem filter_skip (f : Nat → Bool) (p n : Nat) (h : ∀ i, p ≤ i → i < p + n → f i = false) : (List.range' p n).filter f = [] := by
  rw [List.filter_eq_nil_iff]
  intro i hi
  rw [List.mem_range'_1] at hi
  simp [h i hi.1 hi.2]
theorem SubL.filter {l : List Nd} {s : Nat} : ∀ (ks : List Tree) {p e : Nat} {map : Bool} {ns : List ByteArray}, SubL l s p e map ns ks → (List.range' p (Tree.countL ks)).filter (isKid l s) = kidsPos p ks
  | [], p, e, map, ns, _ => by simp [Tree.countL, kidsPos]
  | k :: ks, p, e, map, ns, h => by
    obtain ⟨h1, h2, x, hx, hup, _⟩ := h.head
    have hc := k.count_eq
    obtain ⟨name, up, hr⟩ := h1.row
    rw [Tree.countL, ← List.range'_append_1, List.filter_append, SubL.filter ks h2, kidsPos]
    obtain ⟨m, hm⟩ : ∃ m, k.count = m + 1 := ⟨k.count - 1, by omega⟩
    have hlow := h.low
    rw [hm, List.range'_succ, List.filter_cons]
    have hk : isKid l s p = true := by simp [isKid, hx, hup, hlow]
    rw [if_pos hk, filter_skip (isKid l s) (p+1) m (fun i h3 h4 => ?_)]
    · rfl
    · have g := seg_at l p (p + k.count) (i - p) (by omega)
      rw [hr, show p + (i - p) = i by omega] at g
      cases hi : l[i]? with
      | none => simp [isKid, hi]
      | some y =>
        rw [hi] at g
        have := Tree.flat_ups k name up p (i - p) y g (by omega)
        simp [isKid, hi]
        omega
theorem Sub.kidsTo {l : List Nd} {a : Nat} {t : Tree} (h : Sub l a t) : kidsTo l a l.length = kidsPos (a + 1) t.kids := by
  have hk := h.kids
  have he := hk.eq
  have hf := h.fits
  have hc := t.count_eq
  unfold Go.Proofs.YtemcijhpmpdebaaGreatDoor.kidsTo
  obtain ⟨m, hm⟩ : ∃ m, l.length = (a + 1) + (Tree.countL t.kids + m) := ⟨l.length - (a + t.count), by omega⟩
  have e1 : List.range l.length = List.range' 0 (a + 1) ++ (List.range' (a + 1) (Tree.countL t.kids) ++ List.range' (a + 1 + Tree.countL t.kids) m) := by
    rw [List.range_eq_range', hm, List.range'_append_1]
    have := List.range'_append_1 (s := 0) (m := a + 1) (n := Tree.countL t.kids + m)
    rw [Nat.zero_add] at this
    exact this.symm
  rw [e1, List.filter_append, List.filter_append]
  rw [filter_skip _ 0 (a+1) (fun i h1 h2 => by simp [isKid]; omega), SubL.filter t.kids hk, filter_skip _ _ _ (fun i h1 h2 => ?_)]
  · simp
  · cases hi : l[i]? with
    | none => simp [isKid, hi]
    | some y =>
      have := h.rest i y (by omega) hi
      simp [isKid, hi]
      omega
end Go.Proofs.YtemcijhpmpdebaaGreatDoor
