/- The text of a tree: plain words, and how long it may be. -/
import Derived.Test.YtemcijhpmpdebaaGreatDoorVal4
import Derived.Test.YtemcijhpmpdebaaGreatDoorRepl4
namespace Go.Proofs.YtemcijhpmpdebaaGreatDoor
open Go.RowKit
mutual
def Tree.wr : Tree → List UInt8
  | .mk k n t ns ks => if k = 1 then [110, 117, 108, 108] else if k = 2 then [102, 97, 108, 115, 101] else if k = 3 then [116, 114, 117, 101] else if k = 4 then Lib.itoa n else if k = 5 then quoted t.data.toList
      else if k = 6 then 91 :: (Tree.pieces false true ns ks ++ [93]) else if k = 7 then 123 :: (Tree.pieces true true ns ks ++ [125]) else []
def Tree.pieces (map : Bool) : Bool → List ByteArray → List Tree → List UInt8
  | _, _, [] => []
  | first, ns, k :: ks => (if first then [] else [44]) ++ ((if map then quoted (ns.headD ⟨#[]⟩).data.toList ++ [58] else []) ++ (k.wr ++ Tree.pieces map false ns.tail ks))
end
theorem Tree.wr_eq (t : Tree) : t.wr = if t.kind = 1 then [110, 117, 108, 108] else if t.kind = 2 then [102, 97, 108, 115, 101] else if t.kind = 3 then [116, 114, 117, 101] else if t.kind = 4 then Lib.itoa t.num else if t.kind = 5 then quoted t.text.data.toList
      else if t.kind = 6 then 91 :: (Tree.pieces false true t.names t.kids ++ [93]) else if t.kind = 7 then 123 :: (Tree.pieces true true t.names t.kids ++ [125]) else [] := by
  cases t
  rw [Tree.wr]
  rfl
theorem Tree.pieces_step (map first : Bool) (ns : List ByteArray) (ks : List Tree) (i : Nat) (k : Tree) (hk : ks[i]? = some k) (s : ByteArray) (hs : map = true → ns[i]? = some s) :
    Tree.pieces map first (ns.drop i) (ks.drop i) = (if first then [] else [44]) ++ ((if map then quoted s.data.toList ++ [58] else []) ++ (k.wr ++ Tree.pieces map false (ns.drop (i + 1)) (ks.drop (i + 1)))) := by
  have e : ks.drop i = k :: ks.drop (i + 1) := by
    obtain ⟨h1, h2⟩ := List.getElem?_eq_some_iff.1 hk
    rw [← List.getElem_cons_drop h1, h2]
  rw [e, Tree.pieces, List.tail_drop]
  cases map with
  | false => rfl
  | true =>
    have h := hs rfl
    have e2 : (ns.drop i).headD ⟨#[]⟩ = s := by
      obtain ⟨h1, h2⟩ := List.getElem?_eq_some_iff.1 h
      rw [← List.getElem_cons_drop h1, h2]
      rfl
    rw [e2]
theorem Tree.pieces_end (map first : Bool) (ns : List ByteArray) (ks : List Tree) (i : Nat) (h : ks.length ≤ i) : Tree.pieces map first (ns.drop i) (ks.drop i) = [] := by
  rw [List.drop_eq_nil_of_le h, Tree.pieces]
theorem quoted_len (l : List UInt8) : (quoted l).length ≤ 2 + 2 * l.length := by
  have h1 := repl_length 34 92 [92, 34] [92, 92] l rfl rfl
  have h2 := hits_le 34 92 l
  simp only [quoted, List.length_cons, List.length_append, List.length_nil]
  omega
theorem strOK_len (s : ByteArray) (h : strOK s = true) : s.data.toList.length ≤ 24 := by
  simp only [strOK, Bool.and_eq_true, decide_eq_true_eq] at h
  have : s.data.toList.length = s.size := by simp
  omega
theorem digits_len (u : Nat) : ∀ d, u < 10 ^ (d + 1) → (Lib.decDigits u).length ≤ d + 1 := by
  intro d
  induction d generalizing u with
  | zero => intro h; rw [Lib.decDigits]; simp at h; simp [h]
  | succ d ih =>
    intro h
    rw [Lib.decDigits]
    split
    · simp
    · have := ih (u / 10) (by rw [Nat.pow_succ] at h; omega)
      simp only [List.length_append, List.length_singleton]
      omega
theorem itoa_len (n : Int) (h : numOK n = true) : (Lib.itoa n).length ≤ 11 := by
  simp only [numOK, Bool.and_eq_true, decide_eq_true_eq] at h
  unfold Lib.itoa
  split
  · have := digits_len n.natAbs 9 (by simp; omega)
    simp only [List.length_cons]
    omega
  · have := digits_len n.toNat 9 (by simp; omega)
    omega
mutual
theorem Tree.wr_len : ∀ t : Tree, t.bounded = true → t.wr.length + 52 ≤ 110 * t.count
  | .mk k n t ns ks, h => by
    simp only [Tree.bounded, Bool.and_eq_true] at h
    obtain ⟨⟨⟨h1, h2⟩, h3⟩, h4⟩ := h
    have p1 := Tree.pieces_len ks h4 false true ns h3
    have p2 := Tree.pieces_len ks h4 true true ns h3
    have q1 := itoa_len n h1
    have q2 := quoted_len t.data.toList
    have q3 := strOK_len t h2
    rw [Tree.wr, Tree.count]
    split
    · simp; omega
    split
    · simp; omega
    split
    · simp; omega
    split
    · omega
    split
    · omega
    split
    · simp only [List.length_cons, List.length_append, List.length_nil]; omega
    split
    · simp only [List.length_cons, List.length_append, List.length_nil]; omega
    · simp; omega
theorem Tree.pieces_len : ∀ ks : List Tree, Tree.boundedL ks = true → ∀ (map first : Bool) (ns : List ByteArray), ns.all strOK = true → (Tree.pieces map first ns ks).length ≤ 110 * Tree.countL ks
  | [], _, _, _, _, _ => by simp [Tree.pieces]
  | k :: ks, h, map, first, ns, hn => by
    simp only [Tree.boundedL, Bool.and_eq_true] at h
    have p1 := Tree.wr_len k h.1
    have p2 := Tree.pieces_len ks h.2 map false ns.tail (by
      rw [List.all_eq_true] at hn ⊢
      exact fun x hx => hn x (List.mem_of_mem_tail hx))
    have p3 : (ns.headD ⟨#[]⟩).data.toList.length ≤ 24 := by
      cases ns with
      | nil => simp
      | cons a ns => exact strOK_len a (by simp at hn; exact hn.1)
    have p4 := quoted_len (ns.headD ⟨#[]⟩).data.toList
    rw [Tree.pieces, Tree.countL]
    cases first <;> cases map <;> simp only [List.length_append, List.length_cons, List.length_nil, if_true, if_false, Bool.false_eq_true] <;> omega
end
end Go.Proofs.YtemcijhpmpdebaaGreatDoor
