/- The walks of the small functions on nodes: within, holds, stringOK, nodeOK. Trees of values as the program keeps them behind pointers: what is read, what stays, what their functions count. The walks of count and deep of a tree. What valFrom makes of nodes, as a relation: plain words. -/
import Derived.Test.YtemcijhpmpdebaaGreatDoorBase
namespace Go.Proofs.YtemcijhpmpdebaaGreatDoor
open Go.RowKit
set_option maxHeartbeats 400000 in
theorem within_any (n lo hi : Int) (w : World) :
    Calls Tryz.prog 35 #[.int .i64 n, .int .i64 lo, .int .i64 hi] w fun e w' => e = .returned (.bool (decide (lo ≤ n) && decide (n ≤ hi))) ∧ w = w' := by
  by_cases h1 : lo ≤ n <;> by_cases h2 : n ≤ hi
  all_goals
    go_enter Tryz.func35, Tryz.ntmps35
    go_wp2
    go_ret
    exact ⟨by simp [h1, h2], rfl⟩
theorem holds_any (n : Int) (w : World) :
    Calls Tryz.prog 125 #[.int .i64 n] w fun e w' => e = .returned (.bool (holdsB n)) ∧ w = w' := by
  go_enter Tryz.func125, Tryz.ntmps125
  go_wp2
  all_goals
    go_ret
    exact ⟨by simp [holdsB, *], rfl⟩
set_option maxHeartbeats 400000 in
theorem stringOK_any (s : ByteArray) (w : World) (hs : s.size ≤ 9223372036854775807) :
    Calls Tryz.prog 126 #[.string s] w fun e w' => e = .returned (.bool (strOK s)) ∧ w = w' := by
  by_cases h0 : s.size ≤ 24
  · go_enter Tryz.func126, Tryz.ntmps126
    go_wp2
    go_loop [9] (fun i => ∃ k : Nat, k ≤ s.size ∧ i = .int .i64 k ∧ (s.data.toList.take k).all byteOK = true) (fun i => s.size - (intOf i).toNat)
    case atStart => exact ⟨0, Nat.zero_le _, rfl, rfl⟩
    case round =>
      obtain ⟨k, hk, rfl, hall⟩ := hrel
      have Hall := Lib.hid hall
      clear hall
      by_cases hlt : k < s.size
      · by_cases hb : 32 ≤ s[k].toNat
        · by_cases hc : s[k].toNat ≤ 126
          · go_wp2
            go_round
            case rel => exact ⟨k+1, by omega, by go_num, take_all s k hlt Hall.out (by simp [byteOK, hb, hc])⟩
            case measure => simp [intOf]; omega
          · go_wp2
            go_ret
            exact ⟨by simp [strOK, not_all s k hlt (by simp [byteOK, hc])], rfl⟩
        · go_wp2
          go_ret
          exact ⟨by simp [strOK, not_all s k hlt (by simp [byteOK, hb])], rfl⟩
      · go_wp2
        go_ret
        have : (s.data.toList.take k) = s.data.toList := List.take_of_length_le (by simp; omega)
        have hall := Hall.out
        rw [this] at hall
        exact ⟨by simp [strOK, h0, hall], rfl⟩
  · go_enter Tryz.func126, Tryz.ntmps126
    go_wp2
    go_ret
    exact ⟨by simp [strOK, h0], rfl⟩
set_option maxHeartbeats 800000 in
theorem nodeOK_any (x : Nd) (up : Int) (w : World) (h1 : x.text.size ≤ 9223372036854775807) (h2 : x.name.size ≤ 9223372036854775807) :
    Calls Tryz.prog 124 #[x.val, .int .i64 up] w fun e w' => e = .returned (.bool (nodeOKB x up)) ∧ Below w.heap.size w w' := by
  unfold Nd.val
  go_enter Tryz.func124, Tryz.ntmps124
  go_wp2_with (first | (go_at_call 35; refine (within_any _ _ _ _).mono ?_; rintro e w' ⟨rfl, rfl⟩) | (go_at_call 126; refine (stringOK_any _ _ (by assumption)).mono ?_; rintro e w' ⟨rfl, rfl⟩))
  all_goals
    go_ret
    refine ⟨?_, (Below.refl _ _).alloc (Nat.le_refl _) _⟩
    simp_all [nodeOKB] <;> (intros; omega)
end Go.Proofs.YtemcijhpmpdebaaGreatDoor
namespace Go.Proofs.YtemcijhpmpdebaaGreatDoor
open Go.RowKit

inductive Tree where
  | mk (kind num : Int) (text : ByteArray) (names : List ByteArray) (kids : List Tree)

def Tree.kind : Tree → Int | .mk k _ _ _ _ => k
def Tree.num : Tree → Int | .mk _ n _ _ _ => n
def Tree.text : Tree → ByteArray | .mk _ _ t _ _ => t
def Tree.names : Tree → List ByteArray | .mk _ _ _ ns _ => ns
def Tree.kids : Tree → List Tree | .mk _ _ _ _ ks => ks
@[simp] theorem Tree.kind_mk (k n t ns ks) : (Tree.mk k n t ns ks).kind = k := rfl
@[simp] theorem Tree.num_mk (k n t ns ks) : (Tree.mk k n t ns ks).num = n := rfl
@[simp] theorem Tree.text_mk (k n t ns ks) : (Tree.mk k n t ns ks).text = t := rfl
@[simp] theorem Tree.names_mk (k n t ns ks) : (Tree.mk k n t ns ks).names = ns := rfl
@[simp] theorem Tree.kids_mk (k n t ns ks) : (Tree.mk k n t ns ks).kids = ks := rfl

mutual
theorem Tree.ind' {P : Tree → Prop} (h : ∀ k n t ns ks, (∀ x ∈ ks, P x) → P (.mk k n t ns ks)) : ∀ t, P t
  | .mk k n t ns ks => h k n t ns ks (Tree.indL' h ks)
theorem Tree.indL' {P : Tree → Prop} (h : ∀ k n t ns ks, (∀ x ∈ ks, P x) → P (.mk k n t ns ks)) : ∀ ks : List Tree, ∀ x ∈ ks, P x
  | [] => by simp
  | k :: ks => by
    intro x hx
    have h1 := Tree.ind' h k
    have h2 := Tree.indL' h ks
    rcases List.mem_cons.1 hx with e | hx
    · rw [e]; exact h1
    · exact h2 x hx
end
theorem Tree.ind {P : Tree → Prop} (h : ∀ t : Tree, (∀ x ∈ t.kids, P x) → P t) (t : Tree) : P t :=
  Tree.ind' (fun _k _n _t _ns _ks hk => h _ hk) t

mutual
def Tree.count : Tree → Nat
  | .mk _ _ _ _ ks => 1 + Tree.countL ks
def Tree.countL : List Tree → Nat
  | [] => 0
  | k :: ks => k.count + Tree.countL ks
end
mutual
def Tree.deep : Tree → Nat
  | .mk k _ _ _ ks => Tree.deepL ks + (if holdsB k then 1 else 0)
def Tree.deepL : List Tree → Nat
  | [] => 0
  | k :: ks => max k.deep (Tree.deepL ks)
end
theorem Tree.countL_take_succ (ks : List Tree) (i : Nat) (k : Tree) (h : ks[i]? = some k) : Tree.countL (ks.take (i + 1)) = Tree.countL (ks.take i) + k.count := by
  induction ks generalizing i with
  | nil => simp at h
  | cons x ks ih =>
    cases i with
    | zero => simp at h; subst h; simp [Tree.countL]
    | succ i => simp at h; simp [Tree.countL, ih i h]; omega
theorem Tree.countL_take_le (ks : List Tree) (i : Nat) : Tree.countL (ks.take i) ≤ Tree.countL ks := by
  induction ks generalizing i with
  | nil => simp
  | cons x ks ih =>
    cases i with
    | zero => simp [Tree.countL]
    | succ i => simp [Tree.countL]; have := ih i; omega
theorem Tree.countL_mem (ks : List Tree) (k : Tree) (h : k ∈ ks) : k.count ≤ Tree.countL ks := by
  induction ks with
  | nil => simp at h
  | cons x ks ih =>
    simp [Tree.countL]
    rcases List.mem_cons.1 h with rfl | h
    · omega
    · have := ih h; omega
theorem Tree.count_eq (t : Tree) : t.count = 1 + Tree.countL t.kids := by cases t; rfl
theorem Tree.deep_eq (t : Tree) : t.deep = Tree.deepL t.kids + (if holdsB t.kind then 1 else 0) := by cases t; rfl
theorem Tree.deepL_take_succ (ks : List Tree) (i : Nat) (k : Tree) (h : ks[i]? = some k) : Tree.deepL (ks.take (i + 1)) = max (Tree.deepL (ks.take i)) k.deep := by
  induction ks generalizing i with
  | nil => simp at h
  | cons x ks ih =>
    cases i with
    | zero => simp at h; subst h; simp [Tree.deepL]
    | succ i => simp at h; simp [Tree.deepL, ih i h, Nat.max_assoc]
theorem Tree.deepL_take_le (ks : List Tree) (i : Nat) : Tree.deepL (ks.take i) ≤ Tree.deepL ks := by
  induction ks generalizing i with
  | nil => simp
  | cons x ks ih =>
    cases i with
    | zero => simp [Tree.deepL]
    | succ i => simp only [List.take_succ_cons, Tree.deepL]; have := ih i; omega
theorem Tree.kids_le_count (ks : List Tree) : ks.length ≤ Tree.countL ks := by
  induction ks with
  | nil => simp
  | cons x ks ih => have := x.count_eq; simp [Tree.countL]; omega
mutual
theorem Tree.deep_le_count : ∀ t : Tree, t.deep ≤ t.count
  | .mk k n t ns ks => by
    have := Tree.deepL_le_count ks
    simp only [Tree.deep, Tree.count]
    split <;> omega
theorem Tree.deepL_le_count : ∀ ks : List Tree, Tree.deepL ks ≤ Tree.countL ks
  | [] => by simp [Tree.deepL, Tree.countL]
  | k :: ks => by
    have := Tree.deepL_le_count ks
    have := Tree.deep_le_count k
    simp only [Tree.deepL, Tree.countL]
    omega
end

/-! ### What is read -/
def strs (l : List ByteArray) : List Value := l.map Value.string
mutual
/-- v leads to a tree as the program keeps it, in blocks that meet F. -/
def TreeAt (F : Nat → Prop) (w : World) : Value → Tree → Prop
  | v, .mk k n t ns ks => ∃ b A1 c1 A2 c2 ps, v = .pointer (some ⟨b, 0, none⟩) ∧ F b ∧ b < w.heap.size ∧ w.cell? ⟨b, 0, none⟩ = some (.int .i64 k) ∧ w.cell? ⟨b, 1, none⟩ = some (.int .i64 n) ∧ w.cell? ⟨b, 2, none⟩ = some (.string t) ∧
      w.cell? ⟨b, 3, none⟩ = some (.slice A1 ns.length c1) ∧ ns.length ≤ c1 ∧ Rds F w A1 (strs ns) ∧ w.cell? ⟨b, 4, none⟩ = some (.slice A2 ks.length c2) ∧ ks.length ≤ c2 ∧ Rds F w A2 ps ∧ TreesAt F w ps ks
def TreesAt (F : Nat → Prop) (w : World) : List Value → List Tree → Prop
  | [], [] => True
  | p :: ps, k :: ks => TreeAt F w p k ∧ TreesAt F w ps ks
  | [], _ :: _ => False
  | _ :: _, [] => False
end
section
variable {F G : Nat → Prop} {w w1 : World}
theorem TreesAt.length : ∀ {ps : List Value} {ks : List Tree}, TreesAt F w ps ks → ps.length = ks.length
  | [], [], _ => rfl
  | p :: ps, k :: ks, h => by simp only [TreesAt] at h; simp [TreesAt.length h.2]
  | [], _ :: _, h => by simp [TreesAt] at h
  | _ :: _, [], h => by simp [TreesAt] at h
theorem TreesAt.get : ∀ {ps : List Value} {ks : List Tree} (_ : TreesAt F w ps ks) (i : Nat) (k : Tree), ks[i]? = some k → ∃ p, ps[i]? = some p ∧ TreeAt F w p k
  | [], [], _, i, k, h => by simp at h
  | p :: ps, k :: ks, h, i, k', hk => by
    simp only [TreesAt] at h
    cases i with
    | zero => simp at hk; subst hk; exact ⟨p, by simp, h.1⟩
    | succ i => simp at hk; simpa using TreesAt.get h.2 i k' hk
  | [], _ :: _, h, _, _, _ => by simp [TreesAt] at h
  | _ :: _, [], h, _, _, _ => by simp [TreesAt] at h
theorem TreesAt.snoc : ∀ {ps : List Value} {ks : List Tree} {p : Value} {k : Tree} (_ : TreesAt F w ps ks) (_ : TreeAt F w p k), TreesAt F w (ps ++ [p]) (ks ++ [k])
  | [], [], _, _, _, hk => by simp [TreesAt, hk]
  | p :: ps, k :: ks, _, _, h, hk => by simp only [TreesAt, List.cons_append] at h ⊢; exact ⟨h.1, TreesAt.snoc h.2 hk⟩
  | [], _ :: _, _, _, h, _ => by simp [TreesAt] at h
  | _ :: _, [], _, _, h, _ => by simp [TreesAt] at h
mutual
/-- What agrees on F, and lies in G too, is read there as it was. -/
theorem TreeAt.frame (hb : Agree F w w1) (hG : ∀ b, F b → b < w.heap.size → G b) : ∀ {v : Value} {t : Tree}, TreeAt F w v t → TreeAt G w1 v t
  | v, .mk k n t ns ks, h => by
    simp only [TreeAt] at h ⊢
    obtain ⟨b, A1, c1, A2, c2, ps, hv, hF, hl, h0, h1, h2, h3, g3, r3, h4, g4, r4, ht⟩ := h
    have hc := hb.cell hF hl
    have hG' : ∀ b, F b → b < w1.heap.size → b < w.heap.size → G b := fun b h1 _ h3 => hG b h1 h3
    have rr : ∀ {A : Option Addr} {vs : List Value}, Rds F w A vs → Rds G w1 A vs := fun h => (h.mono (G := fun b => F b ∧ G b) (fun b h1 h2 => ⟨h1, hG b h1 h2⟩)).frame ⟨hb.size, fun b h1 h2 => hb.block b h1.1 h2⟩ |>.mono (fun b h1 _ => h1.2)
    exact ⟨b, A1, c1, A2, c2, ps, hv, hG b hF hl, Nat.lt_of_lt_of_le hl hb.size, by rw [hc]; exact h0, by rw [hc]; exact h1, by rw [hc]; exact h2, by rw [hc]; exact h3, g3, rr r3, by rw [hc]; exact h4, g4, rr r4, TreesAt.frame hb hG ht⟩
theorem TreesAt.frame (hb : Agree F w w1) (hG : ∀ b, F b → b < w.heap.size → G b) : ∀ {ps : List Value} {ks : List Tree}, TreesAt F w ps ks → TreesAt G w1 ps ks
  | [], [], _ => by simp [TreesAt]
  | p :: ps, k :: ks, h => by simp only [TreesAt] at h ⊢; exact ⟨TreeAt.frame hb hG h.1, TreesAt.frame hb hG h.2⟩
  | [], _ :: _, h => by simp [TreesAt] at h
  | _ :: _, [], h => by simp [TreesAt] at h
end
theorem TreeAt.below {v : Value} {t : Tree} (h : TreeAt F w v t) (hb : Below w.heap.size w w1) : TreeAt F w1 v t := h.frame (Agree.of_below hb) (fun _ h _ => h)
theorem TreesAt.below {ps : List Value} {ks : List Tree} (h : TreesAt F w ps ks) (hb : Below w.heap.size w w1) : TreesAt F w1 ps ks := h.frame (Agree.of_below hb) (fun _ h _ => h)
/-- A tree opened. -/
theorem TreeAt.open {v : Value} {t : Tree} (h : TreeAt F w v t) : ∃ b A1 c1 A2 c2 ps, v = .pointer (some ⟨b, 0, none⟩) ∧ F b ∧ b < w.heap.size ∧ w.cell? ⟨b, 0, none⟩ = some (.int .i64 t.kind) ∧ w.cell? ⟨b, 1, none⟩ = some (.int .i64 t.num) ∧ w.cell? ⟨b, 2, none⟩ = some (.string t.text) ∧
      w.cell? ⟨b, 3, none⟩ = some (.slice A1 t.names.length c1) ∧ t.names.length ≤ c1 ∧ Rds F w A1 (strs t.names) ∧ w.cell? ⟨b, 4, none⟩ = some (.slice A2 t.kids.length c2) ∧ t.kids.length ≤ c2 ∧ Rds F w A2 ps ∧ TreesAt F w ps t.kids := by
  cases t
  simp only [TreeAt] at h
  exact h
/-- Kid i of a row of kids, as it lies. -/
theorem kid_at {A : Option Addr} {ps : List Value} {ks : List Tree} (hr : Rds F w A ps) (ht : TreesAt F w ps ks) (i : Nat) (hi : i < ks.length) :
    ∃ b o p k, A = some ⟨b, o, none⟩ ∧ b < w.heap.size ∧ w.cell? ⟨b, o + i, none⟩ = some p ∧ TreeAt F w p k ∧ ks[i]? = some k ∧ k ∈ ks := by
  obtain ⟨p, hp, hk⟩ := ht.get i ks[i] (by simp [hi])
  obtain ⟨b, o, e, _, hl, hc⟩ := hr (by intro h0; subst h0; simp at hp)
  exact ⟨b, o, p, ks[i], e, hl, hc i p hp, hk, by simp [hi], List.getElem_mem hi⟩
/-- Name i of a row of names, as it lies. -/
theorem name_at {A : Option Addr} {ns : List ByteArray} (hr : Rds F w A (strs ns)) (i : Nat) (hi : i < ns.length) :
    ∃ b o s, A = some ⟨b, o, none⟩ ∧ b < w.heap.size ∧ w.cell? ⟨b, o + i, none⟩ = some (.string s) ∧ ns[i]? = some s ∧ s ∈ ns := by
  have hs : (strs ns)[i]? = some (.string ns[i]) := by simp [strs, hi]
  obtain ⟨b, o, e, _, hl, hc⟩ := hr (by intro h0; rw [h0] at hs; simp at hs)
  exact ⟨b, o, ns[i], e, hl, hc i _ hs, by simp [hi], List.getElem_mem hi⟩
/-- A pointer to a tree, or nil. -/
def OptAt (F : Nat → Prop) (w : World) (v : Value) : Option Tree → Prop
  | none => v = .pointer none
  | some t => TreeAt F w v t
end
end Go.Proofs.YtemcijhpmpdebaaGreatDoor
namespace Go.Proofs.YtemcijhpmpdebaaGreatDoor
open Go.RowKit
set_option maxHeartbeats 400000 in
theorem count_any (t : Tree) : t.count ≤ 1000000000 → ∀ (F : Nat → Prop) (v : Value) (w : World), TreeAt F w v t →
    Calls Tryz.prog 128 #[v] w fun e w' => e = .returned (.int .i64 t.count) ∧ w = w' := by
  induction t using Tree.ind with
  | _ t ih =>
    intro hcount F v w ht
    obtain ⟨b, A1, c1, A2, c2, ps, rfl, hF, hl, h0, h1, h2, h3, g3, r3, h4, g4, r4, hks⟩ := ht.open
    have IH := Lib.hid ih
    clear ih ht h0 h1 h2 h3
    have he := t.count_eq
    have hkl := Tree.kids_le_count t.kids
    have HE := Lib.hid he
    have hbd : Tree.countL t.kids ≤ 1000000000 := by omega
    clear he
    go_enter Tryz.func128, Tryz.ntmps128
    go_wp2
    go_loop [3, 5, 11] (fun n _ i => ∃ k : Nat, k ≤ t.kids.length ∧ i = .int .i64 k ∧ n = .int .i64 ((1 + Tree.countL (t.kids.take k) : Nat) : Int)) (fun _ _ i => t.kids.length - (intOf i).toNat)
    case atStart => exact ⟨0, Nat.zero_le _, rfl, by simp [Tree.countL]⟩
    case round =>
      obtain ⟨k, hk, rfl, rfl⟩ := hrel
      by_cases hlt : k < t.kids.length
      · obtain ⟨b2, o2, p, kd, rfl, hl2, hc2, hkt, hkd, hmem⟩ := kid_at r4 hks k hlt
        have hts := Tree.countL_take_succ _ _ _ hkd
        have HTS := Lib.hid hts
        have hm := Tree.countL_mem _ _ hmem
        have hle := Tree.countL_take_le t.kids k
        have hle2 := Tree.countL_take_le t.kids (k + 1)
        have hsum : 1 + Tree.countL (t.kids.take k) + kd.count ≤ 1000000001 := by omega
        have HKD := Lib.hid hkd
        clear hts hkd
        go_wp2_with fail
        refine (IH.out kd hmem (by omega) _ _ _ hkt).mono ?_
        rintro e w' ⟨rfl, rfl⟩
        go_wp2
        go_round
        case rel => exact ⟨k + 1, by omega, by go_num, by rw [HTS.out]; go_num⟩
        case measure => simp [intOf]; omega
      · go_wp2
        go_ret
        have : t.kids.take k = t.kids := List.take_of_length_le (by omega)
        exact ⟨by simp [HE.out, this], rfl⟩
set_option maxHeartbeats 400000 in
theorem deep_any (t : Tree) : t.count ≤ 1000000000 → ∀ (F : Nat → Prop) (v : Value) (w : World), TreeAt F w v t →
    Calls Tryz.prog 129 #[v] w fun e w' => e = .returned (.int .i64 t.deep) ∧ w = w' := by
  induction t using Tree.ind with
  | _ t ih =>
    intro hcount F v w ht
    obtain ⟨b, A1, c1, A2, c2, ps, rfl, hF, hl, h0, h1, h2, h3, g3, r3, h4, g4, r4, hks⟩ := ht.open
    have IH := Lib.hid ih
    clear ih ht h1 h2 h3
    have he := t.count_eq
    have hde := t.deep_eq
    have hkl := Tree.kids_le_count t.kids
    have HE := Lib.hid hde
    have hbd : Tree.countL t.kids ≤ 1000000000 := by omega
    have hbd2 := Tree.deepL_le_count t.kids
    clear he hde
    go_enter Tryz.func129, Tryz.ntmps129
    go_wp2
    go_loop [3, 5, 11] (fun n _ i => ∃ k : Nat, k ≤ t.kids.length ∧ i = .int .i64 k ∧ n = .int .i64 (Tree.deepL (t.kids.take k) : Int)) (fun _ _ i => t.kids.length - (intOf i).toNat)
    case atStart => exact ⟨0, Nat.zero_le _, rfl, by simp [Tree.deepL]⟩
    case round =>
      obtain ⟨k, hk, rfl, rfl⟩ := hrel
      by_cases hlt : k < t.kids.length
      · obtain ⟨b2, o2, p, kd, rfl, hl2, hc2, hkt, hkd, hmem⟩ := kid_at r4 hks k hlt
        have hts := Tree.deepL_take_succ _ _ _ hkd
        have HTS := Lib.hid hts
        have hm := Tree.countL_mem _ _ hmem
        have HKD := Lib.hid hkd
        clear hts hkd
        go_wp2_with fail
        refine (IH.out kd hmem (by omega) _ _ _ hkt).mono ?_
        rintro e w' ⟨rfl, rfl⟩
        go_wp2
        go_round
        case rel => exact ⟨k + 1, by omega, by go_num, by rw [HTS.out, Nat.max_def]; simp; split <;> split <;> omega⟩
        case measure => simp [intOf]; omega
      · have : t.kids.take k = t.kids := List.take_of_length_le (by omega)
        have HT := Lib.hid this
        clear this
        have hb3 := Tree.deepL_take_le t.kids k
        have hb4 : Tree.deepL (t.kids.take k) ≤ 1000000000 := by omega
        by_cases hh : holdsB t.kind = true
        all_goals
          go_wp2_with (go_at_call 125; refine (holds_any _ _).mono ?_; rintro e w' ⟨rfl, rfl⟩)
        all_goals
          go_ret
          exact ⟨by simp [HE.out, HT.out, *], rfl⟩
end Go.Proofs.YtemcijhpmpdebaaGreatDoor
namespace Go.Proofs.YtemcijhpmpdebaaGreatDoor
open Go.RowKit
def ltS (a b : ByteArray) : Bool := Op.bytesLess a.toList b.toList
/-- Node e is the next part of node k. -/
def kidB (l : List Nd) (k e : Nat) : Bool := match l[k]?, l[e]? with
  | some x, some y => holdsB x.kind && y.up == (k : Int)
  | _, _ => false
/-- The name stands behind those that are there. -/
def ordB (kind : Int) (ns : List ByteArray) (name : ByteArray) : Bool := !(kind == 7 && match ns.getLast? with | some m => !ltS m name | none => false)
/-- The rest of the walk over the parts of node k, from e on. -/
inductive VL (l : List Nd) : Nat → Nat → List ByteArray → List Tree → Option (Tree × Nat) → Prop
  | stop {k e ns ks x} : l[k]? = some x → kidB l k e = false → VL l k e ns ks (some (.mk x.kind x.num x.text ns ks, e))
  | order {k e ns ks x y} : kidB l k e = true → l[k]? = some x → l[e]? = some y → ordB x.kind ns y.name = false → VL l k e ns ks none
  | bad {k e ns ks x y} : kidB l k e = true → l[k]? = some x → l[e]? = some y → ordB x.kind ns y.name = true → nodeOKB y x.kind = false → VL l k e ns ks none
  | none {k e ns ks x y} : kidB l k e = true → l[k]? = some x → l[e]? = some y → ordB x.kind ns y.name = true → nodeOKB y x.kind = true → VL l e (e + 1) [] [] none → VL l k e ns ks none
  | kid {k e ns ks x y t e' r} : kidB l k e = true → l[k]? = some x → l[e]? = some y → ordB x.kind ns y.name = true → nodeOKB y x.kind = true → VL l e (e + 1) [] [] (some (t, e')) →
      VL l k e' (if x.kind = 7 then ns ++ [y.name] else ns) (ks ++ [t]) r → VL l k e ns ks r
/-- valFrom's answer. -/
def VF (l : List Nd) (k : Nat) (up : Int) (r : Option (Tree × Nat)) : Prop := ∃ x, l[k]? = some x ∧ ((nodeOKB x up = false ∧ r = none) ∨ (nodeOKB x up = true ∧ VL l k (k + 1) [] [] r))
theorem VL.bound {l : List Nd} {k e : Nat} {ns : List ByteArray} {ks : List Tree} {r : Option (Tree × Nat)} (h : VL l k e ns ks r) : ∀ t e', r = some (t, e') → e ≤ l.length → e ≤ e' ∧ e' ≤ l.length := by
  induction h with
  | stop h1 h2 =>
    intro t e' hr he
    injection hr with hr
    injection hr with _ hr
    subst hr
    exact ⟨Nat.le_refl _, he⟩
  | order => intro t e' hr; cases hr
  | bad => intro t e' hr; cases hr
  | none => intro t e' hr; cases hr
  | kid h1 h2 h3 h4 h5 h6 h7 ih1 ih2 =>
    intro t e' hr he
    have hy := (List.getElem?_eq_some_iff.1 h3).1
    obtain ⟨b1, b2⟩ := ih1 _ _ rfl (by omega)
    obtain ⟨b3, b4⟩ := ih2 _ _ hr b2
    exact ⟨by omega, b4⟩
theorem VF.bound {l : List Nd} {k : Nat} {up : Int} {t : Tree} {e : Nat} (h : VF l k up (some (t, e))) : k < e ∧ e ≤ l.length := by
  obtain ⟨x, hx, h⟩ := h
  have hk := (List.getElem?_eq_some_iff.1 hx).1
  rcases h with ⟨_, h⟩ | ⟨_, h⟩
  · cases h
  · obtain ⟨h1, h2⟩ := h.bound _ _ rfl (by omega)
    exact ⟨by omega, h2⟩
end Go.Proofs.YtemcijhpmpdebaaGreatDoor
