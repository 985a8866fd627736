/- The reference's trees as values: what is read. -/
import Derived.Test.YteeppdobeeodiaaGreatDoorJn1
import Derived.Test.YteeppdobeeodiaaGreatDoorBs2
namespace Go.Proofs.YteeppdobeeodiaaGreatDoor
open Go.RowKit
mutual
/-- The cells of a tree as the reference keeps it: a value, its names and its parts in rows that meet F. -/
def LtAt (F : Nat → Prop) (w : World) : List Value → Tree → Prop
  | cs, .mk k n t ns ks => ∃ A1 c1 A2 c2 rs, cs = [.int .i64 k, .int .i64 n, .string t, .slice A1 ns.length c1, .slice A2 ks.length c2] ∧ ns.length ≤ c1 ∧ ks.length ≤ c2 ∧ Rds F w A1 (strs ns) ∧ Rds F w A2 rs.flatten ∧ LtsAt F w rs ks
def LtsAt (F : Nat → Prop) (w : World) : List (List Value) → List Tree → Prop
  | [], [] => True
  | r :: rs, k :: ks => LtAt F w r k ∧ LtsAt F w rs ks
  | [], _ :: _ => False
  | _ :: _, [] => False
end
section
variable {F G : Nat → Prop} {w w1 : World}
theorem LtAt.open {cs : List Value} {t : Tree} (h : LtAt F w cs t) : ∃ A1 c1 A2 c2 rs, cs = [.int .i64 t.kind, .int .i64 t.num, .string t.text, .slice A1 t.names.length c1, .slice A2 t.kids.length c2] ∧ t.names.length ≤ c1 ∧ t.kids.length ≤ c2 ∧ Rds F w A1 (strs t.names) ∧ Rds F w A2 rs.flatten ∧ LtsAt F w rs t.kids := by
  cases t
  simp only [LtAt] at h
  exact h
theorem LtAt.length {cs : List Value} {t : Tree} (h : LtAt F w cs t) : cs.length = 5 := by
  obtain ⟨_, _, _, _, _, rfl, _⟩ := h.open
  rfl
theorem LtsAt.length : ∀ {rs : List (List Value)} {ks : List Tree}, LtsAt F w rs ks → rs.length = ks.length
  | [], [], _ => rfl
  | r :: rs, k :: ks, h => by simp only [LtsAt] at h; simp [LtsAt.length h.2]
  | [], _ :: _, h => by simp [LtsAt] at h
  | _ :: _, [], h => by simp [LtsAt] at h
theorem LtsAt.sizes : ∀ {rs : List (List Value)} {ks : List Tree}, LtsAt F w rs ks → ∀ r ∈ rs, r.length = 5
  | [], [], _, r, hr => by cases hr
  | r :: rs, k :: ks, h, x, hx => by
    simp only [LtsAt] at h
    rcases List.mem_cons.1 hx with rfl | hx
    · exact h.1.length
    · exact LtsAt.sizes h.2 x hx
  | [], _ :: _, h, _, _ => by simp [LtsAt] at h
  | _ :: _, [], h, _, _ => by simp [LtsAt] at h
theorem LtsAt.get : ∀ {rs : List (List Value)} {ks : List Tree} (_ : LtsAt F w rs ks) (i : Nat) (k : Tree), ks[i]? = some k → ∃ r, rs[i]? = some r ∧ LtAt F w r k
  | [], [], _, i, k, h => by simp at h
  | r :: rs, k :: ks, h, i, k', hk => by
    simp only [LtsAt] at h
    cases i with
    | zero => simp at hk; subst hk; exact ⟨r, by simp, h.1⟩
    | succ i => simp at hk; simpa using LtsAt.get h.2 i k' hk
  | [], _ :: _, h, _, _, _ => by simp [LtsAt] at h
  | _ :: _, [], h, _, _, _ => by simp [LtsAt] at h
mutual
theorem LtAt.frame (hb : Agree F w w1) (hG : ∀ b, F b → b < w.heap.size → G b) : ∀ {cs : List Value} {t : Tree}, LtAt F w cs t → LtAt G w1 cs t
  | cs, .mk k n t ns ks, h => by
    simp only [LtAt] at h ⊢
    obtain ⟨A1, c1, A2, c2, rs, e, h1, h2, r1, r2, hl⟩ := h
    have rr : ∀ {A : Option Addr} {vs : List Value}, Rds F w A vs → Rds G w1 A vs := fun h => (h.mono (G := fun b => F b ∧ G b) (fun b h1 h2 => ⟨h1, hG b h1 h2⟩)).frame ⟨hb.size, fun b h1 h2 => hb.block b h1.1 h2⟩ |>.mono (fun b h1 _ => h1.2)
    exact ⟨A1, c1, A2, c2, rs, e, h1, h2, rr r1, rr r2, LtsAt.frame hb hG hl⟩
theorem LtsAt.frame (hb : Agree F w w1) (hG : ∀ b, F b → b < w.heap.size → G b) : ∀ {rs : List (List Value)} {ks : List Tree}, LtsAt F w rs ks → LtsAt G w1 rs ks
  | [], [], _ => by simp [LtsAt]
  | r :: rs, k :: ks, h => by simp only [LtsAt] at h ⊢; exact ⟨LtAt.frame hb hG h.1, LtsAt.frame hb hG h.2⟩
  | [], _ :: _, h => by simp [LtsAt] at h
  | _ :: _, [], h => by simp [LtsAt] at h
end
theorem LtAt.below {cs : List Value} {t : Tree} (h : LtAt F w cs t) (hb : Below w.heap.size w w1) : LtAt F w1 cs t := h.frame (Agree.of_below hb) (fun _ h _ => h)
theorem LtsAt.below {rs : List (List Value)} {ks : List Tree} (h : LtsAt F w rs ks) (hb : Below w.heap.size w w1) : LtsAt F w1 rs ks := h.frame (Agree.of_below hb) (fun _ h _ => h)
theorem LtsAt.app : ∀ {ps qs : List (List Value)} {ks ls : List Tree}, LtsAt F w ps ks → LtsAt F w qs ls → LtsAt F w (ps ++ qs) (ks ++ ls)
  | [], _, [], _, _, h => by simpa using h
  | p :: ps, _, k :: ks, _, h, h' => by
    simp only [LtsAt, List.cons_append] at h ⊢
    exact ⟨h.1, LtsAt.app h.2 h'⟩
  | [], _, _ :: _, _, h, _ => by simp [LtsAt] at h
  | _ :: _, _, [], _, h, _ => by simp [LtsAt] at h
theorem LtsAt.split : ∀ (i : Nat) {ps : List (List Value)} {ks : List Tree}, LtsAt F w ps ks → LtsAt F w (ps.take i) (ks.take i) ∧ LtsAt F w (ps.drop i) (ks.drop i)
  | 0, ps, ks, h => by simpa [LtsAt] using h
  | i + 1, [], [], _ => by simp [LtsAt]
  | i + 1, p :: ps, k :: ks, h => by
    simp only [LtsAt] at h
    have ih := LtsAt.split i h.2
    simp only [List.take_succ_cons, List.drop_succ_cons, LtsAt]
    exact ⟨⟨h.1, ih.1⟩, ih.2⟩
  | i + 1, [], _ :: _, h => by simp [LtsAt] at h
  | i + 1, _ :: _, [], h => by simp [LtsAt] at h
theorem LtsAt.one {p : List Value} {k : Tree} (h : LtAt F w p k) : LtsAt F w [p] [k] := by
  simp only [LtsAt]
  exact ⟨h, trivial⟩
theorem LtsAt.set : ∀ {ps : List (List Value)} {ks : List Tree} (_ : LtsAt F w ps ks) (i : Nat) {p : List Value} {k : Tree} (_ : LtAt F w p k), LtsAt F w (ps.set i p) (ks.set i k)
  | [], [], _, i, _, _, _ => by simp [LtsAt]
  | p :: ps, k :: ks, h, i, _, _, hk => by
    simp only [LtsAt] at h
    cases i with
    | zero => simp only [List.set_cons_zero, LtsAt]; exact ⟨hk, h.2⟩
    | succ i => simp only [List.set_cons_succ, LtsAt]; exact ⟨h.1, LtsAt.set h.2 i hk⟩
  | [], _ :: _, h, _, _, _, _ => by simp [LtsAt] at h
  | _ :: _, [], h, _, _, _, _ => by simp [LtsAt] at h
theorem flatten_len (rs : List (List Value)) (h : ∀ r ∈ rs, r.length = 5) : rs.flatten.length = rs.length * 5 := by
  induction rs with
  | nil => rfl
  | cons r rs ih =>
    rw [List.flatten_cons, List.length_append, ih (fun r hr => h r (List.mem_cons_of_mem _ hr)), h r (by simp), List.length_cons]
    omega
theorem flatten_at (rs : List (List Value)) (h : ∀ r ∈ rs, r.length = 5) (i : Nat) (r : List Value) (hi : rs[i]? = some r) (j : Nat) (hj : j < 5) : rs.flatten[i * 5 + j]? = r[j]? := by
  induction rs generalizing i with
  | nil => simp at hi
  | cons y rs ih =>
    have hy : y.length = 5 := h y (by simp)
    cases i with
    | zero =>
      simp at hi
      subst hi
      rw [List.flatten_cons, Nat.zero_mul, Nat.zero_add, List.getElem?_append_left (by omega)]
    | succ i =>
      simp at hi
      have := ih (fun r hr => h r (List.mem_cons_of_mem _ hr)) i hi
      rw [List.flatten_cons, List.getElem?_append_right (by omega), ← this]
      congr 1
      omega
/-- Part i of a row of parts, as it lies. -/
theorem lt_at {A : Option Addr} {rs : List (List Value)} {ks : List Tree} (hr : Rds F w A rs.flatten) (ht : LtsAt G w rs ks) (i : Nat) (hi : i < ks.length) :
    ∃ b o r k A1 c1 A2 c2, A = some ⟨b, o, none⟩ ∧ F b ∧ b < w.heap.size ∧ ks[i]? = some k ∧ k ∈ ks ∧ rs[i]? = some r ∧ r = [.int .i64 k.kind, .int .i64 k.num, .string k.text, .slice A1 k.names.length c1, .slice A2 k.kids.length c2] ∧ LtAt G w r k ∧
      w.cell? ⟨b, o + i * 5, none⟩ = some (.int .i64 k.kind) ∧ w.cell? ⟨b, o + i * 5 + 1, none⟩ = some (.int .i64 k.num) ∧ w.cell? ⟨b, o + i * 5 + 2, none⟩ = some (.string k.text) ∧ w.cell? ⟨b, o + i * 5 + 3, none⟩ = some (.slice A1 k.names.length c1) ∧ w.cell? ⟨b, o + i * 5 + 4, none⟩ = some (.slice A2 k.kids.length c2) := by
  obtain ⟨r, hri, hk⟩ := ht.get i ks[i] (by simp [hi])
  generalize hkk : ks[i] = k at hk
  obtain ⟨A1, c1, A2, c2, rs', e, _⟩ := hk.open
  have hs := ht.sizes
  have hne : rs.flatten ≠ [] := by
    intro h0
    have h1 := flatten_len rs hs
    rw [h0] at h1
    have h2 := (List.getElem?_eq_some_iff.1 hri).1
    simp at h1
    omega
  obtain ⟨b, o, ea, hF, hl, hc⟩ := hr hne
  have g : ∀ j v, j < 5 → r[j]? = some v → w.cell? ⟨b, o + (i * 5 + j), none⟩ = some v := fun j v hj hv => hc _ _ (by rw [flatten_at rs hs i r hri j hj]; exact hv)
  subst e
  exact ⟨b, o, _, k, A1, c1, A2, c2, ea, hF, hl, by simp [hi, hkk], by rw [← hkk]; exact List.getElem_mem hi, hri, rfl, hk, g 0 _ (by omega) rfl, g 1 _ (by omega) rfl, g 2 _ (by omega) rfl, g 3 _ (by omega) rfl, g 4 _ (by omega) rfl⟩
end
end Go.Proofs.YteeppdobeeodiaaGreatDoor
