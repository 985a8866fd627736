/- Arguments of the laws opened: what they hold as lists; behind the call they read as before. Arguments of the laws opened: nodes, values, operations. Arguments of the laws opened: bases. -/
import Derived.Test.YtemcijhpmpdebaaGreatDoorOp1
import Derived.Deep.Slices
import Derived.Deep.Fields
import Derived.Lib.SmallJoins
import Derived.Carry
import Derived.ProofKit
import Derived.OpenShut
import Derived.Test.YtemcijhpmpdebaaGreatDoorBs2
namespace Go.Proofs.YtemcijhpmpdebaaGreatDoor
open Go.RowKit Go.ChangeShapes Go.WideShapes Go.Deep Go.Joins
section
variable {H : Type} {enc : TypeId × Value → H} {P : Program} {w : World} {base : Nat} {spare : Nat → Bool} {held : Bool}
theorem list_choose {α : Type} {p : Nat → α → Prop} : ∀ (n : Nat), (∀ i, i < n → ∃ x, p i x) → ∃ l : List α, l.length = n ∧ ∀ i x, l[i]? = some x → p i x := by
  intro n
  induction n with
  | zero => exact fun _ => ⟨[], rfl, fun i x h => by simp at h⟩
  | succ n ih =>
    intro h
    obtain ⟨l, hl, hp⟩ := ih (fun i hi => h i (by omega))
    obtain ⟨x, hx⟩ := h n (by omega)
    refine ⟨l ++ [x], by simp [hl], fun i y hy => ?_⟩
    by_cases hi : i < l.length
    · rw [List.getElem?_append_left hi] at hy
      exact hp i y hy
    · rw [List.getElem?_append_right (by omega)] at hy
      obtain rfl : i = l.length := by
        have := (List.getElem?_eq_some_iff.1 hy).1
        simp at this
        omega
      simp at hy
      subst hy
      rw [hl]
      exact hx
/-- A slice of structs, opened to a list. -/
theorem open_rows {α : Type} (cells : α → List Value) (Q : α → Prop) {t e : TypeId} {fuel : Nat} {cs : List Value} {x : DataW H × List MemPlace} (n : Nat) (hn : 0 < n) (hlen : ∀ a, (cells a).length = n) (ht : P.underlying t = some (.slice e)) (hC : P.cellsOf e = n)
    (helem : ∀ fuel cs x, DataW.trod enc P w base spare held fuel e cs = some x → ∃ a, cs = cells a ∧ Q a) (h : DataW.trod enc P w base spare held fuel t cs = some x) :
    ∃ (A : Option Addr) (c : Nat) (l : List α), cs = [.slice A l.length c] ∧ l.length ≤ c ∧ l.length ≤ maxLen ∧ Rds (fun b => b < w.heap.size) w A (l.flatMap cells) ∧ ∀ a ∈ l, Q a := by
  rcases open_slice ht h with ⟨h0, _⟩ | ⟨a, len, cap, m, n', D, Pl, hcs, hb, hl, hm, hmm, hx, hi⟩
  · exact ⟨none, 0, [], h0, Nat.le_refl _, by simp, Rds.nil _ _ _, fun a h => by simp at h⟩
  · have hlm : len ≤ m := by rw [hmm]; split <;> omega
    obtain ⟨l, hll, hp⟩ := list_choose (p := fun i (y : α) => (∀ j, j < n → w.cell? ((a.add (i * n)).add j) = (cells y)[j]?) ∧ Q y) len (fun i hil => by
      obtain ⟨cs', h1, h2⟩ := hi i (by omega)
      obtain ⟨y, rfl, hq⟩ := helem _ _ _ h2
      rw [hC] at h1
      obtain ⟨_, _, hc⟩ := World.cells?_some h1
      exact ⟨y, fun j hj => hc j hj, hq⟩)
    refine ⟨some a, cap, l, by rw [hll]; exact hcs, by omega, by omega, ?_, fun y hy => ?_⟩
    · intro hne
      have hpos : 0 < l.length := by
        cases l with
        | nil => simp at hne
        | cons => simp
      have cell : ∀ j v, (l.flatMap cells)[j]? = some v → w.cell? (a.add j) = some v := by
        intro j v hj
        have hjl : j < l.length * n := by
          have := (List.getElem?_eq_some_iff.1 hj).1
          rwa [flat_len cells n hlen] at this
        have hjn : j / n < l.length := Nat.div_lt_of_lt_mul (by rw [Nat.mul_comm]; exact hjl)
        have hmod := Nat.mod_lt j hn
        have hdm : j / n * n + j % n = j := by rw [Nat.mul_comm]; exact Nat.div_add_mod j n
        have hy : l[j / n]? = some l[j / n] := by simp [hjn]
        have hc := (hp _ _ hy).1 (j % n) hmod
        have hf := flat_get cells n hlen l (j / n) _ hy (j % n) hmod
        rw [hdm] at hf
        rw [hf] at hj
        rw [hj, add_add, hdm] at hc
        exact hc
      have h0 := cell 0 ((l.flatMap cells)[0]'(by rw [flat_len cells n hlen]; exact Nat.mul_pos hpos hn)) (List.getElem?_eq_getElem _)
      obtain ⟨b, o, s⟩ := a
      have hs : s = none := by
        cases s with
        | none => rfl
        | some s =>
          simp [Addr.add, World.cell?] at h0
          split at h0 <;> simp at h0
      subst hs
      have hlt : b < w.heap.size := by
        cases hh : w.heap[b]? with
        | none => simp [Addr.add, World.cell?, hh] at h0
        | some o => exact (Array.getElem?_eq_some_iff.1 hh).1
      refine ⟨b, o, rfl, hlt, hlt, fun j v hj => ?_⟩
      have := cell j v hj
      rwa [Addr.add_lit] at this
    · obtain ⟨i, hi', rfl⟩ := List.getElem_of_mem hy
      exact (hp i _ (List.getElem?_eq_getElem hi')).2
/-- The field at j of a struct's cells. -/
theorem field_one {t : TypeId} {fs : Array Field} {fuel : Nat} {cs : List Value} {x : DataW H × List MemPlace} (hs : P.underlying t = some (.struct fs)) (h : DataW.trod enc P w base spare held fuel t cs = some x) (j : Nat) (f : Field) (hf : fs[j]? = some f) (ho : f.offset = j) (hk : P.cellsOf f.type = 1) (hj : j < cs.length) :
    ∃ v n y, cs[j]? = some v ∧ DataW.trod enc P w base spare held n f.type [v] = some y := by
  obtain ⟨xs, n, _, _, _, hlen, hg⟩ := DataW.trod_struct hs h
  have hjx : j < xs.length := by rw [hlen]; exact (Array.getElem?_eq_some_iff.1 hf).1
  have := hg j f hf
  rw [ho, hk, List.take_one, List.head?_drop, List.getElem?_eq_getElem hj, List.getElem?_eq_getElem hjx] at this
  exact ⟨cs[j], n, xs[j], List.getElem?_eq_getElem hj, this⟩
theorem trodAll_stays (hl : laidOutB P = true) {W W' : World} (hb : Below W.heap.size W W') {sp : Nat → Bool} :
    ∀ {ts : List TypeId} {vs : List Value} {ds : List (DataW H)} {ps : List MemPlace}, (ts.all fun t => P.readableRec t && decide (t < P.types.size)) = true → DataW.TrodAll enc P W 0 (fun _ => true) true ts vs ds ps → (∀ x ∈ ps, x.block < W.heap.size) → (∀ x ∈ ps, sp x.block = true) → DataW.TrodAll enc P W' 0 sp true ts vs ds ps
  | [], [], [], _, _, h, _, _ => h
  | [], [], _ :: _, _, _, h, _, _ => h.elim
  | [], _ :: _, _, _, _, h, _, _ => h.elim
  | _ :: _, [], _, _, _, h, _, _ => h.elim
  | _ :: _, _ :: _, [], _, _, h, _, _ => h.elim
  | t :: ts, v :: vs, d :: ds, ps, ht, h, hlt, hsp => by
    obtain ⟨p, q, h1, h2, rfl⟩ := h
    simp only [List.all_cons, Bool.and_eq_true, decide_eq_true_eq] at ht
    exact ⟨p, q, WideElems.Trod_stays hl ht.1.1 ht.1.2 h1 (fun x hx => hb.same (hlt x (by simp [hx]))) (fun x hx => hsp x (by simp [hx])), trodAll_stays hl hb ht.2 h2 (fun x hx => hlt x (by simp [hx])) (fun x hx => hsp x (by simp [hx])), rfl⟩
/-- A law that answered true and left what was there as it was: its row's last step. -/
theorem law_post {f : Func} {s : ChangeSpec} {apart fresh handsOn again : Bool} {W W' : World} {args : Array Value} {ds gs : List (DataW H)} {before : List MemPlace} (hl : laidOutB P = true)
    (hs : ∀ (H : Type) (ds : List (DataW H)), ds.length = f.params.size → s.fn H ds = { results := [.lit (.bool true)], args := ds }) (hv : s.vars = []) (hrt : ∃ b, f.resultTypes = #[b] ∧ P.underlying b = some .bool) (hpt : (f.params.toList.all fun t => P.readableRec t && decide (t < P.types.size)) = true)
    (hW : DataW.Whole enc P f.params.toList s.vars apart W args.toList ds gs before) (hb : Below W.heap.size W W') : s.post enc P f apart fresh handsOn again W args (.bool true) W' := by
  have hlt : ∀ p ∈ before, p.block < W.heap.size := fun p hp => hW.lt p hp
  have hW0 := hW
  obtain ⟨p, q, hA, hV, rfl, hfz, hnd⟩ := hW0
  rw [hv] at hV
  obtain ⟨rfl, rfl⟩ := trodVars_none hV
  have hdl : ∀ {ts : List TypeId} {vs : List Value} {ds : List (DataW H)} {ps : List MemPlace}, DataW.TrodAll enc P W 0 (fun _ => true) true ts vs ds ps → ds.length = ts.length := by
    intro ts
    induction ts with
    | nil => intro vs ds ps h; cases vs <;> cases ds <;> first | rfl | exact h.elim
    | cons t ts ih =>
      intro vs ds ps h
      cases vs with
      | nil => exact h.elim
      | cons v vs =>
        cases ds with
        | nil => exact h.elim
        | cons d ds => obtain ⟨p, q, _, h2, _⟩ := h; simp [ih h2]
  have hfn := hs H ds (by have := hdl hA; simpa using this)
  obtain ⟨rb, hrb, hrb2⟩ := hrt
  have hsame : ∀ sp : Nat → Bool, (∀ x ∈ p, sp x.block = true) → DataW.TrodAll enc P W' 0 sp true f.params.toList args.toList ds p := fun sp hsp => trodAll_stays hl hb hpt hA (fun x hx => hlt x (by simp [hx])) hsp
  have hres : ∀ (b : Nat) (sp : Nat → Bool) (hd : Bool), DataW.TrodAll enc P W' b sp hd f.resultTypes.toList ((Value.bool true).resultList f.resultTypes.size) [.lit (.bool true)] [] := fun b sp hd => by
    rw [hrb]
    exact trodAll_cons_mk (shut_bool hrb2 _) trodAll_mk0
  refine ⟨ds, [], p ++ [], [], p, [], hW, ?_, ?_, ?_, World.keptBut_mono (fun x hx => ⟨hx, .inr (.inl (by simpa using hx))⟩) (hb.frame (· ∈ p ++ [])), fun _ => ?_⟩
  · rw [List.append_nil, hfn]; exact hres _ _ _
  · rw [List.append_nil, hfn]; exact hsame _ (fun x hx => by simpa using hlt x (by simp [hx]))
  · rw [List.append_nil, hfn, hv]; exact rfl
  · refine ⟨?_, [.lit (.bool true)] ++ ds, [], ([] ++ p) ++ [], ⟨[] ++ p, [], trodAll_append (hsame _ (fun _ _ => rfl)) (hres _ _ _), by rw [hv]; exact rfl, rfl, ?_, ?_⟩, ?_⟩
    · exact ok_one hrb rfl (okWide_bool_mk hrb2 _)
    · intro b off hp
      have hin : MemPlace.cell b off ∈ p := by simpa using hp
      rw [hb.frozen (hlt (.cell b off) (by simp [hin]))]
      exact hfz b off (by simp [hin])
    · intro ha
      have := hnd ha
      simpa using this
    · intro x hx _
      simpa using hx
end
end Go.Proofs.YtemcijhpmpdebaaGreatDoor
namespace Go.Proofs.YtemcijhpmpdebaaGreatDoor
open Go.RowKit Go.ChangeShapes Go.WideShapes Go.Deep Go.Joins
section
variable {H : Type} {enc : TypeId × Value → H} {w : World} {base : Nat} {spare : Nat → Bool} {held : Bool}
theorem one_of {α : Type} {l : List α} {j : Nat} {v a : α} (h : l[j]? = some v) (h' : l[j]? = some a) : v = a := Option.some.inj (h.symm.trans h')
theorem list5 {α : Type} {l : List α} (h : l.length = 5) : ∃ a b c d e, l = [a, b, c, d, e] := by
  match l, h with
  | [a, b, c, d, e], _ => exact ⟨a, b, c, d, e, rfl⟩
theorem node_elem {fuel : Nat} {cs : List Value} {x : DataW H × List MemPlace} (h : DataW.trod enc Tryz.prog w base spare held fuel 138 cs = some x) : ∃ a : Nd, cs = a.cells ∧ a.small 9223372036854775807 := by
  obtain ⟨xs, n, _, _, hlen, _, _⟩ := DataW.trod_struct Tryz.underlying138 h
  have hl : cs.length = 5 := hlen.trans (by kernel_rfl)
  obtain ⟨c0, c1, c2, c3, c4, rfl⟩ := list5 hl
  obtain ⟨v0, n0, y0, e0, t0⟩ := field_one Tryz.underlying138 h 0 _ rfl rfl (by kernel_rfl) (by simp)
  obtain ⟨v1, n1, y1, e1, t1⟩ := field_one Tryz.underlying138 h 1 _ rfl rfl (by kernel_rfl) (by simp)
  obtain ⟨v2, n2, y2, e2, t2⟩ := field_one Tryz.underlying138 h 2 _ rfl rfl (by kernel_rfl) (by simp)
  obtain ⟨v3, n3, y3, e3, t3⟩ := field_one Tryz.underlying138 h 3 _ rfl rfl (by kernel_rfl) (by simp)
  obtain ⟨v4, n4, y4, e4, t4⟩ := field_one Tryz.underlying138 h 4 _ rfl rfl (by kernel_rfl) (by simp)
  obtain rfl := one_of e0 (show [c0, c1, c2, c3, c4][0]? = some c0 from rfl)
  obtain rfl := one_of e1 (show [v0, c1, c2, c3, c4][1]? = some c1 from rfl)
  obtain rfl := one_of e2 (show [v0, v1, c2, c3, c4][2]? = some c2 from rfl)
  obtain rfl := one_of e3 (show [v0, v1, v2, c3, c4][3]? = some c3 from rfl)
  obtain rfl := one_of e4 (show [v0, v1, v2, v3, c4][4]? = some c4 from rfl)
  obtain ⟨z0, h0, _⟩ := DataW.trod_int Tryz.underlying3 t0
  obtain ⟨z1, h1, _⟩ := DataW.trod_int Tryz.underlying3 t1
  obtain ⟨s2, h2, _, m2⟩ := DataW.trod_string Tryz.underlying9 t2
  obtain ⟨s3, h3, _, m3⟩ := DataW.trod_string Tryz.underlying9 t3
  obtain ⟨z4, h4, _⟩ := DataW.trod_int Tryz.underlying3 t4
  injection h0 with h0
  injection h1 with h1
  injection h2 with h2
  injection h3 with h3
  injection h4 with h4
  unfold maxLen at m2 m3
  exact ⟨⟨z0, z1, s2, s3, z4⟩, by rw [h0, h1, h2, h3, h4]; rfl, m2, m3⟩
theorem open_nodes {fuel : Nat} {cs : List Value} {x : DataW H × List MemPlace} (h : DataW.trod enc Tryz.prog w base spare held fuel 47 cs = some x) :
    ∃ (A : Option Addr) (c : Nat) (l : List Nd), cs = [.slice A l.length c] ∧ l.length ≤ c ∧ l.length ≤ 9223372036854775807 ∧ Rds (fun b => b < w.heap.size) w A (ndCells l) ∧ ∀ a ∈ l, a.small 9223372036854775807 := by
  obtain ⟨A, c, l, h1, h2, h3, h4, h5⟩ := open_rows Nd.cells (fun a => a.small 9223372036854775807) 5 (by omega) (fun _ => rfl) Tryz.underlying47 (by kernel_rfl) (fun _ _ _ h => node_elem h) h
  unfold maxLen at h3
  exact ⟨A, c, l, h1, h2, h3, h4, h5⟩
/-- A field that is a value. -/
theorem open_value {fuel : Nat} {v : Value} {x : DataW H × List MemPlace} (h : DataW.trod enc Tryz.prog w base spare held fuel 49 [v] = some x) :
    ∃ (A : Option Addr) (c : Nat) (l : List Nd), v = .slice A l.length c ∧ l.length ≤ c ∧ l.length ≤ 9223372036854775807 ∧ Rds (fun b => b < w.heap.size) w A (ndCells l) ∧ ∀ a ∈ l, a.small 9223372036854775807 := by
  obtain ⟨v0, n0, y0, e0, t0⟩ := field_one Tryz.underlying49 h 0 _ rfl rfl (by kernel_rfl) (by simp)
  obtain rfl := one_of e0 (show [v][0]? = some v from rfl)
  obtain ⟨A, c, l, h0, r⟩ := open_nodes t0
  injection h0 with h0
  exact ⟨A, c, l, h0, r⟩
theorem cells_int : Tryz.prog.cellsOf 3 = 1 := by kernel_rfl
theorem cells_lawsValue : Tryz.prog.cellsOf 49 = 1 := by kernel_rfl
theorem cells_lawsOp : Tryz.prog.cellsOf 51 = 5 := by kernel_rfl
theorem list1 {α : Type} {l : List α} (h : l.length = 1) : ∃ a, l = [a] := by
  match l, h with
  | [a], _ => exact ⟨a, rfl⟩
set_option maxRecDepth 100000 in
/-- An argument that is a value. -/
theorem open_valueArg {r : Reach} {b0 : Nat} {v : Value} {d : DataW H} {p : List MemPlace} (hv : Value.okWide Tryz.prog w r b0 49 v) (h : DataW.Trod enc Tryz.prog w base spare held 49 v d p) :
    ∃ (A : Option Addr) (c : Nat) (l : List Nd), v = .agg #[.slice A l.length c] ∧ l.length ≤ c ∧ l.length ≤ 9223372036854775807 ∧ Rds (fun b => b < w.heap.size) w A (ndCells l) ∧ ∀ a ∈ l, a.small 9223372036854775807 := by
  obtain ⟨cs, rfl, hsz⟩ := okWide_struct Tryz.underlying49 hv
  obtain ⟨l⟩ := cs
  obtain ⟨c0, rfl⟩ := list1 (hsz.trans cells_lawsValue)
  obtain ⟨fuel, hf⟩ := h
  obtain ⟨A, c, l, rfl, r⟩ := open_value hf
  exact ⟨A, c, l, rfl, r⟩
theorem agg5 {P : Program} {r : Reach} {b0 : Nat} {v : Value} {d : DataW H} {p : List MemPlace} {t : TypeId} {fs : Array Field} (hs : P.underlying t = some (.struct fs)) (hC : P.cellsOf t = 5) (hv : Value.okWide P w r b0 t v) (h : DataW.Trod enc P w base spare held t v d p) :
    ∃ c0 c1 c2 c3 c4 fuel, v = .agg #[c0, c1, c2, c3, c4] ∧ DataW.trod enc P w base spare held fuel t [c0, c1, c2, c3, c4] = some (d, p) := by
  obtain ⟨cs, rfl, hsz⟩ := okWide_struct hs hv
  obtain ⟨l⟩ := cs
  obtain ⟨c0, c1, c2, c3, c4, rfl⟩ := list5 (hsz.trans hC)
  obtain ⟨fuel, hf⟩ := h
  exact ⟨c0, c1, c2, c3, c4, fuel, rfl, hf⟩
set_option maxRecDepth 100000 in
theorem open_op {r : Reach} {b0 : Nat} {v : Value} {d : DataW H} {p : List MemPlace} (hv : Value.okWide Tryz.prog w r b0 51 v) (h : DataW.Trod enc Tryz.prog w base spare held 51 v d p) :
    ∃ (o : OpV) (A : Option Addr) (c : Nat) (l : List Nd), v = o.val A l.length c ∧ l.length ≤ c ∧ l.length ≤ 9223372036854775807 ∧ Rds (fun b => b < w.heap.size) w A (ndCells l) ∧ ∀ a ∈ l, a.small 9223372036854775807 := by
  obtain ⟨c0, c1, c2, c3, c4, fuel, rfl, hf⟩ := agg5 Tryz.underlying51 cells_lawsOp hv h
  obtain ⟨v0, n0, y0, e0, t0⟩ := field_one (cs := [c0, c1, c2, c3, c4]) Tryz.underlying51 hf 0 _ rfl rfl cells_int (by simp)
  obtain ⟨v1, n1, y1, e1, t1⟩ := field_one (cs := [c0, c1, c2, c3, c4]) Tryz.underlying51 hf 1 _ rfl rfl cells_int (by simp)
  obtain ⟨v2, n2, y2, e2, t2⟩ := field_one (cs := [c0, c1, c2, c3, c4]) Tryz.underlying51 hf 2 _ rfl rfl cells_lawsValue (by simp)
  obtain ⟨v3, n3, y3, e3, t3⟩ := field_one (cs := [c0, c1, c2, c3, c4]) Tryz.underlying51 hf 3 _ rfl rfl cells_int (by simp)
  obtain ⟨v4, n4, y4, e4, t4⟩ := field_one (cs := [c0, c1, c2, c3, c4]) Tryz.underlying51 hf 4 _ rfl rfl cells_int (by simp)
  obtain rfl := one_of e0 (show [c0, c1, c2, c3, c4][0]? = some c0 from rfl)
  obtain rfl := one_of e1 (show [v0, c1, c2, c3, c4][1]? = some c1 from rfl)
  obtain rfl := one_of e2 (show [v0, v1, c2, c3, c4][2]? = some c2 from rfl)
  obtain rfl := one_of e3 (show [v0, v1, v2, c3, c4][3]? = some c3 from rfl)
  obtain rfl := one_of e4 (show [v0, v1, v2, v3, c4][4]? = some c4 from rfl)
  obtain ⟨z0, h0, _⟩ := DataW.trod_int Tryz.underlying3 t0
  obtain ⟨z1, h1, _⟩ := DataW.trod_int Tryz.underlying3 t1
  obtain ⟨A, c, l, h2, r⟩ := open_value t2
  obtain ⟨z3, h3, _⟩ := DataW.trod_int Tryz.underlying3 t3
  obtain ⟨z4, h4, _⟩ := DataW.trod_int Tryz.underlying3 t4
  injection h0 with h0
  injection h1 with h1
  injection h3 with h3
  injection h4 with h4
  exact ⟨⟨z0, z1, z3, z4⟩, A, c, l, by rw [h0, h1, h2, h3, h4]; rfl, r⟩
end
end Go.Proofs.YtemcijhpmpdebaaGreatDoor
namespace Go.Proofs.YtemcijhpmpdebaaGreatDoor
open Go.RowKit Go.ChangeShapes Go.WideShapes Go.Deep Go.Joins
section
variable {H : Type} {enc : TypeId × Value → H} {w : World} {base : Nat} {spare : Nat → Bool} {held : Bool}
theorem list2 {α : Type} {l : List α} (h : l.length = 2) : ∃ a b, l = [a, b] := by
  match l, h with
  | [a, b], _ => exact ⟨a, b, rfl⟩
theorem list3 {α : Type} {l : List α} (h : l.length = 3) : ∃ a b c, l = [a, b, c] := by
  match l, h with
  | [a, b, c], _ => exact ⟨a, b, c, rfl⟩
theorem cells_bool : Tryz.prog.cellsOf 4 = 1 := by kernel_rfl
def StQ (w : World) (r : StR) : Prop := r.d.doc.length ≤ r.cap ∧ Rds (fun b => b < w.heap.size) w r.adr (ndCells r.d.doc) ∧ r.d.doc.length ≤ 9223372036854775807 ∧ ∀ a ∈ r.d.doc, a.small 9223372036854775807
theorem agg3 {P : Program} {r : Reach} {b0 : Nat} {v : Value} {d : DataW H} {p : List MemPlace} {t : TypeId} {fs : Array Field} (hs : P.underlying t = some (.struct fs)) (hC : P.cellsOf t = 3) (hv : Value.okWide P w r b0 t v) (h : DataW.Trod enc P w base spare held t v d p) :
    ∃ c0 c1 c2 fuel, v = .agg #[c0, c1, c2] ∧ DataW.trod enc P w base spare held fuel t [c0, c1, c2] = some (d, p) := by
  obtain ⟨cs, rfl, hsz⟩ := okWide_struct hs hv
  obtain ⟨l⟩ := cs
  obtain ⟨c0, c1, c2, rfl⟩ := list3 (hsz.trans hC)
  obtain ⟨fuel, hf⟩ := h
  exact ⟨c0, c1, c2, fuel, rfl, hf⟩
set_option maxRecDepth 100000 in
theorem open_intArg {r : Reach} {b0 : Nat} {v : Value} (hv : Value.okWide Tryz.prog w r b0 3 v) : ∃ n : Int, v = .int .i64 n ∧ -9223372036854775808 ≤ n ∧ n ≤ 9223372036854775807 := by
  simp only [Value.okWide, Tryz.underlying3, Cell.okWide] at hv
  cases v <;> simp [Cell.ok] at hv
  obtain ⟨rfl, h⟩ := hv
  have h2 : (-9223372036854775808 : Int) ≤ _ ∧ _ ≤ (9223372036854775807 : Int) := h
  exact ⟨_, rfl, h2⟩
end
end Go.Proofs.YtemcijhpmpdebaaGreatDoor
