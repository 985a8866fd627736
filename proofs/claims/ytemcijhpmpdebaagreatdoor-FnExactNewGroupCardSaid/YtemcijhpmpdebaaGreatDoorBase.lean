/- Plain words on memory, used by all walks of this seat: a row of cells that is read; what stays as it was. -/
import Derived.Test.YtemcijhpmpdebaaGreatDoorProg
import Derived.WalkKit
import Derived.WalkSpells
import Derived.WalkLawsBesides
import Derived.Lib.Hide
import Derived.BigQuiet
import Derived.Deep.QuietTactic
import Derived.IntWalk
import Derived.Maps.AppendAt
import Derived.Deep.AppendLies
namespace Go.Proofs.YtemcijhpmpdebaaGreatDoor
open Go.RowKit

/-- The cells of a row, from the address on, in a block that meets F. -/
def Rds (F : Nat → Prop) (w : World) (A : Option Addr) (vs : List Value) : Prop :=
  vs ≠ [] → ∃ b o, A = some ⟨b, o, none⟩ ∧ F b ∧ b < w.heap.size ∧ ∀ j v, vs[j]? = some v → w.cell? ⟨b, o + j, none⟩ = some v
/-- In w' all blocks of F are as they were in w. -/
structure Agree (F : Nat → Prop) (w w' : World) : Prop where
  size : w.heap.size ≤ w'.heap.size
  block : ∀ b, F b → b < w.heap.size → w'.heap[b]? = w.heap[b]?
theorem Agree.cell {F : Nat → Prop} {w w' : World} (h : Agree F w w') {b : Nat} (hF : F b) (hb : b < w.heap.size) (o : Nat) : w'.cell? ⟨b, o, none⟩ = w.cell? ⟨b, o, none⟩ :=
  World.cell?_of_block (a := ⟨b, o, none⟩) (h.block b hF hb)
theorem Agree.of_below {F : Nat → Prop} {w w' : World} (h : Below w.heap.size w w') : Agree F w w' := ⟨h.size, fun b _ hb => h.block b hb⟩
theorem Agree.refl (F : Nat → Prop) (w : World) : Agree F w w := ⟨Nat.le_refl _, fun _ _ _ => rfl⟩
theorem Agree.trans {F : Nat → Prop} {w w1 w2 : World} (h : Agree F w w1) (k : Agree F w1 w2) : Agree F w w2 :=
  ⟨Nat.le_trans h.size k.size, fun b hF hb => (k.block b hF (Nat.lt_of_lt_of_le hb h.size)).trans (h.block b hF hb)⟩
theorem Agree.of_grown {F : Nat → Prop} {w w' : World} {row : Option Nat} (h : w.grownBy w' row) (hr : ∀ b, F b → row ≠ some b) : Agree F w w' :=
  ⟨h.size, fun b hF hb => h.block b hb (fun e => hr b hF e.symm)⟩
theorem Agree.of_setCell {F : Nat → Prop} (w : World) (a : Addr) (u : Value) (hr : ∀ b, F b → b ≠ a.block) : Agree F w (w.setCell a u) :=
  ⟨by simp [World.setCell], fun b hF _ => Below.heap_setCell w a u b (hr b hF)⟩
theorem Agree.mono {F G : Nat → Prop} {w w' : World} (h : Agree F w w') (hG : ∀ b, G b → b < w.heap.size → F b) : Agree G w w' := ⟨h.size, fun b hb hl => h.block b (hG b hb hl) hl⟩
theorem Rds.nil (F : Nat → Prop) (w : World) (A : Option Addr) : Rds F w A [] := fun h => absurd rfl h
theorem Rds.frame {F : Nat → Prop} {w w1 : World} {A : Option Addr} {vs : List Value} (h : Rds F w A vs) (hb : Agree F w w1) : Rds F w1 A vs := by
  intro hv
  obtain ⟨b, o, e, hF, hl, hc⟩ := h hv
  exact ⟨b, o, e, hF, Nat.lt_of_lt_of_le hl hb.size, fun j v hj => (hb.cell hF hl _).trans (hc j v hj)⟩
theorem Rds.mono {F G : Nat → Prop} {w : World} {A : Option Addr} {vs : List Value} (h : Rds F w A vs) (hG : ∀ b, F b → b < w.heap.size → G b) : Rds G w A vs := by
  intro hv
  obtain ⟨b, o, e, hF, hl, hc⟩ := h hv
  exact ⟨b, o, e, hG b hF hl, hl, hc⟩
theorem Rds.below {F : Nat → Prop} {w w1 : World} {A : Option Addr} {vs : List Value} (h : Rds F w A vs) (hb : Below w.heap.size w w1) : Rds F w1 A vs := h.frame (Agree.of_below hb)
theorem Rds.at {F : Nat → Prop} {w : World} {b o : Nat} {vs : List Value} (h : Rds F w (some ⟨b, o, none⟩) vs) (j : Nat) (v : Value) (hj : vs[j]? = some v) : w.cell? ⟨b, o + j, none⟩ = some v := by
  obtain ⟨b', o', e, _, _, hc⟩ := h (by intro h0; subst h0; simp at hj)
  injection e with e
  injection e with e1 e2
  subst e1 e2
  exact hc j v hj
theorem Rds.open {F : Nat → Prop} {w : World} {A : Option Addr} {vs : List Value} (h : Rds F w A vs) (hv : vs ≠ []) : ∃ b o, A = some ⟨b, o, none⟩ ∧ F b ∧ b < w.heap.size := by
  obtain ⟨b, o, e, hF, hl, _⟩ := h hv
  exact ⟨b, o, e, hF, hl⟩
/-- A row of the call's own, as it is read. -/
theorem Rds.of_own {w : World} {base : Nat} {e : TypeId} {size n : Nat} {A : Option Addr} {c : Nat} {xs : List Value} (h : w.ownsRow base e size (.slice A n c) n xs) : Rds (fun b => base ≤ b) w A xs := by
  intro hx
  rcases h.2 with ⟨_, h0⟩ | ⟨g, cap, cur, hv, hb, hh, _⟩
  · have := h.1
    rw [h0] at this
    simp at this
    exact absurd this hx
  · injection hv with hA _ _
    subst hA
    refine ⟨g, 0, rfl, hb, (Array.getElem?_eq_some_iff.1 hh).1, fun j v hj => ?_⟩
    have := h.cells (g := g) rfl j v hj
    rwa [Addr.add_lit] at this

/-- A row of m cells that may be written, in a block of type T that meets F. -/
def WRow (F : Nat → Prop) (w : World) (T : TypeId) (m : Nat) (A : Option Addr) : Prop :=
  0 < m → ∃ g o cs, A = some ⟨g, o, none⟩ ∧ F g ∧ w.heap[g]? = some (.cells cs T (0, 0)) ∧ o + m ≤ cs.size
theorem WRow.frame {F : Nat → Prop} {w w1 : World} {T : TypeId} {m : Nat} {A : Option Addr} (h : WRow F w T m A) (ha : Agree F w w1) : WRow F w1 T m A := by
  intro hm
  obtain ⟨g, o, cs, e, hF, hh, hs⟩ := h hm
  exact ⟨g, o, cs, e, hF, (ha.block g hF (Array.getElem?_eq_some_iff.1 hh).1).trans hh, hs⟩
theorem WRow.mono {F G : Nat → Prop} {w : World} {T : TypeId} {m : Nat} {A : Option Addr} (h : WRow F w T m A) (hG : ∀ b, F b → b < w.heap.size → G b) : WRow G w T m A := by
  intro hm
  obtain ⟨g, o, cs, e, hF, hh, hs⟩ := h hm
  exact ⟨g, o, cs, e, hG g hF (Array.getElem?_eq_some_iff.1 hh).1, hh, hs⟩
/-- A row that may be read and written. -/
def Own (F : Nat → Prop) (w : World) (T : TypeId) (A : Option Addr) (vs : List Value) : Prop := Rds F w A vs ∧ WRow F w T vs.length A
theorem Own.frame {F : Nat → Prop} {w w1 : World} {T : TypeId} {A : Option Addr} {vs : List Value} (h : Own F w T A vs) (ha : Agree F w w1) : Own F w1 T A vs := ⟨h.1.frame ha, h.2.frame ha⟩
theorem Own.mono {F G : Nat → Prop} {w : World} {T : TypeId} {A : Option Addr} {vs : List Value} (h : Own F w T A vs) (hG : ∀ b, F b → b < w.heap.size → G b) : Own G w T A vs := ⟨h.1.mono hG, h.2.mono hG⟩
theorem Own.of_blk {w : World} {g : Nat} {L : List Value} {T : TypeId} (h : w.heap[g]? = some (.cells L.toArray T (0, 0))) : Own (fun b => b = g) w T (some ⟨g, 0, none⟩) L :=
  ⟨fun _ => ⟨g, 0, rfl, rfl, (Array.getElem?_eq_some_iff.1 h).1, fun j v hj => by simpa [World.cell?, h] using hj⟩, fun _ => ⟨g, 0, L.toArray, rfl, rfl, h, by simp⟩⟩
theorem Own.of_own {w : World} {base : Nat} {e : TypeId} {size n : Nat} {A : Option Addr} {c : Nat} {xs : List Value} (h : w.ownsRow base e size (.slice A n c) n xs) : Own (fun b => base ≤ b) w e A xs := by
  refine ⟨Rds.of_own h, fun hx => ?_⟩
  rcases h.2 with ⟨_, h0⟩ | ⟨g, cap, cur, hv, hb, hh, _⟩
  · have := h.1
    rw [h0] at this
    simp at this
    rw [this] at hx
    simp at hx
  · injection hv with hA _ _
    subst hA
    refine ⟨g, 0, cur, rfl, hb, hh, ?_⟩
    have hc := h.cells (g := g) rfl (xs.length - 1) (xs[xs.length - 1]'(by omega)) (by simp)
    rw [Addr.add_lit] at hc
    simp [World.cell?, hh] at hc
    obtain ⟨hc, _⟩ := Array.getElem?_eq_some_iff.1 hc
    omega

/-! ### A node -/
structure Nd where
  kind : Int
  num : Int
  text : ByteArray
  name : ByteArray
  up : Int
def Nd.cells (n : Nd) : List Value := [.int .i64 n.kind, .int .i64 n.num, .string n.text, .string n.name, .int .i64 n.up]
def Nd.val (n : Nd) : Value := .agg #[.int .i64 n.kind, .int .i64 n.num, .string n.text, .string n.name, .int .i64 n.up]
def holdsB (k : Int) : Bool := k == 6 || k == 7
def byteOK (b : UInt8) : Bool := decide (32 ≤ b.toNat) && decide (b.toNat ≤ 126)
def strOK (s : ByteArray) : Bool := decide (s.size ≤ 24) && s.data.toList.all byteOK
def nodeOKB (x : Nd) (up : Int) : Bool :=
  decide (1 ≤ x.kind ∧ x.kind ≤ 7) && (x.kind == 4 || x.num == 0) && (x.kind == 5 || x.text.toList.isEmpty) && (if up == 7 then strOK x.name else x.name.toList.isEmpty) && decide (-1000000000 ≤ x.num ∧ x.num ≤ 1000000000) && strOK x.text
theorem take_all (s : ByteArray) (k : Nat) (h : k < s.size) (ht : (s.data.toList.take k).all byteOK = true) (hk : byteOK s[k] = true) : (s.data.toList.take (k + 1)).all byteOK = true := by
  have : s.data.toList.take (k + 1) = s.data.toList.take k ++ [s[k]] := by
    rw [List.take_succ_eq_append_getElem (by simpa using h)]; rfl
  rw [this, List.all_append, ht]; simp [hk]
theorem not_all (s : ByteArray) (k : Nat) (h : k < s.size) (hk : byteOK s[k] = false) : s.data.toList.all byteOK = false := by
  rw [List.all_eq_false]
  have e : s[k] = s.data.toList[k]'(by simpa using h) := by rw [Array.getElem_toList]; rfl
  exact ⟨s[k], by rw [e]; exact List.getElem_mem _, by simp [hk]⟩
def ndCells (l : List Nd) : List Value := l.flatMap Nd.cells
theorem ndCells_length (l : List Nd) : (ndCells l).length = l.length * 5 := by
  induction l with
  | nil => rfl
  | cons x l ih => simp only [ndCells, List.flatMap_cons, List.length_append, List.length_cons] at ih ⊢; rw [ih]; simp [Nd.cells]; omega
theorem flat_get {α : Type} (f : α → List Value) (sz : Nat) (hf : ∀ x, (f x).length = sz) (l : List α) (k : Nat) (x : α) (h : l[k]? = some x) (j : Nat) (hj : j < sz) : (l.flatMap f)[k * sz + j]? = (f x)[j]? := by
  induction l generalizing k with
  | nil => simp at h
  | cons y l ih =>
    cases k with
    | zero =>
      simp at h
      subst h
      simp [List.flatMap_cons, List.getElem?_append_left (show j < (f y).length by rw [hf]; exact hj)]
    | succ k =>
      simp at h
      have := ih k h
      rw [List.flatMap_cons, List.getElem?_append_right (by rw [hf, Nat.succ_mul]; omega), hf, ← this]
      congr 1
      rw [Nat.succ_mul]; omega
theorem flat_len {α : Type} (f : α → List Value) (sz : Nat) (hf : ∀ x, (f x).length = sz) (l : List α) : (l.flatMap f).length = l.length * sz := by
  induction l with
  | nil => simp
  | cons x l ih => rw [List.flatMap_cons, List.length_append, ih, hf, List.length_cons, Nat.succ_mul, Nat.add_comm]
/-- Node k of a row of nodes, as it lies. -/
theorem nd_at {F : Nat → Prop} {w : World} {A : Option Addr} {l : List Nd} (hr : Rds F w A (ndCells l)) (k : Nat) (hk : k < l.length) :
    ∃ b o x, A = some ⟨b, o, none⟩ ∧ F b ∧ b < w.heap.size ∧ l[k]? = some x ∧ w.cell? ⟨b, o + k * 5, none⟩ = some (.int .i64 x.kind) ∧ w.cell? ⟨b, o + k * 5 + 1, none⟩ = some (.int .i64 x.num) ∧ w.cell? ⟨b, o + k * 5 + 2, none⟩ = some (.string x.text) ∧ w.cell? ⟨b, o + k * 5 + 3, none⟩ = some (.string x.name) ∧ w.cell? ⟨b, o + k * 5 + 4, none⟩ = some (.int .i64 x.up) := by
  have hx : l[k]? = some l[k] := by simp [hk]
  obtain ⟨b, o, e, hF, hl, hc⟩ := hr (by intro h0; have := ndCells_length l; rw [h0] at this; simp at this; omega)
  have g : ∀ j, j < 5 → ∀ v, (Nd.cells l[k])[j]? = some v → w.cell? ⟨b, o + (k * 5 + j), none⟩ = some v := by
    intro j hj v hv
    refine hc _ _ ?_
    rw [ndCells, flat_get Nd.cells 5 (fun _ => rfl) l k _ hx j hj]
    exact hv
  exact ⟨b, o, l[k], e, hF, hl, hx, g 0 (by omega) _ rfl, g 1 (by omega) _ rfl, g 2 (by omega) _ rfl, g 3 (by omega) _ rfl, g 4 (by omega) _ rfl⟩

theorem own_slice {w : World} {base n : Nat} {e : TypeId} {size : Nat} {v : Value} {xs : List Value} (h : w.ownsRow base e size v n xs) : ∃ A c, v = .slice A n c ∧ n ≤ c := by
  rcases h.2 with ⟨rfl, rfl⟩ | ⟨g, cap, cur, rfl, _, _, hc, _⟩
  · exact ⟨none, 0, rfl, Nat.le_refl _⟩
  · exact ⟨_, cap, rfl, hc⟩
/-! ### append of one element to a row of the call's own -/
section
variable {P : Program} {ops : Array Oper} {rest : List Oper} {o : Oper} {a : Act} {Q : Exit → Act → World → Prop}
theorem append_one {W : World} (base : Nat) (hgd : o.guard = none) (s x : Operand) (t e : TypeId) (z : Value) (size bytes : Nat)
    (ho : o.op = .call { callee := .builtin .append, args := #[s, x], argTypes := #[t, t] })
    (ht : P.underlying t = some (.slice e)) (hinfo : (P.info? e).map (fun i => (i.zero, i.size, i.bytes)) = some (some z, size, bytes)) (hz : z.cells.size = size) (hb0 : 0 < bytes) (hs0 : 0 < size)
    (v : Value) (n : Nat) (xs cs : List Value) (hs : a.eval s = v) {N : Nat} (hx : a.eval x = .slice (some ⟨N, 0, none⟩) 1 1) (hN : W.heap.size = N) (h1 : ∀ u ∈ cs, u.oneCell' = true) (hcs : cs.length = size)
    (HO : W.ownsRow base e size v n xs) (hbase : base ≤ W.heap.size) (hl : (n + 1) * bytes ≤ 140737488355328)
    (h : ∀ A1 c1 w1, n + 1 ≤ c1 → w1.ownsRow base e size (.slice A1 (n + 1) c1) (n + 1) (xs ++ cs) → W.grownBy w1 v.ownBlock → ((Value.slice A1 (n + 1) c1).ownBlock = v.ownBlock ∨ ∃ b, (Value.slice A1 (n + 1) c1).ownBlock = some b ∧ W.heap.size ≤ b) → wpList P ops Q rest (a.put o.dst (.slice A1 (n + 1) c1)) w1) :
    wpList P ops Q (o :: rest) a (W.alloc (.cells cs.toArray e)) := by
  obtain ⟨i0, hi, hzz⟩ := Option.map_eq_some_iff.1 hinfo
  simp only [Prod.mk.injEq] at hzz
  obtain ⟨hz0, hz1, hz2⟩ := hzz
  have hlen : n + 1 ≤ 140737488355328 := Nat.le_trans (Nat.le_mul_of_pos_right _ hb0) hl
  subst hN
  refine wpList_append_own_at (W.alloc (.cells cs.toArray e)) hgd s x t ho base e i0 z size bytes ht hi hz0 hz1 hz2 hz hs0 v n xs hs (HO.alloc _) ⟨W.heap.size, 0, none⟩ 1 1 cs hx (by rw [hcs, Nat.one_mul])
    (fun j u hj => (World.news_of_block (cs := cs.toArray) (t := e) (fr := (0, 0)) (heap_alloc_new W _)) j u (by simpa using hj)) h1 (by simp only [maxLen]; omega) hl (by simp; omega) ?_
  intro v1 w1 hown hg _ hat
  obtain ⟨A1, c1, rfl, hc1⟩ := own_slice hown
  refine h A1 c1 w1 hc1 hown (World.grownBy.trans (World.grownBy_alloc W _ _) hg) ?_
  rcases hat with hat | hat
  · exact .inl hat
  · exact .inr ⟨_, hat, by simp⟩
end
theorem own_base {w : World} {base : Nat} {e : TypeId} {size n : Nat} {v : Value} {xs : List Value} (h : w.ownsRow base e size v n xs) (k : Nat) (hk : v.ownBlock = some k) : base ≤ k ∧ k < w.heap.size := h.lt k hk
theorem own_below {w w1 : World} {base : Nat} {e : TypeId} {size n : Nat} {v : Value} {xs : List Value} (h : w.ownsRow base e size v n xs) (hb : Below w.heap.size w w1) : w1.ownsRow base e size v n xs := by
  refine h.kept (row := none) ⟨hb.os, hb.tape, hb.output, hb.size, fun i hi _ => hb.block i hi⟩ ?_
  cases v.ownBlock <;> simp
theorem own_agree {F : Nat → Prop} {w w1 : World} {base : Nat} {e : TypeId} {size n : Nat} {v : Value} {xs : List Value} (h : w.ownsRow base e size v n xs) (ha : Agree F w w1) (hF : ∀ k, v.ownBlock = some k → F k) : w1.ownsRow base e size v n xs := by
  refine ⟨h.1, ?_⟩
  rcases h.2 with h2 | ⟨g, cap, cur, hv, hg, hh, r⟩
  · exact .inl h2
  · refine .inr ⟨g, cap, cur, hv, hg, ?_, r⟩
    rw [ha.block g (hF g (by rw [hv]; rfl)) (Array.getElem?_eq_some_iff.1 hh).1]
    exact hh
theorem own_ne {w : World} {b b' : Nat} {e e' : TypeId} {s s' n n' : Nat} {v v' : Value} {xs xs' : List Value} (h : w.ownsRow b e s v n xs) (h' : w.ownsRow b' e' s' v' n' xs') (hne : e ≠ e') : ∀ k, v.ownBlock = some k → v'.ownBlock ≠ some k := by
  intro k hk hk'
  rcases h.2 with ⟨rfl, _⟩ | ⟨g, cap, cur, rfl, _, hh, _⟩
  · simp [Value.ownBlock] at hk
  · rcases h'.2 with ⟨rfl, _⟩ | ⟨g', cap', cur', rfl, _, hh', _⟩
    · simp [Value.ownBlock] at hk'
    · have e1 : g = k := by simpa [Value.ownBlock] using hk
      have e2 : g' = k := by simpa [Value.ownBlock] using hk'
      subst e1
      subst e2
      rw [hh] at hh'
      injection hh' with hh'
      injection hh' with _ ht
      exact hne ht
/-- A row of the call's own that holds something, opened. -/
theorem own_open {w : World} {base n c : Nat} {e : TypeId} {size : Nat} {A : Option Addr} {xs : List Value} (h : w.ownsRow base e size (.slice A n c) n xs) (hn : 0 < n) : ∃ g, A = some ⟨g, 0, none⟩ ∧ base ≤ g ∧ g < w.heap.size ∧ ∀ j v, xs[j]? = some v → w.cell? ⟨g, j, none⟩ = some v := by
  rcases h.2 with ⟨_, h0⟩ | ⟨g, cap, cur, hv, hb, hh, _⟩
  · omega
  · injection hv with hA _ _
    subst hA
    refine ⟨g, rfl, hb, (Array.getElem?_eq_some_iff.1 hh).1, fun j v hj => ?_⟩
    have := h.cells (g := g) rfl j v hj
    rw [Addr.add_lit] at this
    simpa using this
theorem cell_of_block {w : World} {b : Nat} {cs : Array Value} {T : TypeId} {fr : Nat × Nat} (h : w.heap[b]? = some (.cells cs T fr)) (j : Nat) : w.cell? ⟨b, j, none⟩ = cs[j]? := by
  simp [World.cell?, h]
theorem free_of_block {w : World} {b : Nat} {cs : Array Value} {T : TypeId} (h : w.heap[b]? = some (.cells cs T (0, 0))) (j : Nat) : w.frozen? ⟨b, j, none⟩ = false := by
  simp [World.frozen?, h]
theorem lt_of_block {w : World} {b : Nat} {o : Obj} (h : w.heap[b]? = some o) : b < w.heap.size := (Array.getElem?_eq_some_iff.1 h).1
theorem block_setCell {w : World} {b : Nat} {cs : Array Value} {T : TypeId} {fr : Nat × Nat} (h : w.heap[b]? = some (.cells cs T fr)) (j : Nat) (v : Value) : (w.setCell ⟨b, j, none⟩ v).heap[b]? = some (.cells (cs.setIfInBounds j v) T fr) := by
  simp [World.setCell, Array.getElem?_modify, h]
theorem block_agree {F : Nat → Prop} {w w1 : World} {b : Nat} {o : Obj} (h : w.heap[b]? = some o) (ha : Agree F w w1) (hF : F b) : w1.heap[b]? = some o := (ha.block b hF (lt_of_block h)).trans h
theorem block_below {w w1 : World} {b : Nat} {o : Obj} (h : w.heap[b]? = some o) (hb : Below w.heap.size w w1) : w1.heap[b]? = some o := (hb.block b (lt_of_block h)).trans h
theorem below_then {B : Nat} {w w1 w2 : World} (h : Below B w w1) (hB : B ≤ w1.heap.size) (k : Below w1.heap.size w1 w2) : Below B w w2 := h.trans (k.mono hB)
theorem nd_at2 {F : Nat → Prop} {w : World} {b o : Nat} {l : List Nd} (hr : Rds F w (some ⟨b, o, none⟩) (ndCells l)) (k : Nat) (hk : k < l.length) :
    ∃ x, l[k]? = some x ∧ w.cell? ⟨b, o + k * 5, none⟩ = some (.int .i64 x.kind) ∧ w.cell? ⟨b, o + k * 5 + 1, none⟩ = some (.int .i64 x.num) ∧ w.cell? ⟨b, o + k * 5 + 2, none⟩ = some (.string x.text) ∧ w.cell? ⟨b, o + k * 5 + 3, none⟩ = some (.string x.name) ∧ w.cell? ⟨b, o + k * 5 + 4, none⟩ = some (.int .i64 x.up) := by
  obtain ⟨b', o', x, e, _, _, h⟩ := nd_at hr k hk
  injection e with e
  injection e with e1 e2
  subst e1 e2
  exact ⟨x, h⟩
end Go.Proofs.YtemcijhpmpdebaaGreatDoor
