/- Copies of rows of names and of parts: slices.Clone at strings and at pointers. (*val).clone: a value with rows of names and of parts of its own. -/
import Derived.Test.YtemcijhpmpdebaaGreatDoorClone
import Derived.Test.YtemcijhpmpdebaaGreatDoorVal2
import Derived.Deep.RegionWith
namespace Go.Proofs.YtemcijhpmpdebaaGreatDoor
open Go.RowKit
theorem infoStr : (Tryz.prog.info? 9).map (fun i => (i.zero, i.size, i.bytes)) = some (some (.string ⟨#[]⟩), 1, 16) := by kernel_rfl
theorem infoPtr : (Tryz.prog.info? 123).map (fun i => (i.zero, i.size, i.bytes)) = some (some (.pointer none), 1, 8) := by kernel_rfl
/-- A row of the call's own with these cells. -/
def RowClone (e : TypeId) (xs : List Value) (n : Nat) (w : World) (en : Ending) (w' : World) : Prop := ∃ A c, en = .returned (.slice A n c) ∧ n ≤ c ∧ Below w.heap.size w w' ∧ w'.ownsRow w.heap.size e 1 (.slice A n c) n xs

end Go.Proofs.YtemcijhpmpdebaaGreatDoor
namespace Go.Proofs.YtemcijhpmpdebaaGreatDoor
open Go.RowKit
/-- A value of the call's own: its block, its rows. -/
def Made (base : Nat) (w : World) (g : Nat) (kind num : Int) (text : ByteArray) (ns : List ByteArray) (A2 : Option Addr) (c2 : Nat) (ps : List Value) : Prop :=
  ∃ A1 c1, base ≤ g ∧ w.heap[g]? = some (.cells #[.int .i64 kind, .int .i64 num, .string text, .slice A1 ns.length c1, .slice A2 ps.length c2] 168 (0, 0)) ∧ ns.length ≤ c1 ∧ ps.length ≤ c2 ∧
    w.ownsRow base 9 1 (.slice A1 ns.length c1) ns.length (strs ns) ∧ w.ownsRow base 123 1 (.slice A2 ps.length c2) ps.length ps
def ClonePost (F : Nat → Prop) (t : Tree) (w : World) (e : Ending) (w' : World) : Prop :=
  ∃ g A2 c2 ps, e = .returned (.pointer (some ⟨g, 0, none⟩)) ∧ Below w.heap.size w w' ∧ Made w.heap.size w' g t.kind t.num t.text t.names A2 c2 ps ∧ TreesAt (fun b => F b ∧ b < w.heap.size) w' ps t.kids
theorem own_not_at {w : World} {base g n : Nat} {e T : TypeId} {s : Nat} {v : Value} {xs : List Value} {cs : Array Value} {fr : Nat × Nat} (h : w.ownsRow base e s v n xs) (hg : w.heap[g]? = some (.cells cs T fr)) (hne : e ≠ T) : ∀ k, v.ownBlock = some k → g ≠ k := by
  intro k hk eq
  subst eq
  rcases h.2 with ⟨e1, _⟩ | ⟨g', _, _, e1, _, hh, _⟩
  · rw [e1] at hk; cases hk
  · rw [e1] at hk
    injection hk with hk
    have hk' : g' = g := hk
    subst hk'
    rw [hg] at hh
    injection hh with hh
    injection hh with _ hh
    exact hne hh.symm
theorem own_apart {w : World} {b b' : Nat} {e e' : TypeId} {s s' n n' : Nat} {v v' : Value} {xs xs' : List Value} (h : w.ownsRow b e s v n xs) (h' : w.ownsRow b' e' s' v' n' xs') (hne : e ≠ e') : v'.ownBlock = none ∨ v'.ownBlock ≠ v.ownBlock := by
  cases hv : v'.ownBlock with
  | none => exact .inl rfl
  | some k => exact .inr fun eq => own_ne h h' hne k eq.symm hv
theorem strs_one (ns : List ByteArray) : ∀ u ∈ strs ns, u.oneCell' = true := by
  intro u hu
  obtain ⟨s, _, rfl⟩ := List.mem_map.1 hu
  rfl
theorem TreesAt.one {F : Nat → Prop} {w : World} : ∀ {ps : List Value} {ks : List Tree}, TreesAt F w ps ks → ∀ u ∈ ps, u.oneCell' = true
  | [], [], _, u, hu => by cases hu
  | p :: ps, k :: ks, h, u, hu => by
    simp only [TreesAt] at h
    rcases List.mem_cons.1 hu with rfl | hu
    · obtain ⟨b, _, _, _, _, _, rfl, _⟩ := h.1.open
      rfl
    · exact TreesAt.one h.2 u hu
  | [], _ :: _, h, _, _ => by simp [TreesAt] at h
  | _ :: _, [], h, _, _ => by simp [TreesAt] at h
theorem clone_fin {t : Tree} {F : Nat → Prop} {w w1 w2 w3 : World} {A1 A2 B1 B2 : Option Addr} {c1 c2 d1 d2 : Nat} {ps : List Value} (hb1 : Below w.heap.size w w1) (hs1 : w1.heap.size = w.heap.size + 1) (hb2 : Below w1.drew.heap.size w1.drew w2)
    (ho2 : w2.ownsRow w1.drew.heap.size 9 1 (.slice B1 t.names.length d1) t.names.length (strs t.names)) (hb3 : Below w2.heap.size w2 w3) (ho3 : w3.ownsRow w2.heap.size 123 1 (.slice B2 t.kids.length d2) t.kids.length ps)
    (K3 : w3.heap[w.heap.size]? = some (.cells #[.int .i64 t.kind, .int .i64 t.num, .string t.text, .slice A1 t.names.length c1, .slice A2 t.kids.length c2] 168 (0, 0))) (hd1 : t.names.length ≤ d1) (hd2 : t.kids.length ≤ d2) (hpl : ps.length = t.kids.length)
    (hts : TreesAt (fun b => F b ∧ b < w.heap.size) w ps t.kids) :
    ClonePost F t w (.returned (.pointer (some ⟨w.heap.size, 0, none⟩))) ((w3.setCell ⟨w.heap.size, 3, none⟩ (.slice B1 t.names.length d1)).setCell ⟨w.heap.size, 4, none⟩ (.slice B2 t.kids.length d2)) := by
  have h1 : w1.drew.heap.size = w.heap.size + 1 := hs1
  have n2 := hb2.size
  have hb12 : Below w.heap.size w w2 := below_then hb1.drew hb1.size hb2
  have hb13 : Below w.heap.size w w3 := below_then hb12 hb12.size hb3
  have ha : ∀ G : Nat → Prop, (∀ c, G c → c ≠ w.heap.size) → Agree G w3 ((w3.setCell ⟨w.heap.size, 3, none⟩ (.slice B1 t.names.length d1)).setCell ⟨w.heap.size, 4, none⟩ (.slice B2 t.kids.length d2)) := fun G hG => (Agree.of_setCell _ _ _ hG).trans (Agree.of_setCell _ _ _ hG)
  refine ⟨w.heap.size, B2, d2, ps, rfl, (hb13.setCell (Nat.le_refl _) _).setCell (Nat.le_refl _) _, ⟨B1, d1, Nat.le_refl _, ?_, hd1, by omega, ?_, ?_⟩, ?_⟩
  · rw [block_setCell (block_setCell K3 _ _) _ _, hpl]
    rfl
  · refine own_weaken (own_agree (own_below ho2 hb3) (ha (fun c => w.heap.size < c) (fun c h => by omega)) (fun k hk => ?_)) (by omega)
    have := (own_base ho2 k hk).1
    omega
  · rw [hpl]
    refine own_weaken (own_agree ho3 (ha (fun c => w.heap.size < c) (fun c h => by omega)) (fun k hk => ?_)) (by omega)
    have := (own_base ho3 k hk).1
    omega
  · refine (hts.frame (Agree.of_below hb13) (fun b h _ => h)).frame (ha _ (fun c h => by have h' := h.2; omega)) (fun b h _ => h)
end Go.Proofs.YtemcijhpmpdebaaGreatDoor
