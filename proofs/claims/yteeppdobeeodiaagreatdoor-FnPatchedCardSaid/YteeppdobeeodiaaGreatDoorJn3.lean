/- Copies of rows of names and of parts: slices.Clone at strings and at pointers. (*val).clone: a value with rows of names and of parts of its own. -/
import Derived.Test.YteeppdobeeodiaaGreatDoorClone
import Derived.Test.YteeppdobeeodiaaGreatDoorVal2
import Derived.Deep.RegionWith
namespace Go.Proofs.YteeppdobeeodiaaGreatDoor
open Go.RowKit
theorem infoStr : (Tryz.prog.info? 9).map (fun i => (i.zero, i.size, i.bytes)) = some (some (.string ⟨#[]⟩), 1, 16) := by kernel_rfl
theorem infoPtr : (Tryz.prog.info? 36).map (fun i => (i.zero, i.size, i.bytes)) = some (some (.pointer none), 1, 8) := by kernel_rfl
/-- A row of the call's own with these cells. -/
def RowClone (e : TypeId) (xs : List Value) (n : Nat) (w : World) (en : Ending) (w' : World) : Prop := ∃ A c, en = .returned (.slice A n c) ∧ n ≤ c ∧ Below w.heap.size w w' ∧ w'.ownsRow w.heap.size e 1 (.slice A n c) n xs

set_option maxRecDepth 100000 in
theorem cloneRowS (xs : List Value) (h1 : ∀ u ∈ xs, u.oneCell' = true) (n : Nat) (hn : xs.length = n) (hl : n ≤ 1000000000) (F : Nat → Prop) (A : Option Addr) (c : Nat) (w : World) (hr : Rds F w A xs) :
    Calls Tryz.prog 68 #[.slice A n c] w (RowClone 9 xs n w) := by
  subst hn
  rcases A with _ | ad
  · have heq : ∀ W : World, (binOp .eql 41 (.slice none 0 c) (.slice none 0 0)).run Tryz.prog W = .ok (.bool true) W := fun W => Lib.run_eql_slice_nil (P := Tryz.prog) W 41 9 none 0 c 0 0 Tryz.underlying41
    have hl0 : xs = [] := by
      cases xs with
      | nil => rfl
      | cons x l => obtain ⟨b, o, h, _⟩ := hr (by simp); cases h
    subst hl0
    go_enter Tryz.func68, Tryz.ntmps68
    go_wp2
    go_ret
    exact ⟨none, 0, rfl, Nat.le_refl _, Below.refl _ _, World.ownsRow_nil _ _ _ _⟩
  · have heq : ∀ W : World, (binOp .eql 41 (.slice (some ad) xs.length c) (.slice none 0 0)).run Tryz.prog W = .ok (.bool false) W := fun W => Lib.run_eql_slice_nil (P := Tryz.prog) W 41 9 (some ad) xs.length c 0 0 Tryz.underlying41
    have HR := Lib.hid hr
    have H1 := Lib.hid h1
    have hbn : Below w.heap.size w (w.alloc (.cells #[] 9 (0, 0))) := (Below.refl _ _).alloc (Nat.le_refl _) _
    have hown : (w.alloc (.cells #[] 9 (0, 0))).ownsRow w.heap.size 9 1 (.slice (some ⟨w.heap.size, 0, none⟩) 0 0) 0 [] := own_empty w _ _
    have HBN := Lib.hid hbn
    have HOWN := Lib.hid hown
    clear hr hbn hown h1
    go_enter Tryz.func68, Tryz.ntmps68
    go_wp2_with (at_builtin; refine append_rows w.heap.size rfl (.tmp 5) (.tmp 6) 41 9 _ 1 16 rfl Tryz.underlying41 infoStr rfl (by decide) _ 0 [] rfl HOWN.out (some ad) xs.length c xs rfl (Nat.mul_one _).symm (HR.out.frame (Agree.of_below HBN.out)) H1.out (by simp only [maxLen]; omega) (by omega) HBN.out.size ?_; intro A1 c1 w1 hc1 hown1 hg1 hat1)
    have HO1 := Lib.hid hown1
    have HB1 := Lib.hid (HBN.out.grown hg1 HBN.out.size (fun k hk => by have h := own_base HOWN.out k hk; omega))
    clear hown1 hg1 hat1
    go_wp2
    go_ret
    have h1 := HO1.out
    rw [Nat.zero_add, List.nil_append] at h1
    exact ⟨A1, c1, rfl, by omega, HB1.out, h1⟩

set_option maxRecDepth 100000 in
theorem cloneRowP (xs : List Value) (h1 : ∀ u ∈ xs, u.oneCell' = true) (n : Nat) (hn : xs.length = n) (hl : n ≤ 1000000000) (F : Nat → Prop) (A : Option Addr) (c : Nat) (w : World) (hr : Rds F w A xs) :
    Calls Tryz.prog 69 #[.slice A n c] w (RowClone 36 xs n w) := by
  subst hn
  rcases A with _ | ad
  · have heq : ∀ W : World, (binOp .eql 67 (.slice none 0 c) (.slice none 0 0)).run Tryz.prog W = .ok (.bool true) W := fun W => Lib.run_eql_slice_nil (P := Tryz.prog) W 67 36 none 0 c 0 0 Tryz.underlying67
    have hl0 : xs = [] := by
      cases xs with
      | nil => rfl
      | cons x l => obtain ⟨b, o, h, _⟩ := hr (by simp); cases h
    subst hl0
    go_enter Tryz.func69, Tryz.ntmps69
    go_wp2
    go_ret
    exact ⟨none, 0, rfl, Nat.le_refl _, Below.refl _ _, World.ownsRow_nil _ _ _ _⟩
  · have heq : ∀ W : World, (binOp .eql 67 (.slice (some ad) xs.length c) (.slice none 0 0)).run Tryz.prog W = .ok (.bool false) W := fun W => Lib.run_eql_slice_nil (P := Tryz.prog) W 67 36 (some ad) xs.length c 0 0 Tryz.underlying67
    have HR := Lib.hid hr
    have H1 := Lib.hid h1
    have hbn : Below w.heap.size w (w.alloc (.cells #[] 36 (0, 0))) := (Below.refl _ _).alloc (Nat.le_refl _) _
    have hown : (w.alloc (.cells #[] 36 (0, 0))).ownsRow w.heap.size 36 1 (.slice (some ⟨w.heap.size, 0, none⟩) 0 0) 0 [] := own_empty w _ _
    have HBN := Lib.hid hbn
    have HOWN := Lib.hid hown
    clear hr hbn hown h1
    go_enter Tryz.func69, Tryz.ntmps69
    go_wp2_with (at_builtin; refine append_rows w.heap.size rfl (.tmp 5) (.tmp 6) 67 36 _ 1 8 rfl Tryz.underlying67 infoPtr rfl (by decide) _ 0 [] rfl HOWN.out (some ad) xs.length c xs rfl (Nat.mul_one _).symm (HR.out.frame (Agree.of_below HBN.out)) H1.out (by simp only [maxLen]; omega) (by omega) HBN.out.size ?_; intro A1 c1 w1 hc1 hown1 hg1 hat1)
    have HO1 := Lib.hid hown1
    have HB1 := Lib.hid (HBN.out.grown hg1 HBN.out.size (fun k hk => by have h := own_base HOWN.out k hk; omega))
    clear hown1 hg1 hat1
    go_wp2
    go_ret
    have h1 := HO1.out
    rw [Nat.zero_add, List.nil_append] at h1
    exact ⟨A1, c1, rfl, by omega, HB1.out, h1⟩
end Go.Proofs.YteeppdobeeodiaaGreatDoor
namespace Go.Proofs.YteeppdobeeodiaaGreatDoor
open Go.RowKit
/-- A value of the call's own: its block, its rows. -/
def Made (base : Nat) (w : World) (g : Nat) (kind num : Int) (text : ByteArray) (ns : List ByteArray) (A2 : Option Addr) (c2 : Nat) (ps : List Value) : Prop :=
  ∃ A1 c1, base ≤ g ∧ w.heap[g]? = some (.cells #[.int .i64 kind, .int .i64 num, .string text, .slice A1 ns.length c1, .slice A2 ps.length c2] 69 (0, 0)) ∧ ns.length ≤ c1 ∧ ps.length ≤ c2 ∧
    w.ownsRow base 9 1 (.slice A1 ns.length c1) ns.length (strs ns) ∧ w.ownsRow base 36 1 (.slice A2 ps.length c2) ps.length ps
def ClonePost (F : Nat → Prop) (t : Tree) (w : World) (e : Ending) (w' : World) : Prop :=
  ∃ g A2 c2 ps, e = .returned (.pointer (some ⟨g, 0, none⟩)) ∧ Below w.heap.size w w' ∧ Made w.heap.size w' g t.kind t.num t.text t.names A2 c2 ps ∧ TreesAt (fun b => F b ∧ b < w.heap.size) w' ps t.kids
theorem own_not_at {w : World} {base g n : Nat} {e T : TypeId} {s : Nat} {v : Value} {xs : List Value} {cs : Array Value} {fr : Nat × Nat} (h : w.ownsRow base e s v n xs) (hg : w.heap[g]? = some (.cells cs T fr)) (hne : e ≠ T) : ∀ k, v.ownBlock = some k → g ≠ k := by
  intro k hk eq
  subst eq
  rcases h.2 with ⟨e1, _⟩ | ⟨g', _, _, e1, _, hh, _⟩
  · rw [e1] at hk; cases hk
  · rw [e1] at hk
    injection hk with hk
    have hk' : g' = g := hk
    subst hk'
    rw [hg] at hh
    injection hh with hh
    injection hh with _ hh
    exact hne hh.symm
theorem own_apart {w : World} {b b' : Nat} {e e' : TypeId} {s s' n n' : Nat} {v v' : Value} {xs xs' : List Value} (h : w.ownsRow b e s v n xs) (h' : w.ownsRow b' e' s' v' n' xs') (hne : e ≠ e') : v'.ownBlock = none ∨ v'.ownBlock ≠ v.ownBlock := by
  cases hv : v'.ownBlock with
  | none => exact .inl rfl
  | some k => exact .inr fun eq => own_ne h h' hne k eq.symm hv
theorem strs_one (ns : List ByteArray) : ∀ u ∈ strs ns, u.oneCell' = true := by
  intro u hu
  obtain ⟨s, _, rfl⟩ := List.mem_map.1 hu
  rfl
theorem TreesAt.one {F : Nat → Prop} {w : World} : ∀ {ps : List Value} {ks : List Tree}, TreesAt F w ps ks → ∀ u ∈ ps, u.oneCell' = true
  | [], [], _, u, hu => by cases hu
  | p :: ps, k :: ks, h, u, hu => by
    simp only [TreesAt] at h
    rcases List.mem_cons.1 hu with rfl | hu
    · obtain ⟨b, _, _, _, _, _, rfl, _⟩ := h.1.open
      rfl
    · exact TreesAt.one h.2 u hu
  | [], _ :: _, h, _, _ => by simp [TreesAt] at h
  | _ :: _, [], h, _, _ => by simp [TreesAt] at h
theorem clone_fin {t : Tree} {F : Nat → Prop} {w w1 w2 w3 : World} {A1 A2 B1 B2 : Option Addr} {c1 c2 d1 d2 : Nat} {ps : List Value} (hb1 : Below w.heap.size w w1) (hs1 : w1.heap.size = w.heap.size + 1) (hb2 : Below w1.drew.heap.size w1.drew w2)
    (ho2 : w2.ownsRow w1.drew.heap.size 9 1 (.slice B1 t.names.length d1) t.names.length (strs t.names)) (hb3 : Below w2.heap.size w2 w3) (ho3 : w3.ownsRow w2.heap.size 36 1 (.slice B2 t.kids.length d2) t.kids.length ps)
    (K3 : w3.heap[w.heap.size]? = some (.cells #[.int .i64 t.kind, .int .i64 t.num, .string t.text, .slice A1 t.names.length c1, .slice A2 t.kids.length c2] 69 (0, 0))) (hd1 : t.names.length ≤ d1) (hd2 : t.kids.length ≤ d2) (hpl : ps.length = t.kids.length)
    (hts : TreesAt (fun b => F b ∧ b < w.heap.size) w ps t.kids) :
    ClonePost F t w (.returned (.pointer (some ⟨w.heap.size, 0, none⟩))) ((w3.setCell ⟨w.heap.size, 3, none⟩ (.slice B1 t.names.length d1)).setCell ⟨w.heap.size, 4, none⟩ (.slice B2 t.kids.length d2)) := by
  have h1 : w1.drew.heap.size = w.heap.size + 1 := hs1
  have n2 := hb2.size
  have hb12 : Below w.heap.size w w2 := below_then hb1.drew hb1.size hb2
  have hb13 : Below w.heap.size w w3 := below_then hb12 hb12.size hb3
  have ha : ∀ G : Nat → Prop, (∀ c, G c → c ≠ w.heap.size) → Agree G w3 ((w3.setCell ⟨w.heap.size, 3, none⟩ (.slice B1 t.names.length d1)).setCell ⟨w.heap.size, 4, none⟩ (.slice B2 t.kids.length d2)) := fun G hG => (Agree.of_setCell _ _ _ hG).trans (Agree.of_setCell _ _ _ hG)
  refine ⟨w.heap.size, B2, d2, ps, rfl, (hb13.setCell (Nat.le_refl _) _).setCell (Nat.le_refl _) _, ⟨B1, d1, Nat.le_refl _, ?_, hd1, by omega, ?_, ?_⟩, ?_⟩
  · rw [block_setCell (block_setCell K3 _ _) _ _, hpl]
    rfl
  · refine own_weaken (own_agree (own_below ho2 hb3) (ha (fun c => w.heap.size < c) (fun c h => by omega)) (fun k hk => ?_)) (by omega)
    have := (own_base ho2 k hk).1
    omega
  · rw [hpl]
    refine own_weaken (own_agree ho3 (ha (fun c => w.heap.size < c) (fun c h => by omega)) (fun k hk => ?_)) (by omega)
    have := (own_base ho3 k hk).1
    omega
  · refine (hts.frame (Agree.of_below hb13) (fun b h _ => h)).frame (ha _ (fun c h => by have h' := h.2; omega)) (fun b h _ => h)
set_option maxRecDepth 100000 in
set_option maxHeartbeats 1600000 in
theorem clone_any (t : Tree) (hn : t.names.length ≤ 1000000000) (hk : t.kids.length ≤ 1000000000) (F : Nat → Prop) (v : Value) (w : World) (ht : TreeAt F w v t) :
    Calls Tryz.prog 41 #[v] w (ClonePost F t w) := by
  obtain ⟨b, A1, c1, A2, c2, ps, rfl, hF, hl, h0, h1, h2, h3, g3, r3, h4, g4, r4, hts⟩ := ht.open
  have hpl := hts.length
  have hone := hts.one
  have hb1 : Below w.heap.size w (w.alloc (.cells #[.int .i64 t.kind, .int .i64 t.num, .string t.text, .slice A1 t.names.length c1, .slice A2 t.kids.length c2] 69 (0, 0))) := (Below.refl _ _).alloc (Nat.le_refl _) _
  have k1 := heap_alloc_new w (.cells #[.int .i64 t.kind, .int .i64 t.num, .string t.text, .slice A1 t.names.length c1, .slice A2 t.kids.length c2] 69 (0, 0))
  have q4 := (World.cell?_of_block (a := ⟨b, 4, none⟩) (hb1.block b hl)).trans h4
  have q3 := (World.cell?_of_block (a := ⟨b, 3, none⟩) (hb1.block b hl)).trans h3
  have hs1 : (w.alloc (.cells #[.int .i64 t.kind, .int .i64 t.num, .string t.text, .slice A1 t.names.length c1, .slice A2 t.kids.length c2] 69 (0, 0))).heap.size = w.heap.size + 1 := by simp
  have R3 := Lib.hid (fun W (hb : Below w.heap.size w W) => r3.frame (Agree.of_below hb))
  have R4 := Lib.hid (fun W (hb : Below w.heap.size w W) => r4.frame (Agree.of_below hb))
  have HTS := Lib.hid (hts.frame (w1 := w) (G := fun b => F b ∧ b < w.heap.size) (Agree.refl _ _) (fun b h h' => ⟨h, h'⟩))
  have HONE := Lib.hid hone
  have HB1 := Lib.hid hb1
  have HK1 := Lib.hid k1
  clear r3 r4 hts hone hb1 k1 ht
  go_enter Tryz.func41, Tryz.ntmps41
  go_wp2_with fail
  generalize w.alloc (.cells #[.int .i64 t.kind, .int .i64 t.num, .string t.text, .slice A1 t.names.length c1, .slice A2 t.kids.length c2] 69 (0, 0)) = w1 at HB1 HK1 q3 q4 hs1 ⊢
  clear h0 h1 h2 h3 h4
  have hl1 : b < w1.heap.size := by omega
  go_region_with (first
    | (go_at_call 68
       refine (cloneRowS (strs t.names) (strs_one _) t.names.length (by simp [strs]) hn F A1 c1 _ (R3.out _ (by exact HB1.out.drew))).mono ?_
       rintro e w2 ⟨B1, d1, rfl, hd1, hb2, ho2⟩
       have z4 := (World.cell?_of_block (a := ⟨b, 4, none⟩) (hb2.block b hl1)).trans q4
       have hk2 := (hb2.block _ (lt_of_block HK1.out)).trans HK1.out
       have hb12 : Below w.heap.size w w2 := below_then HB1.out.drew HB1.out.size hb2)
    | (go_at_call 69
       refine (cloneRowP ps HONE.out t.kids.length hpl hk F A2 c2 _ (R4.out _ (by exact hb12))).mono ?_
       rintro e w3 ⟨B2, d2, rfl, hd2, hb3, ho3⟩
       have K3 := block_below hk2 hb3
       have y3 := cell_of_block K3 3
       have y4 := cell_of_block K3 4
       have f3 := free_of_block K3 3
       have f4 := free_of_block K3 4
       simp at y3 y4))
  all_goals
    have HF := Lib.hid (clone_fin HB1.out hs1 hb2 ho2 hb3 ho3 K3 hd1 hd2 hpl HTS.out)
    go_wp2
    go_ret
    exact HF.out
end Go.Proofs.YteeppdobeeodiaaGreatDoor
