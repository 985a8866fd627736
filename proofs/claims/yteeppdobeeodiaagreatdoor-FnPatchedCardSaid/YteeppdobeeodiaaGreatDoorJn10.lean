/- (*val).join: what the program joins is what the plain words say. The program's JoinPatches. -/
import Derived.Test.YteeppdobeeodiaaGreatDoorJn6
import Derived.Test.YteeppdobeeodiaaGreatDoorJn9
import Derived.Deep.DeepCutAuto
import Derived.Deep.CutBlock
namespace Go.Proofs.YteeppdobeeodiaaGreatDoor
open Go.RowKit
/-- The blocks that the parts of a value of the call's own may lie in: those of F, and new ones, but not the row of the parts itself. -/
def Fk (F : Nat → Prop) (base : Nat) (A : Option Addr) : Nat → Prop := fun b => (F b ∧ b < base ∨ base ≤ b) ∧ ∀ a, A = some a → b ≠ a.block
def Fg (F : Nat → Prop) (base : Nat) : Nat → Prop := fun b => F b ∧ b < base ∨ base ≤ b
theorem Made.tree {base : Nat} {w : World} {g : Nat} {kind num : Int} {text : ByteArray} {ns : List ByteArray} {A2 : Option Addr} {c2 : Nat} {ps : List Value} {ks : List Tree} {F : Nat → Prop} (h : Made base w g kind num text ns A2 c2 ps) (ht : TreesAt (Fk F base A2) w ps ks) :
    TreeAt (Fg F base) w (.pointer (some ⟨g, 0, none⟩)) (.mk kind num text ns ks) := by
  obtain ⟨A1, c1, hg, hh, h1, h2, h3, h4⟩ := h
  have hl := ht.length
  have hcell : ∀ j, w.cell? ⟨g, j, none⟩ = _ := cell_of_block hh
  simp only [TreeAt]
  refine ⟨g, A1, c1, A2, c2, ps, rfl, .inr hg, lt_of_block hh, by rw [hcell]; rfl, by rw [hcell]; rfl, by rw [hcell]; rfl, by rw [hcell]; rfl, h1, (Rds.of_own h3).mono (fun b hb _ => .inr hb), by rw [hcell, ← hl]; rfl, by omega, (Rds.of_own h4).mono (fun b hb _ => .inr hb), ht.frame (Agree.refl _ _) (fun b hb _ => hb.1)⟩
theorem Made.below {base : Nat} {w w1 : World} {g : Nat} {kind num : Int} {text : ByteArray} {ns : List ByteArray} {A2 : Option Addr} {c2 : Nat} {ps : List Value} (h : Made base w g kind num text ns A2 c2 ps) (hb : Below w.heap.size w w1) : Made base w1 g kind num text ns A2 c2 ps := by
  obtain ⟨A1, c1, hg, hh, h1, h2, h3, h4⟩ := h
  exact ⟨A1, c1, hg, block_below hh hb, h1, h2, own_below h3 hb, own_below h4 hb⟩
theorem Made.weaken {base base' : Nat} {w : World} {g : Nat} {kind num : Int} {text : ByteArray} {ns : List ByteArray} {A2 : Option Addr} {c2 : Nat} {ps : List Value} (h : Made base w g kind num text ns A2 c2 ps) (hb : base' ≤ base) : Made base' w g kind num text ns A2 c2 ps := by
  obtain ⟨A1, c1, hg, hh, h1, h2, h3, h4⟩ := h
  exact ⟨A1, c1, by omega, hh, h1, h2, own_weaken h3 hb, own_weaken h4 hb⟩
/-- The row of the parts lies behind base. -/
theorem Made.row {base : Nat} {w : World} {g : Nat} {kind num : Int} {text : ByteArray} {ns : List ByteArray} {A2 : Option Addr} {c2 : Nat} {ps : List Value} (h : Made base w g kind num text ns A2 c2 ps) : ∀ a, A2 = some a → base ≤ a.block ∧ a.block < w.heap.size := by
  obtain ⟨A1, c1, hg, hh, h1, h2, h3, h4⟩ := h
  intro a ha
  subst ha
  exact own_base h4 a.block rfl
theorem TreesAt.set {F : Nat → Prop} {w : World} : ∀ {ps : List Value} {ks : List Tree} (_ : TreesAt F w ps ks) (i : Nat) {p : Value} {k : Tree} (_ : TreeAt F w p k), TreesAt F w (ps.set i p) (ks.set i k)
  | [], [], _, i, _, _, _ => by simp [TreesAt]
  | p :: ps, k :: ks, h, i, _, _, hk => by
    simp only [TreesAt] at h
    cases i with
    | zero => simp only [List.set_cons_zero, TreesAt]; exact ⟨hk, h.2⟩
    | succ i => simp only [List.set_cons_succ, TreesAt]; exact ⟨h.1, TreesAt.set h.2 i hk⟩
  | [], _ :: _, h, _, _, _, _ => by simp [TreesAt] at h
  | _ :: _, [], h, _, _, _, _ => by simp [TreesAt] at h
/-- Part i of the row of the parts, as it lies in its block. -/
theorem Made.at {base : Nat} {w : World} {g : Nat} {kind num : Int} {text : ByteArray} {ns : List ByteArray} {A2 : Option Addr} {c2 : Nat} {ps : List Value} (h : Made base w g kind num text ns A2 c2 ps) (i : Nat) (hi : i < ps.length) :
    ∃ gk p, A2 = some ⟨gk, 0, none⟩ ∧ gk ≠ g ∧ base ≤ gk ∧ ps[i]? = some p ∧ w.cell? ⟨gk, i, none⟩ = some p ∧ w.frozen? ⟨gk, i, none⟩ = false ∧ ∀ u : Value, u.oneCell' = true → Made base (w.setCell ⟨gk, i, none⟩ u) g kind num text ns A2 c2 (ps.set i u) := by
  obtain ⟨A1, c1, hg, hh, h1, h2, h3, h4⟩ := h
  have hn4 := own_not_at h4 hh (by decide)
  have hne := own_ne h3 h4 (by decide)
  have hp : ps[i]? = some ps[i] := by simp [hi]
  rcases h4.2 with ⟨_, h0⟩ | ⟨gk, cap, cur, e, hb, hk, hnc, hcm, hcs, htk⟩
  · omega
  · injection e with e1 _ e3
    subst e1 e3
    have hgk : gk ≠ g := fun e => hn4 gk rfl e.symm
    have hc := h4.cells (g := gk) rfl i _ hp
    rw [Addr.add_lit, Nat.zero_add] at hc
    refine ⟨gk, ps[i], rfl, hgk, hb, hp, hc, free_of_block hk i, fun u hu => ?_⟩
    have ha : ∀ G : Nat → Prop, (∀ c, G c → c ≠ gk) → Agree G w (w.setCell ⟨gk, i, none⟩ u) := fun G hG => Agree.of_setCell _ _ _ hG
    refine ⟨A1, c1, hg, by rw [List.length_set]; exact block_agree hh (ha (fun c => c ≠ gk) (fun _ h => h)) (fun e => hgk e.symm), h1, by rw [List.length_set]; exact h2, own_agree h3 (ha (fun c => c ≠ gk) (fun _ h => h)) (fun k hk' e => hne k hk' (by rw [e]; rfl)), ?_⟩
    rw [List.length_set]
    refine ⟨by rw [List.length_set]; exact h4.1, .inr ⟨gk, c2, _, rfl, hb, block_setCell hk i u, hnc, hcm, by simpa using hcs, ?_⟩⟩
    rw [Array.toList_setIfInBounds, List.take_set, htk]
theorem join_eq (p q : Tree) : Tree.join p q = if q.kind = 7 then (if p.kind = 7 then (Tree.joinL p.names p.kids q.names q.kids).map (fun r => .mk 7 0 emptyB r.1 r.2) else none) else some q := by
  cases q
  rw [Tree.join]
  rfl
theorem join_step {pn : List ByteArray} {pk : List Tree} {ns : List ByteArray} {ks : List Tree} {i : Nat} {nm : ByteArray} {x : Tree} (hn : ns[i]? = some nm) (hk : ks[i]? = some x) :
    Tree.joinL pn pk (ns.drop i) (ks.drop i) = if pn[insPos pn nm]? = some nm then
      (match pk[insPos pn nm]? with
      | some y => match Tree.join y x with
        | some z => Tree.joinL pn (pk.set (insPos pn nm) z) (ns.drop (i + 1)) (ks.drop (i + 1))
        | none => none
      | none => none)
    else Tree.joinL (ins (insPos pn nm) nm pn) (ins (insPos pn nm) x pk) (ns.drop (i + 1)) (ks.drop (i + 1)) := by
  obtain ⟨h1, e1⟩ := List.getElem?_eq_some_iff.1 hn
  obtain ⟨h2, e2⟩ := List.getElem?_eq_some_iff.1 hk
  rw [List.drop_eq_getElem_cons h1, List.drop_eq_getElem_cons h2, e1, e2, Tree.joinL]
  rfl
theorem join_end {pn : List ByteArray} {pk : List Tree} {ns : List ByteArray} {ks : List Tree} {i : Nat} (h : ns.length ≤ i) : Tree.joinL pn pk (ns.drop i) (ks.drop i) = some (pn, pk) := by
  rw [List.drop_eq_nil_of_le h]
  cases ks.drop i <;> rw [Tree.joinL] <;> simp
def JoinPost (F : Nat → Prop) (p q : Tree) (w : World) (e : Ending) (w' : World) : Prop :=
  ∃ rv, e = .returned rv ∧ Below w.heap.size w w' ∧ OptAt (Fg F w.heap.size) w' rv (Tree.join p q)
def JoinSpec (q : Tree) : Prop := q.ok = true → ∀ (p : Tree) (F : Nat → Prop) (v qv : Value) (w : World), p.ok = true → p.count + q.count ≤ 1000000 → TreeAt F w v p → TreeAt F w qv q → Calls Tryz.prog 21 #[v, qv] w (JoinPost F p q w)
structure JnInv (F : Nat → Prop) (p q : Tree) (w wx : World) (i g : Nat) (A : Option Addr) (c : Nat) (ps : List Value) (pn : List ByteArray) (pk : List Tree) : Prop where
  made : Made w.heap.size wx g 7 0 emptyB pn A c ps
  trees : TreesAt (Fk F w.heap.size A) wx ps pk
  ok : MapOK pn pk
  eq : Tree.joinL p.names p.kids q.names q.kids = Tree.joinL pn pk (q.names.drop i) (q.kids.drop i)
  cnt : Tree.countL pk + Tree.countL (q.kids.drop i) ≤ Tree.countL p.kids + Tree.countL q.kids
  bel : Below w.heap.size w wx
theorem fk_of_new {F : Nat → Prop} {B base : Nat} {A : Option Addr} (_hB : B ≤ base) (hA : ∀ a, A = some a → base ≤ a.block) : ∀ b, (Fg F B b) ∧ b < base → Fk F B A b := by
  rintro b ⟨h1, h2⟩
  exact ⟨h1, fun a ha e => by have := hA a ha; omega⟩
theorem kid_at2 {F G : Nat → Prop} {w : World} {A : Option Addr} {ps : List Value} {ks : List Tree} (hr : Rds F w A ps) (ht : TreesAt G w ps ks) (i : Nat) (hi : i < ks.length) :
    ∃ b o p k, A = some ⟨b, o, none⟩ ∧ b < w.heap.size ∧ w.cell? ⟨b, o + i, none⟩ = some p ∧ TreeAt G w p k ∧ ks[i]? = some k ∧ k ∈ ks := by
  obtain ⟨p, hp, hk⟩ := ht.get i ks[i] (by simp [hi])
  obtain ⟨b, o, e, _, hl, hc⟩ := hr (by intro h0; subst h0; simp at hp)
  exact ⟨b, o, p, ks[i], e, hl, hc i p hp, hk, by simp [hi], List.getElem_mem hi⟩
theorem countL_drop {ks : List Tree} {i : Nat} {x : Tree} (h : ks[i]? = some x) : Tree.countL (ks.drop i) = x.count + Tree.countL (ks.drop (i + 1)) := by
  obtain ⟨h1, e1⟩ := List.getElem?_eq_some_iff.1 h
  rw [List.drop_eq_getElem_cons h1, e1, Tree.countL]
theorem JnInv.put {F : Nat → Prop} {p q : Tree} {w wx w4 : World} {i g g4 : Nat} {A A4 : Option Addr} {c c4 : Nat} {ps ps4 : List Value} {pn : List ByteArray} {pk : List Tree} {s : ByteArray} {x : Tree} (h : JnInv F p q w wx i g A c ps pn pk)
    (hs : q.names[i]? = some s) (hx : q.kids[i]? = some x) (hf : ¬ pn[insPos pn s]? = some s) (hso : strOK s = true) (hxo : x.ok = true) (hb : Below wx.heap.size wx w4)
    (hm : Made wx.heap.size w4 g4 7 0 emptyB (ins (insPos pn s) s pn) A4 c4 ps4) (ht : TreesAt (fun b => Fg F w.heap.size b ∧ b < wx.heap.size) w4 ps4 (ins (insPos pn s) x pk)) :
    JnInv F p q w w4 (i + 1) g4 A4 c4 ps4 (ins (insPos pn s) s pn) (ins (insPos pn s) x pk) := by
  have hsz := h.bel.size
  have hr := hm.row
  refine ⟨hm.weaken hsz, ht.frame (Agree.refl _ _) (fun b hb _ => fk_of_new hsz (fun a ha => (hr a ha).1) b hb), h.ok.ins hf hso hxo, ?_, ?_, below_then h.bel hsz hb⟩
  · rw [h.eq, join_step hs hx, if_neg hf]
  · have h1 := h.cnt
    rw [countL_drop hx] at h1
    rw [countL_ins]
    omega
theorem JnInv.set {F : Nat → Prop} {p q : Tree} {w wx w4 : World} {i g gk : Nat} {A : Option Addr} {c : Nat} {ps : List Value} {pn : List ByteArray} {pk : List Tree} {s : ByteArray} {x y z : Tree} {rv : Value} (h : JnInv F p q w wx i g A c ps pn pk)
    (hs : q.names[i]? = some s) (hx : q.kids[i]? = some x) (hf : pn[insPos pn s]? = some s) (hxo : x.ok = true) (hy : pk[insPos pn s]? = some y) (hj : Tree.join y x = some z) (hb : Below wx.heap.size wx w4) (hA : A = some ⟨gk, 0, none⟩)
    (ht : TreeAt (Fg (Fk F w.heap.size A) wx.heap.size) w4 rv z) : JnInv F p q w (w4.setCell ⟨gk, insPos pn s, none⟩ rv) (i + 1) g A c (ps.set (insPos pn s) rv) pn (pk.set (insPos pn s) z) := by
  have hsz := h.bel.size
  have hyo : y.ok = true := (okL_iff pk).1 h.ok.ok y (List.mem_of_getElem? hy)
  obtain ⟨hzo, hzc⟩ := join_ok x y z hyo hxo hj
  have hlt : insPos pn s < ps.length := by
    have := (List.getElem?_eq_some_iff.1 hy).1
    rw [h.trees.length]
    exact this
  obtain ⟨gk', _, e, _, hbk, _, _, _, hset⟩ := (h.made.below hb).at (insPos pn s) hlt
  rw [hA] at e
  injection e with e
  injection e with e1
  subst e1
  have hkl : gk < wx.heap.size := (h.made.row _ hA).2
  have h1c : rv.oneCell' = true := by obtain ⟨_, _, _, _, _, _, rfl, _⟩ := ht.open; rfl
  have hz : TreeAt (Fk F w.heap.size A) w4 rv z := ht.frame (Agree.refl _ _) (fun b hb' _ => by
    rcases hb' with h1 | h1
    · exact h1.1
    · exact ⟨.inr (by omega), fun a ha e => by rw [hA] at ha; injection ha with ha; subst ha; have e' : b = gk := e; omega⟩)
  refine ⟨hset rv h1c, ((h.trees.below hb).set _ hz).frame (Agree.of_setCell _ _ _ (fun b hb' => hb'.2 ⟨gk, 0, none⟩ hA)) (fun b h _ => h), h.ok.set _ hzo, ?_, ?_, (below_then h.bel hsz hb).setCell hbk _⟩
  · rw [h.eq, join_step hs hx, if_pos hf, hy]
    simp only [hj]
  · have h1 := h.cnt
    rw [countL_drop hx] at h1
    have h2 := countL_set pk (insPos pn s) z y hy
    omega
theorem agree_drawn (F : Nat → Prop) (w : World) : Agree F w w.drew := ⟨Nat.le_refl _, fun _ _ _ => rfl⟩
theorem TreeAt.drawn {F : Nat → Prop} {w : World} {v : Value} {t : Tree} (h : TreeAt F w v t) : TreeAt F w.drew v t := h.frame (agree_drawn F w) (fun _ h _ => h)
theorem map_zero {t : Tree} (h : t.ok = true) (hk : t.kind = 7) : t.num = 0 ∧ t.text = emptyB := by
  obtain ⟨k, n, x, ns, ks⟩ := t
  simp at hk
  subst hk
  simp [Tree.ok] at h
  exact ⟨h.1.1.1.1.1.1, empty_eq _ (by simpa using h.1.1.1.1.1.2)⟩
set_option maxRecDepth 100000 in
set_option maxHeartbeats 4000000 in
theorem join_any : ∀ q, JoinSpec q := Tree.ind fun q ih hq p F v qv w hp hcount htv htq => by
  have HV := Lib.hid htv
  have HQ := Lib.hid htq
  obtain ⟨b, A1, c1, A2, c2, ps, rfl, hF, hbl, h0, h1, h2, h3, g3, r3, h4, g4, r4, hts⟩ := htv.open
  obtain ⟨b', A1', c1', A2', c2', ps', rfl, hF', hbl', h0', h1', h2', h3', g3', r3', h4', g4', r4', hts'⟩ := htq.open
  by_cases hqk : q.kind = 7
  case neg =>
    go_enter Tryz.func21, Tryz.ntmps21
    go_wp2
    go_ret
    refine ⟨_, rfl, Below.refl _ _, ?_⟩
    have e : Tree.join p q = some q := by rw [join_eq, if_neg hqk]
    rw [e]
    exact HQ.out.frame (Agree.refl _ _) (fun b h h' => .inl ⟨h, h'⟩)
  have HQK := Lib.hid hqk
  by_cases hpk : p.kind = 7
  case neg =>
    rw [hqk] at h0'
    go_enter Tryz.func21, Tryz.ntmps21
    go_wp2
    go_ret
    refine ⟨_, rfl, Below.refl _ _, ?_⟩
    have e : Tree.join p q = none := by rw [join_eq, if_pos HQK.out, if_neg hpk]
    rw [e]
    rfl
  have hmq := Tree.ok_map hq hqk
  have hmp := Tree.ok_map hp hpk
  obtain ⟨hz1, hz2⟩ := map_zero hp hpk
  have hcq := q.count_eq
  have hcp := p.count_eq
  have hkq := Tree.kids_le_count q.kids
  have hkp := Tree.kids_le_count p.kids
  have e0 : Tree.join p q = (Tree.joinL p.names p.kids q.names q.kids).map (fun r => .mk 7 0 emptyB r.1 r.2) := by rw [join_eq, if_pos hqk, if_pos hpk]
  have HE := Lib.hid e0
  have HC := Lib.hid (clone_any p (by have := hmp.len; omega) (by omega) F _ w htv)
  rw [hqk] at h0'
  rw [hpk] at h0
  have HMQ := Lib.hid hmq
  have HMP := Lib.hid hmp
  have HZ := Lib.hid (And.intro hz1 hz2)
  have HCC := Lib.hid (show 1 + Tree.countL p.kids + (1 + Tree.countL q.kids) ≤ 1000000 by omega)
  have HIH := Lib.hid ih
  have HR3' := Lib.hid (fun W (hb : Below w.heap.size w W) => r3'.frame (Agree.of_below hb))
  have HR4' := Lib.hid (fun W (hb : Below w.heap.size w W) => r4'.frame (Agree.of_below hb))
  have HTS' := Lib.hid (fun W (hb : Below w.heap.size w W) => hts'.frame (G := fun b => F b ∧ b < w.heap.size) (Agree.of_below hb) (fun _ h h' => ⟨h, h'⟩))
  have HPK := Lib.hid hpk
  clear r3 r4 hts htv htq ih r3' r4' hts' e0 hmq hmp hz1 hz2 hcq hcp hqk hpk hq hp hcount hkq hkp
  go_enter Tryz.func21, Tryz.ntmps21
  go_wp2_with fail
  refine HC.out.mono ?_
  rintro e w2 ⟨g, B2, d2, qs, rfl, hb2, hmade, htr⟩
  have y3' := (World.cell?_of_block (a := ⟨b', 3, none⟩) (hb2.block b' hbl')).trans h3'
  have hinv0 : JnInv F p q w w2 0 g B2 d2 qs p.names p.kids := by
    have hz := HZ.out
    rw [HPK.out, hz.1, hz.2] at hmade
    have hr := hmade.row
    exact ⟨hmade, htr.frame (Agree.refl _ _) (fun b h _ => ⟨.inl h, fun a ha e => by have := (hr a ha).1; have := h.2; omega⟩), HMP.out, by simp, by simp, hb2⟩
  have HINV0 := Lib.hid hinv0
  clear hinv0 hmade htr hb2 HZ HC
  go_wp2
  clear h0 h1 h2 h3 h4 y3'
  go_loopw [5, 29] (fun ov iv wx => ∃ (i g : Nat) (A : Option Addr) (c : Nat) (ps : List Value) (pn : List ByteArray) (pk : List Tree), ov = .pointer (some ⟨g, 0, none⟩) ∧ iv = .int .i64 (i : Int) ∧ i ≤ q.names.length ∧ Hid (JnInv F p q w wx i g A c ps pn pk)) (fun _ iv _ => q.names.length - (intOf iv).toNat)
  case atStart => exact ⟨0, g, B2, d2, qs, p.names, p.kids, rfl, rfl, Nat.zero_le _, HINV0.out⟩
  case round =>
    clear HINV0
    obtain ⟨i, g, A, c, ps, pn, pk, rfl, rfl, hi, hinv⟩ := hrel
    have HI := Lib.hid hinv
    have hbx := HI.out.bel
    have HTREE := Lib.hid (HI.out.made.tree HI.out.trees)
    have hpl : pn.length ≤ 1000000 ∧ pk.length ≤ 1000000 := by
      have h1 := HI.out.cnt
      have h2 := HCC.out
      have h3 := Tree.kids_le_count pk
      have h4 := HI.out.ok.len
      omega
    have hcond : q.names.length = q.kids.length := HMQ.out.len
    by_cases hlt : i < q.names.length
    · obtain ⟨bn, on, s, rfl, hnl, n0, hs, hsm⟩ := name_at (HR3'.out _ hbx) i hlt
      obtain ⟨bk, ok, xp, x, rfl, hkl, k0, hxt, hx, hxm⟩ := kid_at2 (HR4'.out _ hbx) (HTS'.out _ hbx) i (by omega)
      have y4 := (World.cell?_of_block (a := ⟨b', 4, none⟩) (hbx.block b' hbl')).trans h4'
      have hltk : i < q.kids.length := by omega
      have hqn : q.names.length ≤ 1000000 := by have h1 := HCC.out; have h2 := Tree.kids_le_count q.kids; omega
      have HSS := Lib.hid hs
      have HSX := Lib.hid hx
      have HXT := Lib.hid hxt
      have HXM := Lib.hid hxm
      have HSOK := Lib.hid (show strOK s = true by have := HMQ.out.str; rw [List.all_eq_true] at this; exact this s hsm)
      have HXOK := Lib.hid (show x.ok = true from (okL_iff q.kids).1 HMQ.out.ok x hxm)
      have HCND := Lib.hid hcond
      have HA := Lib.hid (show Calls Tryz.prog 42 #[.pointer (some ⟨g, 0, none⟩), .string s] wr (AtPost pn s wr) from at_any (.mk 7 0 emptyB pn pk) (by show pn.length ≤ _; omega) HI.out.ok.sorted s _ _ wr HTREE.out)
      clear hs hx hxt hxm hsm hinv hbx hcond
      go_wp2_with fail
      refine HA.out.mono ?_
      rintro e w' ⟨rfl, rfl⟩
      clear HA
      have hpos := insPos_le pn s
      by_cases hf : pn[insPos pn s]? = some s
      case neg =>
        rw [decide_eq_false hf]
        have HP := Lib.hid (put_any (.mk 7 0 emptyB pn pk) rfl HI.out.ok.len hpl.1 HI.out.ok.sorted s hf x (Fg F w.heap.size) _ xp wr HTREE.out (HXT.out.frame (Agree.refl _ _) (fun b h _ => .inl h)))
        have HF := Lib.hid hf
        clear hf
        go_wp2_with fail
        refine HP.out.mono ?_
        rintro e w4 ⟨g4, A4, c4, ps4, rfl, hb4, hmade4, htr4⟩
        have HINV := Lib.hid (HI.out.put HSS.out HSX.out HF.out HSOK.out HXOK.out hb4 hmade4 htr4)
        clear hb4 hmade4 htr4
        go_wp2
        go_roundw
        case rel => exact ⟨i + 1, g4, A4, c4, ps4, _, _, rfl, by go_num, by omega, HINV.out⟩
        case measure => simp [intOf]; omega
      case pos =>
        rw [decide_eq_true hf]
        have HF := Lib.hid hf
        have hplt : insPos pn s < pk.length := by
          have := (List.getElem?_eq_some_iff.1 hf).1
          have := HI.out.ok.len
          omega
        have hy : pk[insPos pn s]? = some (pk[insPos pn s]'hplt) := by simp [hplt]
        generalize pk[insPos pn s]'hplt = y at hy
        have hpslt : insPos pn s < ps.length := by rw [HI.out.trees.length]; exact hplt
        obtain ⟨gk, yp, hA, hgkg, hgkb, hyp, hyc, hyf, _⟩ := HI.out.made.at (insPos pn s) hpslt
        obtain ⟨yp', hyp', hyt⟩ := HI.out.trees.get _ y hy
        obtain rfl : yp = yp' := by rw [hyp] at hyp'; injection hyp'
        have hyo : y.ok = true := (okL_iff pk).1 HI.out.ok.ok y (List.mem_of_getElem? hy)
        have hcy := Tree.countL_mem pk y (List.mem_of_getElem? hy)
        have hbnd : y.count + x.count ≤ 1000000 := by
          have h1 := HI.out.cnt
          rw [countL_drop HSX.out] at h1
          have h2 := HCC.out
          omega
        have hgkl := (HI.out.made.row _ hA).2
        have hsz0 := HI.out.bel.size
        have hxt2 : TreeAt (Fk F w.heap.size A) wr xp x := HXT.out.frame (Agree.refl _ _) (fun b h _ => ⟨.inl h, fun a ha e => by rw [hA] at ha; injection ha with ha; subst ha; have e' : b = gk := e; have := h.2; omega⟩)
        have HJ := Lib.hid (HIH.out x HXM.out HXOK.out y (Fk F w.heap.size A) yp xp wr.drew hyo hbnd hyt.drawn hxt2.drawn)
        have HDR := Lib.hid (show Below wr.heap.size wr wr.drew from (Below.refl _ _).drew)
        have HDS := Lib.hid (show wr.drew.heap.size = wr.heap.size from rfl)
        have HA2 := Lib.hid hA
        have HY := Lib.hid hy
        obtain ⟨Bn, cn, hgb, hkg, hn1, hn2, _, _⟩ := HI.out.made
        have z4 := cell_of_block hkg 4
        have hgl := lt_of_block hkg
        simp at z4
        rw [hA] at z4
        have HKG := Lib.hid hkg
        clear hf hy hyt hyp hyp' hxt2 hkg hA hcy hn1 hn2 hyo
        go_wp2
        go_still_tail 14, (by kernel_rfl)
        change wpList _ _ _ _ _ wr.drew
        generalize wr.drew = wd at HJ HDR HDS ⊢
        go_wp2_with fail
        refine HJ.out.mono ?_
        rintro e w4 ⟨rv, rfl, hb4, hopt⟩
        have hb4' := below_then HDR.out HDR.out.size hb4
        rw [HDS.out] at hopt
        have hk4 := block_below HKG.out hb4'
        have z4 := cell_of_block hk4 4
        simp at z4
        rw [HA2.out] at z4
        have u4 := (World.cell?_of_block (a := ⟨gk, insPos pn s, none⟩) (hb4'.block gk hgkl)).trans hyc
        have f4 := (World.frozen?_of_block (a := ⟨gk, insPos pn s, none⟩) (hb4'.block gk hgkl)).trans hyf
        have HB4 := Lib.hid hb4'
        clear hb4 hb4' hk4 hyc hyf HJ HDR HDS
        cases hj : Tree.join y x with
        | none =>
          rw [hj] at hopt
          obtain rfl : rv = .pointer none := hopt
          have HJN := Lib.hid hj
          clear hj
          have heq := run_eql_nil_nil_val
          go_wp2
          go_ret
          refine ⟨_, rfl, below_then HI.out.bel HI.out.bel.size HB4.out, ?_⟩
          have e : Tree.join p q = none := by
            rw [HE.out, HI.out.eq, join_step HSS.out HSX.out, if_pos HF.out, HY.out]
            simp only [HJN.out]
            rfl
          rw [e]
          rfl
        | some z =>
          rw [hj] at hopt
          have hzt : TreeAt (Fg (Fk F w.heap.size A) wr.heap.size) w4 rv z := hopt
          have HINV := Lib.hid (HI.out.set HSS.out HSX.out HF.out HXOK.out HY.out hj HB4.out HA2.out hzt)
          obtain ⟨br, _, _, _, _, _, rfl, _⟩ := hzt.open
          have heq := run_eql_ptr_nil br
          clear hj hopt hzt
          go_wp2
          go_roundw
          case rel => exact ⟨i + 1, g, A, c, _, pn, _, rfl, by go_num, by omega, HINV.out⟩
          case measure => simp [intOf]; omega
    · obtain rfl : i = q.names.length := by omega
      have e : Tree.join p q = some (.mk 7 0 emptyB pn pk) := by
        rw [HE.out, HI.out.eq, join_end (Nat.le_refl _)]
        rfl
      have HEE := Lib.hid e
      clear e hinv hbx hcond
      go_wp2
      go_ret
      refine ⟨_, rfl, HI.out.bel, ?_⟩
      rw [HEE.out]
      exact HTREE.out
end Go.Proofs.YteeppdobeeodiaaGreatDoor
namespace Go.Proofs.YteeppdobeeodiaaGreatDoor
open Go.RowKit
/-- What a function of two values tells, that does op on the trees. -/
def TwoYes (op : Tree → Tree → Option Tree) (lp lq l : List Nd) : Prop := ∃ tp tq t, IsGood lp tp ∧ IsGood lq tq ∧ op tp tq = some t ∧ t.good = true ∧ l = t.flat emptyB (-1) 0
def TwoRes (op : Tree → Tree → Option Tree) (lp lq l : List Nd) (f : Bool) : Prop := (f = true ∧ TwoYes op lp lq l) ∨ (f = false ∧ l = [] ∧ ∀ l', ¬ TwoYes op lp lq l')
theorem isGood_one {l : List Nd} {t t' : Tree} (h : IsGood l t) (h' : IsGood l t') : t = t' := flat_inj h.1 h.2.1 h'.1 h'.2.1
section
variable {op : Tree → Tree → Option Tree} {lp lq l l' : List Nd} {f f' : Bool}
theorem TwoYes.one (h : TwoYes op lp lq l) (h' : TwoYes op lp lq l') : l = l' := by
  obtain ⟨tp, tq, t, h1, h2, h3, _, rfl⟩ := h
  obtain ⟨tp', tq', t', g1, g2, g3, _, rfl⟩ := h'
  obtain rfl := isGood_one h1 g1
  obtain rfl := isGood_one h2 g2
  rw [h3] at g3
  injection g3 with g3
  rw [g3]
theorem TwoRes.one (h : TwoRes op lp lq l f) (h' : TwoRes op lp lq l' f') : l = l' ∧ f = f' := by
  rcases h with ⟨rfl, h⟩ | ⟨rfl, rfl, h⟩
  · rcases h' with ⟨rfl, h'⟩ | ⟨rfl, rfl, h'⟩
    · exact ⟨h.one h', rfl⟩
    · exact absurd h (h' _)
  · rcases h' with ⟨rfl, h'⟩ | ⟨rfl, rfl, h'⟩
    · exact absurd h' (h _)
    · exact ⟨rfl, rfl⟩
theorem told_res {tp tq : Tree} (hp : IsGood lp tp) (hq : IsGood lq tq) (h : Told (op tp tq) l f) : TwoRes op lp lq l f := by
  rcases h with ⟨rfl, t, h1, h2, h3⟩ | ⟨rfl, rfl, h1⟩
  · exact .inl ⟨rfl, tp, tq, t, hp, hq, h1, h2, h3⟩
  · refine .inr ⟨rfl, rfl, ?_⟩
    rintro l' ⟨tp', tq', t', g1, g2, g3, g4, _⟩
    obtain rfl := isGood_one hp g1
    obtain rfl := isGood_one hq g2
    rw [g3] at h1
    exact absurd g4 (by rw [show t'.good = false from h1]; simp)
theorem two_none (h : (∀ t, ¬ IsGood lp t) ∨ ∀ t, ¬ IsGood lq t) : TwoRes op lp lq [] false := by
  refine .inr ⟨rfl, rfl, ?_⟩
  rintro l' ⟨tp, tq, _, h1, h2, _⟩
  rcases h with h | h
  · exact h _ h1
  · exact h _ h2
end
def TwoPost (op : Tree → Tree → Option Tree) (lp lq : List Nd) (w : World) (e : Ending) (w' : World) : Prop := ∃ l v f, e = .returned (.tuple #[.agg #[v], .bool f]) ∧ TwoRes op lp lq l f ∧ NdOwn l w v w'
def SzNd (l : List Nd) : Prop := ∀ x ∈ l, x.text.size ≤ 9223372036854775807 ∧ x.name.size ≤ 9223372036854775807
def JpCut (lp lq : List Nd) (w w1 : World) (v1 v2 : Value) (wx : World) : Prop := ∃ o1 o2, OptAt (fun b => w.heap.size ≤ b) wx v1 o1 ∧ OptAt (fun b => w.heap.size ≤ b) wx v2 o2 ∧ ValOf lp o1 ∧ ValOf lq o2 ∧ Below w1.heap.size w1 wx
theorem OptAt.frame {F G : Nat → Prop} {w w1 : World} {v : Value} {o : Option Tree} (h : OptAt F w v o) (hb : Agree F w w1) (hG : ∀ b, F b → b < w.heap.size → G b) : OptAt G w1 v o := by
  cases o with
  | none => exact h
  | some t => exact TreeAt.frame hb hG (show TreeAt F w v t from h)
theorem jp_cut {lp lq : List Nd} {w w1 w2 w3 : World} {v1 v2 : Value} {o1 o2 : Option Tree} (h1 : Below w.heap.size w w1) (hb2 : Below w1.drew.heap.size w1.drew w2) (hb3 : Below w2.heap.size w2 w3) (ho1 : OptAt (fun b => w1.drew.heap.size ≤ b) w2 v1 o1) (hv1 : ValOf lp o1) (ho2 : OptAt (fun b => w2.heap.size ≤ b) w3 v2 o2) (hv2 : ValOf lq o2) : JpCut lp lq w w1 v1 v2 w3 := by
  have hs : w.heap.size ≤ w1.heap.size := h1.size
  have hs2 : w1.heap.size ≤ w2.heap.size := hb2.size
  have e : w1.drew.heap.size = w1.heap.size := rfl
  have hb12 : Below w1.heap.size w1 w2 := below_then (Below.refl _ _).drew (Nat.le_refl _) hb2
  exact ⟨o1, o2, ho1.frame (Agree.of_below hb3) (fun b h _ => by have h' : w1.drew.heap.size ≤ b := h; show w.heap.size ≤ b; omega), ho2.frame (Agree.refl _ _) (fun b h _ => by have h' : w2.heap.size ≤ b := h; show w.heap.size ≤ b; omega), hv1, hv2, below_then hb12 hs2 hb3⟩
set_option maxRecDepth 100000 in
set_option maxHeartbeats 4000000 in
theorem joinPatches_any (lp lq : List Nd) (hp : lp.length ≤ 1000000000) (hq : lq.length ≤ 1000000000) (hsp : SzNd lp) (hsq : SzNd lq) (F : Nat → Prop) (A1 A2 : Option Addr) (c1 c2 : Nat) (hc1 : lp.length ≤ c1) (hc2 : lq.length ≤ c2) (w : World) (hr1 : Rds F w A1 (ndCells lp)) (hr2 : Rds F w A2 (ndCells lq)) (htab : Tabs w.heap.size w) :
    Calls Tryz.prog 6 #[.agg #[.slice A1 lp.length c1], .agg #[.slice A2 lq.length c2]] w (TwoPost Tree.join lp lq w) := by
  have H1 := Lib.hid (fun W (hb : Below w.heap.size w W) => valOf_any lp (by omega) hsp F A1 c1 hc1 W (hr1.frame (Agree.of_below hb)) ((htab.below hb).mono hb.size))
  have H2 := Lib.hid (fun W (hb : Below w.heap.size w W) => valOf_any lq (by omega) hsq F A2 c2 hc2 W (hr2.frame (Agree.of_below hb)) ((htab.below hb).mono hb.size))
  have HT := Lib.hid (fun W (hb : Below w.heap.size w W) => (htab.below hb).mono hb.size)
  clear hr1 hr2 htab hsp hsq
  obtain ⟨w1, hw⟩ : ∃ w1, w1 = ((w.alloc (.cells #[.slice A1 lp.length c1] 25 (0, 0))).alloc (.cells #[.slice A2 lq.length c2] 25 (0, 0))).alloc (.cells #[.slice none 0 0] 25 (0, 0)) := ⟨_, rfl⟩
  have hb1 : Below w.heap.size w w1 := by rw [hw]; exact (((Below.refl _ _).alloc (Nat.le_refl _) _).alloc (by simp) _).alloc (by simp <;> omega) _
  have kp : w1.heap[w.heap.size]? = some (.cells #[.slice A1 lp.length c1] 25 (0, 0)) := by rw [hw]; (repeat (first | with_reducible assumption | (with_reducible refine blk_new _ ?_; (first | rfl | (simp; done) | (simp; omega))) | with_reducible apply block_setCell | (with_reducible refine blk_skip _ _ ?_ ?_; rotate_left; (first | (simp; done) | (simp; omega))) | with_reducible refine blk_old ?_))
  have kq : w1.heap[w.heap.size + 1]? = some (.cells #[.slice A2 lq.length c2] 25 (0, 0)) := by rw [hw]; (repeat (first | with_reducible assumption | (with_reducible refine blk_new _ ?_; (first | rfl | (simp; done) | (simp; omega))) | with_reducible apply block_setCell | (with_reducible refine blk_skip _ _ ?_ ?_; rotate_left; (first | (simp; done) | (simp; omega))) | with_reducible refine blk_old ?_))
  have kr : w1.heap[w.heap.size + 1 + 1]? = some (.cells #[.slice none 0 0] 25 (0, 0)) := by rw [hw]; (repeat (first | with_reducible assumption | (with_reducible refine blk_new _ ?_; (first | rfl | (simp; done) | (simp; omega))) | with_reducible apply block_setCell | (with_reducible refine blk_skip _ _ ?_ ?_; rotate_left; (first | (simp; done) | (simp; omega))) | with_reducible refine blk_old ?_))
  have hs1 : w1.heap.size = w.heap.size + 3 := by rw [hw]; simp
  have HW := Lib.hid hw
  have xp : w1.cell? ⟨w.heap.size, 0, none⟩ = some (.slice A1 lp.length c1) := cell_of_block kp 0
  have xq : w1.cell? ⟨w.heap.size + 1, 0, none⟩ = some (.slice A2 lq.length c2) := cell_of_block kq 0
  have HB1 := Lib.hid hb1
  have HKQ := Lib.hid kq
  have HKR := Lib.hid kr
  clear hw hb1 kp kq kr
  go_enter Tryz.func6, Tryz.ntmps6
  go_wp2_with fail
  rw [← HW.out]
  clear HW
  go_cut [6, 7] (fun x y wx => ∃ v1 v2, x = v1 ∧ y = v2 ∧ JpCut lp lq w w1 v1 v2 wx)
  case first =>
    refine wp_region_any (by kernel_rfl) ?_
    change wpAny _ _ _ _ _ _ _ (World.drew _)
    (refine wpAny_ready (rs := [0, 2]) (by kernel_rfl) (by simp) ?_; refine AllReady.cons rfl (fun K hK => ?_) (AllReady.cons rfl (fun K hK => ?_) (AllReady.nil)))
    · go_simp
      refine hK _ _ ?_
      clear hK K
      (refine wpAny_ready (rs := [1, 2]) (by kernel_rfl) (by simp) ?_; refine AllReady.cons rfl (fun K hK => ?_) (AllReady.cons rfl (fun K hK => ?_) (AllReady.nil)))
      · go_simp
        refine (H1.out _ (by exact HB1.out.drew)).mono ?_
        rintro e w2 ⟨hb2, o1, v1, rfl, ho1, hv1⟩
        have hkq2 := (hb2.block _ (lt_of_block HKQ.out)).trans HKQ.out
        have xq2 : w2.cell? ⟨w.heap.size + 1, 0, none⟩ = some (.slice A2 lq.length c2) := cell_of_block hkq2 0
        have hb12 : Below w.heap.size w w2 := below_then HB1.out.drew HB1.out.size hb2
        go_simp
        refine hK _ _ ?_
        clear hK K
        (refine wpAny_ready (rs := [2]) (by kernel_rfl) (by simp) ?_; refine AllReady.cons rfl (fun K hK => ?_) (AllReady.nil))
        go_simp
        refine hK _ _ ?_
        clear hK K
        (refine wpAny_ready (rs := [3]) (by kernel_rfl) (by simp) ?_; refine AllReady.cons rfl (fun K hK => ?_) (AllReady.nil))
        go_simp
        refine (H2.out _ hb12).mono ?_
        rintro e w3 ⟨hb3, o2, v2, rfl, ho2, hv2⟩
        have hcut : JpCut lp lq w w1 v1 v2 w3 := jp_cut HB1.out hb2 hb3 ho1 hv1 ho2 hv2
        clear hb2 hb3 ho1 hv1 ho2 hv2 hb12 hkq2 xq2
        go_simp
        refine hK _ _ ?_
        clear hK K
        (refine wpAny_take (i := 4) (v := ?_) rfl (by kernel_rfl) (by kernel_rfl) (by kernel_rfl) (fun _ _ _ h => h) (Or.inl ⟨rfl, ?_⟩) ?_; rotate_left 1; (focus (intro w; go_simp; try (with_reducible rfl))); change wpAny _ _ _ _ _ _ (Act.put _ (some 6) _) _; simp only [Act.put, List.setIfInBounds_toArray, List.set_cons_zero, List.set_cons_succ])
        (refine wpAny_take (i := 5) (v := ?_) rfl (by kernel_rfl) (by kernel_rfl) (by kernel_rfl) (fun _ _ _ h => h) (Or.inl ⟨rfl, ?_⟩) ?_; rotate_left 1; (focus (intro w; go_simp; try (with_reducible rfl))); change wpAny _ _ _ _ _ _ (Act.put _ (some 7) _) _; simp only [Act.put, List.setIfInBounds_toArray, List.set_cons_zero, List.set_cons_succ])
        refine wpAny_done (by kernel_rfl) ?_ _
        go_wp2
        go_meet
        exact ⟨_, _, rfl, rfl, hcut⟩
      · go_simp
        refine hK _ _ ?_
        clear hK K
        (refine wpAny_ready (rs := [1]) (by kernel_rfl) (by simp) ?_; refine AllReady.cons rfl (fun K hK => ?_) (AllReady.nil))
        go_simp
        refine (H1.out _ (by exact HB1.out.drew)).mono ?_
        rintro e w2 ⟨hb2, o1, v1, rfl, ho1, hv1⟩
        have hkq2 := (hb2.block _ (lt_of_block HKQ.out)).trans HKQ.out
        have xq2 : w2.cell? ⟨w.heap.size + 1, 0, none⟩ = some (.slice A2 lq.length c2) := cell_of_block hkq2 0
        have hb12 : Below w.heap.size w w2 := below_then HB1.out.drew HB1.out.size hb2
        go_simp
        refine hK _ _ ?_
        clear hK K
        (refine wpAny_ready (rs := [3]) (by kernel_rfl) (by simp) ?_; refine AllReady.cons rfl (fun K hK => ?_) (AllReady.nil))
        go_simp
        refine (H2.out _ hb12).mono ?_
        rintro e w3 ⟨hb3, o2, v2, rfl, ho2, hv2⟩
        have hcut : JpCut lp lq w w1 v1 v2 w3 := jp_cut HB1.out hb2 hb3 ho1 hv1 ho2 hv2
        clear hb2 hb3 ho1 hv1 ho2 hv2 hb12 hkq2 xq2
        go_simp
        refine hK _ _ ?_
        clear hK K
        (refine wpAny_take (i := 4) (v := ?_) rfl (by kernel_rfl) (by kernel_rfl) (by kernel_rfl) (fun _ _ _ h => h) (Or.inl ⟨rfl, ?_⟩) ?_; rotate_left 1; (focus (intro w; go_simp; try (with_reducible rfl))); change wpAny _ _ _ _ _ _ (Act.put _ (some 6) _) _; simp only [Act.put, List.setIfInBounds_toArray, List.set_cons_zero, List.set_cons_succ])
        (refine wpAny_take (i := 5) (v := ?_) rfl (by kernel_rfl) (by kernel_rfl) (by kernel_rfl) (fun _ _ _ h => h) (Or.inl ⟨rfl, ?_⟩) ?_; rotate_left 1; (focus (intro w; go_simp; try (with_reducible rfl))); change wpAny _ _ _ _ _ _ (Act.put _ (some 7) _) _; simp only [Act.put, List.setIfInBounds_toArray, List.set_cons_zero, List.set_cons_succ])
        refine wpAny_done (by kernel_rfl) ?_ _
        go_wp2
        go_meet
        exact ⟨_, _, rfl, rfl, hcut⟩
    · go_simp
      refine hK _ _ ?_
      clear hK K
      (refine wpAny_ready (rs := [0]) (by kernel_rfl) (by simp) ?_; refine AllReady.cons rfl (fun K hK => ?_) (AllReady.nil))
      go_simp
      refine hK _ _ ?_
      clear hK K
      (refine wpAny_ready (rs := [1]) (by kernel_rfl) (by simp) ?_; refine AllReady.cons rfl (fun K hK => ?_) (AllReady.nil))
      go_simp
      refine (H1.out _ (by exact HB1.out.drew)).mono ?_
      rintro e w2 ⟨hb2, o1, v1, rfl, ho1, hv1⟩
      have hkq2 := (hb2.block _ (lt_of_block HKQ.out)).trans HKQ.out
      have xq2 : w2.cell? ⟨w.heap.size + 1, 0, none⟩ = some (.slice A2 lq.length c2) := cell_of_block hkq2 0
      have hb12 : Below w.heap.size w w2 := below_then HB1.out.drew HB1.out.size hb2
      go_simp
      refine hK _ _ ?_
      clear hK K
      (refine wpAny_ready (rs := [3]) (by kernel_rfl) (by simp) ?_; refine AllReady.cons rfl (fun K hK => ?_) (AllReady.nil))
      go_simp
      refine (H2.out _ hb12).mono ?_
      rintro e w3 ⟨hb3, o2, v2, rfl, ho2, hv2⟩
      have hcut : JpCut lp lq w w1 v1 v2 w3 := jp_cut HB1.out hb2 hb3 ho1 hv1 ho2 hv2
      clear hb2 hb3 ho1 hv1 ho2 hv2 hb12 hkq2 xq2
      go_simp
      refine hK _ _ ?_
      clear hK K
      (refine wpAny_take (i := 4) (v := ?_) rfl (by kernel_rfl) (by kernel_rfl) (by kernel_rfl) (fun _ _ _ h => h) (Or.inl ⟨rfl, ?_⟩) ?_; rotate_left 1; (focus (intro w; go_simp; try (with_reducible rfl))); change wpAny _ _ _ _ _ _ (Act.put _ (some 6) _) _; simp only [Act.put, List.setIfInBounds_toArray, List.set_cons_zero, List.set_cons_succ])
      (refine wpAny_take (i := 5) (v := ?_) rfl (by kernel_rfl) (by kernel_rfl) (by kernel_rfl) (fun _ _ _ h => h) (Or.inl ⟨rfl, ?_⟩) ?_; rotate_left 1; (focus (intro w; go_simp; try (with_reducible rfl))); change wpAny _ _ _ _ _ _ (Act.put _ (some 7) _) _; simp only [Act.put, List.setIfInBounds_toArray, List.set_cons_zero, List.set_cons_succ])
      refine wpAny_done (by kernel_rfl) ?_ _
      go_wp2
      go_meet
      exact ⟨_, _, rfl, rfl, hcut⟩
  case rest =>
    obtain ⟨v1, v2, e1, e2, o1, o2, ho1, ho2, hv1, hv2, hb3⟩ := hcut
    replace e1 := e1.symm
    replace e2 := e2.symm
    subst e1 e2
    have hb13 : Below w.heap.size w wc := below_then HB1.out HB1.out.size hb3
    have hs3 : w1.heap.size ≤ wc.heap.size := hb3.size
    have hk3 := block_below HKR.out hb3
    have x3 := cell_of_block hk3 0
    have f3 := free_of_block hk3 0
    simp at x3
    have HK3 := Lib.hid hk3
    have HB13 := Lib.hid hb13
    have HO1 := Lib.hid ho1
    have HO2 := Lib.hid ho2
    have HV1 := Lib.hid hv1
    have HV2 := Lib.hid hv2
    clear hb3 hb13 hk3 ho1 ho2 hv1 hv2 xp xq
    have hnone : ((∀ t, ¬ IsGood lp t) ∨ ∀ t, ¬ IsGood lq t) → ∀ u, TwoPost Tree.join lp lq w (.returned (.tuple #[.agg #[.slice none 0 0], .bool false])) (wc.setCell ⟨w.heap.size + 1 + 1, 0, none⟩ u) := fun h u =>
      ⟨[], _, false, rfl, two_none h, NdOwn.nil (HB13.out.setCell (p := ⟨w.heap.size + 1 + 1, 0, none⟩) (by show w.heap.size ≤ w.heap.size + 1 + 1; omega) _)⟩
    have HNONE := Lib.hid hnone
    clear hnone
    cases o1 with
    | none =>
      obtain rfl : v1 = .pointer none := HO1.out
      have heq := run_eql_nil_nil_val
      go_wp2
      refine bodyPost_ret (results_row_one rfl _ _ (w.heap.size + 1 + 1) _ _ _ _ rfl (block_setCell HK3.out _ _) Tryz.underlying25 rfl ((info_size infoValue).trans (by simp))) rfl ?_
      exact HNONE.out (.inl (HV1.out.2 rfl)) _
    | some tp =>
      have htp : TreeAt (fun b => w.heap.size ≤ b) wc v1 tp := HO1.out
      obtain ⟨bp, _, _, _, _, _, rfl, _⟩ := htp.open
      have heq1 := run_eql_ptr_nil bp
      have HTP := Lib.hid htp
      clear htp
      cases o2 with
      | none =>
        obtain rfl : v2 = .pointer none := HO2.out
        have heq := run_eql_nil_nil_val
        go_wp2
        refine bodyPost_ret (results_row_one rfl _ _ (w.heap.size + 1 + 1) _ _ _ _ rfl (block_setCell HK3.out _ _) Tryz.underlying25 rfl ((info_size infoValue).trans (by simp))) rfl ?_
        exact HNONE.out (.inr (HV2.out.2 rfl)) _
      | some tq =>
        have htq : TreeAt (fun b => w.heap.size ≤ b) wc v2 tq := HO2.out
        obtain ⟨bq, _, _, _, _, _, rfl, _⟩ := htq.open
        have heq2 := run_eql_ptr_nil bq
        have gp := HV1.out.1 tp rfl
        have gq := HV2.out.1 tq rfl
        have np := gp.count.2
        have nq := gq.count.2
        have HGP := Lib.hid gp
        have HGQ := Lib.hid gq
        have HJ := Lib.hid (join_any tq gq.2.1 tp (fun b => w.heap.size ≤ b) _ _ wc gp.2.1 (by omega) HTP.out htq)
        clear htq gp gq
        go_wp2_with fail
        refine HJ.out.mono ?_
        rintro e w4 ⟨rv, rfl, hb4, hopt⟩
        have hok : ∀ t, Tree.join tp tq = some t → t.shaped ∧ t.sized ∧ t.count ≤ 1000000000 := fun t ht => by
          obtain ⟨h1, h2⟩ := join_ok tq tp t HGP.out.2.1 HGQ.out.2.1 ht
          exact ⟨Tree.ok_shaped t h1, Tree.ok_sized t h1 (by omega), by omega⟩
        have hb14 := below_then HB13.out HB13.out.size hb4
        have HTO := Lib.hid (told_any (Tree.join tp tq) hok _ rv w4 hopt (HT.out w4 hb14))
        have hk4 := block_below HK3.out hb4
        have HK4 := Lib.hid hk4
        have HB14 := Lib.hid hb14
        have hs4 := hb4.size
        clear hok hb4 hopt hb14 hk4 x3 f3 HNONE HJ
        go_wp2_with fail
        refine HTO.out.mono ?_
        rintro e w5 ⟨l, u, f, rfl, htold, hown⟩
        obtain ⟨A5, c5, rfl⟩ := hown.shape
        have hk5 := block_below HK4.out hown.1
        have x5 := cell_of_block hk5 0
        have f5 := free_of_block hk5 0
        simp at x5
        have HK5 := Lib.hid hk5
        have HO5 := Lib.hid hown
        have HTD := Lib.hid htold
        clear hown htold hk5 HTO
        go_wp2
        refine bodyPost_ret (results_row_one rfl _ _ (w.heap.size + 1 + 1) _ _ _ _ rfl (block_setCell HK5.out _ _) Tryz.underlying25 rfl ((info_size infoValue).trans (by simp))) rfl ?_
        exact ⟨l, _, f, rfl, told_res HGP.out HGQ.out HTD.out, NdOwn.cell HB14.out HO5.out (by omega) (by omega) _⟩
end Go.Proofs.YteeppdobeeodiaaGreatDoor
