/- Finding a name among sorted names: cmp.Less, slices.BinarySearch at strings, (*val).at, (*val).place of a map. -/
import Derived.Test.YtcbcndoddikpjaaGreatDoorJn1
import Derived.Test.YtcbcndoddikpjaaGreatDoorJn3
namespace Go.Proofs.YtcbcndoddikpjaaGreatDoor
open Go.RowKit
theorem sortedB_lt : ∀ {ns : List ByteArray}, sortedB ns = true → ∀ (i j : Nat) (x y : ByteArray), i < j → ns[i]? = some x → ns[j]? = some y → ltS x y = true
  | [], _, i, j, x, y, _, h, _ => by simp at h
  | a :: r, h, i, j, x, y, hij, hx, hy => by
    cases j with
    | zero => omega
    | succ j =>
      simp at hy
      cases i with
      | zero =>
        simp at hx
        subst hx
        exact sortedB_head h y (List.mem_of_getElem? hy)
      | succ i =>
        simp at hx
        exact sortedB_lt (sortedB_tail h) i j x y (by omega) hx hy
def Split (ns : List ByteArray) (s : ByteArray) (lo hi : Nat) : Prop := (∀ i x, i < lo → ns[i]? = some x → ltS x s = true) ∧ ∀ i x, hi ≤ i → ns[i]? = some x → ltS x s = false
theorem split_up {ns : List ByteArray} {s : ByteArray} (hs : sortedB ns = true) {lo hi m : Nat} {x : ByteArray} (h : Split ns s lo hi) (hx : ns[m]? = some x) (hc : ltS x s = true) : Split ns s (m + 1) hi := by
  refine ⟨fun i y hi hy => ?_, h.2⟩
  by_cases c : i = m
  · subst c
    rw [hx] at hy
    injection hy with hy
    rw [← hy]
    exact hc
  · exact ltS_trans (sortedB_lt hs i m y x (by omega) hy hx) hc
theorem split_down {ns : List ByteArray} {s : ByteArray} (hs : sortedB ns = true) {lo hi m : Nat} {x : ByteArray} (h : Split ns s lo hi) (hx : ns[m]? = some x) (hc : ltS x s = false) : Split ns s lo m := by
  refine ⟨h.1, fun i y hi hy => ?_⟩
  by_cases c : i = m
  · subst c
    rw [hx] at hy
    injection hy with hy
    rw [← hy]
    exact hc
  · cases d : ltS y s
    · rfl
    · rw [ltS_trans (sortedB_lt hs m i x y (by omega) hx hy) d] at hc
      cases hc
theorem isNaN_any (x : ByteArray) (w : World) : Calls Tryz.prog 106 #[.string x] w fun e w' => e = .returned (.bool false) ∧ w = w' := by
  go_enter Tryz.func106, Tryz.ntmps106
  go_wp2
  go_ret
  exact ⟨by simp, rfl⟩
theorem isNaN2_any (x : ByteArray) (w : World) : Calls Tryz.prog 98 #[.string x] w fun e w' => e = .returned (.bool false) ∧ w = w' := by
  go_enter Tryz.func98, Tryz.ntmps98
  go_wp2
  go_ret
  exact ⟨by simp, rfl⟩
theorem less_any (x y : ByteArray) (w : World) : Calls Tryz.prog 97 #[.string x, .string y] w fun e w' => e = .returned (.bool (ltS x y)) ∧ w = w' := by
  go_enter Tryz.func97, Tryz.ntmps97
  go_wp2_with (go_at_call 106; refine (isNaN_any _ _).mono ?_; rintro e w' ⟨rfl, rfl⟩)
  go_ret
  exact ⟨rfl, rfl⟩
def AtPost (ns : List ByteArray) (s : ByteArray) (w : World) (e : Ending) (w' : World) : Prop :=
  e = .returned (.tuple #[.int .i64 ((insPos ns s : Nat) : Int), .bool (decide (ns[insPos ns s]? = some s))]) ∧ w = w'
set_option maxRecDepth 100000 in
set_option maxHeartbeats 1600000 in
theorem binS_any (ns : List ByteArray) (hl : ns.length ≤ 1000000000) (hs : sortedB ns = true) (s : ByteArray) (F : Nat → Prop) (A : Option Addr) (c : Nat) (w : World) (hr : Rds F w A (strs ns)) :
    Calls Tryz.prog 77 #[.slice A ns.length c, .string s] w (AtPost ns s w) := by
  have HR := Lib.hid hr
  have HS := Lib.hid hs
  clear hr hs
  go_enter Tryz.func77, Tryz.ntmps77
  go_wp2
  go_loopw [7, 8] (fun i j wx => ∃ lo hi : Nat, i = .int .i64 (lo : Int) ∧ j = .int .i64 (hi : Int) ∧ lo ≤ hi ∧ hi ≤ ns.length ∧ w = wx ∧ Hid (Split ns s lo hi)) (fun i j _ => (intOf j).toNat - (intOf i).toNat)
  case atStart => exact ⟨0, ns.length, rfl, rfl, Nat.zero_le _, Nat.le_refl _, rfl, ⟨fun i x h => by omega, fun i x h hx => by have := (List.getElem?_eq_some_iff.1 hx).1; omega⟩⟩
  case round =>
    obtain ⟨lo, hi, rfl, rfl, hlh, hhi, rfl, hp⟩ := hrel
    have HP := Lib.hid hp
    clear hp
    by_cases hlt : lo < hi
    · obtain ⟨b, o, x, rfl, hbl, g0, hx, _⟩ := name_at HR.out ((lo + hi) / 2) (by omega)
      have HX := Lib.hid hx
      clear hx
      cases hc : ltS x s
      · have HC := Lib.hid hc
        go_wp2_with (go_at_call 97; refine (less_any _ _ _).mono ?_; rintro e w2 ⟨rfl, rfl⟩)
        go_roundw
        case rel => exact ⟨lo, (lo + hi) / 2, rfl, by rw [show ((lo : Int) + (hi : Int)) / 2 = (((lo + hi) / 2 : Nat) : Int) by omega], by omega, by omega, trivial, split_down HS.out HP.out HX.out HC.out⟩
        case measure => simp [intOf]; omega
      · have HC := Lib.hid hc
        go_wp2_with (go_at_call 97; refine (less_any _ _ _).mono ?_; rintro e w2 ⟨rfl, rfl⟩)
        go_roundw
        case rel => exact ⟨(lo + hi) / 2 + 1, hi, by rw [show ((lo : Int) + (hi : Int)) / 2 + 1 = (((lo + hi) / 2 + 1 : Nat) : Int) by omega], rfl, by omega, hhi, trivial, split_up HS.out HP.out HX.out HC.out⟩
        case measure => simp [intOf]; omega
    · obtain rfl : hi = lo := by omega
      have hpos := insPos_of ns s HS.out hi hhi HP.out.1 HP.out.2
      have HPOS := Lib.hid hpos
      by_cases hn : hi < ns.length
      · obtain ⟨b, o, x, rfl, hbl, g0, hx, _⟩ := name_at HR.out hi hn
        have HX := Lib.hid hx
        clear hx hpos
        have hd : decide (ns[insPos ns s]? = some s) = (x.toList == s.toList) := by
          rw [← HPOS.out, HX.out, Bool.eq_iff_iff, decide_eq_true_eq, beq_iff_eq]
          exact ⟨fun h => by injection h with h; rw [h], fun h => by rw [ba_eq h]⟩
        have HD := Lib.hid hd
        clear hd
        by_cases hxs : x.toList = s.toList
        · go_wp2_with (go_at_call 98; refine (isNaN2_any _ _).mono ?_; rintro e w2 ⟨rfl, rfl⟩)
          go_ret2
          unfold AtPost
          rw [HD.out, ← HPOS.out, hxs]
          simp
        · have hxb : (x.toList == s.toList) = false := by simpa using hxs
          go_wp2_with (go_at_call 98; refine (isNaN2_any _ _).mono ?_; rintro e w2 ⟨rfl, rfl⟩)
          go_ret2
          unfold AtPost
          rw [HD.out, ← HPOS.out, hxb]
          simp
      · clear hpos
        go_wp2
        go_ret2
        have hd : decide (ns[insPos ns s]? = some s) = false := by
          rw [← HPOS.out, decide_eq_false_iff_not]
          intro h
          have := (List.getElem?_eq_some_iff.1 h).1
          omega
        unfold AtPost
        rw [hd, ← HPOS.out]
        exact ⟨rfl, rfl⟩
set_option maxHeartbeats 800000 in
theorem at_any (t : Tree) (hl : t.names.length ≤ 1000000000) (hs : sortedB t.names = true) (s : ByteArray) (F : Nat → Prop) (v : Value) (w : World) (ht : TreeAt F w v t) :
    Calls Tryz.prog 49 #[v, .string s] w (AtPost t.names s w) := by
  obtain ⟨b, A1, c1, A2, c2, ps, rfl, hF, hbl, h0, h1, h2, h3, g3, r3, h4, g4, r4, hts⟩ := ht.open
  have HC := Lib.hid (binS_any t.names hl hs s F A1 c1 w r3)
  clear r3 r4 hts ht
  go_enter Tryz.func49, Tryz.ntmps49
  go_wp2_with fail
  refine HC.out.mono ?_
  rintro e w2 ⟨rfl, rfl⟩
  go_wp2
  go_ret2
  exact ⟨rfl, rfl⟩
def placeI (ns : List ByteArray) (s : ByteArray) : Int := if ns[insPos ns s]? = some s then ((insPos ns s : Nat) : Int) else -1
set_option maxHeartbeats 800000 in
theorem place_any (t : Tree) (hk : t.kind = 7) (hl : t.names.length ≤ 1000000000) (hs : sortedB t.names = true) (s : ByteArray) (F : Nat → Prop) (v : Value) (w : World) (ht : TreeAt F w v t) :
    Calls Tryz.prog 78 #[v, .string s] w fun e w' => e = .returned (.int .i64 (placeI t.names s)) ∧ w = w' := by
  have HA := Lib.hid (at_any t hl hs s F v w ht)
  obtain ⟨b, A1, c1, A2, c2, ps, rfl, hF, hbl, h0, h1, h2, h3, g3, r3, h4, g4, r4, hts⟩ := ht.open
  rw [hk] at h0
  clear r3 r4 hts ht hk
  go_enter Tryz.func78, Tryz.ntmps78
  go_wp2_with fail
  refine HA.out.mono ?_
  rintro e w2 ⟨rfl, rfl⟩
  by_cases hc : t.names[insPos t.names s]? = some s
  · have HC := Lib.hid hc
    rw [decide_eq_true hc]
    clear hc
    go_wp2
    go_ret
    exact ⟨by rw [placeI, if_pos HC.out]; rfl, rfl⟩
  · have HC := Lib.hid hc
    rw [decide_eq_false hc]
    clear hc
    go_wp2
    go_ret
    exact ⟨by rw [placeI, if_neg HC.out]; rfl, rfl⟩
/-- An operation of a region that draws its order, taken first: it yields its value in whatever world. -/
theorem tkP {P : Program} {ops : Array Oper} {md : Region.Mode} {Q : Exit → Act → World → Prop} {i : Nat} {oi : Oper} {v : Value} {fuel : Nat} {listed : Array Bool} {a : Act} {w : World} (hi : ops[i]? = some oi) (hy : ∀ w, (execOp a.eval oi).run P w = .ok (.value v) w)
    (h : wpAny P md ops Q fuel (listed.setIfInBounds i true) (a.put oi.dst v) w) (hw : Region.wanted oi (yielded ops a.tmps) = true := by rfl) (hs : Region.noSelect ops = true := by kernel_rfl) (hf : Region.free md ops listed i = true := by kernel_rfl)
    (hr : (Region.ready md ops listed).contains i = true := by kernel_rfl) (hQ : ∀ c a w, Q (.panic c) (a.put oi.dst v) w → Q (.panic c) a w := by exact fun _ _ _ h => h) : wpAny P md ops Q (fuel + 1) listed a w :=
  wpAny_take hi hs hf hr hQ (Or.inl ⟨hw, hy⟩) h
theorem TreesAt.split {F : Nat → Prop} {w : World} : ∀ (i : Nat) {ps : List Value} {ks : List Tree}, TreesAt F w ps ks → TreesAt F w (ps.take i) (ks.take i) ∧ TreesAt F w (ps.drop i) (ks.drop i)
  | 0, ps, ks, h => by simpa [TreesAt] using h
  | i + 1, [], [], _ => by simp [TreesAt]
  | i + 1, p :: ps, k :: ks, h => by
    simp only [TreesAt] at h
    have ih := TreesAt.split i h.2
    simp only [List.take_succ_cons, List.drop_succ_cons, TreesAt]
    exact ⟨⟨h.1, ih.1⟩, ih.2⟩
  | i + 1, [], _ :: _, h => by simp [TreesAt] at h
  | i + 1, _ :: _, [], h => by simp [TreesAt] at h
theorem TreesAt.app {F : Nat → Prop} {w : World} : ∀ {ps qs : List Value} {ks ls : List Tree}, TreesAt F w ps ks → TreesAt F w qs ls → TreesAt F w (ps ++ qs) (ks ++ ls)
  | [], _, [], _, _, h => by simpa using h
  | p :: ps, _, k :: ks, _, h, h' => by
    simp only [TreesAt, List.cons_append] at h ⊢
    exact ⟨h.1, TreesAt.app h.2 h'⟩
  | [], _, _ :: _, _, h, _ => by simp [TreesAt] at h
  | _ :: _, _, [], _, h, _ => by simp [TreesAt] at h
theorem TreesAt.ins {F : Nat → Prop} {w : World} {ps : List Value} {ks : List Tree} (h : TreesAt F w ps ks) (i : Nat) {p : Value} {k : Tree} (hk : TreeAt F w p k) : TreesAt F w (ins i p ps) (ins i k ks) := by
  obtain ⟨h1, h2⟩ := h.split i
  refine h1.app ?_
  simp only [TreesAt]
  exact ⟨hk, h2⟩
def PutPost (F : Nat → Prop) (t : Tree) (nm : ByteArray) (tx : Tree) (w : World) (e : Ending) (w' : World) : Prop :=
  ∃ g A2 c2 ps, e = .returned (.pointer (some ⟨g, 0, none⟩)) ∧ Below w.heap.size w w' ∧ Made w.heap.size w' g t.kind t.num t.text (ins (insPos t.names nm) nm t.names) A2 c2 ps ∧ TreesAt (fun b => F b ∧ b < w.heap.size) w' ps (ins (insPos t.names nm) tx t.kids)
theorem blk_drew2 {w : World} {o : Obj} : (w.alloc o).drew.heap[w.heap.size]? = some o := heap_alloc_new w o
theorem blk_drew {w : World} {k : Nat} {o : Option Obj} (h : w.heap[k]? = o) : w.drew.heap[k]? = o := h
theorem strs_ins (p : Nat) (nm : ByteArray) (ns : List ByteArray) : strs (ins p nm ns) = ins p (.string nm) (strs ns) := by simp [strs, ins]
theorem put_fin {t tx : Tree} {nm : ByteArray} {F : Nat → Prop} {w w2 w5 W : World} {g p c3 c5 : Nat} {A3 A5 : Option Addr} {qs : List Value} {xv : Value} {v3 v4 : Value}
    (hp : p = insPos t.names nm) (hgb : w.heap.size ≤ g) (hk5 : w5.heap[g]? = some (.cells #[.int .i64 t.kind, .int .i64 t.num, .string t.text, v3, v4] 74 (0, 0)))
    (hK : W.heap[g]? = some (.cells #[.int .i64 t.kind, .int .i64 t.num, .string t.text, .slice A3 (t.names.length + 1) c3, .slice A5 (qs.length + 1) c5] 74 (0, 0)))
    (hA : ∀ G : Nat → Prop, (∀ c, G c → c ≠ g) → Agree G w5 W) (_hB5 : Below w.heap.size w w5) (hB : Below w.heap.size w W) (hB2 : Below w.heap.size w w2) (hc3 : t.names.length + 1 ≤ c3) (hc5 : qs.length + 1 ≤ c5)
    (ho3 : w5.ownsRow w.heap.size 9 1 (.slice A3 (t.names.length + 1) c3) (t.names.length + 1) (ins p (.string nm) (strs t.names))) (ho5 : w5.ownsRow w.heap.size 46 1 (.slice A5 (qs.length + 1) c5) (qs.length + 1) (ins p xv qs))
    (hpn : p ≤ t.names.length) (hpq : p ≤ qs.length) (hsz : w2.heap.size ≤ W.heap.size) (htr : TreesAt (fun b => F b ∧ b < w.heap.size) w2 qs t.kids) (hx : TreeAt F w xv tx) :
    PutPost F t nm tx w (.returned (.pointer (some ⟨g, 0, none⟩))) W := by
  subst hp
  have n3 := own_not_at ho3 hk5 (by decide)
  have n5 := own_not_at ho5 hk5 (by decide)
  have l3 : (ins (insPos t.names nm) nm t.names).length = t.names.length + 1 := ins_length _ _ _ hpn
  have l5 : (ins (insPos t.names nm) xv qs).length = qs.length + 1 := ins_length _ _ _ hpq
  have h3 := own_agree ho3 (hA (fun c => c ≠ g) (fun _ h => h)) (fun k hk e => n3 k hk e.symm)
  have h5 := own_agree ho5 (hA (fun c => c ≠ g) (fun _ h => h)) (fun k hk e => n5 k hk e.symm)
  refine ⟨g, A5, c5, ins (insPos t.names nm) xv qs, rfl, hB, ⟨A3, c3, hgb, by rw [l3, l5]; exact hK, by rw [l3]; exact hc3, by rw [l5]; exact hc5, by rw [l3, strs_ins]; exact h3, by rw [l5]; exact h5⟩, TreesAt.ins ?_ _ ?_⟩
  · refine htr.frame ⟨hsz, fun b h hb => ?_⟩ (fun b h _ => h)
    rw [hB.block b h.2, hB2.block b h.2]
  · exact hx.frame ⟨hB.size, fun b h hb => hB.block b hb⟩ (fun b h h' => ⟨h, h'⟩)
theorem names_kept {Wc w5 : World} {base base' n m : Nat} {nv kv : Value} {xs ys : List Value} (hg5 : Wc.grownBy w5 kv.ownBlock) (hn : Wc.ownsRow base 9 1 nv n xs) (hk : Wc.ownsRow base' 46 1 kv m ys) : w5.ownsRow base 9 1 nv n xs := hn.kept hg5 (own_apart hk hn (by decide))
theorem put_below {w Wc w5 : World} {row : Option Nat} (hg5 : Wc.grownBy w5 row) (hb : Below w.heap.size w Wc) (hr : ∀ k, row = some k → w.heap.size ≤ k) : Below w.heap.size w w5 := hb.grown hg5 hb.size hr
end Go.Proofs.YtcbcndoddikpjaaGreatDoor
