/- The reference's l3At at a map: the number of the part that a name leads to. The reference's l3With: another part in a place. -/
import Derived.Test.YtcbcndoddikpjaaGreatDoorSp4
namespace Go.Proofs.YtcbcndoddikpjaaGreatDoor
open Go.RowKit
/-- The number of the part that a name leads to, -1 for none. -/
def atP (ns : List ByteArray) (nm : ByteArray) : Int := if ns[insPos ns nm]? = some nm then (insPos ns nm : Int) else -1
theorem sorted_lt {ns : List ByteArray} (h : sortedB ns = true) : ∀ (i j : Nat) (a b : ByteArray), i < j → ns[i]? = some a → ns[j]? = some b → ltS a b = true := by
  induction ns with
  | nil => intro i j a b _ h1; simp at h1
  | cons x ns ih =>
    intro i j a b hij h1 h2
    cases j with
    | zero => omega
    | succ j =>
      simp at h2
      cases i with
      | zero =>
        simp at h1
        subst h1
        exact sortedB_head h b (List.mem_of_getElem? h2)
      | succ i =>
        simp at h1
        exact ih (sortedB_tail h) i j a b (by omega) h1 h2
theorem insPos_found {ns : List ByteArray} {nm : ByteArray} {i : Nat} (hs : sortedB ns = true) (h : ns[i]? = some nm) : insPos ns nm = i := by
  refine (insPos_of ns nm hs i (by have := (List.getElem?_eq_some_iff.1 h).1; omega) (fun j x hj hx => sorted_lt hs j i x nm hj hx h) (fun j x hj hx => ?_)).symm
  rcases Nat.lt_or_ge i j with c | c
  · exact ltS_asymm (sorted_lt hs i j nm x c h hx)
  · obtain rfl : i = j := by omega
    rw [h] at hx
    injection hx with hx
    subst hx
    exact ltS_irrefl _
theorem atP_found {ns : List ByteArray} {nm : ByteArray} {i : Nat} (hs : sortedB ns = true) (h : ns[i]? = some nm) : atP ns nm = (i : Int) := by
  unfold atP
  rw [insPos_found hs h, if_pos h]
theorem atP_none {ns : List ByteArray} {nm : ByteArray} (h : ∀ i, i < ns.length → ns[i]? ≠ some nm) : atP ns nm = -1 := by
  unfold atP
  rw [if_neg]
  intro c
  exact h _ (List.getElem?_eq_some_iff.1 c).1 c
set_option maxRecDepth 100000 in
set_option maxHeartbeats 1000000 in
theorem sAt_any (t : Tree) (hk : t.kind = 7) (hm : MapOK t.names t.kids) (hl : t.kids.length ≤ 1000000) (F : Nat → Prop) (cs : List Value) (nm : ByteArray) (w : World) (ht : LtAt F w cs t) :
    Calls Tryz.prog 39 #[.agg cs.toArray, .string nm] w (fun e w' => e = .returned (.int .i64 (atP t.names nm)) ∧ Below w.heap.size w w') := by
  obtain ⟨A1, c1, A2, c2, rs, rfl, g3, g4, r3, r4, hts⟩ := ht.open
  have HS := Lib.hid hm.sorted
  have hlen := hm.len
  obtain ⟨k, n, x, ns, ks⟩ := t
  change k = 7 at hk
  change ns.length = ks.length at hlen
  change ks.length ≤ 1000000 at hl
  change Rds F w A1 (strs ns) at r3
  change Hid (sortedB ns = true) at HS
  subst hk
  change ns.length ≤ c1 at g3
  change ks.length ≤ c2 at g4
  have hb1 : Below w.heap.size w (w.alloc (.cells #[.int .i64 7, .int .i64 n, .string x, .slice A1 ns.length c1, .slice A2 ks.length c2] 40 (0, 0))) := (Below.refl _ _).alloc (Nat.le_refl _) _
  have R3 := Lib.hid (r3.frame (Agree.of_below hb1))
  have HB1 := Lib.hid hb1
  have HLEN := Lib.hid hlen
  clear r3 r4 hts ht hm hb1 hlen
  go_enter Tryz.func39, Tryz.ntmps39
  go_wp2
  go_loop [9] (fun iv => ∃ i : Nat, iv = .int .i64 (i : Int) ∧ i ≤ ks.length ∧ Hid (∀ j, j < i → ns[j]? ≠ some nm)) (fun iv => ks.length - (intOf iv).toNat)
  case atStart => exact ⟨0, rfl, Nat.zero_le _, Lib.hid (fun j h => by omega)⟩
  case round =>
    obtain ⟨i, rfl, hi, hrel⟩ := hrel
    by_cases hlt : i < ks.length
    · obtain ⟨s, hs⟩ : ∃ s, ns[i]? = some s := ⟨_, List.getElem?_eq_getElem (by have := HLEN.out; omega)⟩
      have hsv : (strs ns)[i]? = some (.string s) := by rw [strs, List.getElem?_map, hs]; rfl
      obtain ⟨bi, oi, rfl, hbi, hbil⟩ := R3.out.open (by intro h0; rw [h0] at hsv; simp at hsv)
      have hcell := R3.out.at i _ hsv
      have hil : i < ns.length := (List.getElem?_eq_some_iff.1 hs).1
      have HSI := Lib.hid hs
      clear hs hsv
      by_cases he : s = nm
      · subst he
        go_wp2
        go_ret
        exact ⟨by rw [atP_found HS.out HSI.out]; rfl, HB1.out⟩
      · have he' : (s.toList == nm.toList) = false := by
          simp only [beq_eq_false_iff_ne, ne_eq]
          exact fun e => he (ba_eq e)
        go_wp2
        go_round
        case rel =>
          refine ⟨i + 1, by go_num, by omega, Lib.hid (fun j hj => ?_)⟩
          rcases Nat.lt_or_ge j i with c | c
          · exact hrel.out j c
          · obtain rfl : j = i := by omega
            rw [HSI.out]
            intro e
            injection e with e
            exact he e
        case measure => simp [intOf]; omega
    · obtain rfl : i = ks.length := by omega
      go_wp2
      go_ret
      exact ⟨by rw [atP_none (fun j hj => hrel.out j (by have := HLEN.out; omega))]; rfl, HB1.out⟩
end Go.Proofs.YtcbcndoddikpjaaGreatDoor
namespace Go.Proofs.YtcbcndoddikpjaaGreatDoor
open Go.RowKit
/-- The blocks that a value of the call's own may lie in: those of F, and new ones. -/
def Nw (F : Nat → Prop) (base : Nat) : Nat → Prop := fun b => F b ∧ b < base ∨ base ≤ b
theorem set5_eq (l : List Value) (a : Nat) (v0 v1 v2 v3 v4 : Value) (h : a + 5 ≤ l.length) : ((((l.set a v0).set (a + 1) v1).set (a + 2) v2).set (a + 3) v3).set (a + 4) v4 = l.take a ++ [v0, v1, v2, v3, v4] ++ l.drop (a + 5) := by
  apply List.ext_getElem?
  intro j
  rcases Nat.lt_or_ge j a with c | c
  · rw [List.append_assoc, List.getElem?_append_left (by simp; omega)]
    simp only [List.getElem?_set, List.getElem?_take]
    rw [if_neg (by omega), if_neg (by omega), if_neg (by omega), if_neg (by omega), if_neg (by omega), if_pos c]
  · obtain ⟨k, rfl⟩ := Nat.exists_eq_add_of_le c
    rw [List.append_assoc, List.getElem?_append_right (by simp; omega)]
    have e : a + k - (l.take a).length = k := by simp; omega
    rw [e]
    have hl : ∀ i, i < 5 → a + i < l.length := fun i hi => by omega
    match k with
    | 0 => simp [List.getElem?_set]; omega
    | 1 => simp [List.getElem?_set]; omega
    | 2 => simp [List.getElem?_set]; omega
    | 3 => simp [List.getElem?_set]; omega
    | 4 => simp [List.getElem?_set]; omega
    | k + 5 =>
      rw [List.getElem?_append_right (by simp)]
      simp only [List.getElem?_set, List.getElem?_drop]
      rw [if_neg (by omega), if_neg (by omega), if_neg (by omega), if_neg (by omega), if_neg (by omega)]
      congr 1
      simp
      omega
theorem flatten_set (rs : List (List Value)) (h : ∀ r ∈ rs, r.length = 5) (i : Nat) (hi : i < rs.length) (r : List Value) : (rs.set i r).flatten = rs.flatten.take (i * 5) ++ r ++ rs.flatten.drop (i * 5 + 5) := by
  induction rs generalizing i with
  | nil => simp at hi
  | cons y rs ih =>
    have hy : y.length = 5 := h y (by simp)
    cases i with
    | zero => simp [hy]
    | succ i =>
      have := ih (fun r hr => h r (List.mem_cons_of_mem _ hr)) i (by simpa using hi)
      simp only [List.set_cons_succ, List.flatten_cons]
      rw [this, List.take_append, List.drop_append, hy, List.take_of_length_le (l := y) (by omega), List.drop_eq_nil_of_le (show y.length ≤ (i + 1) * 5 + 5 by omega)]
      have e1 : (i + 1) * 5 - 5 = i * 5 := by omega
      have e2 : (i + 1) * 5 + 5 - 5 = i * 5 + 5 := by omega
      rw [e1, e2]
      simp only [List.nil_append, List.append_assoc]
def WithPost (F : Nat → Prop) (t : Tree) (i : Nat) (x : Tree) (w : World) (e : Ending) (w' : World) : Prop :=
  ∃ cs, e = .returned (.agg cs.toArray) ∧ Below w.heap.size w w' ∧ LtAt (Nw F w.heap.size) w' cs (.mk t.kind t.num t.text t.names (t.kids.set i x))
theorem flat_one {F : Nat → Prop} {w : World} {rs : List (List Value)} {ks : List Tree} (h : LtsAt F w rs ks) : ∀ u ∈ rs.flatten, u.oneCell' = true := by
  intro u hu
  obtain ⟨r, hr, hu⟩ := List.mem_flatten.1 hu
  obtain ⟨i, hi, rfl⟩ := List.getElem_of_mem hr
  obtain ⟨r', hr', hk⟩ := h.get i (ks[i]'(by rw [← h.length]; exact hi)) (by simp)
  have e : rs[i] = r' := by rw [List.getElem?_eq_getElem hi] at hr'; injection hr'
  rw [e] at hu
  obtain ⟨A1, c1, A2, c2, rs', rfl, _⟩ := hk.open
  simp at hu
  rcases hu with rfl | rfl | rfl | rfl | rfl <;> rfl
theorem with_facts {w w1 w2 : World} {A3 : Option Addr} {n c3 : Nat} {xs : List Value} {ov ox orr : Obj} (hs : w1.heap.size = w.heap.size + 1 + 1 + 1) (ho : w2.ownsRow (w.heap.size + 1 + 1 + 1) 40 5 (.slice A3 (0 + n) c3) (0 + n) ([] ++ xs))
    (hg : (w1.alloc (.cells #[] 40 (0, 0))).grownBy w2 (Value.slice (some ⟨w.heap.size + 1 + 1 + 1, 0, none⟩) 0 0).ownBlock) (hn : 0 < n) (hb : Below w1.heap.size w1 (w1.alloc (.cells #[] 40 (0, 0)))) (hb1 : Below w.heap.size w w1)
    (hkv : w1.heap[w.heap.size]? = some ov) (hkx : w1.heap[w.heap.size + 1]? = some ox) (hkr : w1.heap[w.heap.size + 1 + 1]? = some orr) :
    ∃ g, A3 = some ⟨g, 0, none⟩ ∧ w.heap.size + 1 + 1 + 1 ≤ g ∧ g < w2.heap.size ∧ Below w.heap.size w w2 ∧ Hid (w2.ownsRow (w.heap.size + 1 + 1 + 1) 40 5 (.slice (some ⟨g, 0, none⟩) n c3) n xs) ∧ w2.heap[w.heap.size]? = some ov ∧ w2.heap[w.heap.size + 1]? = some ox ∧ w2.heap[w.heap.size + 1 + 1]? = some orr := by
  rw [Nat.zero_add, List.nil_append] at ho
  have hsa : (w1.alloc (.cells #[] 40 (0, 0))).heap.size = w1.heap.size + 1 := by simp
  have hk : ∀ b o, b < w.heap.size + 1 + 1 + 1 → w1.heap[b]? = some o → w2.heap[b]? = some o := fun b o hb' h => by
    rw [hg.block b (by omega) (by simp [Value.ownBlock]; omega), Go.heap_alloc_old w1 _ (by omega)]
    exact h
  have hbw : Below w.heap.size w w2 := (below_then hb1 hb1.size hb).grown hg (by omega) (fun k hk => by simp [Value.ownBlock] at hk; omega)
  rcases ho.2 with ⟨e, h0⟩ | ⟨g, cap, cur, e, hgb, hgk, r⟩
  · omega
  · injection e with e1 _ e3
    subst e1 e3
    exact ⟨g, rfl, hgb, lt_of_block hgk, hbw, Lib.hid ho, hk _ _ (by omega) hkv, hk _ _ (by omega) hkx, hk _ _ (by omega) hkr⟩
theorem with_cell {w2 : World} {B n c3 g i : Nat} {xs : List Value} (ho : Hid (w2.ownsRow B 40 5 (.slice (some ⟨g, 0, none⟩) n c3) n xs)) (hl : xs.length = n * 5) (hi : i < n) (j : Nat) (hj : j < 5) : ∃ v, w2.cell? ⟨g, i * 5 + j, none⟩ = some v ∧ w2.frozen? ⟨g, i * 5 + j, none⟩ = false := by
  have hp : xs[i * 5 + j]? = some xs[i * 5 + j] := by rw [List.getElem?_eq_getElem]
  have hc := ho.out.cells (g := g) rfl (i * 5 + j) _ hp
  rw [Addr.add_lit, Nat.zero_add] at hc
  rcases ho.out.2 with ⟨_, h0⟩ | ⟨g', cap, cur, e, hb, hk, _⟩
  · omega
  · injection e with e1
    injection e1 with e1
    injection e1 with e1
    subst e1
    exact ⟨_, hc, free_of_block hk _⟩
theorem own_blk {w : World} {B n c g sz : Nat} {e : TypeId} {xs : List Value} (ho : w.ownsRow B e sz (.slice (some ⟨g, 0, none⟩) n c) n xs) : ∃ cur, B ≤ g ∧ w.heap[g]? = some (.cells cur e (0, 0)) ∧ n ≤ c ∧ c ≤ maxLen ∧ cur.size = c * sz ∧ cur.toList.take (n * sz) = xs := by
  rcases ho.2 with ⟨h, _⟩ | ⟨g', cap, cur, h, hb, hk, hnc, hcm, hcs, htk⟩
  · simp at h
  · simp only [Value.slice.injEq, Option.some.injEq, Addr.mk.injEq] at h
    obtain ⟨⟨rfl, _⟩, _, rfl⟩ := h
    exact ⟨cur, hb, hk, hnc, hcm, hcs, htk⟩
theorem LtAt.names {F : Nat → Prop} {w : World} {a b c : Value} {A1 A2 : Option Addr} {n m c1 c2 : Nat} {t : Tree} (h : LtAt F w [a, b, c, .slice A1 n c1, .slice A2 m c2] t) : t.names.length ≤ c1 ∧ Rds F w A1 (strs t.names) := by
  obtain ⟨A1', c1', A2', c2', rs', e, g3, g4, q3, q4, _⟩ := h.open
  simp at e
  obtain ⟨_, _, _, ⟨rfl, _, rfl⟩, _⟩ := e
  exact ⟨g3, q3⟩
theorem own_set5 {w2 : World} {B n c3 g i : Nat} {xs : List Value} (ho : w2.ownsRow B 40 5 (.slice (some ⟨g, 0, none⟩) n c3) n xs) (hl : xs.length = n * 5) (hi : i < n) (u0 u1 u2 u3 u4 : Value) :
    (((((w2.setCell ⟨g, i * 5, none⟩ u0).setCell ⟨g, i * 5 + 1, none⟩ u1).setCell ⟨g, i * 5 + 2, none⟩ u2).setCell ⟨g, i * 5 + 3, none⟩ u3).setCell ⟨g, i * 5 + 4, none⟩ u4).ownsRow B 40 5 (.slice (some ⟨g, 0, none⟩) n c3) n (xs.take (i * 5) ++ [u0, u1, u2, u3, u4] ++ xs.drop (i * 5 + 5)) := by
  rw [← set5_eq xs (i * 5) u0 u1 u2 u3 u4 (by omega)]
  obtain ⟨cur, hb, hk, hnc, hcm, hcs, htk⟩ := own_blk ho
  have h0 := block_setCell hk (i * 5) u0
  have h1 := block_setCell h0 (i * 5 + 1) u1
  have h2 := block_setCell h1 (i * 5 + 2) u2
  have h3 := block_setCell h2 (i * 5 + 3) u3
  have h4 := block_setCell h3 (i * 5 + 4) u4
  have hlen := ho.1
  have hsz : (((((cur.setIfInBounds (i * 5) u0).setIfInBounds (i * 5 + 1) u1).setIfInBounds (i * 5 + 2) u2).setIfInBounds (i * 5 + 3) u3).setIfInBounds (i * 5 + 4) u4).size = c3 * 5 := by simp only [Array.size_setIfInBounds]; exact hcs
  have htk' : (((((cur.setIfInBounds (i * 5) u0).setIfInBounds (i * 5 + 1) u1).setIfInBounds (i * 5 + 2) u2).setIfInBounds (i * 5 + 3) u3).setIfInBounds (i * 5 + 4) u4).toList.take (n * 5) = ((((xs.set (i * 5) u0).set (i * 5 + 1) u1).set (i * 5 + 2) u2).set (i * 5 + 3) u3).set (i * 5 + 4) u4 := by
    simp only [Array.toList_setIfInBounds, List.take_set, htk]
  exact ⟨by simp only [List.length_set]; exact hlen, .inr ⟨g, c3, _, rfl, hb, h4, hnc, hcm, hsz, htk'⟩⟩
theorem with_fin {F : Nat → Prop} {t x : Tree} {i g c1 c3 d1 d2 : Nat} {A1 A2 B1 B2 : Option Addr} {c2 : Nat} {w w2 : World} {rs : List (List Value)} {r0 r1 r2 r3 r4 : Value} (ho : Hid (w2.ownsRow (w.heap.size + 1 + 1 + 1) 40 5 (.slice (some ⟨g, 0, none⟩) t.kids.length c3) t.kids.length rs.flatten)) (hl : rs.flatten.length = t.kids.length * 5) (hts : LtsAt F w rs t.kids) (hi : i < t.kids.length)
    (ht : LtAt F w [.int .i64 t.kind, .int .i64 t.num, .string t.text, .slice A1 t.names.length c1, .slice A2 t.kids.length c2] t) (hx : LtAt F w [.int .i64 x.kind, .int .i64 x.num, .string x.text, .slice B1 x.names.length d1, .slice B2 x.kids.length d2] x)
    (hb : Below w.heap.size w w2) (hg : w.heap.size + 1 + 1 + 1 ≤ g) (hc : t.kids.length ≤ c3) :
    WithPost F t i x w (.returned (.agg #[.int .i64 t.kind, .int .i64 t.num, .string t.text, .slice A1 t.names.length c1, .slice (some ⟨g, 0, none⟩) t.kids.length c3]))
      (((((((((((w2.setCell ⟨w.heap.size, 4, none⟩ (.slice (some ⟨g, 0, none⟩) t.kids.length c3)).setCell ⟨g, i * 5, none⟩ (.int .i64 x.kind)).setCell ⟨g, i * 5 + 1, none⟩ (.int .i64 x.num)).setCell ⟨g, i * 5 + 2, none⟩ (.string x.text)).setCell ⟨g, i * 5 + 3, none⟩ (.slice B1 x.names.length d1)).setCell ⟨g, i * 5 + 4, none⟩ (.slice B2 x.kids.length d2)).setCell ⟨w.heap.size + 1 + 1, 0, none⟩ r0).setCell ⟨w.heap.size + 1 + 1, 1, none⟩ r1).setCell ⟨w.heap.size + 1 + 1, 2, none⟩ r2).setCell ⟨w.heap.size + 1 + 1, 3, none⟩ r3).setCell ⟨w.heap.size + 1 + 1, 4, none⟩ r4) := by
  obtain ⟨g3, q3⟩ := ht.names
  have hO0 := own_agree (F := fun b => b ≠ w.heap.size) ho.out (Agree.of_setCell w2 ⟨w.heap.size, 4, none⟩ (.slice (some ⟨g, 0, none⟩) t.kids.length c3) (fun b h => h)) (fun k hk e => by have := (own_base ho.out k hk).1; omega)
  have hO := own_set5 hO0 hl hi (.int .i64 x.kind) (.int .i64 x.num) (.string x.text) (.slice B1 x.names.length d1) (.slice B2 x.kids.length d2)
  rw [← flatten_set rs hts.sizes i (by rw [hts.length]; exact hi)] at hO
  have hleV : w.heap.size ≤ (⟨w.heap.size, 4, none⟩ : Addr).block := Nat.le_refl _
  have hleG : ∀ j, w.heap.size ≤ (⟨g, j, none⟩ : Addr).block := fun j => by show w.heap.size ≤ g; omega
  have hleR : ∀ j, w.heap.size ≤ (⟨w.heap.size + 1 + 1, j, none⟩ : Addr).block := fun j => by show w.heap.size ≤ w.heap.size + 1 + 1; omega
  have hB := ((((((((((hb.setCell hleV (.slice (some ⟨g, 0, none⟩) t.kids.length c3)).setCell (hleG (i * 5)) (.int .i64 x.kind)).setCell (hleG (i * 5 + 1)) (.int .i64 x.num)).setCell (hleG (i * 5 + 2)) (.string x.text)).setCell (hleG (i * 5 + 3)) (.slice B1 x.names.length d1)).setCell (hleG (i * 5 + 4)) (.slice B2 x.kids.length d2)).setCell (hleR 0) r0).setCell (hleR 1) r1).setCell (hleR 2) r2).setCell (hleR 3) r3).setCell (hleR 4) r4
  have hne : ∀ c, w.heap.size + 1 + 1 + 1 ≤ c → c ≠ w.heap.size + 1 + 1 := fun c h => by omega
  have hR := (Rds.of_own hO).frame ((((((Agree.refl (fun b => w.heap.size + 1 + 1 + 1 ≤ b) _).set hne 0 r0).set hne 1 r1).set hne 2 r2).set hne 3 r3).set hne 4 r4)
  refine ⟨_, rfl, hB, ?_⟩
  have hkeep : ∀ b, F b → b < w.heap.size → Nw F w.heap.size b := fun b h h' => .inl ⟨h, h'⟩
  have hA : Agree F w _ := Agree.of_below hB
  have hq := (q3.mono (G := fun b => F b ∧ b < w.heap.size) (fun b h hl => ⟨h, hl⟩)).frame (Agree.of_below hB)
  have hk := (hts.set i hx).frame hA hkeep
  simp only [LtAt]
  exact ⟨A1, c1, some ⟨g, 0, none⟩, c3, _, by simp, g3, by simpa using hc, hq.mono (fun b h _ => .inl h), hR.mono (fun b h _ => .inr (by have h' : w.heap.size + 1 + 1 + 1 ≤ b := h; omega)), hk⟩
set_option maxRecDepth 100000 in
set_option maxHeartbeats 2000000 in
theorem sWith_any (t : Tree) (i : Nat) (x : Tree) (hi : i < t.kids.length) (hl : t.kids.length ≤ 1000000) (F : Nat → Prop) (cs xs : List Value) (w : World) (ht : LtAt F w cs t) (hx : LtAt F w xs x) :
    Calls Tryz.prog 41 #[.agg cs.toArray, .int .i64 (i : Int), .agg xs.toArray] w (WithPost F t i x w) := by
  obtain ⟨A1, c1, A2, c2, rs, rfl, g3, g4, r3, r4, hts⟩ := ht.open
  obtain ⟨B1, d1, B2, d2, rx, rfl, x3, x4, q3, q4, htx⟩ := hx.open
  obtain ⟨w1, hw⟩ : ∃ w1, w1 = ((w.alloc (.cells #[.int .i64 t.kind, .int .i64 t.num, .string t.text, .slice A1 t.names.length c1, .slice A2 t.kids.length c2] 40 (0, 0))).alloc (.cells #[.int .i64 x.kind, .int .i64 x.num, .string x.text, .slice B1 x.names.length d1, .slice B2 x.kids.length d2] 40 (0, 0))).alloc (.cells #[.int .i64 0, .int .i64 0, .string ⟨#[]⟩, .slice none 0 0, .slice none 0 0] 40 (0, 0)) := ⟨_, rfl⟩
  have hs1 : w1.heap.size = w.heap.size + 3 := by rw [hw]; simp
  have hb1 : Below w.heap.size w w1 := by rw [hw]; exact (((Below.refl _ _).alloc (Nat.le_refl _) _).alloc (by simp) _).alloc (by simp <;> omega) _
  have hkv : w1.heap[w.heap.size]? = some (.cells #[.int .i64 t.kind, .int .i64 t.num, .string t.text, .slice A1 t.names.length c1, .slice A2 t.kids.length c2] 40 (0, 0)) := by rw [hw]; (repeat (first | with_reducible assumption | (with_reducible refine blk_new _ ?_; (first | rfl | (simp; done) | (simp; omega))) | with_reducible apply block_setCell | (with_reducible refine blk_skip _ _ ?_ ?_; rotate_left; (first | (simp; done) | (simp; omega))) | with_reducible refine blk_old ?_))
  have hkx : w1.heap[w.heap.size + 1]? = some (.cells #[.int .i64 x.kind, .int .i64 x.num, .string x.text, .slice B1 x.names.length d1, .slice B2 x.kids.length d2] 40 (0, 0)) := by rw [hw]; (repeat (first | with_reducible assumption | (with_reducible refine blk_new _ ?_; (first | rfl | (simp; done) | (simp; omega))) | with_reducible apply block_setCell | (with_reducible refine blk_skip _ _ ?_ ?_; rotate_left; (first | (simp; done) | (simp; omega))) | with_reducible refine blk_old ?_))
  have hkr : w1.heap[w.heap.size + 1 + 1]? = some (.cells #[.int .i64 0, .int .i64 0, .string ⟨#[]⟩, .slice none 0 0, .slice none 0 0] 40 (0, 0)) := by rw [hw]; (repeat (first | with_reducible assumption | (with_reducible refine blk_new _ ?_; (first | rfl | (simp; done) | (simp; omega))) | with_reducible apply block_setCell | (with_reducible refine blk_skip _ _ ?_ ?_; rotate_left; (first | (simp; done) | (simp; omega))) | with_reducible refine blk_old ?_))
  have HT := Lib.hid ht
  have HX := Lib.hid hx
  have HB1 := Lib.hid hb1
  have HKV := Lib.hid hkv
  have HKX := Lib.hid hkx
  have HKR := Lib.hid hkr
  have HFL := Lib.hid (flat_one hts)
  have hfl : rs.flatten.length = t.kids.length * 5 := by rw [flatten_len rs hts.sizes, hts.length]
  have HLEN := Lib.hid hfl
  have R4 := Lib.hid (r4.frame (Agree.of_below hb1))
  have HTS := Lib.hid hts
  have hs1' : w1.heap.size = w.heap.size + 1 + 1 + 1 := hs1
  have hown : (w1.alloc (.cells #[] 40 (0, 0))).ownsRow (w.heap.size + 1 + 1 + 1) 40 5 (.slice (some ⟨w.heap.size + 1 + 1 + 1, 0, none⟩) 0 0) 0 [] := by
    have h := own_empty w1 40 5
    rw [hs1'] at h
    exact h
  have HOWN := Lib.hid hown
  have HW := Lib.hid hw
  have HBN := Lib.hid (show Below w1.heap.size w1 (w1.alloc (.cells #[] 40 (0, 0))) from (Below.refl _ _).alloc (Nat.le_refl _) _)
  clear ht hx r3 r4 hts q3 q4 htx hb1 hkv hkx hkr hfl hown hw
  go_enter Tryz.func41, Tryz.ntmps41
  go_wp2_with (at_builtin; rw [← HW.out]; refine append_rows (w.heap.size + 1 + 1 + 1) rfl (.tmp 7) (.tmp 9) 38 40 _ 5 80 rfl Tryz.underlying38 infoL1V rfl (by decide) (.slice (some ⟨w.heap.size + 1 + 1 + 1, 0, none⟩) 0 0) 0 [] rfl HOWN.out A2 t.kids.length c2 rs.flatten rfl HLEN.out (R4.out.frame (Agree.of_below (HBN.out))) HFL.out (by simp only [maxLen]; omega) (by omega) (by simp; omega) ?_; intro A3 c3 w2 hc3 ho3 hg3 hat3; obtain ⟨g, rfl, hgb, hgl, hbl2, HO3, k2, x2, r2⟩ := with_facts hs1' ho3 hg3 (by omega) HBN.out HB1.out HKV.out HKX.out HKR.out; obtain ⟨u0, q0, f0⟩ := with_cell HO3 HLEN.out hi 0 (by omega); rw [Nat.add_zero] at q0 f0; obtain ⟨u1, q1, f1⟩ := with_cell HO3 HLEN.out hi 1 (by omega); obtain ⟨u2, q2, f2⟩ := with_cell HO3 HLEN.out hi 2 (by omega); obtain ⟨u3, q3, f3⟩ := with_cell HO3 HLEN.out hi 3 (by omega); obtain ⟨u4, q4, f4⟩ := with_cell HO3 HLEN.out hi 4 (by omega); have v0 := cell_of_block k2 0; have v1 := cell_of_block k2 1; have v2 := cell_of_block k2 2; have v3 := cell_of_block k2 3; have v4 := cell_of_block k2 4; have fv4 := free_of_block k2 4;have rr0 := cell_of_block r2 0; have fr0 := free_of_block r2 0; have rr1 := cell_of_block r2 1; have fr1 := free_of_block r2 1; have rr2 := cell_of_block r2 2; have fr2 := free_of_block r2 2; have rr3 := cell_of_block r2 3; have fr3 := free_of_block r2 3; have rr4 := cell_of_block r2 4; have fr4 := free_of_block r2 4; have y0 := cell_of_block x2 0; have y1 := cell_of_block x2 1; have y2 := cell_of_block x2 2; have y3 := cell_of_block x2 3; have y4 := cell_of_block x2 4; have gn1 : ¬ g = w.heap.size := (by omega); have gn2 : ¬ w.heap.size = g := (by omega); have gn3 : ¬ g = w.heap.size + 1 := (by omega); have gn4 : ¬ w.heap.size + 1 = g := (by omega); simp at v0 v1 v2 v3 v4 y0 y1 y2 y3 y4 rr0 rr1 rr2 rr3 rr4; have HK2 := Lib.hid k2; have HX2 := Lib.hid x2; have HR2 := Lib.hid r2; clear ho3 hat3 hg3 k2 x2 r2)
  refine bodyPost_ret (results_cell_row rfl _ _ (w.heap.size + 1 + 1) _ _ _ _ rfl (block_setCell (block_setCell (block_setCell (block_setCell (block_setCell ((Below.heap_setCell _ _ _ _ (by simp; omega)).trans ((Below.heap_setCell _ _ _ _ (by simp; omega)).trans ((Below.heap_setCell _ _ _ _ (by simp; omega)).trans ((Below.heap_setCell _ _ _ _ (by simp; omega)).trans ((Below.heap_setCell _ _ _ _ (by simp; omega)).trans ((Below.heap_setCell _ _ _ _ (by simp <;> omega)).trans HR2.out)))))) _ _) _ _) _ _) _ _) _ _) Tryz.underlying40 rfl ((info_size infoL1V).trans (by simp))) rfl ?_
  exact with_fin HO3 HLEN.out HTS.out hi HT.out HX.out hbl2 hgb (by omega)
end Go.Proofs.YtcbcndoddikpjaaGreatDoor
