/- The cursor that the laws' draws read their bytes by: next, pick, one, of, among. The reference's l1Put at a list: a part more. The draws' trees: plain words and memory. -/
import Derived.Test.YteeppdobeeodiaaGreatDoorOp1
import Derived.Test.YteeppdobeeodiaaGreatDoorVal2
import Derived.Deep.RegionWith
import Derived.Test.YteeppdobeeodiaaGreatDoorSp7
namespace Go.Proofs.YteeppdobeeodiaaGreatDoor
open Go.RowKit
def u8s (l : List Int) : List Value := l.map (Value.int .u8)
/-- A cursor in block k, that has read a bytes of a row of bytes. -/
structure Cur (k : Nat) (A : Option Addr) (c : Nat) (l : List Int) (a : Nat) (w : World) : Prop where
  blk : ∃ s, w.heap[k]? = some (.cells #[.slice A l.length c, .int .i64 (a : Int), .int .u64 s] 54 (0, 0))
  row : Rds (fun b => b < k) w A (u8s l)
  cap : l.length ≤ c
  big : l.length ≤ 9223372036854775807
  byte : ∀ x ∈ l, 0 ≤ x ∧ x ≤ 255
/-- What a draw does with the memory: its cursor moves on by at most K bytes, new blocks are made, nothing else is changed. -/
def Moved (k : Nat) (A : Option Addr) (c : Nat) (l : List Int) (K a : Nat) (w w' : World) : Prop := Below k w w' ∧ Agree (fun b => b ≠ k) w w' ∧ ∃ a', a ≤ a' ∧ a' ≤ a + K ∧ Cur k A c l a' w'
section
variable {k : Nat} {A : Option Addr} {c : Nat} {l : List Int} {K K1 K2 a : Nat} {w w1 w2 : World}
theorem Cur.lt (h : Cur k A c l a w) : k < w.heap.size := by
  obtain ⟨s, hs⟩ := h.blk
  exact lt_of_block hs
theorem Moved.size (h : Moved k A c l K a w w1) : w.heap.size ≤ w1.heap.size := h.1.size
theorem Moved.refl (h : Cur k A c l a w) : Moved k A c l 0 a w w := ⟨Below.refl _ _, Agree.refl _ _, a, Nat.le_refl _, Nat.le_refl _, h⟩
theorem Moved.more (h : Moved k A c l K1 a w w1) (hK : K1 ≤ K2) : Moved k A c l K2 a w w1 := by
  obtain ⟨h1, h2, a', h3, h4, h5⟩ := h
  exact ⟨h1, h2, a', h3, by omega, h5⟩
theorem Moved.then (h : Moved k A c l K1 a w w1) (h' : ∀ a', a ≤ a' → a' ≤ a + K1 → Cur k A c l a' w1 → Moved k A c l K2 a' w1 w2) : Moved k A c l (K1 + K2) a w w2 := by
  obtain ⟨h1, h2, a', h3, h4, h5⟩ := h
  obtain ⟨g1, g2, a'', g3, g4, g5⟩ := h' a' h3 h4 h5
  refine ⟨h1.trans g1, ⟨Nat.le_trans h2.size g2.size, fun b hb hl => ?_⟩, a'', by omega, by omega, g5⟩
  rw [g2.block b hb (Nat.lt_of_lt_of_le hl h2.size), h2.block b hb hl]
theorem Cur.below (h : Cur k A c l a w) (hb : Below w.heap.size w w1) : Cur k A c l a w1 := by
  obtain ⟨s, hs⟩ := h.blk
  exact ⟨⟨s, block_below hs hb⟩, h.row.frame (Agree.of_below hb), h.cap, h.big, h.byte⟩
theorem Moved.of_below (h : Cur k A c l a w) (hb : Below w.heap.size w w1) : Moved k A c l 0 a w w1 :=
  ⟨hb.mono (Nat.le_of_lt h.lt), Agree.of_below hb, a, Nat.le_refl _, Nat.le_refl _, h.below hb⟩
/-- What lies in new blocks, or in old ones but the cursor's, stays. -/
theorem Moved.agree (h : Moved k A c l K a w w1) {F : Nat → Prop} (hF : ∀ b, F b → b ≠ k) : Agree F w w1 := ⟨h.2.1.size, fun b hb hl => h.2.1.block b (hF b hb) hl⟩
end
theorem and255 (x : Int) : ∃ n : Nat, n ≤ 255 ∧ wrap64 (bits .and .u64 x 255) = (n : Int) := by
  refine ⟨(BitVec.ofInt 64 x &&& BitVec.ofInt 64 (255 : Int)).toNat, ?_, ?_⟩
  · rw [BitVec.toNat_and]
    exact Nat.le_trans Nat.and_le_right (by decide)
  · have hn : (BitVec.ofInt 64 x &&& BitVec.ofInt 64 (255 : Int)).toNat ≤ 255 := by
      rw [BitVec.toNat_and]
      exact Nat.le_trans Nat.and_le_right (by decide)
    show wrap64 (IntKind.u64.wrap ((BitVec.ofInt 64 x &&& BitVec.ofInt 64 (255 : Int)).toNat : Int)) = _
    generalize (BitVec.ofInt 64 x &&& BitVec.ofInt 64 (255 : Int)).toNat = n at hn ⊢
    rw [IntKind.wrap_u64]
    unfold wrap64
    omega
theorem moved_next {k : Nat} {A : Option Addr} {c : Nat} {l : List Int} {a : Nat} {w : World} {v1 v2 : Value} {s' : Int} (h : Cur k A c l a w) (h1 : v1 = .int .i64 ((a + 1 : Nat) : Int)) (h2 : v2 = .int .u64 s') (W : World) (hW : W.heap = ((w.setCell ⟨k, 1, none⟩ v1).setCell ⟨k, 2, none⟩ v2).heap) (hB : Below k w W) : Moved k A c l 1 a w W := by
  subst h1 h2
  obtain ⟨s, hs⟩ := h.blk
  have hA : Agree (fun b => b ≠ k) w W := by
    have h := ((Agree.refl (fun b => b ≠ k) w).set (fun _ h => h) 1 (.int .i64 ((a + 1 : Nat) : Int))).set (fun _ h => h) 2 (.int .u64 s')
    exact ⟨by rw [hW]; exact h.size, fun b hb hl => by rw [hW]; exact h.block b hb hl⟩
  refine ⟨hB, hA, a + 1, by omega, Nat.le_refl _, ⟨⟨s', ?_⟩, h.row.frame ⟨hA.size, fun b hb hl => hA.block b (by have h' : b < k := hb; omega) hl⟩, h.cap, h.big, h.byte⟩⟩
  rw [hW, block_setCell (block_setCell hs 1 _) 2 _]
  rfl
set_option maxRecDepth 100000 in
theorem next_any (k : Nat) (A : Option Addr) (c : Nat) (l : List Int) (a : Nat) (w : World) (h : Cur k A c l a w) (ha : a ≤ 4611686018427387904) :
    Calls Tryz.prog 93 #[.pointer (some ⟨k, 0, none⟩)] w (fun e w' => ∃ x : Nat, e = .returned (.int .i64 (x : Int)) ∧ x ≤ 255 ∧ Moved k A c l 1 a w w') := by
  have HC := Lib.hid h
  obtain ⟨s, hs⟩ := h.blk
  have HS := Lib.hid hs
  have k0 := cell_of_block hs 0
  have k1 := cell_of_block hs 1
  have k2 := cell_of_block hs 2
  simp at k0 k1 k2
  clear hs h
  by_cases hlt : a < l.length
  · obtain ⟨b, o, rfl, hF, hl, hcell⟩ := HC.out.row (by intro e; unfold u8s at e; have h0 := congrArg List.length e; simp at h0; rw [h0] at hlt; simp at hlt)
    have hx : l[a]? = some (l[a]'hlt) := by simp [hlt]
    have hmem : l[a]'hlt ∈ l := List.getElem_mem hlt
    generalize l[a]'hlt = x at hx hmem
    obtain ⟨hx0, hx1⟩ := HC.out.byte x hmem
    have hb := hcell a (.int .u8 x) (by simp [u8s, hx])
    have HX := Lib.hid hx
    clear hx hmem hcell
    go_enter Tryz.func93, Tryz.ntmps93
    go_wp2
    go_region
    go_wp2
    go_region
    have f1 := free_of_block HS.out 1
    have f2 := free_of_block HS.out 2
    have hle : ((a : Int) + 1 ≤ (l.length : Int)) := by omega
    go_wp2
    generalize IntKind.u64.wrap (IntKind.u64.wrap (IntKind.u64.wrap (s * 6364136223846793005) + x) + 1442695040888963407) = s'
    obtain ⟨W, hW⟩ : ∃ W, W = ((w.setCell ⟨k, 1, none⟩ (.int .i64 ((a : Int) + 1))).setCell ⟨k, 2, none⟩ (.int .u64 s')).drew.drew := ⟨_, rfl⟩
    rw [← hW]
    have hkW : W.heap[k]? = some (.cells #[.slice (some ⟨b, o, none⟩) l.length c, .int .i64 ((a : Int) + 1), .int .u64 s'] 54 (0, 0)) := by
      rw [hW]
      exact block_setCell (block_setCell HS.out 1 _) 2 _
    have hbW : Below k w W := by
      rw [hW]
      exact (((Below.refl k w).setCell (p := ⟨k, 1, none⟩) (Nat.le_refl _) _).setCell (p := ⟨k, 2, none⟩) (Nat.le_refl _) _).drew.drew
    have HMV := Lib.hid (moved_next HC.out (v1 := .int .i64 ((a : Int) + 1)) (by simp) rfl W.drew (by rw [hW]; rfl) hbW.drew)
    have m0 := cell_of_block hkW 0
    have m1 := cell_of_block hkW 1
    have m2 := cell_of_block hkW 2
    simp at m0 m1 m2
    clear hW hkW hbW k0 k1 k2 f1 f2
    go_region
    go_wp2
    go_ret
    exact ⟨x.toNat, by rw [Int.toNat_of_nonneg hx0]; rfl, by omega, HMV.out⟩
  · have hx0 : (0 : Int) ≤ 0 := by omega
    go_enter Tryz.func93, Tryz.ntmps93
    go_wp2
    go_region
    have f1 := free_of_block HS.out 1
    have f2 := free_of_block HS.out 2
    have hle : ¬ ((a : Int) + 1 ≤ (l.length : Int)) := by omega
    go_wp2
    generalize IntKind.u64.wrap (IntKind.u64.wrap (IntKind.u64.wrap (s * 6364136223846793005)) + 1442695040888963407) = s'
    obtain ⟨W, hW⟩ : ∃ W, W = ((w.setCell ⟨k, 1, none⟩ (.int .i64 ((a : Int) + 1))).setCell ⟨k, 2, none⟩ (.int .u64 s')).drew := ⟨_, rfl⟩
    rw [← hW]
    have hkW : W.heap[k]? = some (.cells #[.slice A l.length c, .int .i64 ((a : Int) + 1), .int .u64 s'] 54 (0, 0)) := by
      rw [hW]
      exact block_setCell (block_setCell HS.out 1 _) 2 _
    have hbW : Below k w W := by
      rw [hW]
      exact (((Below.refl k w).setCell (p := ⟨k, 1, none⟩) (Nat.le_refl _) _).setCell (p := ⟨k, 2, none⟩) (Nat.le_refl _) _).drew
    have HMV := Lib.hid (moved_next HC.out (v1 := .int .i64 ((a : Int) + 1)) (by simp) rfl W.drew (by rw [hW]; rfl) hbW.drew)
    have m0 := cell_of_block hkW 0
    have m1 := cell_of_block hkW 1
    have m2 := cell_of_block hkW 2
    simp at m0 m1 m2
    clear hW hkW hbW k0 k1 k2 f1 f2
    go_region
    go_wp2
    obtain ⟨n, hn, en⟩ := and255 (s' / 1099511627776)
    go_ret
    exact ⟨n, by rw [← en]; rfl, hn, HMV.out⟩
set_option maxRecDepth 100000 in
theorem pick_any (n : Nat) (hn : 1 ≤ n) (hn2 : n ≤ 200) (k : Nat) (A : Option Addr) (c : Nat) (l : List Int) (a : Nat) (w : World) (h : Cur k A c l a w) (ha : a + 1 ≤ 4611686018427387904) :
    Calls Tryz.prog 57 #[.pointer (some ⟨k, 0, none⟩), .int .i64 (n : Int)] w (fun e w' => ∃ x : Nat, e = .returned (.int .i64 (x : Int)) ∧ x < n ∧ Moved k A c l 2 a w w') := by
  have HC := Lib.hid h
  have HN := Lib.hid (fun (a' : Nat) (W : World) (h' : Cur k A c l a' W) (hl : a' ≤ a + 1) => next_any k A c l a' W h' (by omega))
  clear h
  go_enter Tryz.func57, Tryz.ntmps57
  by_cases h1 : (n : Int) ≤ 1
  · go_wp2
    go_ret
    exact ⟨0, rfl, by omega, (Moved.refl HC.out).more (by omega)⟩
  · go_wp2_with fail
    refine (HN.out a w HC.out (by omega)).mono ?_
    rintro e w1 ⟨x, rfl, hx, hm⟩
    have h2 : ¬ (200 : Int) < (n : Int) := by omega
    have HM := Lib.hid hm
    clear hm
    go_wp2
    go_ret
    exact ⟨x % n, by rw [show ((x % n : Nat) : Int) = (x : Int) % (n : Int) from rfl]; rfl, Nat.mod_lt _ (by omega), HM.out.more (by omega)⟩
theorem one_any (n : Nat) (hn : 1 ≤ n) (hn2 : n ≤ 200) (k : Nat) (A : Option Addr) (c : Nat) (l : List Int) (a : Nat) (w : World) (h : Cur k A c l a w) (ha : a + 1 ≤ 4611686018427387904) :
    Calls Tryz.prog 34 #[.pointer (some ⟨k, 0, none⟩), .int .i64 (n : Int)] w (fun e w' => ∃ x : Bool, e = .returned (.bool x) ∧ Moved k A c l 2 a w w') := by
  have HP := Lib.hid (pick_any n hn hn2 k A c l a w h ha)
  clear h
  go_enter Tryz.func34, Tryz.ntmps34
  go_wp2_with fail
  refine HP.out.mono ?_
  rintro e w1 ⟨x, rfl, hx, hm⟩
  have HM := Lib.hid hm
  clear hm
  go_wp2
  go_ret
  exact ⟨_, rfl, HM.out⟩
set_option maxRecDepth 100000 in
theorem of_any (ls : List ByteArray) (h1 : 1 ≤ ls.length) (h2 : ls.length ≤ 200) (G : Nat → Prop) (B : Option Addr) (d : Nat) (k : Nat) (A : Option Addr) (c : Nat) (l : List Int) (a : Nat) (w : World) (h : Cur k A c l a w) (ha : a + 1 ≤ 4611686018427387904) (hr : Rds G w B (strs ls)) (hG : ∀ b, G b → b ≠ k) :
    Calls Tryz.prog 86 #[.pointer (some ⟨k, 0, none⟩), .slice B ls.length d] w (fun e w' => ∃ s, e = .returned (.string s) ∧ s ∈ ls ∧ Moved k A c l 2 a w w') := by
  have HP := Lib.hid (pick_any ls.length h1 h2 k A c l a w h ha)
  have HR := Lib.hid hr
  clear h hr
  go_enter Tryz.func86, Tryz.ntmps86
  go_wp2_with fail
  refine HP.out.mono ?_
  rintro e w1 ⟨x, rfl, hx, hm⟩
  have HM := Lib.hid hm
  obtain ⟨b, o, s, rfl, hbl, hcell, hs, hsm⟩ := name_at (HR.out.frame (hm.agree hG)) x hx
  clear hm
  go_wp2
  go_ret
  exact ⟨s, rfl, hsm, HM.out⟩
def ints (ns : List Int) : List Value := ns.map (Value.int .i64)
set_option maxRecDepth 100000 in
theorem among_any (ls : List Int) (h1 : 1 ≤ ls.length) (h2 : ls.length ≤ 200) (G : Nat → Prop) (B : Option Addr) (d : Nat) (k : Nat) (A : Option Addr) (c : Nat) (l : List Int) (a : Nat) (w : World) (h : Cur k A c l a w) (ha : a + 1 ≤ 4611686018427387904) (hr : Rds G w B (ints ls)) (hG : ∀ b, G b → b ≠ k) :
    Calls Tryz.prog 87 #[.pointer (some ⟨k, 0, none⟩), .slice B ls.length d] w (fun e w' => ∃ s, e = .returned (.int .i64 s) ∧ s ∈ ls ∧ Moved k A c l 2 a w w') := by
  have HP := Lib.hid (pick_any ls.length h1 h2 k A c l a w h ha)
  have HR := Lib.hid hr
  clear h hr
  go_enter Tryz.func87, Tryz.ntmps87
  go_wp2_with fail
  refine HP.out.mono ?_
  rintro e w1 ⟨x, rfl, hx, hm⟩
  have HM := Lib.hid hm
  have hR2 := HR.out.frame (hm.agree hG)
  have hv : ls[x]? = some (ls[x]'hx) := by simp [hx]
  have hmem : ls[x]'hx ∈ ls := List.getElem_mem hx
  generalize ls[x]'hx = s at hv hmem
  obtain ⟨b, o, rfl, hF, hl, hcell⟩ := hR2 (by intro e; unfold ints at e; have h0 := congrArg List.length e; simp at h0; rw [h0] at hx; simp at hx)
  have hc := hcell x (.int .i64 s) (by simp [ints, hv])
  clear hm hcell hv
  go_wp2
  go_ret
  exact ⟨s, rfl, hmem, HM.out⟩
end Go.Proofs.YteeppdobeeodiaaGreatDoor
namespace Go.Proofs.YteeppdobeeodiaaGreatDoor
open Go.RowKit
def SPutLPost (F : Nat → Prop) (t : Tree) (x : Tree) (w : World) (e : Ending) (w' : World) : Prop :=
  ∃ cs, e = .returned (.agg cs.toArray) ∧ Below w.heap.size w w' ∧ LtAt (Nw F w.heap.size) w' cs (.mk 6 0 emptyB [] (t.kids ++ [x]))
theorem sputl_fin {F : Nat → Prop} {t x : Tree} {g : Nat} {w w1 wx : World} {rk rs : List (List Value)} {xs : List Value} {An Ak : Option Addr} {cn ck : Nat} {v0 v1 v2 v3 v4 : Value} (h : PRel 6 ⟨#[]⟩ g w w1 wx [] rk An Ak cn ck)
    (hts : LtsAt F w rs t.kids) (hx : LtAt F w xs x) (hrk : rk = rs ++ [xs]) (hg : g = w.heap.size + 1 + 1 + 1) :
    SPutLPost F t x w (.returned (.agg #[.int .i64 6, .int .i64 0, .string ⟨#[]⟩, .slice An 0 cn, .slice Ak rk.length ck]))
      (((((wx.setCell ⟨w.heap.size + 1 + 1, 0, none⟩ v0).setCell ⟨w.heap.size + 1 + 1, 1, none⟩ v1).setCell ⟨w.heap.size + 1 + 1, 2, none⟩ v2).setCell ⟨w.heap.size + 1 + 1, 3, none⟩ v3).setCell ⟨w.heap.size + 1 + 1, 4, none⟩ v4) := by
  have hleR : ∀ j, w.heap.size ≤ (⟨w.heap.size + 1 + 1, j, none⟩ : Addr).block := fun j => by show w.heap.size ≤ w.heap.size + 1 + 1; omega
  have hB := ((((h.bel.setCell (hleR 0) v0).setCell (hleR 1) v1).setCell (hleR 2) v2).setCell (hleR 3) v3).setCell (hleR 4) v4
  have hne : ∀ c, g + 1 ≤ c → c ≠ w.heap.size + 1 + 1 := fun c h => by omega
  have hA := (((((Agree.refl (fun b => g + 1 ≤ b) wx).set hne 0 v0).set hne 1 v1).set hne 2 v2).set hne 3 v3).set hne 4 v4
  have hR2 := (Rds.of_own h.hk).frame hA
  obtain ⟨_, _, e1, hc1⟩ := own_slice h.hn
  obtain ⟨_, _, e2, hc2⟩ := own_slice h.hk
  simp only [Value.slice.injEq] at e1 e2
  obtain ⟨_, _, rfl⟩ := e1
  obtain ⟨_, _, rfl⟩ := e2
  have hkeep : ∀ b, F b → b < w.heap.size → Nw F w.heap.size b := fun b h h' => .inl ⟨h, h'⟩
  have hl : LtsAt F w (rs ++ [xs]) (t.kids ++ [x]) := hts.app (LtsAt.one hx)
  have hk := hl.frame (Agree.of_below hB) hkeep
  refine ⟨_, rfl, hB, ?_⟩
  have hlen : (t.kids ++ [x]).length = rk.length := by rw [hrk]; exact hl.length.symm
  simp only [LtAt]
  refine ⟨An, cn, Ak, ck, rk, ?_, hc1, by rw [hlen]; exact hc2, Rds.nil _ _ _, hR2.mono (fun b h _ => .inr (by have h' : g + 1 ≤ b := h; omega)), by rw [hrk]; exact hk⟩
  rw [hlen]
  rfl
set_option maxRecDepth 100000 in
set_option maxHeartbeats 4000000 in
theorem sPutL_any (t : Tree) (nm : ByteArray) (x : Tree) (hk7 : t.kind = 6) (hl : t.kids.length ≤ 1000000) (F : Nat → Prop) (cs xs : List Value) (w : World) (ht : LtAt F w cs t) (hx : LtAt F w xs x) :
    Calls Tryz.prog 48 #[.agg cs.toArray, .string nm, .agg xs.toArray] w (SPutLPost F t x w) := by
  obtain ⟨A1, c1, A2, c2, rs, rfl, g3, g4, r3, r4, hts⟩ := ht.open
  obtain ⟨B1, d1, B2, d2, rx, rfl, x3, x4, q3, q4, htx⟩ := hx.open
  rw [hk7] at ht ⊢
  obtain ⟨w1, hw⟩ : ∃ w1, w1 = ((w.alloc (.cells #[.int .i64 6, .int .i64 t.num, .string t.text, .slice A1 t.names.length c1, .slice A2 t.kids.length c2] 44 (0, 0))).alloc (.cells #[.int .i64 x.kind, .int .i64 x.num, .string x.text, .slice B1 x.names.length d1, .slice B2 x.kids.length d2] 44 (0, 0))).alloc (.cells #[.int .i64 0, .int .i64 0, .string ⟨#[]⟩, .slice none 0 0, .slice none 0 0] 44 (0, 0)) := ⟨_, rfl⟩
  have hs1 : w1.heap.size = w.heap.size + 1 + 1 + 1 := by rw [hw]; simp
  have hb1 : Below w.heap.size w w1 := by rw [hw]; exact (((Below.refl _ _).alloc (Nat.le_refl _) _).alloc (by simp) _).alloc (by simp <;> omega) _
  have hkv : w1.heap[w.heap.size]? = some (.cells #[.int .i64 6, .int .i64 t.num, .string t.text, .slice A1 t.names.length c1, .slice A2 t.kids.length c2] 44 (0, 0)) := by rw [hw]; (repeat (first | with_reducible assumption | (with_reducible refine blk_new _ ?_; (first | rfl | (simp; done) | (simp; omega))) | with_reducible apply block_setCell | (with_reducible refine blk_skip _ _ ?_ ?_; rotate_left; (first | (simp; done) | (simp; omega))) | with_reducible refine blk_old ?_))
  have hkx : w1.heap[w.heap.size + 1]? = some (.cells #[.int .i64 x.kind, .int .i64 x.num, .string x.text, .slice B1 x.names.length d1, .slice B2 x.kids.length d2] 44 (0, 0)) := by rw [hw]; (repeat (first | with_reducible assumption | (with_reducible refine blk_new _ ?_; (first | rfl | (simp; done) | (simp; omega))) | with_reducible apply block_setCell | (with_reducible refine blk_skip _ _ ?_ ?_; rotate_left; (first | (simp; done) | (simp; omega))) | with_reducible refine blk_old ?_))
  have hkr : w1.heap[w.heap.size + 1 + 1]? = some (.cells #[.int .i64 0, .int .i64 0, .string ⟨#[]⟩, .slice none 0 0, .slice none 0 0] 44 (0, 0)) := by rw [hw]; (repeat (first | with_reducible assumption | (with_reducible refine blk_new _ ?_; (first | rfl | (simp; done) | (simp; omega))) | with_reducible apply block_setCell | (with_reducible refine blk_skip _ _ ?_ ?_; rotate_left; (first | (simp; done) | (simp; omega))) | with_reducible refine blk_old ?_))
  have HT := Lib.hid ht
  have HX := Lib.hid hx
  have HB1 := Lib.hid hb1
  have HKV := Lib.hid hkv
  have HKX := Lib.hid hkx
  have HKR := Lib.hid hkr
  have HFL := Lib.hid (flat_one hts)
  have hfl : rs.flatten.length = t.kids.length * 5 := by rw [flatten_len rs hts.sizes, hts.length]
  have HLEN := Lib.hid hfl
  have R3 := Lib.hid (r3.mono (G := fun b => F b ∧ b < w.heap.size) (fun b h hl => ⟨h, hl⟩))
  have R4 := Lib.hid (r4.mono (G := fun b => F b ∧ b < w.heap.size) (fun b h hl => ⟨h, hl⟩))
  have HTS := Lib.hid hts
  have HW := Lib.hid hw
  clear ht hx r3 r4 hts q3 q4 htx hb1 hkv hkx hkr hfl hw
  go_enter Tryz.func48, Tryz.ntmps48
  have z0 := cell_of_block HKV.out 0
  have z3 := cell_of_block HKV.out 3
  have z4 := cell_of_block HKV.out 4
  simp at z0 z3 z4
  go_upto_if 14 with fail
  rw [← HW.out]
  obtain ⟨p, hp⟩ : ∃ p, p = t.kids.length := ⟨_, rfl⟩
  have HP' := Lib.hid hp
  have hpl : p ≤ t.kids.length := by omega
  clear hp
  rw [← HP'.out]
  have HML := Lib.hid hpl
  have HNL := Lib.hid True.intro
  go_upto_region 7 with fail
  have hP0 : PRel 6 ⟨#[]⟩ (w.heap.size + 1 + 1 + 1) w w1 (w1.alloc (.cells #[.int .i64 6, .int .i64 0, .string ⟨#[]⟩, .slice none 0 0, .slice none 0 0] 44 (0, 0))) [] [] none none 0 0 :=
    ⟨HB1.out.alloc HB1.out.size _, by simp; omega, fun b hb => Go.heap_alloc_old w1 _ (by omega), by rw [← hs1]; exact heap_alloc_new _ _, World.ownsRow_nil _ _ _ _, World.ownsRow_nil _ _ _ _⟩
  obtain ⟨wo, hwo⟩ : ∃ wo, wo = w1.alloc (.cells #[.int .i64 6, .int .i64 0, .string ⟨#[]⟩, .slice none 0 0, .slice none 0 0] 44 (0, 0)) := ⟨_, rfl⟩
  rw [← hwo] at hP0 ⊢
  have HP := Lib.hid hP0
  clear hP0 hwo
  clear z0 z3 z4
  have hsz := HTS.out.sizes
  have hrl : rs.length = t.kids.length := HTS.out.length
  have hpk : p ≤ rs.length := by rw [hrl]; exact hpl
  have HLF := Lib.hid (show (rs.take p).flatten.length = p * 5 by rw [flatten_len _ (fun r hr => hsz r (List.mem_of_mem_take hr)), List.length_take, Nat.min_eq_left hpk])
  have HLB := Lib.hid (show (rs.drop p).flatten.length = (t.kids.length - p) * 5 by rw [flatten_len _ (fun r hr => hsz r (List.mem_of_mem_drop hr)), List.length_drop, hrl])
  have HRF := Lib.hid (fun (W : World) (hb : Below w.heap.size w W) => show Rds (fun b => F b ∧ b < w.heap.size) W A2 (rs.take p).flatten by rw [(flatten_take rs hsz p).1]; exact (R4.out.frame (Agree.of_below hb)).take _)
  have HRB := Lib.hid (fun (W : World) (hb : Below w.heap.size w W) => show Rds (fun b => F b ∧ b < w.heap.size) W (if c2 = p then A2 else A2.map (fun x => x.add (p * 5))) (rs.drop p).flatten by
    rw [(flatten_take rs hsz p).2]
    exact (R4.out.frame (Agree.of_below hb)).drop _ _ _ (fun e => List.drop_eq_nil_of_le (by rw [flatten_len rs hsz, hrl]; omega)))
  have HO1 := Lib.hid (show ∀ u ∈ (rs.take p).flatten, u.oneCell' = true from fun u hu => HFL.out u (by rw [(flatten_take rs hsz p).1] at hu; exact List.mem_of_mem_take hu))
  have HO2 := Lib.hid (show ∀ u ∈ (rs.drop p).flatten, u.oneCell' = true from fun u hu => HFL.out u (by rw [(flatten_take rs hsz p).2] at hu; exact List.mem_of_mem_drop hu))
  have hp2 : p ≤ c2 := by omega
  have HRL := Lib.hid hrl
  clear hsz hrl hpk
  have hp3 : p ≤ t.kids.length := by have := HML.out; omega
  have HE := Lib.hid (show 0 + p = ([] ++ rs.take p).length by have h1 := HRL.out; have h2 := HML.out; simp; omega)
  skip
  go_cut [40] (fun _ wx => ∃ Ak6 ck6, PRel 6 ⟨#[]⟩ (w.heap.size + 1 + 1 + 1) w w1 wx [] ([] ++ rs.take p) none Ak6 0 ck6)
  case first =>
    have z4 := cell_of_block ((HP.out.agr w.heap.size (by omega)).trans HKV.out) 4
    have y4 := cell_of_block HP.out.ko 4
    have f4 := free_of_block HP.out.ko 4
    simp at z4 y4
    go_region_law (refine step_append_rows (w.heap.size + 1 + 1 + 1 + 1) rfl (.tmp 35) (.tmp 39) 42 44 _ 5 80 rfl Tryz.underlying42 infoL1V rfl (by decide) (.slice none (0) 0) (0) ([]) rfl HP.out.drawn.hk _ (p) _ ((rs.take p).flatten) rfl HLF.out (HRF.out _ HP.out.drawn.bel) HO1.out (by simp only [maxLen]; omega) (by omega) (by have := HP.out.size; simp; omega) ?_; intro A5 c5 w5 hc5 ho5 hg5; have HNXT := Lib.hid (HP.out.drawn.kids (by omega) HE.out ho5 hg5); have hk5 := HP.out.drawn.outk hg5; have q4 := cell_of_block hk5 4; have u4 := free_of_block hk5 4; simp at q4; clear ho5 hg5 hk5)
    all_goals
      go_wp2
      go_meet
      refine ⟨A5, c5, ?_⟩
      have h := HNXT.out
      simp only [Nat.zero_add, Nat.add_assoc] at h
      exact h
  case rest =>
    obtain ⟨Ak1, ck1, hP⟩ := hcut
    obtain ⟨rk1, hv⟩ : ∃ v, v = [] ++ rs.take p := ⟨_, rfl⟩
    rw [← hv] at hP
    have Hrk1 := Lib.hid hv
    have hlrk1 : rk1.length = p := by rw [hv]; have h1 := HRL.out; have h2 := HML.out; have h3 := HNL.out; simp <;> omega
    have HLrk1 := Lib.hid hlrk1
    have hbrk1 : rk1.length ≤ 1000001 := by omega
    have HP := Lib.hid hP
    clear hP hv hlrk1
    have x0 := cell_of_block ((HP.out.agr (w.heap.size + 1) (by omega)).trans HKX.out) 0
    have x1 := cell_of_block ((HP.out.agr (w.heap.size + 1) (by omega)).trans HKX.out) 1
    have x2 := cell_of_block ((HP.out.agr (w.heap.size + 1) (by omega)).trans HKX.out) 2
    have x5 := cell_of_block ((HP.out.agr (w.heap.size + 1) (by omega)).trans HKX.out) 3
    have x6 := cell_of_block ((HP.out.agr (w.heap.size + 1) (by omega)).trans HKX.out) 4
    have y4 := cell_of_block HP.out.ko 4
    have f4 := free_of_block HP.out.ko 4
    simp at x0 x1 x2 x5 x6 y4
    go_upto_region 9 with (at_builtin; refine append_one (w.heap.size + 1 + 1 + 1 + 1) rfl (.tmp 43) (.tmp 45) 42 44 _ 5 80 rfl Tryz.underlying42 infoL1V rfl (by decide) (by decide) (.slice Ak1 rk1.length ck1) rk1.length rk1.flatten [.int .i64 x.kind, .int .i64 x.num, .string x.text, .slice B1 x.names.length d1, .slice B2 x.kids.length d2] rfl rfl rfl (by simp [Value.oneCell']) rfl HP.out.hk HP.out.size (by omega) ?_; intro A5 c5 w5 hc5 ho5 hg5 hat5; have HNXT := Lib.hid (HP.out.kids (rs := [[.int .i64 x.kind, .int .i64 x.num, .string x.text, .slice B1 x.names.length d1, .slice B2 x.kids.length d2]]) (by omega) (m := rk1.length + 1) (by simp) (by simpa using ho5) hg5); have hk5 := HP.out.outk hg5; have q4 := cell_of_block hk5 4; have u4 := free_of_block hk5 4; simp at q4; clear ho5 hg5 hk5 hat5)
    generalize hwn : World.setCell _ _ _ = wn at HNXT ⊢
    clear hwn x0 x1 x2 x5 x6 y4 f4 q4 u4 HP
    have hP := HNXT.out
    clear HNXT
    have hcut : ∃ Ak ck, PRel 6 ⟨#[]⟩ (w.heap.size + 1 + 1 + 1) w w1 wn [] (rk1 ++ [[.int .i64 x.kind, .int .i64 x.num, .string x.text, .slice B1 x.names.length d1, .slice B2 x.kids.length d2]]) none Ak 0 ck := ⟨_, _, hP⟩
    clear hP
    obtain ⟨Ak2, ck2, hP⟩ := hcut
    obtain ⟨rk2, hv⟩ : ∃ v, v = rk1 ++ [[.int .i64 x.kind, .int .i64 x.num, .string x.text, .slice B1 x.names.length d1, .slice B2 x.kids.length d2]] := ⟨_, rfl⟩
    rw [← hv] at hP
    have Hrk2 := Lib.hid hv
    have hlrk2 : rk2.length = p + 1 := by rw [hv]; have h1 := HRL.out; have h2 := HML.out; have h3 := HNL.out; have h4 := HLrk1.out; simp <;> omega
    have HLrk2 := Lib.hid hlrk2
    have hbrk2 : rk2.length ≤ 1000001 := by omega
    have HP := Lib.hid hP
    clear hP hv hlrk2
    have HE := Lib.hid (show rk2.length + (t.kids.length - p) = (rk2 ++ rs.drop p).length by have h1 := HRL.out; simp; omega)
    go_upto_region 9 with fail
    go_cut [54] (fun _ wx => ∃ Ak6 ck6, PRel 6 ⟨#[]⟩ (w.heap.size + 1 + 1 + 1) w w1 wx [] (rk2 ++ rs.drop p) none Ak6 0 ck6)
    case first =>
      have z4 := cell_of_block ((HP.out.agr w.heap.size (by omega)).trans HKV.out) 4
      have y4 := cell_of_block HP.out.ko 4
      have f4 := free_of_block HP.out.ko 4
      simp at z4 y4
      go_region_law (refine step_append_rows (w.heap.size + 1 + 1 + 1 + 1) rfl (.tmp 49) (.tmp 53) 42 44 _ 5 80 rfl Tryz.underlying42 infoL1V rfl (by decide) (.slice Ak2 (rk2.length) ck2) (rk2.length) (rk2.flatten) rfl HP.out.drawn.hk _ (t.kids.length - p) _ ((rs.drop p).flatten) rfl HLB.out (HRB.out _ HP.out.drawn.bel) HO2.out (by simp only [maxLen]; omega) (by omega) (by have := HP.out.size; simp; omega) ?_; intro A5 c5 w5 hc5 ho5 hg5; have HNXT := Lib.hid (HP.out.drawn.kids (by omega) HE.out ho5 hg5); have hk5 := HP.out.drawn.outk hg5; have q4 := cell_of_block hk5 4; have u4 := free_of_block hk5 4; simp at q4; clear ho5 hg5 hk5)
      all_goals
        generalize (if c2 = p then A2 else Option.map (fun x => x.add (p * 5)) A2) = Asl
        go_wp2
        go_meet
        refine ⟨A5, c5, ?_⟩
        have h := HNXT.out
        simp only [Nat.add_assoc] at h
        exact h
    case rest =>
      obtain ⟨Ak3, ck3, hP⟩ := hcut
      obtain ⟨rk3, hv⟩ : ∃ v, v = rk2 ++ rs.drop p := ⟨_, rfl⟩
      rw [← hv] at hP
      have Hrk3 := Lib.hid hv
      have hlrk3 : rk3.length = t.kids.length + 1 := by rw [hv]; have h1 := HRL.out; have h2 := HML.out; have h3 := HNL.out; have h4 := HLrk2.out; simp <;> omega
      have HLrk3 := Lib.hid hlrk3
      have hbrk3 : rk3.length ≤ 1000001 := by omega
      have HP := Lib.hid hP
      clear hP hv hlrk3
      have z0 := cell_of_block ((HP.out.agr w.heap.size (by omega)).trans HKV.out) 0
      simp at z0
      have k1 := HP.out.ko
      have k2 := (HP.out.agr (w.heap.size + 1 + 1) (by omega)).trans HKR.out
      have o0 := cell_of_block k1 0
      have o1 := cell_of_block k1 1
      have o2 := cell_of_block k1 2
      have o3 := cell_of_block k1 3
      have o4 := cell_of_block k1 4
      have r0 := cell_of_block k2 0
      have r1 := cell_of_block k2 1
      have r2 := cell_of_block k2 2
      have r3 := cell_of_block k2 3
      have r4 := cell_of_block k2 4
      have f0 := free_of_block k2 0
      have f1 := free_of_block k2 1
      have f2 := free_of_block k2 2
      have f3 := free_of_block k2 3
      have f4 := free_of_block k2 4
      simp at o0 o1 o2 o3 o4 r0 r1 r2 r3 r4
      have HK2 := Lib.hid k2
      clear k1 k2
      have hrk : rk3 = rs ++ [[.int .i64 x.kind, .int .i64 x.num, .string x.text, .slice B1 x.names.length d1, .slice B2 x.kids.length d2]] := by
        rw [Hrk3.out, Hrk2.out, Hrk1.out, HP'.out, ← HRL.out, List.take_length, List.drop_length]
        simp
      have HFIN := Lib.hid (fun v0 v1 v2 v3 v4 => sputl_fin (v0 := v0) (v1 := v1) (v2 := v2) (v3 := v3) (v4 := v4) HP.out HTS.out HX.out hrk (by omega))
      clear hrk
      go_wp2
      refine bodyPost_ret (results_cell_row rfl _ _ (w.heap.size + 1 + 1) _ _ _ _ rfl (block_setCell (block_setCell (block_setCell (block_setCell (block_setCell HK2.out _ _) _ _) _ _) _ _) _ _) Tryz.underlying44 rfl ((info_size infoL1V).trans (by simp))) rfl ?_
      exact HFIN.out _ _ _ _ _
end Go.Proofs.YteeppdobeeodiaaGreatDoor
namespace Go.Proofs.YteeppdobeeodiaaGreatDoor
open Go.RowKit
def plainNames : List ByteArray := [⟨#[97]⟩, ⟨#[98]⟩, ⟨#[110, 97, 109, 101]⟩, ⟨#[120, 32, 121]⟩, ⟨#[]⟩, ⟨#[113, 34]⟩, ⟨#[115, 92]⟩, ⟨#[122]⟩]
def keyNames : List ByteArray := [⟨#[97]⟩, ⟨#[98]⟩, ⟨#[99]⟩, ⟨#[100]⟩, ⟨#[110, 97, 109, 101]⟩, ⟨#[113, 34]⟩]
def leafNums : List Int := [0, 1, 2, 5, 10, -3, 99, 1000000000, -1000000000]
theorem plain_ok : ∀ s ∈ plainNames, strOK s = true := by
  intro s hs
  simp only [plainNames, List.mem_cons, List.not_mem_nil, or_false] at hs
  rcases hs with rfl | rfl | rfl | rfl | rfl | rfl | rfl | rfl <;> decide
theorem key_ok : ∀ s ∈ keyNames, strOK s = true := by
  intro s hs
  simp only [keyNames, List.mem_cons, List.not_mem_nil, or_false] at hs
  rcases hs with rfl | rfl | rfl | rfl | rfl | rfl <;> decide
theorem nums_ok : ∀ n ∈ leafNums, numOK n = true := by
  intro s hs
  simp only [leafNums, List.mem_cons, List.not_mem_nil, or_false] at hs
  rcases hs with rfl | rfl | rfl | rfl | rfl | rfl | rfl | rfl | rfl <;> decide
theorem LtAt.leaf {F : Nat → Prop} {w : World} (k n : Int) (s : ByteArray) : LtAt F w [.int .i64 k, .int .i64 n, .string s, .slice none 0 0, .slice none 0 0] (.mk k n s [] []) := by
  simp only [LtAt]
  exact ⟨none, 0, none, 0, [], rfl, Nat.le_refl _, Nat.le_refl _, Rds.nil _ _ _, Rds.nil _ _ _, by simp [LtsAt]⟩
theorem leaf_ok {k n : Int} {s : ByteArray} (h1 : 1 ≤ k) (h2 : k ≤ 7) (h4 : k = 4 ∨ n = 0) (h5 : k = 5 ∨ s = emptyB) (hn : numOK n = true) (hs : strOK s = true) : (Tree.mk k n s [] []).ok = true := by
  have he : emptyB.toList.isEmpty = true := by rw [ByteArray.toList_eq]; rfl
  have e5 : (k == 5 || s.toList.isEmpty) = true := by
    rcases h5 with rfl | rfl
    · rfl
    · rw [he]; simp
  have e4 : (k == 4 || n == 0) = true := by
    rcases h4 with rfl | rfl
    · rfl
    · simp
  simp only [Tree.ok, Tree.okL, e4, e5, hn, hs, Bool.and_true, Bool.and_eq_true, decide_eq_true_eq, Bool.or_eq_true, List.isEmpty_nil]
  refine ⟨⟨⟨h1, h2⟩, ?_⟩, by simp⟩
  split
  · simp [sortedB]
  · rfl
section
variable {k : Nat} {A : Option Addr} {c : Nat} {l : List Int} {K a : Nat} {w w1 W : World} {R : Nat}
theorem Moved.set (h : Moved k A c l K a w W) (hk : k < w.heap.size) (hR : w.heap.size ≤ R) (j : Nat) (v : Value) : Moved k A c l K a w (W.setCell ⟨R, j, none⟩ v) := by
  obtain ⟨h1, h2, a', h3, h4, h5⟩ := h
  obtain ⟨s, hs⟩ := h5.blk
  have hA : Agree (fun b => b ≠ R) W (W.setCell ⟨R, j, none⟩ v) := Agree.of_setCell _ _ _ (fun _ h => h)
  refine ⟨h1.setCell (p := ⟨R, j, none⟩) (by show k ≤ R; omega) v, ⟨Nat.le_trans h2.size hA.size, fun b hb hl => ?_⟩, a', h3, h4, ⟨⟨s, block_agree hs hA (by omega)⟩, h5.row.frame ⟨hA.size, fun b hb hl => hA.block b (by have h' : b < k := hb; omega) hl⟩, h5.cap, h5.big, h5.byte⟩⟩
  rw [hA.block b (by omega) (Nat.lt_of_lt_of_le hl h2.size), h2.block b hb hl]
theorem Moved.set5 (h : Moved k A c l K a w W) (hk : k < w.heap.size) (hR : w.heap.size ≤ R) (v0 v1 v2 v3 v4 : Value) : Moved k A c l K a w (((((W.setCell ⟨R, 0, none⟩ v0).setCell ⟨R, 1, none⟩ v1).setCell ⟨R, 2, none⟩ v2).setCell ⟨R, 3, none⟩ v3).setCell ⟨R, 4, none⟩ v4) :=
  ((((h.set hk hR 0 v0).set hk hR 1 v1).set hk hR 2 v2).set hk hR 3 v3).set hk hR 4 v4
theorem Moved.below (h : Moved k A c l K a w w1) (hb : Below w1.heap.size w1 W) : Moved k A c l K a w W := by
  have := Moved.then h (K2 := 0) (fun a' _ _ hc => Moved.of_below hc hb)
  exact this.more (Nat.le_refl _)
theorem Moved.cur (h : Moved k A c l K a w w1) : ∃ a', a ≤ a' ∧ a' ≤ a + K ∧ Cur k A c l a' w1 := h.2.2
/-- A block that is not the cursor's stays. -/
theorem Moved.kept (h : Moved k A c l K a w w1) {b : Nat} {o : Obj} (hb : b ≠ k) (hk : w.heap[b]? = some o) : w1.heap[b]? = some o := (h.2.1.block b hb (lt_of_block hk)).trans hk
end
def TreeDr (d : Nat) : Prop := ∀ (k : Nat) (A : Option Addr) (c : Nat) (l : List Int) (a : Nat) (w : World), Cur k A c l a w → 4 ^ d ≤ 1000 → a + 12 * 4 ^ d ≤ 4611686018427387904 →
  Calls Tryz.prog 84 #[.pointer (some ⟨k, 0, none⟩), .int .i64 (d : Int)] w (fun e w' => ∃ cs t, e = .returned (.agg cs.toArray) ∧ t.ok = true ∧ t.count ≤ 4 ^ d ∧ LtAt (fun b => w.heap.size ≤ b) w' cs t ∧ Moved k A c l (12 * 4 ^ d) a w w')
set_option maxRecDepth 100000 in
theorem plain_any (k : Nat) (A : Option Addr) (c : Nat) (l : List Int) (a : Nat) (w : World) (h : Cur k A c l a w) (ha : a + 1 ≤ 4611686018427387904) :
    Calls Tryz.prog 110 #[.pointer (some ⟨k, 0, none⟩)] w (fun e w' => ∃ s, e = .returned (.string s) ∧ strOK s = true ∧ Moved k A c l 2 a w w') := by
  have hb := (Below.refl w.heap.size w).alloc (Nat.le_refl _) (.cells (strs plainNames).toArray 9 (0, 0))
  have HO := Lib.hid (of_any plainNames (by decide) (by decide) (fun b => b = w.heap.size) (some ⟨w.heap.size, 0, none⟩) 8 k A c l a _ (h.below hb) ha (rds_blk (heap_alloc_new _ _)) (fun b e => by have := h.lt; omega))
  have HM := Lib.hid (Moved.of_below h hb)
  clear h hb
  go_enter Tryz.func110, Tryz.ntmps110
  go_wp2_with fail
  refine HO.out.mono ?_
  rintro e w1 ⟨s, rfl, hs, hm⟩
  have HM1 := Lib.hid (HM.out.then (K2 := 2) (fun a' h1 h2 _ => by obtain rfl : a' = a := by omega
                                                                   exact hm))
  have HS := Lib.hid (plain_ok s hs)
  clear hm hs
  go_wp2
  go_ret
  exact ⟨s, rfl, HS.out, HM1.out.more (by omega)⟩
end Go.Proofs.YteeppdobeeodiaaGreatDoor
