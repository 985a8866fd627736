/- The reference's l3Cut at a map: a part left out. -/
import Derived.Test.YtcbcndoddikpjaaGreatDoorSp7
import Derived.Test.YtcbcndoddikpjaaGreatDoorAp1
import Derived.Deep.RegionHeld3
namespace Go.Proofs.YtcbcndoddikpjaaGreatDoor
open Go.RowKit
theorem LtsAt.del {F : Nat → Prop} {w : World} {rs : List (List Value)} {ks : List Tree} (h : LtsAt F w rs ks) (i : Nat) : LtsAt F w (del i rs) (del i ks) :=
  (h.split i).1.app (h.split (i + 1)).2
/-- The reference's map without a part. -/
def SCutPost (F : Nat → Prop) (t : Tree) (i : Nat) (w : World) (e : Ending) (w' : World) : Prop :=
  ∃ cs, e = .returned (.agg cs.toArray) ∧ Below w.heap.size w w' ∧ LtAt (Nw F w.heap.size) w' cs (.mk 7 t.num t.text (del i t.names) (del i t.kids))
/-- Two appends to a row of the call's own. -/
theorem app2_below {w1 w2 : World} {o : Obj} {B k : Nat} (hs : w1.heap.size = B) (hg : (w1.alloc o).drew.grownBy w2 (Value.slice (some ⟨B, 0, none⟩) k k).ownBlock) : Below w1.heap.size w1 w2 := by
  have hb : Below w1.heap.size w1 (w1.alloc o).drew := ((Below.refl _ _).alloc (Nat.le_refl _) _).drew
  exact hb.grown hg hb.size (fun k hk => by simp [Value.ownBlock] at hk; omega)
theorem app2_own {w2 : World} {B i c3 : Nat} {A3 : Option Addr} {rs : List (List Value)} (_h : ∀ r ∈ rs, r.length = 5) (ho : w2.ownsRow B 40 5 (.slice A3 (0 + i) c3) (0 + i) ([] ++ (rs.take i).flatten)) : w2.ownsRow B 40 5 (.slice A3 i c3) i ((rs.take i).flatten) := by simpa using ho
theorem app2_ownS {w2 : World} {B i c3 : Nat} {A3 : Option Addr} {xs : List Value} (ho : w2.ownsRow B 9 1 (.slice A3 (0 + i) c3) (0 + i) ([] ++ xs)) : w2.ownsRow B 9 1 (.slice A3 i c3) i xs := by simpa using ho
theorem app2_next {w1 w2 w5 : World} {B m c3 : Nat} {E : TypeId} {sz : Nat} {A3 : Option Addr} {xs : List Value} (hb : Below w1.heap.size w1 w2) (hs : w1.heap.size = B) (ho : w2.ownsRow B E sz (.slice A3 m c3) m xs) (hg : w2.grownBy w5 (Value.slice A3 m c3).ownBlock) : Below w1.heap.size w1 w5 :=
  hb.grown hg hb.size (fun k hk => by rw [hs]; exact (own_base ho k hk).1)
def zObj : Obj := .cells #[.int .i64 0, .int .i64 0, .string ⟨#[]⟩, .slice none 0 0, .slice none 0 0] 40 (0, 0)
/-- The memory behind the first statement of l3Cut: the parts are cut. -/
def CMid (t : Tree) (rs : List (List Value)) (i n : Nat) (A1 : Option Addr) (c1 : Nat) (w w1 wx : World) : Prop :=
  ∃ A5 c5, n - 1 ≤ c5 ∧ Below w.heap.size w wx ∧ w1.heap.size ≤ wx.heap.size ∧ wx.heap[w.heap.size]? = some (.cells #[.int .i64 7, .int .i64 t.num, .string t.text, .slice A1 n c1, .slice A5 (n - 1) c5] 40 (0, 0)) ∧ wx.heap[w.heap.size + 1]? = some zObj ∧
    wx.ownsRow (w.heap.size + 1 + 1) 40 5 (.slice A5 (n - 1) c5) (n - 1) (del i rs).flatten
theorem cut_mid {t : Tree} {rs : List (List Value)} {i n c1 c2 c5 : Nat} {A1 A2 A5 : Option Addr} {w w1 w5 : World} (hi : i < n) (_hs : w1.heap.size = w.heap.size + 1 + 1) (hb1 : Below w.heap.size w w1) (hb5 : Below w1.heap.size w1 w5)
    (hkv : w1.heap[w.heap.size]? = some (.cells #[.int .i64 7, .int .i64 t.num, .string t.text, .slice A1 n c1, .slice A2 n c2] 40 (0, 0))) (hkr : w1.heap[w.heap.size + 1]? = some zObj) (hc : i + (n - (i + 1)) ≤ c5)
    (ho : w5.ownsRow (w.heap.size + 1 + 1) 40 5 (.slice A5 (i + (n - (i + 1))) c5) (i + (n - (i + 1))) ((rs.take i).flatten ++ (rs.drop (i + 1)).flatten)) :
    CMid t rs i n A1 c1 w w1 (w5.setCell ⟨w.heap.size, 4, none⟩ (.slice A5 (i + (n - (i + 1))) c5)) := by
  have e : i + (n - (i + 1)) = n - 1 := by omega
  have e2 : (rs.take i).flatten ++ (rs.drop (i + 1)).flatten = (del i rs).flatten := by rw [del, List.flatten_append]
  rw [e, e2] at ho
  rw [e] at hc ⊢
  have hle : w.heap.size ≤ (⟨w.heap.size, 4, none⟩ : Addr).block := Nat.le_refl _
  have hne : ∀ j, j ≠ w.heap.size → (w5.setCell ⟨w.heap.size, 4, none⟩ (.slice A5 (n - 1) c5)).heap[j]? = w5.heap[j]? := fun j h => Below.heap_setCell _ _ _ _ h
  refine ⟨A5, c5, hc, (below_then hb1 hb1.size hb5).setCell hle _, by have := hb5.size; simpa [World.setCell] using this, ?_, ?_, ?_⟩
  · rw [block_setCell (block_below hkv hb5)]; rfl
  · rw [hne _ (by omega)]; exact block_below hkr hb5
  · exact own_agree ho (Agree.of_setCell (F := fun c => c ≠ w.heap.size) _ _ _ (fun _ h => h)) (fun k hk => by have := (own_base ho k hk).1; omega)
theorem cut_fin {F : Nat → Prop} {t : Tree} {rs : List (List Value)} {i n c1 c5 c6 : Nat} {A1 A5 A6 : Option Addr} {w w5 w6 : World} (hi : i < n) (hn : t.kids.length = n) (hnn : t.names.length = n) (hts : LtsAt F w rs t.kids) (hb5 : Below w.heap.size w w5)
    (hk5 : w5.heap[w.heap.size]? = some (.cells #[.int .i64 7, .int .i64 t.num, .string t.text, .slice A1 n c1, .slice A5 (n - 1) c5] 40 (0, 0))) (hr5 : w5.heap[w.heap.size + 1]? = some zObj)
    (ho5 : w5.ownsRow (w.heap.size + 1 + 1) 40 5 (.slice A5 (n - 1) c5) (n - 1) (del i rs).flatten) (hc5 : n - 1 ≤ c5) (hb6 : Below w5.heap.size w5 w6) (hc : i + (n - (i + 1)) ≤ c6)
    (ho : w6.ownsRow w5.heap.size 9 1 (.slice A6 (i + (n - (i + 1))) c6) (i + (n - (i + 1))) (strs (t.names.take i) ++ strs (t.names.drop (i + 1)))) :
    (w6.setCell ⟨w.heap.size, 3, none⟩ (.slice A6 (i + (n - (i + 1))) c6)).heap[w.heap.size]? = some (.cells #[.int .i64 7, .int .i64 t.num, .string t.text, .slice A6 (n - 1) c6, .slice A5 (n - 1) c5] 40 (0, 0)) ∧ (w6.setCell ⟨w.heap.size, 3, none⟩ (.slice A6 (i + (n - (i + 1))) c6)).heap[w.heap.size + 1]? = some zObj ∧
      ∀ v0 v1 v2 v3 v4, SCutPost F t i w (.returned (.agg #[.int .i64 7, .int .i64 t.num, .string t.text, .slice A6 (n - 1) c6, .slice A5 (n - 1) c5]))
        ((((((w6.setCell ⟨w.heap.size, 3, none⟩ (.slice A6 (i + (n - (i + 1))) c6)).setCell ⟨w.heap.size + 1, 0, none⟩ v0).setCell ⟨w.heap.size + 1, 1, none⟩ v1).setCell ⟨w.heap.size + 1, 2, none⟩ v2).setCell ⟨w.heap.size + 1, 3, none⟩ v3).setCell ⟨w.heap.size + 1, 4, none⟩ v4) := by
  have e : i + (n - (i + 1)) = n - 1 := by omega
  have e2 : strs (t.names.take i) ++ strs (t.names.drop (i + 1)) = strs (del i t.names) := by simp [strs, del]
  rw [e, e2] at ho
  rw [e] at hc ⊢
  have hl5 := lt_of_block hr5
  have hle : w.heap.size ≤ (⟨w.heap.size, 3, none⟩ : Addr).block := Nat.le_refl _
  have hleR : ∀ j, w.heap.size ≤ (⟨w.heap.size + 1, j, none⟩ : Addr).block := fun j => by show w.heap.size ≤ w.heap.size + 1; omega
  have hne : ∀ j, j ≠ w.heap.size → (w6.setCell ⟨w.heap.size, 3, none⟩ (.slice A6 (n - 1) c6)).heap[j]? = w6.heap[j]? := fun j h => Below.heap_setCell _ _ _ _ h
  have h6 := (below_then hb5 hb5.size hb6).setCell hle (.slice A6 (n - 1) c6)
  refine ⟨by rw [block_setCell (block_below hk5 hb6)]; rfl, by rw [hne _ (by omega)]; exact block_below hr5 hb6, fun v0 v1 v2 v3 v4 => ?_⟩
  have hB := ((((h6.setCell (hleR 0) v0).setCell (hleR 1) v1).setCell (hleR 2) v2).setCell (hleR 3) v3).setCell (hleR 4) v4
  have hAg : ∀ G : Nat → Prop, (∀ c, G c → c ≠ w.heap.size ∧ c ≠ w.heap.size + 1) → Agree G w6 ((((((w6.setCell ⟨w.heap.size, 3, none⟩ (.slice A6 (n - 1) c6)).setCell ⟨w.heap.size + 1, 0, none⟩ v0).setCell ⟨w.heap.size + 1, 1, none⟩ v1).setCell ⟨w.heap.size + 1, 2, none⟩ v2).setCell ⟨w.heap.size + 1, 3, none⟩ v3).setCell ⟨w.heap.size + 1, 4, none⟩ v4) := fun G hG =>
    (((((Agree.of_setCell (F := G) w6 ⟨w.heap.size, 3, none⟩ (.slice A6 (n - 1) c6) (fun c h => (hG c h).1)).set (fun c h => (hG c h).2) 0 v0).set (fun c h => (hG c h).2) 1 v1).set (fun c h => (hG c h).2) 2 v2).set (fun c h => (hG c h).2) 3 v3).set (fun c h => (hG c h).2) 4 v4
  have hR1 := (Rds.of_own ho).frame (hAg _ (fun c h => by have h' : w5.heap.size ≤ c := h; omega))
  have hR2 := (Rds.of_own (own_below ho5 hb6)).frame (hAg _ (fun c h => by have h' : w.heap.size + 1 + 1 ≤ c := h; omega))
  have l1 := del_length i t.names (by omega)
  have l2 := del_length i t.kids (by omega)
  have hkeep : ∀ b, F b → b < w.heap.size → Nw F w.heap.size b := fun b h h' => .inl ⟨h, h'⟩
  refine ⟨_, rfl, hB, ?_⟩
  simp only [LtAt]
  have e3 : (del i t.names).length = n - 1 := by omega
  have e4 : (del i t.kids).length = n - 1 := by omega
  exact ⟨A6, c6, A5, c5, del i rs, by rw [e3, e4], by omega, by omega, hR1.mono (fun b h _ => .inr (by have h' : w5.heap.size ≤ b := h; omega)), hR2.mono (fun b h _ => .inr (by have h' : w.heap.size + 1 + 1 ≤ b := h; omega)), (hts.del i).frame (Agree.of_below hB) hkeep⟩
set_option maxRecDepth 100000 in
set_option maxHeartbeats 4000000 in
theorem sCut_any (t : Tree) (i : Nat) (hi : i < t.kids.length) (hk7 : t.kind = 7) (hlen : t.names.length = t.kids.length) (hl : t.kids.length ≤ 1000000) (F : Nat → Prop) (cs : List Value) (w : World) (ht : LtAt F w cs t) :
    Calls Tryz.prog 54 #[.agg cs.toArray, .int .i64 (i : Int)] w (SCutPost F t i w) := by
  obtain ⟨A1, c1, A2, c2, rs, rfl, g3, g4, r3, r4, hts⟩ := ht.open
  obtain ⟨n, hn⟩ : ∃ n, n = t.kids.length := ⟨_, rfl⟩
  have hnn : t.names.length = n := by omega
  have hrl : rs.length = n := by rw [hts.length]; exact hn.symm
  have hsz := hts.sizes
  rw [hk7, hnn, ← hn] at ht ⊢
  rw [hnn] at g3
  rw [← hn] at g4 hi hl
  obtain ⟨w1, hw⟩ : ∃ w1, w1 = (w.alloc (.cells #[.int .i64 7, .int .i64 t.num, .string t.text, .slice A1 n c1, .slice A2 n c2] 40 (0, 0))).alloc (.cells #[.int .i64 0, .int .i64 0, .string ⟨#[]⟩, .slice none 0 0, .slice none 0 0] 40 (0, 0)) := ⟨_, rfl⟩
  have hs1 : w1.heap.size = w.heap.size + 1 + 1 := by rw [hw]; simp
  have hb1 : Below w.heap.size w w1 := by rw [hw]; exact ((Below.refl _ _).alloc (Nat.le_refl _) _).alloc (by simp) _
  have hkv : w1.heap[w.heap.size]? = some (.cells #[.int .i64 7, .int .i64 t.num, .string t.text, .slice A1 n c1, .slice A2 n c2] 40 (0, 0)) := by rw [hw]; (repeat (first | with_reducible assumption | (with_reducible refine blk_new _ ?_; (first | rfl | (simp; done) | (simp; omega))) | with_reducible apply block_setCell | (with_reducible refine blk_skip _ _ ?_ ?_; rotate_left; (first | (simp; done) | (simp; omega))) | with_reducible refine blk_old ?_))
  have hkr : w1.heap[w.heap.size + 1]? = some (.cells #[.int .i64 0, .int .i64 0, .string ⟨#[]⟩, .slice none 0 0, .slice none 0 0] 40 (0, 0)) := by rw [hw]; (repeat (first | with_reducible assumption | (with_reducible refine blk_new _ ?_; (first | rfl | (simp; done) | (simp; omega))) | with_reducible apply block_setCell | (with_reducible refine blk_skip _ _ ?_ ?_; rotate_left; (first | (simp; done) | (simp; omega))) | with_reducible refine blk_old ?_))
  have HTS := Lib.hid hts
  have HSZ := Lib.hid hsz
  have HRL := Lib.hid hrl
  have HN := Lib.hid (And.intro hn hnn)
  have HNAMES := Lib.hid r3
  obtain ⟨hf1, hf2⟩ := flatten_take rs hsz i
  obtain ⟨hf3, hf4⟩ := flatten_take rs hsz (i + 1)
  have HLF := Lib.hid (show ((rs.take i).flatten).length = i * 5 by rw [flatten_len _ (fun r hr => hsz r (List.mem_of_mem_take hr))]; simp; omega)
  have HLB := Lib.hid (show ((rs.drop (i + 1)).flatten).length = (n - (i + 1)) * 5 by rw [flatten_len _ (fun r hr => hsz r (List.mem_of_mem_drop hr))]; simp; omega)
  have HO1 := Lib.hid (show ∀ u ∈ (rs.take i).flatten, u.oneCell' = true from flat_one (hts.split i).1)
  have HO2 := Lib.hid (show ∀ u ∈ (rs.drop (i + 1)).flatten, u.oneCell' = true from flat_one (hts.split (i + 1)).2)
  have HRF := Lib.hid (fun (W : World) (hb : Below w.heap.size w W) => show Rds F W A2 ((rs.take i).flatten) by rw [hf1]; exact (r4.frame (Agree.of_below hb)).take _)
  have HRB := Lib.hid (fun (W : World) (hb : Below w.heap.size w W) => show Rds F W (if c2 = i + 1 then A2 else A2.map (fun x => x.add ((i + 1) * 5))) ((rs.drop (i + 1)).flatten) by
    rw [hf4]
    have h := (r4.frame (Agree.of_below hb)).drop ((i + 1) * 5) (c2 * 5) ((i + 1) * 5) (fun e => List.drop_eq_nil_of_le (by rw [flatten_len rs hsz]; omega))
    by_cases hc : c2 = i + 1
    · rw [if_pos hc]; rw [if_pos (by omega)] at h; exact h
    · rw [if_neg hc]; rw [if_neg (by omega)] at h; exact h)
  have HNL1 := Lib.hid (show (strs (t.names.take i)).length = i * 1 by simp [strs]; omega)
  have HNL2 := Lib.hid (show (strs (t.names.drop (i + 1))).length = (n - (i + 1)) * 1 by simp [strs]; omega)
  have HNO1 := Lib.hid (strs_one (t.names.take i))
  have HNO2 := Lib.hid (strs_one (t.names.drop (i + 1)))
  have HNF := Lib.hid (fun (W : World) (hb : Below w.heap.size w W) => show Rds F W A1 (strs (t.names.take i)) by
    rw [show strs (t.names.take i) = (strs t.names).take i by simp [strs, List.map_take]]
    exact (r3.frame (Agree.of_below hb)).take _)
  have HNB := Lib.hid (fun (W : World) (hb : Below w.heap.size w W) => show Rds F W (if c1 = i + 1 then A1 else A1.map (fun x => x.add (i + 1))) (strs (t.names.drop (i + 1))) by
    rw [show strs (t.names.drop (i + 1)) = (strs t.names).drop (i + 1) by simp [strs, List.map_drop]]
    exact (r3.frame (Agree.of_below hb)).drop _ _ _ (fun e => List.drop_eq_nil_of_le (by simp [strs]; omega)))
  have HB1 := Lib.hid hb1
  have HKV := Lib.hid hkv
  have HKR := Lib.hid hkr
  have HW := Lib.hid hw
  have HOWN := Lib.hid (show (w1.alloc (.cells #[] 40 (0, 0))).drew.ownsRow (w.heap.size + 1 + 1) 40 5 (.slice (some ⟨w.heap.size + 1 + 1, 0, none⟩) 0 0) 0 [] from by rw [← hs1]; exact own_empty w1.drew 40 5)
  have HBA := Lib.hid (show Below w.heap.size w (w1.alloc (.cells #[] 40 (0, 0))).drew from hb1.drew.alloc hb1.size _)
  have HZ4 := Lib.hid (show (w1.alloc (.cells #[] 40 (0, 0))).drew.cell? ⟨w.heap.size, 4, none⟩ = some (.slice A2 n c2) from cell_of_block (block_below hkv ((Below.refl _ _).drew.alloc (Nat.le_refl _) _)) 4)
  have z4 := cell_of_block hkv 4
  have u4 := free_of_block hkv 4
  simp at z4
  have hin : i < n := hi
  have hin1 : (i : Int) + 1 ≤ (n : Int) := by omega
  have hin2 : (0 : Int) ≤ (i : Int) + 1 := by omega
  have hin3 : (i : Int) ≤ (n : Int) := by omega
  have hw1 : IntKind.i64.wrap ((i : Int) + 1) = (i : Int) + 1 := by rw [IntKind.wrap_i64]; omega
  have htn : ((i : Int) + 1).toNat = i + 1 := by omega
  have hic : i ≤ c2 := by omega
  have hic1 : i + 1 ≤ c2 := by omega
  clear ht r3 r4 hts hsz hrl hn hnn hf1 hf2 hf3 hf4 hw hb1 hkv hkr
  go_enter Tryz.func54, Tryz.ntmps54
  go_wp2
  rw [← HW.out]
  go_cut [16] (fun _ wx => CMid t rs i n A1 c1 w w1 wx)
  case first =>
    have z4a := HZ4.out
    go_region_law (first
        | (refine step_append_rows (w.heap.size + 1 + 1) rfl (.tmp 5) (.tmp 9) 38 40 _ 5 80 rfl Tryz.underlying38 infoL1V rfl (by decide) (.slice (some ⟨w.heap.size + 1 + 1, 0, none⟩) 0 0) 0 [] rfl HOWN.out A2 i c2 ((rs.take i).flatten) rfl HLF.out (HRF.out _ HBA.out) HO1.out (by simp only [maxLen]; omega) (by omega) (by simp; omega) ?_; intro A3 c3 w2 hc3 ho3 hg3; have hb2 := app2_below hs1 hg3; have z42 := cell_of_block (block_below HKV.out hb2) 4; have hown3 := app2_own HSZ.out ho3; simp at z42; clear hc3 ho3 hg3)
        | (refine step_append_rows (w.heap.size + 1 + 1) rfl (.tmp 10) (.tmp 15) 38 40 _ 5 80 rfl Tryz.underlying38 infoL1V rfl (by decide) (.slice A3 i c3) i ((rs.take i).flatten) rfl hown3 _ (n - (i + 1)) _ ((rs.drop (i + 1)).flatten) rfl HLB.out (HRB.out _ (below_then HB1.out HB1.out.size hb2)) HO2.out (by simp only [maxLen]; omega) (by omega) (by have := hb2.size; omega) ?_; intro A5 c5 w5 hc5 ho5 hg5; have hb5 := app2_next hb2 hs1 hown3 hg5; have z45 := cell_of_block (block_below HKV.out hb5) 4; have u45 := free_of_block (block_below HKV.out hb5) 4; simp at z45))
    all_goals
      have HM := Lib.hid (cut_mid (t := t) hi hs1 HB1.out hb5 HKV.out HKR.out hc5 ho5)
      clear hc5 ho5 hg5 hb5 z45 z42 hown3 hb2
      generalize (if c2 = i + 1 then A2 else Option.map (fun x => x.add ((i + 1) * 5)) A2) = Asl
      go_wp2
      go_meet
      exact HM.out
  case rest =>
    obtain ⟨A5, c5, hc5, hb5, hs5, hk5, hr5, ho5⟩ := hcut
    have z0 := cell_of_block hk5 0
    have z3 := cell_of_block hk5 3
    have u3 := free_of_block hk5 3
    simp at z0 z3
    have HS3 := Lib.hid (show (wc.alloc (.cells #[] 9 (0, 0))).drew.ownsRow wc.heap.size 9 1 (.slice (some ⟨wc.heap.size, 0, none⟩) 0 0) 0 [] from own_empty wc.drew 9 1)
    have HBA := Lib.hid (show Below w.heap.size w (wc.alloc (.cells #[] 9 (0, 0))).drew from (hb5.alloc hb5.size _).drew)
    have z3a : (wc.alloc (.cells #[] 9 (0, 0))).drew.cell? ⟨w.heap.size, 3, none⟩ = some (.slice A1 n c1) := cell_of_block (block_below hk5 (((Below.refl _ _).alloc (Nat.le_refl _) _).drew)) 3
    have HB5 := Lib.hid hb5
    have HK5 := Lib.hid hk5
    have HFIN := Lib.hid (fun (A6 : Option Addr) (c6 : Nat) (w6 : World) (hb6 : Below wc.heap.size wc w6) hc6 ho6 => cut_fin (A6 := A6) (c6 := c6) (w6 := w6) hi HN.out.1.symm HN.out.2 HTS.out hb5 hk5 hr5 ho5 hc5 hb6 hc6 ho6)
    have hic3 : i ≤ c1 := by omega
    have hic4 : i + 1 ≤ c1 := by omega
    clear hk5 hr5 ho5 hb5 z4
    go_wp2
    go_region_law (first
      | (refine step_append_rows wc.heap.size rfl (.tmp 21) (.tmp 25) 37 9 _ 1 16 rfl Tryz.underlying37 infoStr rfl (by decide) (.slice (some ⟨wc.heap.size, 0, none⟩) 0 0) 0 [] rfl HS3.out A1 i c1 (strs (t.names.take i)) rfl HNL1.out (HNF.out _ HBA.out) HNO1.out (by simp only [maxLen]; omega) (by omega) (by simp) ?_; intro A3 c3 w2 hc3 ho3 hg3; have hb2 := app2_below rfl hg3; have z42 := cell_of_block (block_below HK5.out hb2) 3; have hown3 := app2_ownS ho3; simp at z42; clear hc3 ho3 hg3)
      | (refine step_append_rows wc.heap.size rfl (.tmp 26) (.tmp 31) 37 9 _ 1 16 rfl Tryz.underlying37 infoStr rfl (by decide) (.slice A3 i c3) i (strs (t.names.take i)) rfl hown3 _ (n - (i + 1)) _ (strs (t.names.drop (i + 1))) rfl HNL2.out (HNB.out _ (below_then HB5.out HB5.out.size hb2)) HNO2.out (by simp only [maxLen]; omega) (by omega) (by have := hb2.size; omega) ?_; intro A6 c6 w6 hc6 ho6 hg6; have hb6 := app2_next hb2 rfl hown3 hg6; have z45 := cell_of_block (block_below HK5.out hb6) 3; have u45 := free_of_block (block_below HK5.out hb6) 3; simp at z45))
    all_goals
      obtain ⟨f1, f2, f3⟩ := HFIN.out A6 c6 w6 hb6 hc6 ho6
      have x0 := cell_of_block f1 0
      have x1 := cell_of_block f1 1
      have x2 := cell_of_block f1 2
      have x3 := cell_of_block f1 3
      have x4 := cell_of_block f1 4
      have r0 := cell_of_block f2 0
      have r1 := cell_of_block f2 1
      have r2 := cell_of_block f2 2
      have r3 := cell_of_block f2 3
      have r4 := cell_of_block f2 4
      have g0 := free_of_block f2 0
      have g1 := free_of_block f2 1
      have g2 := free_of_block f2 2
      have g3 := free_of_block f2 3
      have g4 := free_of_block f2 4
      simp at x0 x1 x2 x3 x4 r0 r1 r2 r3 r4
      have HF1 := Lib.hid f1
      have HF2 := Lib.hid f2
      have HF3 := Lib.hid f3
      clear f1 f2 f3 hc6 ho6 hg6 hb6 z45 u45 z42 hown3 hb2 z0 z3 u3 z3a HFIN
      generalize World.setCell _ _ _ = wz at x0 x1 x2 x3 x4 r0 r1 r2 r3 r4 g0 g1 g2 g3 g4 HF1 HF2 HF3 ⊢
      go_wp2
      all_goals
        refine bodyPost_ret (results_cell_row rfl _ _ (w.heap.size + 1) _ _ _ _ rfl (block_setCell (block_setCell (block_setCell (block_setCell (block_setCell HF2.out _ _) _ _) _ _) _ _) _ _) Tryz.underlying40 rfl ((info_size infoL1V).trans (by simp))) rfl ?_
        exact HF3.out _ _ _ _ _
end Go.Proofs.YtcbcndoddikpjaaGreatDoor
