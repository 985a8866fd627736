/- The reference's l3Cut at a map: a part left out. The reference's l4Null, l4Apply: what it makes of a value and a patch is what the plain words say. -/
import Derived.Test.YteeppdobeeodiaaGreatDoorSp7
import Derived.Test.YteeppdobeeodiaaGreatDoorDf1
import Derived.Deep.RegionHeld3
import Derived.Test.YteeppdobeeodiaaGreatDoorSp8
namespace Go.Proofs.YteeppdobeeodiaaGreatDoor
open Go.RowKit
theorem LtsAt.del {F : Nat → Prop} {w : World} {rs : List (List Value)} {ks : List Tree} (h : LtsAt F w rs ks) (i : Nat) : LtsAt F w (del i rs) (del i ks) :=
  (h.split i).1.app (h.split (i + 1)).2
/-- The reference's map without a part. -/
def SCutPost (F : Nat → Prop) (t : Tree) (i : Nat) (w : World) (e : Ending) (w' : World) : Prop :=
  ∃ cs, e = .returned (.agg cs.toArray) ∧ Below w.heap.size w w' ∧ LtAt (Nw F w.heap.size) w' cs (.mk 7 t.num t.text (del i t.names) (del i t.kids))
/-- Two appends to a row of the call's own. -/
theorem app2_below {w1 w2 : World} {o : Obj} {B k : Nat} (hs : w1.heap.size = B) (hg : (w1.alloc o).drew.grownBy w2 (Value.slice (some ⟨B, 0, none⟩) k k).ownBlock) : Below w1.heap.size w1 w2 := by
  have hb : Below w1.heap.size w1 (w1.alloc o).drew := ((Below.refl _ _).alloc (Nat.le_refl _) _).drew
  exact hb.grown hg hb.size (fun k hk => by simp [Value.ownBlock] at hk; omega)
theorem app2_own {w2 : World} {B i c3 : Nat} {A3 : Option Addr} {rs : List (List Value)} (_h : ∀ r ∈ rs, r.length = 5) (ho : w2.ownsRow B 44 5 (.slice A3 (0 + i) c3) (0 + i) ([] ++ (rs.take i).flatten)) : w2.ownsRow B 44 5 (.slice A3 i c3) i ((rs.take i).flatten) := by simpa using ho
theorem app2_ownS {w2 : World} {B i c3 : Nat} {A3 : Option Addr} {xs : List Value} (ho : w2.ownsRow B 9 1 (.slice A3 (0 + i) c3) (0 + i) ([] ++ xs)) : w2.ownsRow B 9 1 (.slice A3 i c3) i xs := by simpa using ho
theorem app2_next {w1 w2 w5 : World} {B m c3 : Nat} {E : TypeId} {sz : Nat} {A3 : Option Addr} {xs : List Value} (hb : Below w1.heap.size w1 w2) (hs : w1.heap.size = B) (ho : w2.ownsRow B E sz (.slice A3 m c3) m xs) (hg : w2.grownBy w5 (Value.slice A3 m c3).ownBlock) : Below w1.heap.size w1 w5 :=
  hb.grown hg hb.size (fun k hk => by rw [hs]; exact (own_base ho k hk).1)
def zObj : Obj := .cells #[.int .i64 0, .int .i64 0, .string ⟨#[]⟩, .slice none 0 0, .slice none 0 0] 44 (0, 0)
/-- The memory behind the first statement of l3Cut: the parts are cut. -/
def CMid (t : Tree) (rs : List (List Value)) (i n : Nat) (A1 : Option Addr) (c1 : Nat) (w w1 wx : World) : Prop :=
  ∃ A5 c5, n - 1 ≤ c5 ∧ Below w.heap.size w wx ∧ w1.heap.size ≤ wx.heap.size ∧ wx.heap[w.heap.size]? = some (.cells #[.int .i64 7, .int .i64 t.num, .string t.text, .slice A1 n c1, .slice A5 (n - 1) c5] 44 (0, 0)) ∧ wx.heap[w.heap.size + 1]? = some zObj ∧
    wx.ownsRow (w.heap.size + 1 + 1) 44 5 (.slice A5 (n - 1) c5) (n - 1) (del i rs).flatten
theorem cut_mid {t : Tree} {rs : List (List Value)} {i n c1 c2 c5 : Nat} {A1 A2 A5 : Option Addr} {w w1 w5 : World} (hi : i < n) (_hs : w1.heap.size = w.heap.size + 1 + 1) (hb1 : Below w.heap.size w w1) (hb5 : Below w1.heap.size w1 w5)
    (hkv : w1.heap[w.heap.size]? = some (.cells #[.int .i64 7, .int .i64 t.num, .string t.text, .slice A1 n c1, .slice A2 n c2] 44 (0, 0))) (hkr : w1.heap[w.heap.size + 1]? = some zObj) (hc : i + (n - (i + 1)) ≤ c5)
    (ho : w5.ownsRow (w.heap.size + 1 + 1) 44 5 (.slice A5 (i + (n - (i + 1))) c5) (i + (n - (i + 1))) ((rs.take i).flatten ++ (rs.drop (i + 1)).flatten)) :
    CMid t rs i n A1 c1 w w1 (w5.setCell ⟨w.heap.size, 4, none⟩ (.slice A5 (i + (n - (i + 1))) c5)) := by
  have e : i + (n - (i + 1)) = n - 1 := by omega
  have e2 : (rs.take i).flatten ++ (rs.drop (i + 1)).flatten = (del i rs).flatten := by rw [del, List.flatten_append]
  rw [e, e2] at ho
  rw [e] at hc ⊢
  have hle : w.heap.size ≤ (⟨w.heap.size, 4, none⟩ : Addr).block := Nat.le_refl _
  have hne : ∀ j, j ≠ w.heap.size → (w5.setCell ⟨w.heap.size, 4, none⟩ (.slice A5 (n - 1) c5)).heap[j]? = w5.heap[j]? := fun j h => Below.heap_setCell _ _ _ _ h
  refine ⟨A5, c5, hc, (below_then hb1 hb1.size hb5).setCell hle _, by have := hb5.size; simpa [World.setCell] using this, ?_, ?_, ?_⟩
  · rw [block_setCell (block_below hkv hb5)]; rfl
  · rw [hne _ (by omega)]; exact block_below hkr hb5
  · exact own_agree ho (Agree.of_setCell (F := fun c => c ≠ w.heap.size) _ _ _ (fun _ h => h)) (fun k hk => by have := (own_base ho k hk).1; omega)
theorem cut_fin {F : Nat → Prop} {t : Tree} {rs : List (List Value)} {i n c1 c5 c6 : Nat} {A1 A5 A6 : Option Addr} {w w5 w6 : World} (hi : i < n) (hn : t.kids.length = n) (hnn : t.names.length = n) (hts : LtsAt F w rs t.kids) (hb5 : Below w.heap.size w w5)
    (hk5 : w5.heap[w.heap.size]? = some (.cells #[.int .i64 7, .int .i64 t.num, .string t.text, .slice A1 n c1, .slice A5 (n - 1) c5] 44 (0, 0))) (hr5 : w5.heap[w.heap.size + 1]? = some zObj)
    (ho5 : w5.ownsRow (w.heap.size + 1 + 1) 44 5 (.slice A5 (n - 1) c5) (n - 1) (del i rs).flatten) (hc5 : n - 1 ≤ c5) (hb6 : Below w5.heap.size w5 w6) (hc : i + (n - (i + 1)) ≤ c6)
    (ho : w6.ownsRow w5.heap.size 9 1 (.slice A6 (i + (n - (i + 1))) c6) (i + (n - (i + 1))) (strs (t.names.take i) ++ strs (t.names.drop (i + 1)))) :
    (w6.setCell ⟨w.heap.size, 3, none⟩ (.slice A6 (i + (n - (i + 1))) c6)).heap[w.heap.size]? = some (.cells #[.int .i64 7, .int .i64 t.num, .string t.text, .slice A6 (n - 1) c6, .slice A5 (n - 1) c5] 44 (0, 0)) ∧ (w6.setCell ⟨w.heap.size, 3, none⟩ (.slice A6 (i + (n - (i + 1))) c6)).heap[w.heap.size + 1]? = some zObj ∧
      ∀ v0 v1 v2 v3 v4, SCutPost F t i w (.returned (.agg #[.int .i64 7, .int .i64 t.num, .string t.text, .slice A6 (n - 1) c6, .slice A5 (n - 1) c5]))
        ((((((w6.setCell ⟨w.heap.size, 3, none⟩ (.slice A6 (i + (n - (i + 1))) c6)).setCell ⟨w.heap.size + 1, 0, none⟩ v0).setCell ⟨w.heap.size + 1, 1, none⟩ v1).setCell ⟨w.heap.size + 1, 2, none⟩ v2).setCell ⟨w.heap.size + 1, 3, none⟩ v3).setCell ⟨w.heap.size + 1, 4, none⟩ v4) := by
  have e : i + (n - (i + 1)) = n - 1 := by omega
  have e2 : strs (t.names.take i) ++ strs (t.names.drop (i + 1)) = strs (del i t.names) := by simp [strs, del]
  rw [e, e2] at ho
  rw [e] at hc ⊢
  have hl5 := lt_of_block hr5
  have hle : w.heap.size ≤ (⟨w.heap.size, 3, none⟩ : Addr).block := Nat.le_refl _
  have hleR : ∀ j, w.heap.size ≤ (⟨w.heap.size + 1, j, none⟩ : Addr).block := fun j => by show w.heap.size ≤ w.heap.size + 1; omega
  have hne : ∀ j, j ≠ w.heap.size → (w6.setCell ⟨w.heap.size, 3, none⟩ (.slice A6 (n - 1) c6)).heap[j]? = w6.heap[j]? := fun j h => Below.heap_setCell _ _ _ _ h
  have h6 := (below_then hb5 hb5.size hb6).setCell hle (.slice A6 (n - 1) c6)
  refine ⟨by rw [block_setCell (block_below hk5 hb6)]; rfl, by rw [hne _ (by omega)]; exact block_below hr5 hb6, fun v0 v1 v2 v3 v4 => ?_⟩
  have hB := ((((h6.setCell (hleR 0) v0).setCell (hleR 1) v1).setCell (hleR 2) v2).setCell (hleR 3) v3).setCell (hleR 4) v4
  have hAg : ∀ G : Nat → Prop, (∀ c, G c → c ≠ w.heap.size ∧ c ≠ w.heap.size + 1) → Agree G w6 ((((((w6.setCell ⟨w.heap.size, 3, none⟩ (.slice A6 (n - 1) c6)).setCell ⟨w.heap.size + 1, 0, none⟩ v0).setCell ⟨w.heap.size + 1, 1, none⟩ v1).setCell ⟨w.heap.size + 1, 2, none⟩ v2).setCell ⟨w.heap.size + 1, 3, none⟩ v3).setCell ⟨w.heap.size + 1, 4, none⟩ v4) := fun G hG =>
    (((((Agree.of_setCell (F := G) w6 ⟨w.heap.size, 3, none⟩ (.slice A6 (n - 1) c6) (fun c h => (hG c h).1)).set (fun c h => (hG c h).2) 0 v0).set (fun c h => (hG c h).2) 1 v1).set (fun c h => (hG c h).2) 2 v2).set (fun c h => (hG c h).2) 3 v3).set (fun c h => (hG c h).2) 4 v4
  have hR1 := (Rds.of_own ho).frame (hAg _ (fun c h => by have h' : w5.heap.size ≤ c := h; omega))
  have hR2 := (Rds.of_own (own_below ho5 hb6)).frame (hAg _ (fun c h => by have h' : w.heap.size + 1 + 1 ≤ c := h; omega))
  have l1 := del_length i t.names (by omega)
  have l2 := del_length i t.kids (by omega)
  have hkeep : ∀ b, F b → b < w.heap.size → Nw F w.heap.size b := fun b h h' => .inl ⟨h, h'⟩
  refine ⟨_, rfl, hB, ?_⟩
  simp only [LtAt]
  have e3 : (del i t.names).length = n - 1 := by omega
  have e4 : (del i t.kids).length = n - 1 := by omega
  exact ⟨A6, c6, A5, c5, del i rs, by rw [e3, e4], by omega, by omega, hR1.mono (fun b h _ => .inr (by have h' : w5.heap.size ≤ b := h; omega)), hR2.mono (fun b h _ => .inr (by have h' : w.heap.size + 1 + 1 ≤ b := h; omega)), (hts.del i).frame (Agree.of_below hB) hkeep⟩
set_option maxRecDepth 100000 in
set_option maxHeartbeats 4000000 in
theorem sCut_any (t : Tree) (i : Nat) (hi : i < t.kids.length) (hk7 : t.kind = 7) (hlen : t.names.length = t.kids.length) (hl : t.kids.length ≤ 1000000) (F : Nat → Prop) (cs : List Value) (w : World) (ht : LtAt F w cs t) :
    Calls Tryz.prog 60 #[.agg cs.toArray, .int .i64 (i : Int)] w (SCutPost F t i w) := by
  obtain ⟨A1, c1, A2, c2, rs, rfl, g3, g4, r3, r4, hts⟩ := ht.open
  obtain ⟨n, hn⟩ : ∃ n, n = t.kids.length := ⟨_, rfl⟩
  have hnn : t.names.length = n := by omega
  have hrl : rs.length = n := by rw [hts.length]; exact hn.symm
  have hsz := hts.sizes
  rw [hk7, hnn, ← hn] at ht ⊢
  rw [hnn] at g3
  rw [← hn] at g4 hi hl
  obtain ⟨w1, hw⟩ : ∃ w1, w1 = (w.alloc (.cells #[.int .i64 7, .int .i64 t.num, .string t.text, .slice A1 n c1, .slice A2 n c2] 44 (0, 0))).alloc (.cells #[.int .i64 0, .int .i64 0, .string ⟨#[]⟩, .slice none 0 0, .slice none 0 0] 44 (0, 0)) := ⟨_, rfl⟩
  have hs1 : w1.heap.size = w.heap.size + 1 + 1 := by rw [hw]; simp
  have hb1 : Below w.heap.size w w1 := by rw [hw]; exact ((Below.refl _ _).alloc (Nat.le_refl _) _).alloc (by simp) _
  have hkv : w1.heap[w.heap.size]? = some (.cells #[.int .i64 7, .int .i64 t.num, .string t.text, .slice A1 n c1, .slice A2 n c2] 44 (0, 0)) := by rw [hw]; (repeat (first | with_reducible assumption | (with_reducible refine blk_new _ ?_; (first | rfl | (simp; done) | (simp; omega))) | with_reducible apply block_setCell | (with_reducible refine blk_skip _ _ ?_ ?_; rotate_left; (first | (simp; done) | (simp; omega))) | with_reducible refine blk_old ?_))
  have hkr : w1.heap[w.heap.size + 1]? = some (.cells #[.int .i64 0, .int .i64 0, .string ⟨#[]⟩, .slice none 0 0, .slice none 0 0] 44 (0, 0)) := by rw [hw]; (repeat (first | with_reducible assumption | (with_reducible refine blk_new _ ?_; (first | rfl | (simp; done) | (simp; omega))) | with_reducible apply block_setCell | (with_reducible refine blk_skip _ _ ?_ ?_; rotate_left; (first | (simp; done) | (simp; omega))) | with_reducible refine blk_old ?_))
  have HTS := Lib.hid hts
  have HSZ := Lib.hid hsz
  have HRL := Lib.hid hrl
  have HN := Lib.hid (And.intro hn hnn)
  have HNAMES := Lib.hid r3
  obtain ⟨hf1, hf2⟩ := flatten_take rs hsz i
  obtain ⟨hf3, hf4⟩ := flatten_take rs hsz (i + 1)
  have HLF := Lib.hid (show ((rs.take i).flatten).length = i * 5 by rw [flatten_len _ (fun r hr => hsz r (List.mem_of_mem_take hr))]; simp; omega)
  have HLB := Lib.hid (show ((rs.drop (i + 1)).flatten).length = (n - (i + 1)) * 5 by rw [flatten_len _ (fun r hr => hsz r (List.mem_of_mem_drop hr))]; simp; omega)
  have HO1 := Lib.hid (show ∀ u ∈ (rs.take i).flatten, u.oneCell' = true from flat_one (hts.split i).1)
  have HO2 := Lib.hid (show ∀ u ∈ (rs.drop (i + 1)).flatten, u.oneCell' = true from flat_one (hts.split (i + 1)).2)
  have HRF := Lib.hid (fun (W : World) (hb : Below w.heap.size w W) => show Rds F W A2 ((rs.take i).flatten) by rw [hf1]; exact (r4.frame (Agree.of_below hb)).take _)
  have HRB := Lib.hid (fun (W : World) (hb : Below w.heap.size w W) => show Rds F W (if c2 = i + 1 then A2 else A2.map (fun x => x.add ((i + 1) * 5))) ((rs.drop (i + 1)).flatten) by
    rw [hf4]
    have h := (r4.frame (Agree.of_below hb)).drop ((i + 1) * 5) (c2 * 5) ((i + 1) * 5) (fun e => List.drop_eq_nil_of_le (by rw [flatten_len rs hsz]; omega))
    by_cases hc : c2 = i + 1
    · rw [if_pos hc]; rw [if_pos (by omega)] at h; exact h
    · rw [if_neg hc]; rw [if_neg (by omega)] at h; exact h)
  have HNL1 := Lib.hid (show (strs (t.names.take i)).length = i * 1 by simp [strs]; omega)
  have HNL2 := Lib.hid (show (strs (t.names.drop (i + 1))).length = (n - (i + 1)) * 1 by simp [strs]; omega)
  have HNO1 := Lib.hid (strs_one (t.names.take i))
  have HNO2 := Lib.hid (strs_one (t.names.drop (i + 1)))
  have HNF := Lib.hid (fun (W : World) (hb : Below w.heap.size w W) => show Rds F W A1 (strs (t.names.take i)) by
    rw [show strs (t.names.take i) = (strs t.names).take i by simp [strs, List.map_take]]
    exact (r3.frame (Agree.of_below hb)).take _)
  have HNB := Lib.hid (fun (W : World) (hb : Below w.heap.size w W) => show Rds F W (if c1 = i + 1 then A1 else A1.map (fun x => x.add (i + 1))) (strs (t.names.drop (i + 1))) by
    rw [show strs (t.names.drop (i + 1)) = (strs t.names).drop (i + 1) by simp [strs, List.map_drop]]
    exact (r3.frame (Agree.of_below hb)).drop _ _ _ (fun e => List.drop_eq_nil_of_le (by simp [strs]; omega)))
  have HB1 := Lib.hid hb1
  have HKV := Lib.hid hkv
  have HKR := Lib.hid hkr
  have HW := Lib.hid hw
  have HOWN := Lib.hid (show (w1.alloc (.cells #[] 44 (0, 0))).drew.ownsRow (w.heap.size + 1 + 1) 44 5 (.slice (some ⟨w.heap.size + 1 + 1, 0, none⟩) 0 0) 0 [] from by rw [← hs1]; exact own_empty w1.drew 44 5)
  have HBA := Lib.hid (show Below w.heap.size w (w1.alloc (.cells #[] 44 (0, 0))).drew from hb1.drew.alloc hb1.size _)
  have HZ4 := Lib.hid (show (w1.alloc (.cells #[] 44 (0, 0))).drew.cell? ⟨w.heap.size, 4, none⟩ = some (.slice A2 n c2) from cell_of_block (block_below hkv ((Below.refl _ _).drew.alloc (Nat.le_refl _) _)) 4)
  have z4 := cell_of_block hkv 4
  have u4 := free_of_block hkv 4
  simp at z4
  have hin : i < n := hi
  have hin1 : (i : Int) + 1 ≤ (n : Int) := by omega
  have hin2 : (0 : Int) ≤ (i : Int) + 1 := by omega
  have hin3 : (i : Int) ≤ (n : Int) := by omega
  have hw1 : IntKind.i64.wrap ((i : Int) + 1) = (i : Int) + 1 := by rw [IntKind.wrap_i64]; omega
  have htn : ((i : Int) + 1).toNat = i + 1 := by omega
  have hic : i ≤ c2 := by omega
  have hic1 : i + 1 ≤ c2 := by omega
  clear ht r3 r4 hts hsz hrl hn hnn hf1 hf2 hf3 hf4 hw hb1 hkv hkr
  go_enter Tryz.func60, Tryz.ntmps60
  go_wp2
  rw [← HW.out]
  go_cut [16] (fun _ wx => CMid t rs i n A1 c1 w w1 wx)
  case first =>
    have z4a := HZ4.out
    go_region_law (first
        | (refine step_append_rows (w.heap.size + 1 + 1) rfl (.tmp 5) (.tmp 9) 42 44 _ 5 80 rfl Tryz.underlying42 infoL1V rfl (by decide) (.slice (some ⟨w.heap.size + 1 + 1, 0, none⟩) 0 0) 0 [] rfl HOWN.out A2 i c2 ((rs.take i).flatten) rfl HLF.out (HRF.out _ HBA.out) HO1.out (by simp only [maxLen]; omega) (by omega) (by simp; omega) ?_; intro A3 c3 w2 hc3 ho3 hg3; have hb2 := app2_below hs1 hg3; have z42 := cell_of_block (block_below HKV.out hb2) 4; have hown3 := app2_own HSZ.out ho3; simp at z42; clear hc3 ho3 hg3)
        | (refine step_append_rows (w.heap.size + 1 + 1) rfl (.tmp 10) (.tmp 15) 42 44 _ 5 80 rfl Tryz.underlying42 infoL1V rfl (by decide) (.slice A3 i c3) i ((rs.take i).flatten) rfl hown3 _ (n - (i + 1)) _ ((rs.drop (i + 1)).flatten) rfl HLB.out (HRB.out _ (below_then HB1.out HB1.out.size hb2)) HO2.out (by simp only [maxLen]; omega) (by omega) (by have := hb2.size; omega) ?_; intro A5 c5 w5 hc5 ho5 hg5; have hb5 := app2_next hb2 hs1 hown3 hg5; have z45 := cell_of_block (block_below HKV.out hb5) 4; have u45 := free_of_block (block_below HKV.out hb5) 4; simp at z45))
    all_goals
      have HM := Lib.hid (cut_mid (t := t) hi hs1 HB1.out hb5 HKV.out HKR.out hc5 ho5)
      clear hc5 ho5 hg5 hb5 z45 z42 hown3 hb2
      generalize (if c2 = i + 1 then A2 else Option.map (fun x => x.add ((i + 1) * 5)) A2) = Asl
      go_wp2
      go_meet
      exact HM.out
  case rest =>
    obtain ⟨A5, c5, hc5, hb5, hs5, hk5, hr5, ho5⟩ := hcut
    have z0 := cell_of_block hk5 0
    have z3 := cell_of_block hk5 3
    have u3 := free_of_block hk5 3
    simp at z0 z3
    have HS3 := Lib.hid (show (wc.alloc (.cells #[] 9 (0, 0))).drew.ownsRow wc.heap.size 9 1 (.slice (some ⟨wc.heap.size, 0, none⟩) 0 0) 0 [] from own_empty wc.drew 9 1)
    have HBA := Lib.hid (show Below w.heap.size w (wc.alloc (.cells #[] 9 (0, 0))).drew from (hb5.alloc hb5.size _).drew)
    have z3a : (wc.alloc (.cells #[] 9 (0, 0))).drew.cell? ⟨w.heap.size, 3, none⟩ = some (.slice A1 n c1) := cell_of_block (block_below hk5 (((Below.refl _ _).alloc (Nat.le_refl _) _).drew)) 3
    have HB5 := Lib.hid hb5
    have HK5 := Lib.hid hk5
    have HFIN := Lib.hid (fun (A6 : Option Addr) (c6 : Nat) (w6 : World) (hb6 : Below wc.heap.size wc w6) hc6 ho6 => cut_fin (A6 := A6) (c6 := c6) (w6 := w6) hi HN.out.1.symm HN.out.2 HTS.out hb5 hk5 hr5 ho5 hc5 hb6 hc6 ho6)
    have hic3 : i ≤ c1 := by omega
    have hic4 : i + 1 ≤ c1 := by omega
    clear hk5 hr5 ho5 hb5 z4
    go_wp2
    go_region_law (first
      | (refine step_append_rows wc.heap.size rfl (.tmp 21) (.tmp 25) 41 9 _ 1 16 rfl Tryz.underlying41 infoStr rfl (by decide) (.slice (some ⟨wc.heap.size, 0, none⟩) 0 0) 0 [] rfl HS3.out A1 i c1 (strs (t.names.take i)) rfl HNL1.out (HNF.out _ HBA.out) HNO1.out (by simp only [maxLen]; omega) (by omega) (by simp) ?_; intro A3 c3 w2 hc3 ho3 hg3; have hb2 := app2_below rfl hg3; have z42 := cell_of_block (block_below HK5.out hb2) 3; have hown3 := app2_ownS ho3; simp at z42; clear hc3 ho3 hg3)
      | (refine step_append_rows wc.heap.size rfl (.tmp 26) (.tmp 31) 41 9 _ 1 16 rfl Tryz.underlying41 infoStr rfl (by decide) (.slice A3 i c3) i (strs (t.names.take i)) rfl hown3 _ (n - (i + 1)) _ (strs (t.names.drop (i + 1))) rfl HNL2.out (HNB.out _ (below_then HB5.out HB5.out.size hb2)) HNO2.out (by simp only [maxLen]; omega) (by omega) (by have := hb2.size; omega) ?_; intro A6 c6 w6 hc6 ho6 hg6; have hb6 := app2_next hb2 rfl hown3 hg6; have z45 := cell_of_block (block_below HK5.out hb6) 3; have u45 := free_of_block (block_below HK5.out hb6) 3; simp at z45))
    all_goals
      obtain ⟨f1, f2, f3⟩ := HFIN.out A6 c6 w6 hb6 hc6 ho6
      have x0 := cell_of_block f1 0
      have x1 := cell_of_block f1 1
      have x2 := cell_of_block f1 2
      have x3 := cell_of_block f1 3
      have x4 := cell_of_block f1 4
      have r0 := cell_of_block f2 0
      have r1 := cell_of_block f2 1
      have r2 := cell_of_block f2 2
      have r3 := cell_of_block f2 3
      have r4 := cell_of_block f2 4
      have g0 := free_of_block f2 0
      have g1 := free_of_block f2 1
      have g2 := free_of_block f2 2
      have g3 := free_of_block f2 3
      have g4 := free_of_block f2 4
      simp at x0 x1 x2 x3 x4 r0 r1 r2 r3 r4
      have HF1 := Lib.hid f1
      have HF2 := Lib.hid f2
      have HF3 := Lib.hid f3
      clear f1 f2 f3 hc6 ho6 hg6 hb6 z45 u45 z42 hown3 hb2 z0 z3 u3 z3a HFIN
      generalize World.setCell _ _ _ = wz at x0 x1 x2 x3 x4 r0 r1 r2 r3 r4 g0 g1 g2 g3 g4 HF1 HF2 HF3 ⊢
      go_wp2
      all_goals
        refine bodyPost_ret (results_cell_row rfl _ _ (w.heap.size + 1) _ _ _ _ rfl (block_setCell (block_setCell (block_setCell (block_setCell (block_setCell HF2.out _ _) _ _) _ _) _ _) _ _) Tryz.underlying44 rfl ((info_size infoL1V).trans (by simp))) rfl ?_
        exact HF3.out _ _ _ _ _
end Go.Proofs.YteeppdobeeodiaaGreatDoor
namespace Go.Proofs.YteeppdobeeodiaaGreatDoor
open Go.RowKit
set_option maxRecDepth 100000 in
theorem sNull_any (w : World) : Calls Tryz.prog 58 #[] w (fun e w' => e = .returned (.agg #[.int .i64 1, .int .i64 0, .string ⟨#[]⟩, .slice none 0 0, .slice none 0 0]) ∧ Below w.heap.size w w') := by
  have hb1 : ∀ o, Below w.heap.size w (w.alloc o) := fun o => (Below.refl _ _).alloc (Nat.le_refl _) o
  have HB := Lib.hid hb1
  clear hb1
  go_enter Tryz.func58, Tryz.ntmps58
  go_wp2
  refine bodyPost_ret (results_cell_row rfl _ _ w.heap.size _ _ _ _ rfl (heap_alloc_new _ _) Tryz.underlying44 rfl ((info_size infoL1V).trans (by simp))) rfl ?_
  exact ⟨rfl, HB.out _⟩
def SAPost (F : Nat → Prop) (v p : Tree) (w : World) (e : Ending) (w' : World) : Prop := ∃ cs, e = .returned (.agg cs.toArray) ∧ Below w.heap.size w w' ∧ LtAt (Nw F w.heap.size) w' cs (Tree.patch v p)
def SASpec (p : Tree) : Prop := p.ok = true → ∀ (v : Tree) (F : Nat → Prop) (vc pc : List Value) (w : World), v.ok = true → v.count + 2 * p.count ≤ 1000000 → LtAt F w vc v → LtAt F w pc p → Calls Tryz.prog 37 #[.agg vc.toArray, .agg pc.toArray] w (SAPost F v p w)
structure SAInv (F : Nat → Prop) (v p : Tree) (w wx : World) (i : Nat) (vcs : List Value) (pn : List ByteArray) (pk : List Tree) (po ro : Obj) : Prop where
  cell : wx.heap[w.heap.size]? = some (.cells vcs.toArray 44 (0, 0))
  lt : LtAt (Nx F w.heap.size) wx vcs (.mk 7 0 emptyB pn pk)
  ok : MapOK pn pk
  eq : Tree.patch v p = Tree.patchL pn pk (p.names.drop i) (p.kids.drop i)
  cnt : Tree.countL pk + 2 * Tree.countL (p.kids.drop i) ≤ Tree.countL v.kids + 2 * Tree.countL p.kids
  bel : Below w.heap.size w wx
  size : w.heap.size + 3 ≤ wx.heap.size
  pb : wx.heap[w.heap.size + 1]? = some po
  rb : wx.heap[w.heap.size + 1 + 1]? = some ro
section
variable {F : Nat → Prop} {v p : Tree} {w wx w4 : World} {i : Nat} {vcs : List Value} {pn : List ByteArray} {pk : List Tree} {po ro : Obj}
theorem SAInv.below (h : SAInv F v p w wx i vcs pn pk po ro) (hb : Below wx.heap.size wx w4) : SAInv F v p w w4 i vcs pn pk po ro :=
  ⟨block_below h.cell hb, h.lt.below hb, h.ok, h.eq, h.cnt, below_then h.bel h.bel.size hb, Nat.le_trans h.size hb.size, block_below h.pb hb, block_below h.rb hb⟩
theorem SAInv.store (h : SAInv F v p w wx i vcs pn pk po ro) {i' : Nat} {pn' : List ByteArray} {pk' : List Tree} {a0 a1 a2 a3 a4 : Value} (hb : Below wx.heap.size wx w4) (ht : LtAt (Nx F w.heap.size) w4 [a0, a1, a2, a3, a4] (.mk 7 0 emptyB pn' pk')) (hok : MapOK pn' pk')
    (heq : Tree.patch v p = Tree.patchL pn' pk' (p.names.drop i') (p.kids.drop i')) (hcnt : Tree.countL pk' + 2 * Tree.countL (p.kids.drop i') ≤ Tree.countL v.kids + 2 * Tree.countL p.kids) :
    SAInv F v p w (((((w4.setCell ⟨w.heap.size, 0, none⟩ a0).setCell ⟨w.heap.size, 1, none⟩ a1).setCell ⟨w.heap.size, 2, none⟩ a2).setCell ⟨w.heap.size, 3, none⟩ a3).setCell ⟨w.heap.size, 4, none⟩ a4) i' [a0, a1, a2, a3, a4] pn' pk' po ro := by
  have hc := block_below h.cell hb
  have h5 := block_setCell (block_setCell (block_setCell (block_setCell (block_setCell hc 0 a0) 1 a1) 2 a2) 3 a3) 4 a4
  have hle : ∀ j, w.heap.size ≤ (⟨w.heap.size, j, none⟩ : Addr).block := fun j => Nat.le_refl _
  have hbel := ((((((below_then h.bel h.bel.size hb).setCell (hle 0) a0).setCell (hle 1) a1).setCell (hle 2) a2).setCell (hle 3) a3).setCell (hle 4) a4)
  have hA : ∀ G : Nat → Prop, (∀ c, G c → c ≠ w.heap.size) → Agree G w4 (((((w4.setCell ⟨w.heap.size, 0, none⟩ a0).setCell ⟨w.heap.size, 1, none⟩ a1).setCell ⟨w.heap.size, 2, none⟩ a2).setCell ⟨w.heap.size, 3, none⟩ a3).setCell ⟨w.heap.size, 4, none⟩ a4) :=
    fun G hG => (((((Agree.refl G w4).set hG 0 a0).set hG 1 a1).set hG 2 a2).set hG 3 a3).set hG 4 a4
  have hs4 := hb.size
  have hs := h.size
  refine ⟨?_, ht.frame (hA _ (fun c hc e => ?_)) (fun _ h _ => h), hok, heq, hcnt, hbel, ?_, ?_, ?_⟩
  · rw [h5]
    obtain ⟨x0, x1, x2, x3, x4, e5⟩ := five_of vcs h.lt.length
    rw [e5]
    rfl
  · subst e
    rcases hc with ⟨_, hc⟩ | hc <;> omega
  · have e := (hA (fun _ => False) (fun c h => h.elim)).size
    omega
  · exact block_agree (block_below h.pb hb) (hA (fun c => c ≠ w.heap.size) (fun _ h => h)) (by omega)
  · exact block_agree (block_below h.rb hb) (hA (fun c => c ≠ w.heap.size) (fun _ h => h)) (by omega)
theorem nx_of_nw {B N : Nat} (hN : B + 3 ≤ N) : ∀ b, Nw (Nx F B) N b → Nx F B b := fun b h => by
  rcases h with h | h
  · exact h.1
  · exact .inr (by omega)
theorem SAInv.skip {s : ByteArray} {x : Tree} (h : SAInv F v p w wx i vcs pn pk po ro) (hs : p.names[i]? = some s) (hx : p.kids[i]? = some x) (hf : ¬ pn[insPos pn s]? = some s) (hn : x.kind = 1) : SAInv F v p w wx (i + 1) vcs pn pk po ro := by
  refine ⟨h.cell, h.lt, h.ok, ?_, ?_, h.bel, h.size, h.pb, h.rb⟩
  · rw [h.eq, patch_step hs hx, if_neg hf, if_pos hn]
  · have h1 := h.cnt
    rw [countL_drop hx] at h1
    omega
theorem SAInv.put {s : ByteArray} {x : Tree} {a0 a1 a2 a3 a4 : Value} {wy : World} (h : SAInv F v p w wx i vcs pn pk po ro) (hs : p.names[i]? = some s) (hx : p.kids[i]? = some x) (hf : ¬ pn[insPos pn s]? = some s) (hn : x.kind ≠ 1) (hso : strOK s = true) (hxo : x.ok = true) (hb : Below wx.heap.size wx w4)
    (hy : w.heap.size + 3 ≤ wy.heap.size) (ht : LtAt (Nw (Nx F w.heap.size) wy.heap.size) w4 [a0, a1, a2, a3, a4] (.mk 7 0 emptyB (ins (insPos pn s) s pn) (ins (insPos pn s) (Tree.patch nullT x) pk))) :
    SAInv F v p w (((((w4.setCell ⟨w.heap.size, 0, none⟩ a0).setCell ⟨w.heap.size, 1, none⟩ a1).setCell ⟨w.heap.size, 2, none⟩ a2).setCell ⟨w.heap.size, 3, none⟩ a3).setCell ⟨w.heap.size, 4, none⟩ a4) (i + 1) [a0, a1, a2, a3, a4] (ins (insPos pn s) s pn) (ins (insPos pn s) (Tree.patch nullT x) pk) po ro := by
  obtain ⟨hzo, hzc⟩ := patch_ok x nullT null_ok hxo
  refine h.store hb (ht.frame (Agree.refl _ _) (fun b hb' _ => nx_of_nw hy b hb')) (h.ok.ins hf hso hzo) ?_ ?_
  · rw [h.eq, patch_step hs hx, if_neg hf, if_neg hn]
  · have h1 := h.cnt
    rw [countL_drop hx] at h1
    rw [countL_ins]
    have := null_count
    omega
theorem SAInv.del {s : ByteArray} {x : Tree} {a0 a1 a2 a3 a4 : Value} {wy : World} (h : SAInv F v p w wx i vcs pn pk po ro) (hs : p.names[i]? = some s) (hx : p.kids[i]? = some x) (hf : pn[insPos pn s]? = some s) (hn : x.kind = 1) (hb : Below wx.heap.size wx w4)
    (hy : w.heap.size + 3 ≤ wy.heap.size) (ht : LtAt (Nw (Nx F w.heap.size) wy.heap.size) w4 [a0, a1, a2, a3, a4] (.mk 7 0 emptyB (del (insPos pn s) pn) (del (insPos pn s) pk))) :
    SAInv F v p w (((((w4.setCell ⟨w.heap.size, 0, none⟩ a0).setCell ⟨w.heap.size, 1, none⟩ a1).setCell ⟨w.heap.size, 2, none⟩ a2).setCell ⟨w.heap.size, 3, none⟩ a3).setCell ⟨w.heap.size, 4, none⟩ a4) (i + 1) [a0, a1, a2, a3, a4] (del (insPos pn s) pn) (del (insPos pn s) pk) po ro := by
  have hlt : insPos pn s < pk.length := by
    have := (List.getElem?_eq_some_iff.1 hf).1
    have := h.ok.len
    omega
  refine h.store hb (ht.frame (Agree.refl _ _) (fun b hb' _ => nx_of_nw hy b hb')) (h.ok.del _ hlt) ?_ ?_
  · rw [h.eq, patch_step hs hx, if_pos hf, if_pos hn]
  · have h1 := h.cnt
    rw [countL_drop hx] at h1
    have := countL_del (insPos pn s) pk
    omega
theorem SAInv.set {s : ByteArray} {x y : Tree} {a0 a1 a2 a3 a4 : Value} {wy : World} (h : SAInv F v p w wx i vcs pn pk po ro) (hs : p.names[i]? = some s) (hx : p.kids[i]? = some x) (hf : pn[insPos pn s]? = some s) (hn : x.kind ≠ 1) (hxo : x.ok = true) (hy' : pk[insPos pn s]? = some y) (hb : Below wx.heap.size wx w4)
    (hy : w.heap.size + 3 ≤ wy.heap.size) (ht : LtAt (Nw (Nx F w.heap.size) wy.heap.size) w4 [a0, a1, a2, a3, a4] (.mk 7 0 emptyB pn (pk.set (insPos pn s) (Tree.patch y x)))) :
    SAInv F v p w (((((w4.setCell ⟨w.heap.size, 0, none⟩ a0).setCell ⟨w.heap.size, 1, none⟩ a1).setCell ⟨w.heap.size, 2, none⟩ a2).setCell ⟨w.heap.size, 3, none⟩ a3).setCell ⟨w.heap.size, 4, none⟩ a4) (i + 1) [a0, a1, a2, a3, a4] pn (pk.set (insPos pn s) (Tree.patch y x)) po ro := by
  have hyo : y.ok = true := (okL_iff pk).1 h.ok.ok y (List.mem_of_getElem? hy')
  obtain ⟨hzo, hzc⟩ := patch_ok x y hyo hxo
  refine h.store hb (ht.frame (Agree.refl _ _) (fun b hb' _ => nx_of_nw hy b hb')) (h.ok.set _ hzo) ?_ ?_
  · rw [h.eq, patch_step hs hx, if_pos hf, if_neg hn, hy']
  · have h1 := h.cnt
    rw [countL_drop hx] at h1
    have h2 := countL_set pk (insPos pn s) (Tree.patch y x) y hy'
    omega
end
theorem LtAt.null {F : Nat → Prop} {w : World} : LtAt F w [.int .i64 1, .int .i64 0, .string ⟨#[]⟩, .slice none 0 0, .slice none 0 0] nullT := by
  unfold nullT
  simp only [LtAt]
  exact ⟨none, 0, none, 0, [], rfl, Nat.le_refl _, Nat.le_refl _, Rds.nil _ _ _, Rds.nil _ _ _, by simp [LtsAt]⟩
theorem LtAt.empty {F : Nat → Prop} {w : World} : LtAt F w [.int .i64 7, .int .i64 0, .string ⟨#[]⟩, .slice none 0 0, .slice none 0 0] (.mk 7 0 emptyB [] []) := by
  simp only [LtAt]
  exact ⟨none, 0, none, 0, [], rfl, Nat.le_refl _, Nat.le_refl _, Rds.nil _ _ _, Rds.nil _ _ _, by simp [LtsAt]⟩
/-- What a region of the round keeps: five cells of a block of the call's own, five of a row, that are not the value's. -/
def Keep5 (b o : Nat) (t : Tree) (X1 X2 : Option Addr) (x1 x2 : Nat) (W : World) : Prop :=
  W.cell? ⟨b, o, none⟩ = some (.int .i64 t.kind) ∧ W.cell? ⟨b, o + 1, none⟩ = some (.int .i64 t.num) ∧ W.cell? ⟨b, o + 2, none⟩ = some (.string t.text) ∧ W.cell? ⟨b, o + 3, none⟩ = some (.slice X1 t.names.length x1) ∧ W.cell? ⟨b, o + 4, none⟩ = some (.slice X2 t.kids.length x2)
theorem Keep5.below {b o : Nat} {t : Tree} {X1 X2 : Option Addr} {x1 x2 : Nat} {W W' : World} (h : Keep5 b o t X1 X2 x1 x2 W) (hb : Below W.heap.size W W') : Keep5 b o t X1 X2 x1 x2 W' := by
  have hl : b < W.heap.size := World.block_lt_of_cell? W _ h.1
  have g : ∀ j, W'.cell? ⟨b, j, none⟩ = W.cell? ⟨b, j, none⟩ := fun j => World.cell?_of_block (a := ⟨b, j, none⟩) (hb.block b hl)
  exact ⟨(g _).trans h.1, (g _).trans h.2.1, (g _).trans h.2.2.1, (g _).trans h.2.2.2.1, (g _).trans h.2.2.2.2⟩
theorem Keep5.set {b o g j : Nat} {t : Tree} {X1 X2 : Option Addr} {x1 x2 : Nat} {W : World} (h : Keep5 b o t X1 X2 x1 x2 W) (hne : b ≠ g) (u : Value) : Keep5 b o t X1 X2 x1 x2 (W.setCell ⟨g, j, none⟩ u) := by
  have k : ∀ i, (W.setCell ⟨g, j, none⟩ u).cell? ⟨b, i, none⟩ = W.cell? ⟨b, i, none⟩ := fun i => World.cell?_of_block (a := ⟨b, i, none⟩) (Below.heap_setCell _ _ _ _ hne)
  exact ⟨(k _).trans h.1, (k _).trans h.2.1, (k _).trans h.2.2.1, (k _).trans h.2.2.2.1, (k _).trans h.2.2.2.2⟩
set_option maxRecDepth 100000 in
set_option maxHeartbeats 16000000 in
theorem sApply_any : ∀ p, SASpec p := Tree.ind fun p ih hp v F vc pc w hv hcount htv htp => by
  have HV := Lib.hid htv
  have HP := Lib.hid htp
  obtain ⟨A1, c1, A2, c2, rs, rfl, g3, g4, r3, r4, hts⟩ := htv.open
  obtain ⟨A1', c1', A2', c2', rs', rfl, g3', g4', r3', r4', hts'⟩ := htp.open
  obtain ⟨w1, hw⟩ : ∃ w1, w1 = ((w.alloc (.cells #[.int .i64 v.kind, .int .i64 v.num, .string v.text, .slice A1 v.names.length c1, .slice A2 v.kids.length c2] 44 (0, 0))).alloc (.cells #[.int .i64 p.kind, .int .i64 p.num, .string p.text, .slice A1' p.names.length c1', .slice A2' p.kids.length c2'] 44 (0, 0))).alloc (.cells #[.int .i64 0, .int .i64 0, .string ⟨#[]⟩, .slice none 0 0, .slice none 0 0] 44 (0, 0)) := ⟨_, rfl⟩
  have hs1 : w1.heap.size = w.heap.size + 3 := by rw [hw]; simp
  have hb1 : Below w.heap.size w w1 := by rw [hw]; exact (((Below.refl _ _).alloc (Nat.le_refl _) _).alloc (by simp) _).alloc (by simp <;> omega) _
  have hkv : w1.heap[w.heap.size]? = some (.cells #[.int .i64 v.kind, .int .i64 v.num, .string v.text, .slice A1 v.names.length c1, .slice A2 v.kids.length c2] 44 (0, 0)) := by rw [hw]; (repeat (first | with_reducible assumption | (with_reducible refine blk_new _ ?_; (first | rfl | (simp; done) | (simp; omega))) | with_reducible apply block_setCell | (with_reducible refine blk_skip _ _ ?_ ?_; rotate_left; (first | (simp; done) | (simp; omega))) | with_reducible refine blk_old ?_))
  have hkp : w1.heap[w.heap.size + 1]? = some (.cells #[.int .i64 p.kind, .int .i64 p.num, .string p.text, .slice A1' p.names.length c1', .slice A2' p.kids.length c2'] 44 (0, 0)) := by rw [hw]; (repeat (first | with_reducible assumption | (with_reducible refine blk_new _ ?_; (first | rfl | (simp; done) | (simp; omega))) | with_reducible apply block_setCell | (with_reducible refine blk_skip _ _ ?_ ?_; rotate_left; (first | (simp; done) | (simp; omega))) | with_reducible refine blk_old ?_))
  have hkr : w1.heap[w.heap.size + 1 + 1]? = some (.cells #[.int .i64 0, .int .i64 0, .string ⟨#[]⟩, .slice none 0 0, .slice none 0 0] 44 (0, 0)) := by rw [hw]; (repeat (first | with_reducible assumption | (with_reducible refine blk_new _ ?_; (first | rfl | (simp; done) | (simp; omega))) | with_reducible apply block_setCell | (with_reducible refine blk_skip _ _ ?_ ?_; rotate_left; (first | (simp; done) | (simp; omega))) | with_reducible refine blk_old ?_))
  have HB1 := Lib.hid hb1
  have HKV := Lib.hid hkv
  have HKQ := Lib.hid hkp
  have HKR := Lib.hid hkr
  have HW := Lib.hid hw
  clear hw hb1 hkv hkp hkr
  have z0 := cell_of_block HKV.out 0
  have q0 := cell_of_block HKQ.out 0
  simp at z0 q0
  go_enter Tryz.func37, Tryz.ntmps37
  go_upto_if 11 with fail
  rw [← HW.out]
  by_cases hpk : p.kind = 7
  case neg =>
    have q1 := cell_of_block HKQ.out 1
    have q2 := cell_of_block HKQ.out 2
    have q3 := cell_of_block HKQ.out 3
    have q4 := cell_of_block HKQ.out 4
    simp at q1 q2 q3 q4
    have f0 := free_of_block HKR.out 0
    have f1 := free_of_block HKR.out 1
    have f2 := free_of_block HKR.out 2
    have f3 := free_of_block HKR.out 3
    have f4 := free_of_block HKR.out 4
    have r0 := cell_of_block HKR.out 0
    have r1 := cell_of_block HKR.out 1
    have r2 := cell_of_block HKR.out 2
    have r3 := cell_of_block HKR.out 3
    have r4 := cell_of_block HKR.out 4
    simp at r0 r1 r2 r3 r4
    go_wp2
    refine bodyPost_ret (results_cell_row rfl _ _ (w.heap.size + 1 + 1) _ _ _ _ rfl (block_setCell (block_setCell (block_setCell (block_setCell (block_setCell HKR.out _ _) _ _) _ _) _ _) _ _) Tryz.underlying44 rfl ((info_size infoL1V).trans (by simp))) rfl ?_
    have hB := below_set5 HB1.out (show w.heap.size ≤ w.heap.size + 1 + 1 by omega) (.int .i64 p.kind) (.int .i64 p.num) (.string p.text) (.slice A1' p.names.length c1') (.slice A2' p.kids.length c2')
    refine ⟨[.int .i64 p.kind, .int .i64 p.num, .string p.text, .slice A1' p.names.length c1', .slice A2' p.kids.length c2'], rfl, hB, ?_⟩
    rw [patch_eq, if_neg hpk]
    exact HP.out.frame (Agree.of_below hB) (fun b h h' => .inl ⟨h, h'⟩)
  have hmp := Tree.ok_map hp hpk
  have hcp := p.count_eq
  have hcv := v.count_eq
  have HMP := Lib.hid hmp
  have HCC := Lib.hid (show 1 + Tree.countL v.kids + 2 * (1 + Tree.countL p.kids) ≤ 1000000 by omega)
  have HIH := Lib.hid ih
  have HR3' := Lib.hid (fun W (hb : Below w.heap.size w W) => r3'.frame (Agree.of_below hb))
  have HR4' := Lib.hid (fun W (hb : Below w.heap.size w W) => r4'.frame (Agree.of_below hb))
  have HTS' := Lib.hid (fun W (hb : Below w.heap.size w W) => hts'.frame (G := fun b => F b ∧ b < w.heap.size) (Agree.of_below hb) (fun _ h h' => ⟨h, h'⟩))
  have HPK := Lib.hid hpk
  have HVO := Lib.hid hv
  rw [hpk] at HKQ q0 ⊢
  have q3 := cell_of_block HKQ.out 3
  simp at q3
  clear r3 r4 hts htp htv ih r3' r4' hts' hmp hcp hcv hpk hp hv hcount HP
  by_cases hvk : v.kind = 7
  case' pos =>
    have HINV0 := Lib.hid (show SAInv F v p w w1 0 [.int .i64 v.kind, .int .i64 v.num, .string v.text, .slice A1 v.names.length c1, .slice A2 v.kids.length c2] v.names v.kids (.cells #[.int .i64 7, .int .i64 p.num, .string p.text, .slice A1' p.names.length c1', .slice A2' p.kids.length c2'] 44 (0, 0)) (.cells #[.int .i64 0, .int .i64 0, .string ⟨#[]⟩, .slice none 0 0, .slice none 0 0] 44 (0, 0)) from by
      refine ⟨HKV.out, ?_, Tree.ok_map HVO.out hvk, by rw [patch_eq, if_pos HPK.out, if_pos hvk]; rfl, by simp, HB1.out, by omega, HKQ.out, HKR.out⟩
      have h := HV.out.frame (G := Nx F w.heap.size) (Agree.of_below HB1.out) (fun b h h' => .inl ⟨h, h'⟩)
      have et : v = .mk 7 0 emptyB v.names v.kids := by
        obtain ⟨hz1, hz2⟩ := map_zero HVO.out hvk
        obtain ⟨a, b, c, d, e⟩ := v
        simp at hvk hz1 hz2
        subst hvk hz1 hz2
        rfl
      rw [← et]
      exact h)
    rw [hvk] at z0 ⊢
    clear hvk HKV HV HVO
    go_wp2
    clear z0 q0 q3 HKR HKQ HB1
    generalize w1 = wz at HINV0 ⊢
  case' neg =>
    have f0 := free_of_block HKV.out 0
    have f1 := free_of_block HKV.out 1
    have f2 := free_of_block HKV.out 2
    have f3 := free_of_block HKV.out 3
    have f4 := free_of_block HKV.out 4
    have z1 := cell_of_block HKV.out 1
    have z2 := cell_of_block HKV.out 2
    have z3 := cell_of_block HKV.out 3
    have z4 := cell_of_block HKV.out 4
    simp at z1 z2 z3 z4
    have HINV0 := Lib.hid (show SAInv F v p w (((((w1.setCell ⟨w.heap.size, 0, none⟩ (.int .i64 7)).setCell ⟨w.heap.size, 1, none⟩ (.int .i64 0)).setCell ⟨w.heap.size, 2, none⟩ (.string ⟨#[]⟩)).setCell ⟨w.heap.size, 3, none⟩ (.slice none 0 0)).setCell ⟨w.heap.size, 4, none⟩ (.slice none 0 0)) 0 [.int .i64 7, .int .i64 0, .string ⟨#[]⟩, .slice none 0 0, .slice none 0 0] [] [] (.cells #[.int .i64 7, .int .i64 p.num, .string p.text, .slice A1' p.names.length c1', .slice A2' p.kids.length c2'] 44 (0, 0)) (.cells #[.int .i64 0, .int .i64 0, .string ⟨#[]⟩, .slice none 0 0, .slice none 0 0] 44 (0, 0)) from by
      have hB := below_set5 HB1.out (Nat.le_refl w.heap.size) (.int .i64 7) (.int .i64 0) (.string ⟨#[]⟩) (.slice none 0 0) (.slice none 0 0)
      have hAg := fun (G : Nat → Prop) (hG : ∀ c, G c → c ≠ w.heap.size) => (((((Agree.refl G w1).set hG 0 (.int .i64 7)).set hG 1 (.int .i64 0)).set hG 2 (.string ⟨#[]⟩)).set hG 3 (.slice none 0 0)).set hG 4 (.slice none 0 0)
      refine ⟨by rw [block_setCell (block_setCell (block_setCell (block_setCell (block_setCell HKV.out _ _) _ _) _ _) _ _) _ _]; rfl, LtAt.empty, MapOK.nil, by rw [patch_eq, if_pos HPK.out, if_neg hvk]; rfl, by simp only [Tree.countL, List.drop_zero]; omega, hB, by have h := (hAg (fun _ => False) (fun c h => h.elim)).size; omega, block_agree HKQ.out (hAg (fun c => c ≠ w.heap.size) (fun _ h => h)) (by omega), block_agree HKR.out (hAg (fun c => c ≠ w.heap.size) (fun _ h => h)) (by omega)⟩)
    have hvb : (v.kind == 7) = false := by simpa using hvk
    go_wp2
    clear z0 z1 z2 z3 z4 f0 f1 f2 f3 f4 q0 q3 HKR HKQ HB1 hvk hvb HKV HV HVO
    generalize World.setCell _ _ _ = wz at HINV0 ⊢
  all_goals
    go_loopw [20] (fun iv wx => ∃ (i : Nat) (vcs : List Value) (pn : List ByteArray) (pk : List Tree), iv = .int .i64 (i : Int) ∧ i ≤ p.names.length ∧ Hid (SAInv F v p w wx i vcs pn pk (.cells #[.int .i64 7, .int .i64 p.num, .string p.text, .slice A1' p.names.length c1', .slice A2' p.kids.length c2'] 44 (0, 0)) (.cells #[.int .i64 0, .int .i64 0, .string ⟨#[]⟩, .slice none 0 0, .slice none 0 0] 44 (0, 0)))) (fun iv _ => p.names.length - (intOf iv).toNat)
    case atStart => exact ⟨0, _, _, _, rfl, Nat.zero_le _, HINV0.out⟩
    case round =>
      clear HINV0
      obtain ⟨i, vcs, pn, pk, rfl, hi, hinv⟩ := hrel
      have HI := Lib.hid hinv
      have hbx := HI.out.bel
      have hpl : pn.length ≤ 1000000 ∧ pk.length ≤ 1000000 := by
        have h1 := HI.out.cnt
        have h2 := HCC.out
        have h3 := Tree.kids_le_count pk
        have h4 := HI.out.ok.len
        omega
      have hcond : p.names.length = p.kids.length := HMP.out.len
      obtain ⟨D1, e1, D2, e2, rp, rfl, _, _, _, hrp, htp⟩ := HI.out.lt.open
      have HRP := Lib.hid hrp
      have HTP := Lib.hid htp
      have p0 := cell_of_block HI.out.cell 0
      have p1 := cell_of_block HI.out.cell 1
      have p2 := cell_of_block HI.out.cell 2
      have p3 := cell_of_block HI.out.cell 3
      have p4 := cell_of_block HI.out.cell 4
      simp at p0 p1 p2 p3 p4
      clear hrp htp hinv
      by_cases hlt : i < p.names.length
      · obtain ⟨bn, on, s, rfl, hnl, n0, hs, hsm⟩ := name_at (HR3'.out _ hbx) i hlt
        obtain ⟨bk, ok, r, x, E1, f1, E2, f2, rfl, hFk, hkl, hx, hxm, hri, rfl, hxt, k0, k1, k2, k3, k4⟩ := lt_at (HR4'.out _ hbx) (HTS'.out _ hbx) i (by omega)
        have hltk : i < p.kids.length := by omega
        have hqn : p.names.length ≤ 1000000 := by have h1 := HCC.out; have h2 := Tree.kids_le_count p.kids; omega
        have HSS := Lib.hid hs
        have HSX := Lib.hid hx
        have HXT := Lib.hid hxt
        have HXM := Lib.hid hxm
        have HSOK := Lib.hid (show strOK s = true by have := HMP.out.str; rw [List.all_eq_true] at this; exact this s hsm)
        have HXOK := Lib.hid (show x.ok = true from (okL_iff p.kids).1 HMP.out.ok x hxm)
        have HCND := Lib.hid hcond
        have HA := Lib.hid (show Calls Tryz.prog 47 #[.agg #[.int .i64 7, .int .i64 0, .string emptyB, .slice D1 pn.length e1, .slice D2 pk.length e2], .string s] wr (fun e w' => e = .returned (.int .i64 (atP pn s)) ∧ Below wr.heap.size wr w') from sAt_any (.mk 7 0 emptyB pn pk) rfl HI.out.ok hpl.2 (Nx F w.heap.size) _ s wr HI.out.lt)
        have HK := Lib.hid (show Keep5 bk (ok + i * 5) x E1 E2 f1 f2 wr from ⟨k0, k1, k2, k3, k4⟩)
        clear hs hx hxt hxm hsm hbx hcond hri k0 k1 k2 k3 k4
        go_wp2_with fail
        refine HA.out.mono ?_
        rintro e w3 ⟨rfl, hb3⟩
        have HI3 := Lib.hid (HI.out.below hb3)
        have HXT3 := Lib.hid (HXT.out.below hb3)
        obtain ⟨k0, k1, k2, k3, k4⟩ := HK.out.below hb3
        have q4 := cell_of_block HI3.out.pb 4
        simp at q4
        clear p0 p1 p2 p3 p4
        clear HA n0
        have hb34 : Below w3.heap.size w3 (w3.alloc (.cells #[.int .i64 x.kind, .int .i64 x.num, .string x.text, .slice E1 x.names.length f1, .slice E2 x.kids.length f2] 44 (0, 0))) := (Below.refl _ _).alloc (Nat.le_refl _) _
        have HI4 := Lib.hid (HI3.out.below hb34)
        have HXT4 := Lib.hid (HXT3.out.below hb34)
        have hsz3 := HI3.out.size
        have HB34 := Lib.hid (below_then hb3 hb3.size hb34)
        have HX4 := Lib.hid (heap_alloc_new w3 (.cells #[.int .i64 x.kind, .int .i64 x.num, .string x.text, .slice E1 x.names.length f1, .slice E2 x.kids.length f2] 44 (0, 0)))
        clear hb34 hb3
        have hpos := insPos_le pn s
        have hbnd : x.count + x.count + 1 ≤ 1000000 := by
          have h1 := HI.out.cnt
          rw [countL_drop HSX.out] at h1
          have h2 := HCC.out
          omega
        by_cases hf : pn[insPos pn s]? = some s
        case neg =>
          rw [show atP pn s = -1 from by unfold atP; rw [if_neg hf]]
          have HF := Lib.hid hf
          clear hf
          by_cases hn : x.kind = 1
          · have HN := Lib.hid hn
            have hxb : (x.kind == 1) = true := by simpa using hn
            clear hn
            go_wp2
            generalize w3.alloc (.cells #[.int .i64 x.kind, .int .i64 x.num, .string x.text, .slice E1 x.names.length f1, .slice E2 x.kids.length f2] 44 (0, 0)) = w4 at HI4 HXT4 HX4 ⊢
            have HNEXT := Lib.hid (HI4.out.skip HSS.out HSX.out HF.out HN.out)
            go_simp
            exact ⟨⟨_, _, _, _, .int .i64 ((i : Int) + 1), ⟨i + 1, by go_num, by omega, _, _, _, HNEXT.out⟩, rfl, rfl, rfl, rfl, rfl⟩, by simp [intOf]; omega⟩
          · have HN := Lib.hid hn
            have hxb : (x.kind == 1) = false := by simpa using hn
            clear hn
            go_wp2
            generalize w3.alloc (.cells #[.int .i64 x.kind, .int .i64 x.num, .string x.text, .slice E1 x.names.length f1, .slice E2 x.kids.length f2] 44 (0, 0)) = w4 at HI4 HXT4 HX4 ⊢
            have HDR := Lib.hid (show Below w4.heap.size w4 w4.drew from (Below.refl _ _).drew)
            have hs4 := HI4.out.size
            have hX4 : Keep5 w3.heap.size 0 x E1 E2 f1 f2 w4 := by
              have h := fun j => cell_of_block HX4.out j
              exact ⟨h 0, h 1, h 2, h 3, h 4⟩
            have HKX := Lib.hid hX4
            have HAP := Lib.hid (fun (W : World) (hb : Below w4.heap.size w4 W) => HIH.out x HXM.out HXOK.out nullT (fun b => Nx F w.heap.size b ∧ b < w4.heap.size) _ _ W null_ok (by rw [null_count]; omega) LtAt.null (HXT4.out.frame (Agree.of_below hb) (fun b h h' => ⟨.inl h, h'⟩)))
            have HPU := Lib.hid (fun (W : World) (hb : Below w4.heap.size w4 W) (cs : List Value) (N : Nat) (hN : w4.heap.size ≤ N) (hz : LtAt (Nw (fun b => Nx F w.heap.size b ∧ b < w4.heap.size) N) W cs (Tree.patch nullT x)) => sPut_any (.mk 7 0 emptyB pn pk) s (Tree.patch nullT x) rfl HI4.out.ok HF.out hpl.2 (Nx F w.heap.size) _ cs W (HI4.out.lt.below hb) (hz.frame (Agree.refl _ _) (fun b h _ => by
              rcases h with h | h
              · exact h.1.1
              · exact .inr (by omega))))
            have HKEEP := Lib.hid (fun W (hb : Below w4.heap.size w4 W) => show W.cell? ⟨w3.heap.size, 0, none⟩ = some (.int .i64 x.kind) ∧ W.cell? ⟨w3.heap.size, 1, none⟩ = some (.int .i64 x.num) ∧ W.cell? ⟨w3.heap.size, 2, none⟩ = some (.string x.text) ∧ W.cell? ⟨w3.heap.size, 3, none⟩ = some (.slice E1 x.names.length f1) ∧ W.cell? ⟨w3.heap.size, 4, none⟩ = some (.slice E2 x.kids.length f2) from by
              have h := HKX.out.below hb
              unfold Keep5 at h
              simpa using h)
            have HKEEP2 := Lib.hid (fun W (v0 v1 v2 v3 v4 : Value) (hb : Below w4.heap.size w4 W) => show (((((W.setCell ⟨w.heap.size, 0, none⟩ v0).setCell ⟨w.heap.size, 1, none⟩ v1).setCell ⟨w.heap.size, 2, none⟩ v2).setCell ⟨w.heap.size, 3, none⟩ v3).setCell ⟨w.heap.size, 4, none⟩ v4).cell? ⟨w3.heap.size, 0, none⟩ = some (.int .i64 x.kind) ∧ (((((W.setCell ⟨w.heap.size, 0, none⟩ v0).setCell ⟨w.heap.size, 1, none⟩ v1).setCell ⟨w.heap.size, 2, none⟩ v2).setCell ⟨w.heap.size, 3, none⟩ v3).setCell ⟨w.heap.size, 4, none⟩ v4).cell? ⟨w3.heap.size, 1, none⟩ = some (.int .i64 x.num) ∧
              (((((W.setCell ⟨w.heap.size, 0, none⟩ v0).setCell ⟨w.heap.size, 1, none⟩ v1).setCell ⟨w.heap.size, 2, none⟩ v2).setCell ⟨w.heap.size, 3, none⟩ v3).setCell ⟨w.heap.size, 4, none⟩ v4).cell? ⟨w3.heap.size, 2, none⟩ = some (.string x.text) ∧ (((((W.setCell ⟨w.heap.size, 0, none⟩ v0).setCell ⟨w.heap.size, 1, none⟩ v1).setCell ⟨w.heap.size, 2, none⟩ v2).setCell ⟨w.heap.size, 3, none⟩ v3).setCell ⟨w.heap.size, 4, none⟩ v4).cell? ⟨w3.heap.size, 3, none⟩ = some (.slice E1 x.names.length f1) ∧
              (((((W.setCell ⟨w.heap.size, 0, none⟩ v0).setCell ⟨w.heap.size, 1, none⟩ v1).setCell ⟨w.heap.size, 2, none⟩ v2).setCell ⟨w.heap.size, 3, none⟩ v3).setCell ⟨w.heap.size, 4, none⟩ v4).cell? ⟨w3.heap.size, 4, none⟩ = some (.slice E2 x.kids.length f2) from by
              have hne : w3.heap.size ≠ w.heap.size := by omega
              have h := (((((HKX.out.below hb).set (j := 0) hne v0).set (j := 1) hne v1).set (j := 2) hne v2).set (j := 3) hne v3).set (j := 4) hne v4
              unfold Keep5 at h
              simpa using h)
            have p0 := cell_of_block HI4.out.cell 0
            have p1 := cell_of_block HI4.out.cell 1
            have p2 := cell_of_block HI4.out.cell 2
            have p3 := cell_of_block HI4.out.cell 3
            have p4 := cell_of_block HI4.out.cell 4
            simp at p0 p1 p2 p3 p4
            clear k0 k1 k2 k3 k4 q4 hX4
            refine wp_region_held_drew (S := fun W => W.cell? ⟨w3.heap.size, 0, none⟩ = some (.int .i64 x.kind) ∧ W.cell? ⟨w3.heap.size, 1, none⟩ = some (.int .i64 x.num) ∧ W.cell? ⟨w3.heap.size, 2, none⟩ = some (.string x.text) ∧ W.cell? ⟨w3.heap.size, 3, none⟩ = some (.slice E1 x.names.length f1) ∧ W.cell? ⟨w3.heap.size, 4, none⟩ = some (.slice E2 x.kids.length f2)) (by kernel_rfl) ?_ (fun hHeld => ?_)
            · exact HKEEP.out _ HDR.out
            (refine wpAnyH_take (i := 1) (v := ?_) rfl (by kernel_rfl) (by kernel_rfl) (by kernel_rfl) (fun _ _ _ h => h) (Or.inl ⟨by rfl, ?_⟩) hHeld ?_; rotate_left 1; (focus (intro w hSw; (try dsimp only at hSw); go_split_ands; go_simp; try (with_reducible rfl))); change wpAnyH _ _ _ _ _ _ _ (Act.put _ (some 34) _) _; simp only [Act.put, List.setIfInBounds_toArray, List.set_cons_zero, List.set_cons_succ])
            (refine wpAnyH_take (i := 3) (v := ?_) rfl (by kernel_rfl) (by kernel_rfl) (by kernel_rfl) (fun _ _ _ h => h) (Or.inl ⟨by rfl, ?_⟩) hHeld ?_; rotate_left 1; (focus (intro w hSw; (try dsimp only at hSw); go_split_ands; go_simp; try (with_reducible rfl))); change wpAnyH _ _ _ _ _ _ _ (Act.put _ (some 36) _) _; simp only [Act.put, List.setIfInBounds_toArray, List.set_cons_zero, List.set_cons_succ])
            refine wpAnyH_ready (rs := [0, 2]) (by kernel_rfl) (by simp) ?_; refine AllReadyH.cons rfl (fun K hK => ?_) (AllReadyH.cons rfl (fun K hK => ?_) AllReadyH.nil)
            · go_simp
              refine hK.out _ _ hHeld (fun hHeld => ?_)
              clear hK K
              refine wpAnyH_ready (rs := [2]) (by kernel_rfl) (by simp) ?_; refine AllReadyH.cons rfl (fun K hK => ?_) AllReadyH.nil
              go_simp
              refine (sNull_any _).mono ?_
              rintro e w5 ⟨rfl, hb5⟩
              have hq5 : Below w4.heap.size w4 w5 := below_then HDR.out (Nat.le_refl _) hb5
              clear p0 p1 p2 p3 p4
              have p0 := cell_of_block (block_below HI4.out.cell hq5) 0
              have p1 := cell_of_block (block_below HI4.out.cell hq5) 1
              have p2 := cell_of_block (block_below HI4.out.cell hq5) 2
              have p3 := cell_of_block (block_below HI4.out.cell hq5) 3
              have p4 := cell_of_block (block_below HI4.out.cell hq5) 4
              simp at p0 p1 p2 p3 p4
              go_simp
              refine hK.out _ _ (HKEEP.out _ hq5) (fun hHeld => ?_)
              clear hK K
              refine wpAnyH_ready (rs := [4]) (by kernel_rfl) (by simp) ?_; refine AllReadyH.cons rfl (fun K hK => ?_) AllReadyH.nil
              go_simp
              refine (HAP.out w5 hq5).mono ?_
              rintro e w6 ⟨cs6, rfl, hb6, hzt⟩
              have hq6 : Below w4.heap.size w4 w6 := below_then hq5 hq5.size hb6
              obtain ⟨G1, h1, G2, h2, rs5, e5', _⟩ := hzt.open
              obtain rfl : cs6 = [.int .i64 (Tree.patch nullT x).kind, .int .i64 (Tree.patch nullT x).num, .string (Tree.patch nullT x).text, .slice G1 (Tree.patch nullT x).names.length h1, .slice G2 (Tree.patch nullT x).kids.length h2] := e5'
              have HZT := Lib.hid hzt
              clear hzt
              clear p0 p1 p2 p3 p4
              have p0 := cell_of_block (block_below HI4.out.cell hq6) 0
              have p1 := cell_of_block (block_below HI4.out.cell hq6) 1
              have p2 := cell_of_block (block_below HI4.out.cell hq6) 2
              have p3 := cell_of_block (block_below HI4.out.cell hq6) 3
              have p4 := cell_of_block (block_below HI4.out.cell hq6) 4
              simp at p0 p1 p2 p3 p4
              go_simp
              refine hK.out _ _ (HKEEP.out _ hq6) (fun hHeld => ?_)
              clear hK K
              refine wpAnyH_ready (rs := [5]) (by kernel_rfl) (by simp) ?_; refine AllReadyH.cons rfl (fun K hK => ?_) AllReadyH.nil
              go_simp
              refine (HPU.out w6 hq6 _ w5.heap.size hq5.size HZT.out).mono ?_
              rintro e w7 ⟨cs7, rfl, hb7, hlt7⟩
              have hq7 : Below w4.heap.size w4 w7 := below_then hq6 hq6.size hb7
              obtain ⟨D5, i5, D6, i6, rs6, e6', _⟩ := hlt7.open
              obtain rfl : cs7 = [.int .i64 7, .int .i64 0, .string emptyB, .slice D5 (ins (insPos pn s) s pn).length i5, .slice D6 (ins (insPos pn s) (Tree.patch nullT x) pk).length i6] := e6'
              have HNEXT := Lib.hid (HI4.out.put HSS.out HSX.out HF.out HN.out HSOK.out HXOK.out hq7 (wy := w6) (Nat.le_trans HI4.out.size hq6.size) hlt7)
              clear p0 p1 p2 p3 p4
              have p0 := cell_of_block (block_below HI4.out.cell hq7) 0
              have p1 := cell_of_block (block_below HI4.out.cell hq7) 1
              have p2 := cell_of_block (block_below HI4.out.cell hq7) 2
              have p3 := cell_of_block (block_below HI4.out.cell hq7) 3
              have p4 := cell_of_block (block_below HI4.out.cell hq7) 4
              simp at p0 p1 p2 p3 p4
              have f0 := free_of_block (block_below HI4.out.cell hq7) 0
              have f1 := free_of_block (block_below HI4.out.cell hq7) 1
              have f2 := free_of_block (block_below HI4.out.cell hq7) 2
              have f3 := free_of_block (block_below HI4.out.cell hq7) 3
              have f4 := free_of_block (block_below HI4.out.cell hq7) 4
              have HQ7 := Lib.hid hq7
              clear hb5 hq5 hb6 hq6 hb7 hq7 hlt7 HZT
              go_simp
              refine hK.out _ _ (HKEEP.out _ HQ7.out) (fun hHeld => ?_)
              clear hK K
              refine wpAnyH_ready (rs := [6]) (by kernel_rfl) (by simp) ?_; refine AllReadyH.cons rfl (fun K hK => ?_) AllReadyH.nil
              go_simp
              refine hK.out _ _ (HKEEP2.out w7 _ _ _ _ _ HQ7.out) (fun _ => ?_)
              clear hK K
              refine wpAnyH_done (by kernel_rfl) ?_ _
              go_wp2
              go_simp
              exact ⟨⟨_, _, _, _, .int .i64 ((i : Int) + 1), ⟨i + 1, by go_num, by omega, _, _, _, HNEXT.out⟩, rfl, rfl, rfl, rfl, rfl⟩, by simp [intOf]; omega⟩
            · go_simp
              refine (sNull_any _).mono ?_
              rintro e w5 ⟨rfl, hb5⟩
              have hq5 : Below w4.heap.size w4 w5 := below_then HDR.out (Nat.le_refl _) hb5
              clear p0 p1 p2 p3 p4
              have p0 := cell_of_block (block_below HI4.out.cell hq5) 0
              have p1 := cell_of_block (block_below HI4.out.cell hq5) 1
              have p2 := cell_of_block (block_below HI4.out.cell hq5) 2
              have p3 := cell_of_block (block_below HI4.out.cell hq5) 3
              have p4 := cell_of_block (block_below HI4.out.cell hq5) 4
              simp at p0 p1 p2 p3 p4
              go_simp
              refine hK.out _ _ (HKEEP.out _ hq5) (fun hHeld => ?_)
              clear hK K
              refine wpAnyH_ready (rs := [0, 4]) (by kernel_rfl) (by simp) ?_; refine AllReadyH.cons rfl (fun K hK => ?_) (AllReadyH.cons rfl (fun K hK => ?_) AllReadyH.nil)
              · go_simp
                refine hK.out _ _ hHeld (fun hHeld => ?_)
                clear hK K
                refine wpAnyH_ready (rs := [4]) (by kernel_rfl) (by simp) ?_; refine AllReadyH.cons rfl (fun K hK => ?_) AllReadyH.nil
                go_simp
                refine (HAP.out w5 hq5).mono ?_
                rintro e w6 ⟨cs6, rfl, hb6, hzt⟩
                have hq6 : Below w4.heap.size w4 w6 := below_then hq5 hq5.size hb6
                obtain ⟨G1, h1, G2, h2, rs5, e5', _⟩ := hzt.open
                obtain rfl : cs6 = [.int .i64 (Tree.patch nullT x).kind, .int .i64 (Tree.patch nullT x).num, .string (Tree.patch nullT x).text, .slice G1 (Tree.patch nullT x).names.length h1, .slice G2 (Tree.patch nullT x).kids.length h2] := e5'
                have HZT := Lib.hid hzt
                clear hzt
                clear p0 p1 p2 p3 p4
                have p0 := cell_of_block (block_below HI4.out.cell hq6) 0
                have p1 := cell_of_block (block_below HI4.out.cell hq6) 1
                have p2 := cell_of_block (block_below HI4.out.cell hq6) 2
                have p3 := cell_of_block (block_below HI4.out.cell hq6) 3
                have p4 := cell_of_block (block_below HI4.out.cell hq6) 4
                simp at p0 p1 p2 p3 p4
                go_simp
                refine hK.out _ _ (HKEEP.out _ hq6) (fun hHeld => ?_)
                clear hK K
                refine wpAnyH_ready (rs := [5]) (by kernel_rfl) (by simp) ?_; refine AllReadyH.cons rfl (fun K hK => ?_) AllReadyH.nil
                go_simp
                refine (HPU.out w6 hq6 _ w5.heap.size hq5.size HZT.out).mono ?_
                rintro e w7 ⟨cs7, rfl, hb7, hlt7⟩
                have hq7 : Below w4.heap.size w4 w7 := below_then hq6 hq6.size hb7
                obtain ⟨D5, i5, D6, i6, rs6, e6', _⟩ := hlt7.open
                obtain rfl : cs7 = [.int .i64 7, .int .i64 0, .string emptyB, .slice D5 (ins (insPos pn s) s pn).length i5, .slice D6 (ins (insPos pn s) (Tree.patch nullT x) pk).length i6] := e6'
                have HNEXT := Lib.hid (HI4.out.put HSS.out HSX.out HF.out HN.out HSOK.out HXOK.out hq7 (wy := w6) (Nat.le_trans HI4.out.size hq6.size) hlt7)
                clear p0 p1 p2 p3 p4
                have p0 := cell_of_block (block_below HI4.out.cell hq7) 0
                have p1 := cell_of_block (block_below HI4.out.cell hq7) 1
                have p2 := cell_of_block (block_below HI4.out.cell hq7) 2
                have p3 := cell_of_block (block_below HI4.out.cell hq7) 3
                have p4 := cell_of_block (block_below HI4.out.cell hq7) 4
                simp at p0 p1 p2 p3 p4
                have f0 := free_of_block (block_below HI4.out.cell hq7) 0
                have f1 := free_of_block (block_below HI4.out.cell hq7) 1
                have f2 := free_of_block (block_below HI4.out.cell hq7) 2
                have f3 := free_of_block (block_below HI4.out.cell hq7) 3
                have f4 := free_of_block (block_below HI4.out.cell hq7) 4
                have HQ7 := Lib.hid hq7
                clear hb5 hq5 hb6 hq6 hb7 hq7 hlt7 HZT
                go_simp
                refine hK.out _ _ (HKEEP.out _ HQ7.out) (fun hHeld => ?_)
                clear hK K
                refine wpAnyH_ready (rs := [6]) (by kernel_rfl) (by simp) ?_; refine AllReadyH.cons rfl (fun K hK => ?_) AllReadyH.nil
                go_simp
                refine hK.out _ _ (HKEEP2.out w7 _ _ _ _ _ HQ7.out) (fun _ => ?_)
                clear hK K
                refine wpAnyH_done (by kernel_rfl) ?_ _
                go_wp2
                go_simp
                exact ⟨⟨_, _, _, _, .int .i64 ((i : Int) + 1), ⟨i + 1, by go_num, by omega, _, _, _, HNEXT.out⟩, rfl, rfl, rfl, rfl, rfl⟩, by simp [intOf]; omega⟩
              · go_simp
                refine (HAP.out w5 hq5).mono ?_
                rintro e w6 ⟨cs6, rfl, hb6, hzt⟩
                have hq6 : Below w4.heap.size w4 w6 := below_then hq5 hq5.size hb6
                obtain ⟨G1, h1, G2, h2, rs5, e5', _⟩ := hzt.open
                obtain rfl : cs6 = [.int .i64 (Tree.patch nullT x).kind, .int .i64 (Tree.patch nullT x).num, .string (Tree.patch nullT x).text, .slice G1 (Tree.patch nullT x).names.length h1, .slice G2 (Tree.patch nullT x).kids.length h2] := e5'
                have HZT := Lib.hid hzt
                clear hzt
                clear p0 p1 p2 p3 p4
                have p0 := cell_of_block (block_below HI4.out.cell hq6) 0
                have p1 := cell_of_block (block_below HI4.out.cell hq6) 1
                have p2 := cell_of_block (block_below HI4.out.cell hq6) 2
                have p3 := cell_of_block (block_below HI4.out.cell hq6) 3
                have p4 := cell_of_block (block_below HI4.out.cell hq6) 4
                simp at p0 p1 p2 p3 p4
                go_simp
                refine hK.out _ _ (HKEEP.out _ hq6) (fun hHeld => ?_)
                clear hK K
                refine wpAnyH_ready (rs := [0]) (by kernel_rfl) (by simp) ?_; refine AllReadyH.cons rfl (fun K hK => ?_) AllReadyH.nil
                go_simp
                refine hK.out _ _ hHeld (fun hHeld => ?_)
                clear hK K
                refine wpAnyH_ready (rs := [5]) (by kernel_rfl) (by simp) ?_; refine AllReadyH.cons rfl (fun K hK => ?_) AllReadyH.nil
                go_simp
                refine (HPU.out w6 hq6 _ w5.heap.size hq5.size HZT.out).mono ?_
                rintro e w7 ⟨cs7, rfl, hb7, hlt7⟩
                have hq7 : Below w4.heap.size w4 w7 := below_then hq6 hq6.size hb7
                obtain ⟨D5, i5, D6, i6, rs6, e6', _⟩ := hlt7.open
                obtain rfl : cs7 = [.int .i64 7, .int .i64 0, .string emptyB, .slice D5 (ins (insPos pn s) s pn).length i5, .slice D6 (ins (insPos pn s) (Tree.patch nullT x) pk).length i6] := e6'
                have HNEXT := Lib.hid (HI4.out.put HSS.out HSX.out HF.out HN.out HSOK.out HXOK.out hq7 (wy := w6) (Nat.le_trans HI4.out.size hq6.size) hlt7)
                clear p0 p1 p2 p3 p4
                have p0 := cell_of_block (block_below HI4.out.cell hq7) 0
                have p1 := cell_of_block (block_below HI4.out.cell hq7) 1
                have p2 := cell_of_block (block_below HI4.out.cell hq7) 2
                have p3 := cell_of_block (block_below HI4.out.cell hq7) 3
                have p4 := cell_of_block (block_below HI4.out.cell hq7) 4
                simp at p0 p1 p2 p3 p4
                have f0 := free_of_block (block_below HI4.out.cell hq7) 0
                have f1 := free_of_block (block_below HI4.out.cell hq7) 1
                have f2 := free_of_block (block_below HI4.out.cell hq7) 2
                have f3 := free_of_block (block_below HI4.out.cell hq7) 3
                have f4 := free_of_block (block_below HI4.out.cell hq7) 4
                have HQ7 := Lib.hid hq7
                clear hb5 hq5 hb6 hq6 hb7 hq7 hlt7 HZT
                go_simp
                refine hK.out _ _ (HKEEP.out _ HQ7.out) (fun hHeld => ?_)
                clear hK K
                refine wpAnyH_ready (rs := [6]) (by kernel_rfl) (by simp) ?_; refine AllReadyH.cons rfl (fun K hK => ?_) AllReadyH.nil
                go_simp
                refine hK.out _ _ (HKEEP2.out w7 _ _ _ _ _ HQ7.out) (fun _ => ?_)
                clear hK K
                refine wpAnyH_done (by kernel_rfl) ?_ _
                go_wp2
                go_simp
                exact ⟨⟨_, _, _, _, .int .i64 ((i : Int) + 1), ⟨i + 1, by go_num, by omega, _, _, _, HNEXT.out⟩, rfl, rfl, rfl, rfl, rfl⟩, by simp [intOf]; omega⟩
        case pos =>
          have HF := Lib.hid hf
          rw [show atP pn s = (insPos pn s : Int) from by unfold atP; rw [if_pos hf]]
          have hplt : insPos pn s < pk.length := by
            have := (List.getElem?_eq_some_iff.1 hf).1
            have := HI.out.ok.len
            omega
          clear hf
          by_cases hn : x.kind = 1
          · have HN := Lib.hid hn
            have hxb : (x.kind == 1) = true := by simpa using hn
            clear hn
            have p0 := cell_of_block HI4.out.cell 0
            have p1 := cell_of_block HI4.out.cell 1
            have p2 := cell_of_block HI4.out.cell 2
            have p3 := cell_of_block HI4.out.cell 3
            have p4 := cell_of_block HI4.out.cell 4
            simp at p0 p1 p2 p3 p4
            have HIC := Lib.hid (fun (w4 : World) (cs : List Value) (h : LtAt (Nx F w.heap.size) w4 cs (.mk 7 0 emptyB pn pk)) => sCut_any (.mk 7 0 emptyB pn pk) (insPos pn s) hplt rfl HI4.out.ok.len hpl.2 (Nx F w.heap.size) cs w4 h)
            go_wp2_with fail
            generalize w3.alloc (.cells #[.int .i64 x.kind, .int .i64 x.num, .string x.text, .slice E1 x.names.length f1, .slice E2 x.kids.length f2] 44 (0, 0)) = w4 at HI4 HXT4 HX4 HB34 p0 p1 p2 p3 p4 ⊢
            clear k0 k1 k2 k3 k4 q4
            refine (HIC.out w4 _ HI4.out.lt).mono ?_
            rintro e w5 ⟨cs5, rfl, hb5, hlt5⟩
            obtain ⟨D5, i5, D6, i6, rs6, e6', _⟩ := hlt5.open
            obtain rfl : cs5 = [.int .i64 7, .int .i64 0, .string emptyB, .slice D5 (del (insPos pn s) pn).length i5, .slice D6 (del (insPos pn s) pk).length i6] := e6'
            have HNEXT := Lib.hid (HI4.out.del HSS.out HSX.out HF.out HN.out hb5 (wy := w4) HI4.out.size hlt5)
            clear p0 p1 p2 p3 p4
            have p0 := cell_of_block (block_below HI4.out.cell hb5) 0
            have f0 := free_of_block (block_below HI4.out.cell hb5) 0
            have p1 := cell_of_block (block_below HI4.out.cell hb5) 1
            have f1 := free_of_block (block_below HI4.out.cell hb5) 1
            have p2 := cell_of_block (block_below HI4.out.cell hb5) 2
            have f2 := free_of_block (block_below HI4.out.cell hb5) 2
            have p3 := cell_of_block (block_below HI4.out.cell hb5) 3
            have f3 := free_of_block (block_below HI4.out.cell hb5) 3
            have p4 := cell_of_block (block_below HI4.out.cell hb5) 4
            have f4 := free_of_block (block_below HI4.out.cell hb5) 4
            simp at p0 p1 p2 p3 p4
            clear hb5 hlt5 HIC
            go_wp2
            go_simp
            exact ⟨⟨_, _, _, _, .int .i64 ((i : Int) + 1), ⟨i + 1, by go_num, by omega, _, _, _, HNEXT.out⟩, rfl, rfl, rfl, rfl, rfl⟩, by simp [intOf]; omega⟩
          · have HN := Lib.hid hn
            have hxb : (x.kind == 1) = false := by simpa using hn
            clear hn
            have hfind : decide ((0 : Int) ≤ (insPos pn s : Int)) = true := by simp
            go_wp2
            generalize w3.alloc (.cells #[.int .i64 x.kind, .int .i64 x.num, .string x.text, .slice E1 x.names.length f1, .slice E2 x.kids.length f2] 44 (0, 0)) = w4 at HI4 HXT4 HX4 HB34 ⊢
            have HDR := Lib.hid (show Below w4.heap.size w4 w4.drew from (Below.refl _ _).drew)
            have hs4 := HI4.out.size
            obtain ⟨kp, hkp⟩ : ∃ kp, kp = insPos pn s := ⟨_, rfl⟩
            rw [← hkp] at hplt ⊢
            have HKP := Lib.hid hkp
            obtain ⟨bx, oy, ry, y, U1, u1, U2, u2, rfl, hFy, hyl, hy, hym, hryi, rfl, hyt, y0, y1, y2, y3, y4⟩ := lt_at (HRP.out.frame (Agree.of_below HB34.out)) (HTP.out.below HB34.out) kp hplt
            have hyo : y.ok = true := (okL_iff pk).1 HI.out.ok.ok y hym
            have hcy := Tree.countL_mem pk y hym
            have hbnd2 : y.count + 2 * x.count ≤ 1000000 := by
              have h1 := HI.out.cnt
              rw [countL_drop HSX.out] at h1
              have h2 := HCC.out
              omega
            have HY := Lib.hid (show pk[insPos pn s]? = some y by rw [← hkp]; exact hy)
            have hX4 : Keep5 w3.heap.size 0 x E1 E2 f1 f2 w4 := by
              have h := fun j => cell_of_block HX4.out j
              exact ⟨h 0, h 1, h 2, h 3, h 4⟩
            have HKX := Lib.hid hX4
            have HKY := Lib.hid (show Keep5 bx (oy + kp * 5) y U1 U2 u1 u2 w4 from ⟨y0, y1, y2, y3, y4⟩)
            have hbxn : bx ≠ w.heap.size := fun e => by rcases hFy with ⟨_, h⟩ | h <;> omega
            have hpn1 : (0 : Int) ≤ (kp : Int) := by omega
            have HAP := Lib.hid (fun (W : World) (hb : Below w4.heap.size w4 W) => HIH.out x HXM.out HXOK.out y (fun b => Nx F w.heap.size b ∧ b < w4.heap.size) _ _ W hyo hbnd2 (hyt.frame (Agree.of_below hb) (fun b h h' => ⟨h, h'⟩)) (HXT4.out.frame (Agree.of_below hb) (fun b h h' => ⟨.inl h, h'⟩)))
            have HWI := Lib.hid (fun (W : World) (hb : Below w4.heap.size w4 W) (cs : List Value) (hz : LtAt (Nw (fun b => Nx F w.heap.size b ∧ b < w4.heap.size) w4.drew.heap.size) W cs (Tree.patch y x)) => sWith_any (.mk 7 0 emptyB pn pk) kp (Tree.patch y x) hplt hpl.2 (Nx F w.heap.size) _ cs W (HI4.out.lt.below hb) (hz.frame (Agree.refl _ _) (fun b h _ => by
              rcases h with h | h
              · exact h.1.1
              · exact .inr (by have h' : w4.heap.size ≤ b := h; omega))))
            have HKEEP := Lib.hid (fun W (hb : Below w4.heap.size w4 W) => show W.cell? ⟨w3.heap.size, 0, none⟩ = some (.int .i64 x.kind) ∧ W.cell? ⟨w3.heap.size, 1, none⟩ = some (.int .i64 x.num) ∧ W.cell? ⟨w3.heap.size, 2, none⟩ = some (.string x.text) ∧ W.cell? ⟨w3.heap.size, 3, none⟩ = some (.slice E1 x.names.length f1) ∧ W.cell? ⟨w3.heap.size, 4, none⟩ = some (.slice E2 x.kids.length f2) ∧ W.cell? ⟨bx, oy + kp * 5, none⟩ = some (.int .i64 y.kind) ∧ W.cell? ⟨bx, oy + kp * 5 + 1, none⟩ = some (.int .i64 y.num) ∧ W.cell? ⟨bx, oy + kp * 5 + 2, none⟩ = some (.string y.text) ∧ W.cell? ⟨bx, oy + kp * 5 + 3, none⟩ = some (.slice U1 y.names.length u1) ∧ W.cell? ⟨bx, oy + kp * 5 + 4, none⟩ = some (.slice U2 y.kids.length u2) from by
              have h := HKX.out.below hb
              have h' := HKY.out.below hb
              unfold Keep5 at h h'
              simp only [Nat.zero_add] at h
              exact ⟨h.1, h.2.1, h.2.2.1, h.2.2.2.1, h.2.2.2.2, h'⟩)
            have HKEEP2 := Lib.hid (fun W (v0 v1 v2 v3 v4 : Value) (hb : Below w4.heap.size w4 W) => show (((((W.setCell ⟨w.heap.size, 0, none⟩ v0).setCell ⟨w.heap.size, 1, none⟩ v1).setCell ⟨w.heap.size, 2, none⟩ v2).setCell ⟨w.heap.size, 3, none⟩ v3).setCell ⟨w.heap.size, 4, none⟩ v4).cell? ⟨w3.heap.size, 0, none⟩ = some (.int .i64 x.kind) ∧ (((((W.setCell ⟨w.heap.size, 0, none⟩ v0).setCell ⟨w.heap.size, 1, none⟩ v1).setCell ⟨w.heap.size, 2, none⟩ v2).setCell ⟨w.heap.size, 3, none⟩ v3).setCell ⟨w.heap.size, 4, none⟩ v4).cell? ⟨w3.heap.size, 1, none⟩ = some (.int .i64 x.num) ∧ (((((W.setCell ⟨w.heap.size, 0, none⟩ v0).setCell ⟨w.heap.size, 1, none⟩ v1).setCell ⟨w.heap.size, 2, none⟩ v2).setCell ⟨w.heap.size, 3, none⟩ v3).setCell ⟨w.heap.size, 4, none⟩ v4).cell? ⟨w3.heap.size, 2, none⟩ = some (.string x.text) ∧ (((((W.setCell ⟨w.heap.size, 0, none⟩ v0).setCell ⟨w.heap.size, 1, none⟩ v1).setCell ⟨w.heap.size, 2, none⟩ v2).setCell ⟨w.heap.size, 3, none⟩ v3).setCell ⟨w.heap.size, 4, none⟩ v4).cell? ⟨w3.heap.size, 3, none⟩ = some (.slice E1 x.names.length f1) ∧ (((((W.setCell ⟨w.heap.size, 0, none⟩ v0).setCell ⟨w.heap.size, 1, none⟩ v1).setCell ⟨w.heap.size, 2, none⟩ v2).setCell ⟨w.heap.size, 3, none⟩ v3).setCell ⟨w.heap.size, 4, none⟩ v4).cell? ⟨w3.heap.size, 4, none⟩ = some (.slice E2 x.kids.length f2) ∧ (((((W.setCell ⟨w.heap.size, 0, none⟩ v0).setCell ⟨w.heap.size, 1, none⟩ v1).setCell ⟨w.heap.size, 2, none⟩ v2).setCell ⟨w.heap.size, 3, none⟩ v3).setCell ⟨w.heap.size, 4, none⟩ v4).cell? ⟨bx, oy + kp * 5, none⟩ = some (.int .i64 y.kind) ∧ (((((W.setCell ⟨w.heap.size, 0, none⟩ v0).setCell ⟨w.heap.size, 1, none⟩ v1).setCell ⟨w.heap.size, 2, none⟩ v2).setCell ⟨w.heap.size, 3, none⟩ v3).setCell ⟨w.heap.size, 4, none⟩ v4).cell? ⟨bx, oy + kp * 5 + 1, none⟩ = some (.int .i64 y.num) ∧ (((((W.setCell ⟨w.heap.size, 0, none⟩ v0).setCell ⟨w.heap.size, 1, none⟩ v1).setCell ⟨w.heap.size, 2, none⟩ v2).setCell ⟨w.heap.size, 3, none⟩ v3).setCell ⟨w.heap.size, 4, none⟩ v4).cell? ⟨bx, oy + kp * 5 + 2, none⟩ = some (.string y.text) ∧ (((((W.setCell ⟨w.heap.size, 0, none⟩ v0).setCell ⟨w.heap.size, 1, none⟩ v1).setCell ⟨w.heap.size, 2, none⟩ v2).setCell ⟨w.heap.size, 3, none⟩ v3).setCell ⟨w.heap.size, 4, none⟩ v4).cell? ⟨bx, oy + kp * 5 + 3, none⟩ = some (.slice U1 y.names.length u1) ∧ (((((W.setCell ⟨w.heap.size, 0, none⟩ v0).setCell ⟨w.heap.size, 1, none⟩ v1).setCell ⟨w.heap.size, 2, none⟩ v2).setCell ⟨w.heap.size, 3, none⟩ v3).setCell ⟨w.heap.size, 4, none⟩ v4).cell? ⟨bx, oy + kp * 5 + 4, none⟩ = some (.slice U2 y.kids.length u2) from by
              have hne : w3.heap.size ≠ w.heap.size := by omega
              have h := (((((HKX.out.below hb).set (j := 0) hne v0).set (j := 1) hne v1).set (j := 2) hne v2).set (j := 3) hne v3).set (j := 4) hne v4
              have h' := (((((HKY.out.below hb).set (j := 0) hbxn v0).set (j := 1) hbxn v1).set (j := 2) hbxn v2).set (j := 3) hbxn v3).set (j := 4) hbxn v4
              unfold Keep5 at h h'
              simp only [Nat.zero_add] at h
              exact ⟨h.1, h.2.1, h.2.2.1, h.2.2.2.1, h.2.2.2.2, h'⟩)
            have p0 := cell_of_block HI4.out.cell 0
            have p1 := cell_of_block HI4.out.cell 1
            have p2 := cell_of_block HI4.out.cell 2
            have p3 := cell_of_block HI4.out.cell 3
            have p4 := cell_of_block HI4.out.cell 4
            simp at p0 p1 p2 p3 p4
            clear k0 k1 k2 k3 k4 q4 hX4 y0 y1 y2 y3 y4 hy hym hryi hyt hyo hcy hkp
            refine wp_region_held_drew (S := fun W => W.cell? ⟨w3.heap.size, 0, none⟩ = some (.int .i64 x.kind) ∧ W.cell? ⟨w3.heap.size, 1, none⟩ = some (.int .i64 x.num) ∧ W.cell? ⟨w3.heap.size, 2, none⟩ = some (.string x.text) ∧ W.cell? ⟨w3.heap.size, 3, none⟩ = some (.slice E1 x.names.length f1) ∧ W.cell? ⟨w3.heap.size, 4, none⟩ = some (.slice E2 x.kids.length f2) ∧ W.cell? ⟨bx, oy + kp * 5, none⟩ = some (.int .i64 y.kind) ∧ W.cell? ⟨bx, oy + kp * 5 + 1, none⟩ = some (.int .i64 y.num) ∧ W.cell? ⟨bx, oy + kp * 5 + 2, none⟩ = some (.string y.text) ∧ W.cell? ⟨bx, oy + kp * 5 + 3, none⟩ = some (.slice U1 y.names.length u1) ∧ W.cell? ⟨bx, oy + kp * 5 + 4, none⟩ = some (.slice U2 y.kids.length u2)) (by kernel_rfl) ?_ (fun hHeld => ?_)
            · exact HKEEP.out _ HDR.out
            (refine wpAnyH_take (i := 1) (v := ?_) rfl (by kernel_rfl) (by kernel_rfl) (by kernel_rfl) (fun _ _ _ h => h) (Or.inl ⟨by rfl, ?_⟩) hHeld ?_; rotate_left 1; (focus (intro w hSw; (try dsimp only at hSw); go_split_ands; go_simp; try (with_reducible rfl))); change wpAnyH _ _ _ _ _ _ _ (Act.put _ (some 58) _) _; simp only [Act.put, List.setIfInBounds_toArray, List.set_cons_zero, List.set_cons_succ])
            (refine wpAnyH_take (i := 2) (v := ?_) rfl (by kernel_rfl) (by kernel_rfl) (by kernel_rfl) (fun _ _ _ h => h) (Or.inl ⟨by rfl, ?_⟩) hHeld ?_; rotate_left 1; (focus (intro w hSw; (try dsimp only at hSw); go_split_ands; go_simp; try (with_reducible rfl))); change wpAnyH _ _ _ _ _ _ _ (Act.put _ (some 59) _) _; simp only [Act.put, List.setIfInBounds_toArray, List.set_cons_zero, List.set_cons_succ])
            (refine wpAnyH_take (i := 4) (v := ?_) rfl (by kernel_rfl) (by kernel_rfl) (by kernel_rfl) (fun _ _ _ h => h) (Or.inl ⟨by rfl, ?_⟩) hHeld ?_; rotate_left 1; (focus (intro w hSw; (try dsimp only at hSw); go_split_ands; go_simp; try (with_reducible rfl))); change wpAnyH _ _ _ _ _ _ _ (Act.put _ (some 61) _) _; simp only [Act.put, List.setIfInBounds_toArray, List.set_cons_zero, List.set_cons_succ])
            (refine wpAnyH_take (i := 7) (v := ?_) rfl (by kernel_rfl) (by kernel_rfl) (by kernel_rfl) (fun _ _ _ h => h) (Or.inl ⟨by rfl, ?_⟩) hHeld ?_; rotate_left 1; (focus (intro w hSw; (try dsimp only at hSw); go_split_ands; go_simp; try (with_reducible rfl))); change wpAnyH _ _ _ _ _ _ _ (Act.put _ (some 64) _) _; simp only [Act.put, List.setIfInBounds_toArray, List.set_cons_zero, List.set_cons_succ])
            refine wpAnyH_ready (rs := [0, 3]) (by kernel_rfl) (by simp) ?_; refine AllReadyH.cons rfl (fun K hK => ?_) (AllReadyH.cons rfl (fun K hK => ?_) AllReadyH.nil)
            · go_simp
              refine hK.out _ _ hHeld (fun hHeld => ?_)
              clear hK K
              refine wpAnyH_ready (rs := [3]) (by kernel_rfl) (by simp) ?_; refine AllReadyH.cons rfl (fun K hK => ?_) AllReadyH.nil
              go_simp
              refine hK.out _ _ hHeld (fun hHeld => ?_)
              clear hK K
              (refine wpAnyH_take (i := 5) (v := ?_) rfl (by kernel_rfl) (by kernel_rfl) (by kernel_rfl) (fun _ _ _ h => h) (Or.inl ⟨by rfl, ?_⟩) hHeld ?_; rotate_left 1; (focus (intro w hSw; (try dsimp only at hSw); go_split_ands; go_simp; try (with_reducible rfl))); change wpAnyH _ _ _ _ _ _ _ (Act.put _ (some 62) _) _; simp only [Act.put, List.setIfInBounds_toArray, List.set_cons_zero, List.set_cons_succ])
              (refine wpAnyH_take (i := 6) (v := ?_) rfl (by kernel_rfl) (by kernel_rfl) (by kernel_rfl) (fun _ _ _ h => h) (Or.inl ⟨by rfl, ?_⟩) hHeld ?_; rotate_left 1; (focus (intro w hSw; (try dsimp only at hSw); go_split_ands; go_simp; try (with_reducible rfl))); change wpAnyH _ _ _ _ _ _ _ (Act.put _ (some 63) _) _; simp only [Act.put, List.setIfInBounds_toArray, List.set_cons_zero, List.set_cons_succ])
              refine wpAnyH_ready (rs := [8]) (by kernel_rfl) (by simp) ?_; refine AllReadyH.cons rfl (fun K hK => ?_) AllReadyH.nil
              go_simp
              refine (HAP.out _ (by first | exact HDR.out | exact hq5)).mono ?_
              rintro e w5 ⟨cs5, rfl, hb5, hzt⟩
              have hq5 : Below w4.heap.size w4 w5 := below_then HDR.out (Nat.le_refl _) hb5
              obtain ⟨G1, h1, G2, h2, rs5, e5', _⟩ := hzt.open
              obtain rfl : cs5 = [.int .i64 (Tree.patch y x).kind, .int .i64 (Tree.patch y x).num, .string (Tree.patch y x).text, .slice G1 (Tree.patch y x).names.length h1, .slice G2 (Tree.patch y x).kids.length h2] := e5'
              have HZT := Lib.hid hzt
              clear hzt
              clear p0 p1 p2 p3 p4
              have p0 := cell_of_block (block_below HI4.out.cell hq5) 0
              have p1 := cell_of_block (block_below HI4.out.cell hq5) 1
              have p2 := cell_of_block (block_below HI4.out.cell hq5) 2
              have p3 := cell_of_block (block_below HI4.out.cell hq5) 3
              have p4 := cell_of_block (block_below HI4.out.cell hq5) 4
              simp at p0 p1 p2 p3 p4
              go_simp
              refine hK.out _ _ (HKEEP.out _ hq5) (fun hHeld => ?_)
              clear hK K
              refine wpAnyH_ready (rs := [9]) (by kernel_rfl) (by simp) ?_; refine AllReadyH.cons rfl (fun K hK => ?_) AllReadyH.nil
              go_simp
              refine (HWI.out w5 hq5 _ HZT.out).mono ?_
              rintro e w6 ⟨cs6, rfl, hb6, hlt6⟩
              have hq6 : Below w4.heap.size w4 w6 := below_then hq5 hq5.size hb6
              obtain ⟨D5, i5, D6, i6, rs6, e6', _⟩ := hlt6.open
              obtain rfl : cs6 = [.int .i64 7, .int .i64 0, .string emptyB, .slice D5 pn.length i5, .slice D6 pk.length i6] := by rw [e6']; simp
              have HNEXT := Lib.hid (HI4.out.set HSS.out HSX.out HF.out HN.out HXOK.out HY.out hq6 (wy := w5) (Nat.le_trans HI4.out.size hq5.size) (by rw [← HKP.out]; exact hlt6))
              clear p0 p1 p2 p3 p4
              have p0 := cell_of_block (block_below HI4.out.cell hq6) 0
              have p1 := cell_of_block (block_below HI4.out.cell hq6) 1
              have p2 := cell_of_block (block_below HI4.out.cell hq6) 2
              have p3 := cell_of_block (block_below HI4.out.cell hq6) 3
              have p4 := cell_of_block (block_below HI4.out.cell hq6) 4
              simp at p0 p1 p2 p3 p4
              have f0 := free_of_block (block_below HI4.out.cell hq6) 0
              have f1 := free_of_block (block_below HI4.out.cell hq6) 1
              have f2 := free_of_block (block_below HI4.out.cell hq6) 2
              have f3 := free_of_block (block_below HI4.out.cell hq6) 3
              have f4 := free_of_block (block_below HI4.out.cell hq6) 4
              have HQ6 := Lib.hid hq6
              clear hb5 hq5 hb6 hq6 hlt6 HZT
              go_simp
              refine hK.out _ _ (HKEEP.out _ HQ6.out) (fun hHeld => ?_)
              clear hK K
              refine wpAnyH_ready (rs := [10]) (by kernel_rfl) (by simp) ?_; refine AllReadyH.cons rfl (fun K hK => ?_) AllReadyH.nil
              go_simp
              refine hK.out _ _ (HKEEP2.out w6 _ _ _ _ _ HQ6.out) (fun _ => ?_)
              clear hK K
              refine wpAnyH_done (by kernel_rfl) ?_ _
              go_wp2
              go_simp
              exact ⟨⟨_, _, _, _, .int .i64 ((i : Int) + 1), ⟨i + 1, by go_num, by omega, _, _, _, HNEXT.out⟩, rfl, rfl, rfl, rfl, rfl⟩, by simp [intOf]; omega⟩
            · go_simp
              refine hK.out _ _ hHeld (fun hHeld => ?_)
              clear hK K
              (refine wpAnyH_take (i := 5) (v := ?_) rfl (by kernel_rfl) (by kernel_rfl) (by kernel_rfl) (fun _ _ _ h => h) (Or.inl ⟨by rfl, ?_⟩) hHeld ?_; rotate_left 1; (focus (intro w hSw; (try dsimp only at hSw); go_split_ands; go_simp; try (with_reducible rfl))); change wpAnyH _ _ _ _ _ _ _ (Act.put _ (some 62) _) _; simp only [Act.put, List.setIfInBounds_toArray, List.set_cons_zero, List.set_cons_succ])
              (refine wpAnyH_take (i := 6) (v := ?_) rfl (by kernel_rfl) (by kernel_rfl) (by kernel_rfl) (fun _ _ _ h => h) (Or.inl ⟨by rfl, ?_⟩) hHeld ?_; rotate_left 1; (focus (intro w hSw; (try dsimp only at hSw); go_split_ands; go_simp; try (with_reducible rfl))); change wpAnyH _ _ _ _ _ _ _ (Act.put _ (some 63) _) _; simp only [Act.put, List.setIfInBounds_toArray, List.set_cons_zero, List.set_cons_succ])
              refine wpAnyH_ready (rs := [0, 8]) (by kernel_rfl) (by simp) ?_; refine AllReadyH.cons rfl (fun K hK => ?_) (AllReadyH.cons rfl (fun K hK => ?_) AllReadyH.nil)
              · go_simp
                refine hK.out _ _ hHeld (fun hHeld => ?_)
                clear hK K
                refine wpAnyH_ready (rs := [8]) (by kernel_rfl) (by simp) ?_; refine AllReadyH.cons rfl (fun K hK => ?_) AllReadyH.nil
                go_simp
                refine (HAP.out _ (by first | exact HDR.out | exact hq5)).mono ?_
                rintro e w5 ⟨cs5, rfl, hb5, hzt⟩
                have hq5 : Below w4.heap.size w4 w5 := below_then HDR.out (Nat.le_refl _) hb5
                obtain ⟨G1, h1, G2, h2, rs5, e5', _⟩ := hzt.open
                obtain rfl : cs5 = [.int .i64 (Tree.patch y x).kind, .int .i64 (Tree.patch y x).num, .string (Tree.patch y x).text, .slice G1 (Tree.patch y x).names.length h1, .slice G2 (Tree.patch y x).kids.length h2] := e5'
                have HZT := Lib.hid hzt
                clear hzt
                clear p0 p1 p2 p3 p4
                have p0 := cell_of_block (block_below HI4.out.cell hq5) 0
                have p1 := cell_of_block (block_below HI4.out.cell hq5) 1
                have p2 := cell_of_block (block_below HI4.out.cell hq5) 2
                have p3 := cell_of_block (block_below HI4.out.cell hq5) 3
                have p4 := cell_of_block (block_below HI4.out.cell hq5) 4
                simp at p0 p1 p2 p3 p4
                go_simp
                refine hK.out _ _ (HKEEP.out _ hq5) (fun hHeld => ?_)
                clear hK K
                refine wpAnyH_ready (rs := [9]) (by kernel_rfl) (by simp) ?_; refine AllReadyH.cons rfl (fun K hK => ?_) AllReadyH.nil
                go_simp
                refine (HWI.out w5 hq5 _ HZT.out).mono ?_
                rintro e w6 ⟨cs6, rfl, hb6, hlt6⟩
                have hq6 : Below w4.heap.size w4 w6 := below_then hq5 hq5.size hb6
                obtain ⟨D5, i5, D6, i6, rs6, e6', _⟩ := hlt6.open
                obtain rfl : cs6 = [.int .i64 7, .int .i64 0, .string emptyB, .slice D5 pn.length i5, .slice D6 pk.length i6] := by rw [e6']; simp
                have HNEXT := Lib.hid (HI4.out.set HSS.out HSX.out HF.out HN.out HXOK.out HY.out hq6 (wy := w5) (Nat.le_trans HI4.out.size hq5.size) (by rw [← HKP.out]; exact hlt6))
                clear p0 p1 p2 p3 p4
                have p0 := cell_of_block (block_below HI4.out.cell hq6) 0
                have p1 := cell_of_block (block_below HI4.out.cell hq6) 1
                have p2 := cell_of_block (block_below HI4.out.cell hq6) 2
                have p3 := cell_of_block (block_below HI4.out.cell hq6) 3
                have p4 := cell_of_block (block_below HI4.out.cell hq6) 4
                simp at p0 p1 p2 p3 p4
                have f0 := free_of_block (block_below HI4.out.cell hq6) 0
                have f1 := free_of_block (block_below HI4.out.cell hq6) 1
                have f2 := free_of_block (block_below HI4.out.cell hq6) 2
                have f3 := free_of_block (block_below HI4.out.cell hq6) 3
                have f4 := free_of_block (block_below HI4.out.cell hq6) 4
                have HQ6 := Lib.hid hq6
                clear hb5 hq5 hb6 hq6 hlt6 HZT
                go_simp
                refine hK.out _ _ (HKEEP.out _ HQ6.out) (fun hHeld => ?_)
                clear hK K
                refine wpAnyH_ready (rs := [10]) (by kernel_rfl) (by simp) ?_; refine AllReadyH.cons rfl (fun K hK => ?_) AllReadyH.nil
                go_simp
                refine hK.out _ _ (HKEEP2.out w6 _ _ _ _ _ HQ6.out) (fun _ => ?_)
                clear hK K
                refine wpAnyH_done (by kernel_rfl) ?_ _
                go_wp2
                go_simp
                exact ⟨⟨_, _, _, _, .int .i64 ((i : Int) + 1), ⟨i + 1, by go_num, by omega, _, _, _, HNEXT.out⟩, rfl, rfl, rfl, rfl, rfl⟩, by simp [intOf]; omega⟩
              · go_simp
                refine (HAP.out _ (by first | exact HDR.out | exact hq5)).mono ?_
                rintro e w5 ⟨cs5, rfl, hb5, hzt⟩
                have hq5 : Below w4.heap.size w4 w5 := below_then HDR.out (Nat.le_refl _) hb5
                obtain ⟨G1, h1, G2, h2, rs5, e5', _⟩ := hzt.open
                obtain rfl : cs5 = [.int .i64 (Tree.patch y x).kind, .int .i64 (Tree.patch y x).num, .string (Tree.patch y x).text, .slice G1 (Tree.patch y x).names.length h1, .slice G2 (Tree.patch y x).kids.length h2] := e5'
                have HZT := Lib.hid hzt
                clear hzt
                clear p0 p1 p2 p3 p4
                have p0 := cell_of_block (block_below HI4.out.cell hq5) 0
                have p1 := cell_of_block (block_below HI4.out.cell hq5) 1
                have p2 := cell_of_block (block_below HI4.out.cell hq5) 2
                have p3 := cell_of_block (block_below HI4.out.cell hq5) 3
                have p4 := cell_of_block (block_below HI4.out.cell hq5) 4
                simp at p0 p1 p2 p3 p4
                go_simp
                refine hK.out _ _ (HKEEP.out _ hq5) (fun hHeld => ?_)
                clear hK K
                refine wpAnyH_ready (rs := [0]) (by kernel_rfl) (by simp) ?_; refine AllReadyH.cons rfl (fun K hK => ?_) AllReadyH.nil
                go_simp
                refine hK.out _ _ hHeld (fun hHeld => ?_)
                clear hK K
                refine wpAnyH_ready (rs := [9]) (by kernel_rfl) (by simp) ?_; refine AllReadyH.cons rfl (fun K hK => ?_) AllReadyH.nil
                go_simp
                refine (HWI.out w5 hq5 _ HZT.out).mono ?_
                rintro e w6 ⟨cs6, rfl, hb6, hlt6⟩
                have hq6 : Below w4.heap.size w4 w6 := below_then hq5 hq5.size hb6
                obtain ⟨D5, i5, D6, i6, rs6, e6', _⟩ := hlt6.open
                obtain rfl : cs6 = [.int .i64 7, .int .i64 0, .string emptyB, .slice D5 pn.length i5, .slice D6 pk.length i6] := by rw [e6']; simp
                have HNEXT := Lib.hid (HI4.out.set HSS.out HSX.out HF.out HN.out HXOK.out HY.out hq6 (wy := w5) (Nat.le_trans HI4.out.size hq5.size) (by rw [← HKP.out]; exact hlt6))
                clear p0 p1 p2 p3 p4
                have p0 := cell_of_block (block_below HI4.out.cell hq6) 0
                have p1 := cell_of_block (block_below HI4.out.cell hq6) 1
                have p2 := cell_of_block (block_below HI4.out.cell hq6) 2
                have p3 := cell_of_block (block_below HI4.out.cell hq6) 3
                have p4 := cell_of_block (block_below HI4.out.cell hq6) 4
                simp at p0 p1 p2 p3 p4
                have f0 := free_of_block (block_below HI4.out.cell hq6) 0
                have f1 := free_of_block (block_below HI4.out.cell hq6) 1
                have f2 := free_of_block (block_below HI4.out.cell hq6) 2
                have f3 := free_of_block (block_below HI4.out.cell hq6) 3
                have f4 := free_of_block (block_below HI4.out.cell hq6) 4
                have HQ6 := Lib.hid hq6
                clear hb5 hq5 hb6 hq6 hlt6 HZT
                go_simp
                refine hK.out _ _ (HKEEP.out _ HQ6.out) (fun hHeld => ?_)
                clear hK K
                refine wpAnyH_ready (rs := [10]) (by kernel_rfl) (by simp) ?_; refine AllReadyH.cons rfl (fun K hK => ?_) AllReadyH.nil
                go_simp
                refine hK.out _ _ (HKEEP2.out w6 _ _ _ _ _ HQ6.out) (fun _ => ?_)
                clear hK K
                refine wpAnyH_done (by kernel_rfl) ?_ _
                go_wp2
                go_simp
                exact ⟨⟨_, _, _, _, .int .i64 ((i : Int) + 1), ⟨i + 1, by go_num, by omega, _, _, _, HNEXT.out⟩, rfl, rfl, rfl, rfl, rfl⟩, by simp [intOf]; omega⟩
      · obtain rfl : i = p.names.length := by omega
        have e : Tree.patch v p = .mk 7 0 emptyB pn pk := by rw [HI.out.eq, patch_end (Nat.le_refl _)]
        have HEE := Lib.hid e
        have r0 := cell_of_block HI.out.rb 0
        have r1 := cell_of_block HI.out.rb 1
        have r2 := cell_of_block HI.out.rb 2
        have r3 := cell_of_block HI.out.rb 3
        have r4 := cell_of_block HI.out.rb 4
        have f0 := free_of_block HI.out.rb 0
        have f1 := free_of_block HI.out.rb 1
        have f2 := free_of_block HI.out.rb 2
        have f3 := free_of_block HI.out.rb 3
        have f4 := free_of_block HI.out.rb 4
        simp at r0 r1 r2 r3 r4
        clear e hbx hcond
        go_wp2
        refine bodyPost_ret (results_cell_row rfl _ _ (w.heap.size + 1 + 1) _ _ _ _ rfl (block_setCell (block_setCell (block_setCell (block_setCell (block_setCell HI.out.rb _ _) _ _) _ _) _ _) _ _) Tryz.underlying44 rfl ((info_size infoL1V).trans (by simp))) rfl ?_
        have hB := below_set5 HI.out.bel (show w.heap.size ≤ w.heap.size + 1 + 1 by omega) (.int .i64 7) (.int .i64 0) (.string emptyB) (.slice D1 pn.length e1) (.slice D2 pk.length e2)
        refine ⟨[.int .i64 7, .int .i64 0, .string emptyB, .slice D1 pn.length e1, .slice D2 pk.length e2], rfl, hB, ?_⟩
        rw [HEE.out]
        have hne : ∀ c, Nx F w.heap.size c → c ≠ w.heap.size + 1 + 1 := fun c h => by
          rcases h with h | h <;> omega
        refine HI.out.lt.frame ((((((Agree.refl _ wr).set hne 0 _).set hne 1 _).set hne 2 _).set hne 3 _).set hne 4 _) (fun b h _ => ?_)
        rcases h with h | h
        · exact .inl h
        · exact .inr (by omega)
end Go.Proofs.YteeppdobeeodiaaGreatDoor
