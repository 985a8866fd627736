/- The reference's IsClean. The reference's l4CleanOf: what it makes of a value is what the plain words say. The reference's CleanOf. -/
import Derived.Test.YteeppdobeeodiaaGreatDoorSp15
import Derived.Test.YteeppdobeeodiaaGreatDoorJn10
import Derived.Test.YteeppdobeeodiaaGreatDoorSp3
namespace Go.Proofs.YteeppdobeeodiaaGreatDoor
open Go.RowKit
/-- What IsClean tells. -/
def IcRes (l : List Nd) (b f : Bool) : Prop := (f = true ∧ ∃ t, IsGood l t ∧ b = t.isClean) ∨ (f = false ∧ b = false ∧ ∀ t, ¬ IsGood l t)
def IcPost (l : List Nd) (w : World) (e : Ending) (w' : World) : Prop := ∃ b f, e = .returned (.tuple #[.bool b, .bool f]) ∧ IcRes l b f ∧ Below w.heap.size w w'
theorem IcRes.one {l : List Nd} {b f b' f' : Bool} (h : IcRes l b f) (h' : IcRes l b' f') : b = b' ∧ f = f' := by
  rcases h with ⟨rfl, t, h1, rfl⟩ | ⟨rfl, rfl, h1⟩
  · rcases h' with ⟨rfl, t', g1, rfl⟩ | ⟨rfl, rfl, g1⟩
    · rw [isGood_one h1 g1]
      exact ⟨rfl, rfl⟩
    · exact absurd h1 (g1 _)
  · rcases h' with ⟨rfl, t', g1, rfl⟩ | ⟨rfl, rfl, g1⟩
    · exact absurd g1 (h1 _)
    · exact ⟨rfl, rfl⟩
set_option maxRecDepth 100000 in
set_option maxHeartbeats 4000000 in
theorem sIsClean_any (l : List Nd) (hl : l.length ≤ 1000000000) (hsz : SzNd l) (F : Nat → Prop) (A : Option Addr) (c : Nat) (w : World) (hr : Rds F w A (ndCells l)) :
    Calls Tryz.prog 12 #[.agg #[.slice A l.length c]] w (IcPost l w) := by
  have HG := Lib.hid (fun W (hb : Below w.heap.size w W) => sGoodValue_any l hl hsz F A c W (hr.frame (Agree.of_below hb)))
  have HR := Lib.hid (fun W (hb : Below w.heap.size w W) => hr.frame (w1 := W) (Agree.of_below hb))
  have hb1 := (Below.refl w.heap.size w).alloc (Nat.le_refl _) (.cells #[.slice A l.length c] 25 (0, 0))
  have HB1 := Lib.hid hb1
  have HK := Lib.hid (heap_alloc_new w (.cells #[.slice A l.length c] 25 (0, 0)))
  clear hr hsz hb1
  go_enter Tryz.func12, Tryz.ntmps12
  go_wp2_with fail
  generalize w.alloc (.cells #[.slice A l.length c] 25 (0, 0)) = w1 at HB1 HK ⊢
  refine (HG.out w1 HB1.out).mono ?_
  rintro e w2 ⟨hb2, g, rfl, hg⟩
  have HB2 := Lib.hid (below_then HB1.out HB1.out.size hb2)
  have HK2 := Lib.hid (block_below HK.out hb2)
  clear hb2
  cases g
  · have HN := Lib.hid (show ∀ t, ¬ IsGood l t from fun t h => by have := hg.2 ⟨t, h⟩; cases this)
    clear hg
    go_wp2
    go_ret2
    exact ⟨false, false, rfl, .inr ⟨rfl, rfl, HN.out⟩, HB2.out⟩
  · obtain ⟨t, ht⟩ := hg.1 rfl
    have HTT := Lib.hid ht
    obtain ⟨n1, n2⟩ := ht.count
    have HT := Lib.hid (sTree_any t ht.2.1 l (by omega) 0 (Sub.of_flat ht.1) F A c w2 (HR.out w2 HB2.out))
    have y0 := cell_of_block HK2.out 0
    simp at y0
    clear hg ht n1
    go_wp2_with fail
    refine HT.out.mono ?_
    rintro e w3 ⟨cs, rfl, hb3, hlt⟩
    have HC := Lib.hid (sClean_any t (by omega) _ cs w3 hlt)
    have HB3 := Lib.hid (below_then HB2.out HB2.out.size hb3)
    clear hb3 hlt HT
    go_wp2_with fail
    refine HC.out.mono ?_
    rintro e w4 ⟨rfl, hb4⟩
    have HB4 := Lib.hid (below_then HB3.out HB3.out.size hb4)
    clear hb4 HC
    go_wp2
    go_ret2
    exact ⟨t.isClean, true, rfl, .inl ⟨rfl, t, HTT.out, rfl⟩, HB4.out⟩
end Go.Proofs.YteeppdobeeodiaaGreatDoor
namespace Go.Proofs.YteeppdobeeodiaaGreatDoor
open Go.RowKit
theorem ins_end {α : Type} (l : List α) (x : α) : ins l.length x l = l ++ [x] := by simp [ins]
theorem insPos_end {on : List ByteArray} {s : ByteArray} (hs : sortedB on = true) (h : ∀ a ∈ on, ltS a s = true) : insPos on s = on.length :=
  (insPos_of on s hs on.length (Nat.le_refl _) (fun i x _ hx => h x (List.mem_of_getElem? hx)) (fun i x hi hx => absurd (List.getElem?_eq_some_iff.1 hx).1 (by omega))).symm
/-- What the loop of l4CleanOf keeps of the rows. -/
structure CE2 (v : Tree) (i : Nat) (on : List ByteArray) (ot : List Tree) : Prop where
  eq : CEq v i on ot
  new : ∀ a ∈ on, ∃ j, j < i ∧ v.names[j]? = some a
section
variable {v : Tree} {i : Nat} {on : List ByteArray} {ot : List Tree} {s : ByteArray} {x : Tree}
theorem CE2.less (h : CE2 v i on ot) (hs : sortedB v.names = true) (hn : v.names[i]? = some s) : ∀ a ∈ on, ltS a s = true := fun a ha => by
  obtain ⟨j, hj, e⟩ := h.new a ha
  exact sortedB_lt hs j i a s hj e hn
theorem CE2.fresh (h : CE2 v i on ot) (hs : sortedB v.names = true) (hn : v.names[i]? = some s) : on[insPos on s]? ≠ some s := fun e => by
  have := h.less hs hn s (List.mem_of_getElem? e)
  rw [ltS_irrefl] at this
  cases this
theorem CE2.skip (h : CE2 v i on ot) (hx : v.kids[i]? = some x) (hn : x.kind = 1) : CE2 v (i + 1) on ot :=
  ⟨h.eq.skip hx hn, fun a ha => by obtain ⟨j, hj, e⟩ := h.new a ha; exact ⟨j, by omega, e⟩⟩
theorem CE2.more (h : CE2 v i on ot) (hs : sortedB v.names = true) (hm : MapOK on ot) (hx : v.kids[i]? = some x) (hn : v.names[i]? = some s) (hk : x.kind ≠ 1) : CE2 v (i + 1) (ins (insPos on s) s on) (ins (insPos on s) x.clean ot) := by
  rw [insPos_end hm.sorted (h.less hs hn), ins_end, hm.len, ins_end]
  refine ⟨h.eq.more hx hn hk, fun a ha => ?_⟩
  rcases List.mem_append.1 ha with ha | ha
  · obtain ⟨j, hj, e⟩ := h.new a ha
    exact ⟨j, by omega, e⟩
  · obtain rfl : a = s := by simpa using ha
    exact ⟨i, by omega, hn⟩
end
def SKPost (F : Nat → Prop) (v : Tree) (w : World) (e : Ending) (w' : World) : Prop := ∃ cs, e = .returned (.agg cs.toArray) ∧ Below w.heap.size w w' ∧ LtAt (Nw F w.heap.size) w' cs v.clean
def SKSpec (v : Tree) : Prop := v.ok = true → v.count ≤ 80 → ∀ (F : Nat → Prop) (vc : List Value) (w : World), LtAt F w vc v → Calls Tryz.prog 33 #[.agg vc.toArray] w (SKPost F v w)
/-- The blocks that the map in the making may lie in. -/
def Ny3 (F : Nat → Prop) (B : Nat) : Nat → Prop := fun b => F b ∧ b < B ∨ B + 3 ≤ b
structure SKInv (F : Nat → Prop) (w wx : World) (ocs : List Value) (on : List ByteArray) (ot : List Tree) (vo ro : Obj) : Prop where
  cell : wx.heap[w.heap.size + 1 + 1]? = some (.cells ocs.toArray 44 (0, 0))
  lt : LtAt (Ny3 F w.heap.size) wx ocs (.mk 7 0 emptyB on ot)
  ok : MapOK on ot
  bel : Below w.heap.size w wx
  size : w.heap.size + 3 ≤ wx.heap.size
  vb : wx.heap[w.heap.size]? = some vo
  rb : wx.heap[w.heap.size + 1]? = some ro
section
variable {F : Nat → Prop} {w wx w4 : World} {ocs : List Value} {on : List ByteArray} {ot : List Tree} {vo ro : Obj}
theorem SKInv.below (h : SKInv F w wx ocs on ot vo ro) (hb : Below wx.heap.size wx w4) : SKInv F w w4 ocs on ot vo ro :=
  ⟨block_below h.cell hb, h.lt.below hb, h.ok, below_then h.bel h.bel.size hb, Nat.le_trans h.size hb.size, block_below h.vb hb, block_below h.rb hb⟩
theorem SKInv.put {s : ByteArray} {z : Tree} {a0 a1 a2 a3 a4 : Value} {N : Nat} (h : SKInv F w wx ocs on ot vo ro) (hf : on[insPos on s]? ≠ some s) (hso : strOK s = true) (hzo : z.ok = true) (hb : Below wx.heap.size wx w4) (hN : w.heap.size + 3 ≤ N)
    (ht : LtAt (Nw (Ny3 F w.heap.size) N) w4 [a0, a1, a2, a3, a4] (.mk 7 0 emptyB (ins (insPos on s) s on) (ins (insPos on s) z ot))) :
    SKInv F w (((((w4.setCell ⟨w.heap.size + 1 + 1, 0, none⟩ a0).setCell ⟨w.heap.size + 1 + 1, 1, none⟩ a1).setCell ⟨w.heap.size + 1 + 1, 2, none⟩ a2).setCell ⟨w.heap.size + 1 + 1, 3, none⟩ a3).setCell ⟨w.heap.size + 1 + 1, 4, none⟩ a4) [a0, a1, a2, a3, a4] (ins (insPos on s) s on) (ins (insPos on s) z ot) vo ro := by
  have hc := block_below h.cell hb
  have h5 := block_setCell (block_setCell (block_setCell (block_setCell (block_setCell hc 0 a0) 1 a1) 2 a2) 3 a3) 4 a4
  have hle : ∀ j, w.heap.size ≤ (⟨w.heap.size + 1 + 1, j, none⟩ : Addr).block := fun j => by show w.heap.size ≤ w.heap.size + 1 + 1; omega
  have hbel := ((((((below_then h.bel h.bel.size hb).setCell (hle 0) a0).setCell (hle 1) a1).setCell (hle 2) a2).setCell (hle 3) a3).setCell (hle 4) a4)
  have hA : ∀ G : Nat → Prop, (∀ c, G c → c ≠ w.heap.size + 1 + 1) → Agree G w4 (((((w4.setCell ⟨w.heap.size + 1 + 1, 0, none⟩ a0).setCell ⟨w.heap.size + 1 + 1, 1, none⟩ a1).setCell ⟨w.heap.size + 1 + 1, 2, none⟩ a2).setCell ⟨w.heap.size + 1 + 1, 3, none⟩ a3).setCell ⟨w.heap.size + 1 + 1, 4, none⟩ a4) :=
    fun G hG => (((((Agree.refl G w4).set hG 0 a0).set hG 1 a1).set hG 2 a2).set hG 3 a3).set hG 4 a4
  have hs4 := hb.size
  have hs := h.size
  have e := (hA (fun _ => False) (fun c h => h.elim)).size
  have keep : ∀ (b : Nat) (o : Obj), b ≠ w.heap.size + 1 + 1 → wx.heap[b]? = some o → _ := fun b o hne hk => block_agree (block_below hk hb) (hA (fun c => c ≠ w.heap.size + 1 + 1) (fun _ h => h)) hne
  refine ⟨?_, ht.frame (hA _ (fun c hc e => ?_)) (fun b hb' _ => ?_), h.ok.ins hf hso hzo, hbel, by omega, keep _ _ (by omega) h.vb, keep _ _ (by omega) h.rb⟩
  · rw [h5]
    obtain ⟨x0, x1, x2, x3, x4, e5⟩ := five_of ocs h.lt.length
    rw [e5]
    rfl
  · subst e
    rcases hc with ⟨hc | hc, _⟩ | hc <;> omega
  · rcases hb' with h | h
    · exact h.1
    · exact .inr (by omega)
end
set_option maxRecDepth 100000 in
set_option maxHeartbeats 16000000 in
theorem sCleanOf_any : ∀ v, SKSpec v := Tree.ind fun v ih hv hvc F vc w htv => by
  have HV0 := Lib.hid htv
  obtain ⟨A1, c1, A2, c2, rs, rfl, g3, g4, r3, r4, hts⟩ := htv.open
  obtain ⟨w1, hw⟩ : ∃ w1, w1 = (w.alloc (.cells #[.int .i64 v.kind, .int .i64 v.num, .string v.text, .slice A1 v.names.length c1, .slice A2 v.kids.length c2] 44 (0, 0))).alloc (.cells #[.int .i64 0, .int .i64 0, .string ⟨#[]⟩, .slice none 0 0, .slice none 0 0] 44 (0, 0)) := ⟨_, rfl⟩
  have hs1 : w1.heap.size = w.heap.size + 2 := by rw [hw]; simp
  have hb1 : Below w.heap.size w w1 := by rw [hw]; exact ((Below.refl _ _).alloc (Nat.le_refl _) _).alloc (by simp) _
  have hkv : w1.heap[w.heap.size]? = some (.cells #[.int .i64 v.kind, .int .i64 v.num, .string v.text, .slice A1 v.names.length c1, .slice A2 v.kids.length c2] 44 (0, 0)) := by rw [hw]; (repeat (first | with_reducible assumption | (with_reducible refine blk_new _ ?_; (first | rfl | (simp; done) | (simp; omega))) | with_reducible apply block_setCell | (with_reducible refine blk_skip _ _ ?_ ?_; rotate_left; (first | (simp; done) | (simp; omega))) | with_reducible refine blk_old ?_))
  have hkr : w1.heap[w.heap.size + 1]? = some (.cells #[.int .i64 0, .int .i64 0, .string ⟨#[]⟩, .slice none 0 0, .slice none 0 0] 44 (0, 0)) := by rw [hw]; (repeat (first | with_reducible assumption | (with_reducible refine blk_new _ ?_; (first | rfl | (simp; done) | (simp; omega))) | with_reducible apply block_setCell | (with_reducible refine blk_skip _ _ ?_ ?_; rotate_left; (first | (simp; done) | (simp; omega))) | with_reducible refine blk_old ?_))
  have HB1 := Lib.hid hb1
  have HKV := Lib.hid hkv
  have HKR := Lib.hid hkr
  have HW := Lib.hid hw
  clear hw hb1 hkv hkr
  have z0 := cell_of_block HKV.out 0
  simp at z0
  by_cases hvk : v.kind = 7
  case neg =>
    have HD := Lib.hid (show v.clean = v by rw [Tree.clean_eq, if_neg hvk])
    have z1 := cell_of_block HKV.out 1
    have z2 := cell_of_block HKV.out 2
    have z3 := cell_of_block HKV.out 3
    have z4 := cell_of_block HKV.out 4
    simp at z1 z2 z3 z4
    have f0 := free_of_block HKR.out 0
    have f1 := free_of_block HKR.out 1
    have f2 := free_of_block HKR.out 2
    have f3 := free_of_block HKR.out 3
    have f4 := free_of_block HKR.out 4
    have r0 := cell_of_block HKR.out 0
    have r1 := cell_of_block HKR.out 1
    have r2 := cell_of_block HKR.out 2
    have r3 := cell_of_block HKR.out 3
    have r4 := cell_of_block HKR.out 4
    simp at r0 r1 r2 r3 r4
    have hvb : (v.kind != 7) = true := by simpa using hvk
    have HNEG := Lib.hid (show SKPost F v w (.returned (.agg #[.int .i64 v.kind, .int .i64 v.num, .string v.text, .slice A1 v.names.length c1, .slice A2 v.kids.length c2])) (((((w1.setCell ⟨w.heap.size + 1, 0, none⟩ (.int .i64 v.kind)).setCell ⟨w.heap.size + 1, 1, none⟩ (.int .i64 v.num)).setCell ⟨w.heap.size + 1, 2, none⟩ (.string v.text)).setCell ⟨w.heap.size + 1, 3, none⟩ (.slice A1 v.names.length c1)).setCell ⟨w.heap.size + 1, 4, none⟩ (.slice A2 v.kids.length c2)) from by
      have hB := below_set5 HB1.out (show w.heap.size ≤ w.heap.size + 1 by omega) (.int .i64 v.kind) (.int .i64 v.num) (.string v.text) (.slice A1 v.names.length c1) (.slice A2 v.kids.length c2)
      refine ⟨[.int .i64 v.kind, .int .i64 v.num, .string v.text, .slice A1 v.names.length c1, .slice A2 v.kids.length c2], rfl, hB, ?_⟩
      rw [HD.out]
      exact HV0.out.frame (Agree.of_below hB) (fun b h h' => .inl ⟨h, h'⟩))
    clear hvk htv hts ih
    go_enter Tryz.func33, Tryz.ntmps33
    go_upto_if 8 with fail
    rw [← HW.out]
    go_wp2
    refine bodyPost_ret (results_cell_row rfl _ _ (w.heap.size + 1) _ _ _ _ rfl (block_setCell (block_setCell (block_setCell (block_setCell (block_setCell HKR.out _ _) _ _) _ _) _ _) _ _) Tryz.underlying44 rfl ((info_size infoL1V).trans (by simp))) rfl ?_
    exact HNEG.out
  have hmv := Tree.ok_map hv hvk
  have hcv := v.count_eq
  have hkv := Tree.kids_le_count v.kids
  have hlv := hmv.len
  have hnv : v.names.length ≤ 80 := by omega
  have hkv80 : v.kids.length ≤ 80 := by omega
  rw [hvk] at HW HKV z0 ⊢
  have hb2 : Below w.heap.size w (w1.alloc (.cells #[.int .i64 7, .int .i64 0, .string ⟨#[]⟩, .slice none 0 0, .slice none 0 0] 44 (0, 0))) := HB1.out.alloc HB1.out.size _
  have HINV0 := Lib.hid (show SKInv F w (w1.alloc (.cells #[.int .i64 7, .int .i64 0, .string ⟨#[]⟩, .slice none 0 0, .slice none 0 0] 44 (0, 0))) [.int .i64 7, .int .i64 0, .string emptyB, .slice none ([] : List ByteArray).length 0, .slice none ([] : List Tree).length 0] [] [] (.cells #[.int .i64 7, .int .i64 v.num, .string v.text, .slice A1 v.names.length c1, .slice A2 v.kids.length c2] 44 (0, 0)) (.cells #[.int .i64 0, .int .i64 0, .string ⟨#[]⟩, .slice none 0 0, .slice none 0 0] 44 (0, 0)) from
    ⟨by have h := heap_alloc_new w1 (.cells #[.int .i64 7, .int .i64 0, .string ⟨#[]⟩, .slice none 0 0, .slice none 0 0] 44 (0, 0)); rw [hs1] at h; exact h, LtAt.empty2, MapOK.nil, hb2, by simp; omega, (block_below HKV.out ((Below.refl _ _).alloc (Nat.le_refl _) _)), (block_below HKR.out ((Below.refl _ _).alloc (Nat.le_refl _) _))⟩)
  have z4 := cell_of_block HINV0.out.vb 4
  simp at z4
  have HMV := Lib.hid hmv
  have HVK := Lib.hid hvk
  have HL := Lib.hid (show v.names.length = v.kids.length from hlv)
  have HCV := Lib.hid (show v.count = 1 + Tree.countL v.kids from hcv)
  have HVO := Lib.hid (⟨hv, hvc⟩ : v.ok = true ∧ v.count ≤ 80)
  have HIH := Lib.hid ih
  have HR3 := Lib.hid r3
  have HR4 := Lib.hid r4
  have HTS := Lib.hid hts
  clear hvk hmv hcv hkv hlv hv hvc ih r3 r4 hts htv hb2
  go_enter Tryz.func33, Tryz.ntmps33
  go_upto_if 8 with fail
  rw [← HW.out]
  go_wp2
  generalize w1.alloc (.cells #[.int .i64 7, .int .i64 0, .string ⟨#[]⟩, .slice none 0 0, .slice none 0 0] 44 (0, 0)) = w2 at HINV0 z4 ⊢
  go_wp2
  go_loopw [14] (fun iv wx => ∃ (i : Nat) (ocs : List Value) (on : List ByteArray) (ot : List Tree), iv = .int .i64 (i : Int) ∧ i ≤ v.kids.length ∧ Hid (SKInv F w wx ocs on ot (.cells #[.int .i64 7, .int .i64 v.num, .string v.text, .slice A1 v.names.length c1, .slice A2 v.kids.length c2] 44 (0, 0)) (.cells #[.int .i64 0, .int .i64 0, .string ⟨#[]⟩, .slice none 0 0, .slice none 0 0] 44 (0, 0)) ∧ CE2 v i on ot)) (fun iv _ => v.kids.length - (intOf iv).toNat)
  case atStart => exact ⟨0, _, _, _, rfl, Nat.zero_le _, HINV0.out, ⟨rfl, rfl, Nat.le_refl _, Nat.le_refl _⟩, fun a ha => by cases ha⟩
  case round =>
    clear HINV0 z4 z0
    obtain ⟨i, ocs, on, ot, rfl, hi, hinv⟩ := hrel
    have HI := Lib.hid (show SKInv F w wr ocs on ot (.cells #[.int .i64 7, .int .i64 v.num, .string v.text, .slice A1 v.names.length c1, .slice A2 v.kids.length c2] 44 (0, 0)) (.cells #[.int .i64 0, .int .i64 0, .string ⟨#[]⟩, .slice none 0 0, .slice none 0 0] 44 (0, 0)) from hinv.1)
    have HD := Lib.hid (show CE2 v i on ot from hinv.2)
    have hbx := HI.out.bel
    have hsz := HI.out.size
    have htl : ot.length ≤ 1000000 := by
      have h1 := HD.out.eq.n2
      omega
    have HOL := Lib.hid htl
    clear hinv htl
    by_cases hlt : i < v.kids.length
    · obtain ⟨bn, on', s, rfl, hnl, n0w, hs, hsm⟩ := name_at HR3.out i (by have := HL.out; omega)
      obtain ⟨bk, ok, rk, x, K1, k1, K2, k2, rfl, hFk, hkl, hx, hxm, hrk, rfl, hxt, kk0, kk1, kk2, kk3, kk4⟩ := lt_at HR4.out HTS.out i hlt
      have HS := Lib.hid hs
      have HSOK := Lib.hid (show strOK s = true by have := HMV.out.str; rw [List.all_eq_true] at this; exact this s hsm)
      have HX := Lib.hid hx
      have HXM := Lib.hid hxm
      have HXT := Lib.hid hxt
      have HXO := Lib.hid (show x.ok = true from (okL_iff v.kids).1 HMV.out.ok x hxm)
      have HXC := Lib.hid (show x.count ≤ 80 by have h1 := Tree.countL_mem v.kids x hxm; have h2 := HCV.out; have h3 := HVO.out.2; omega)
      have HN0 := Lib.hid (fun W (hb : Below w.heap.size w W) => (World.cell?_of_block (a := ⟨bn, on' + i, none⟩) (hb.block bn hnl)).trans n0w)
      have x0 := (World.cell?_of_block (a := ⟨bk, ok + i * 5, none⟩) (hbx.block bk hkl)).trans kk0
      have x1 := (World.cell?_of_block (a := ⟨bk, ok + i * 5 + 1, none⟩) (hbx.block bk hkl)).trans kk1
      have x2 := (World.cell?_of_block (a := ⟨bk, ok + i * 5 + 2, none⟩) (hbx.block bk hkl)).trans kk2
      have x3 := (World.cell?_of_block (a := ⟨bk, ok + i * 5 + 3, none⟩) (hbx.block bk hkl)).trans kk3
      have x4 := (World.cell?_of_block (a := ⟨bk, ok + i * 5 + 4, none⟩) (hbx.block bk hkl)).trans kk4
      have hbx2 := (Below.refl wr.heap.size wr).alloc (Nat.le_refl _) (.cells #[.int .i64 x.kind, .int .i64 x.num, .string x.text, .slice K1 x.names.length k1, .slice K2 x.kids.length k2] 44 (0, 0))
      have HKX := Lib.hid (heap_alloc_new wr (.cells #[.int .i64 x.kind, .int .i64 x.num, .string x.text, .slice K1 x.names.length k1, .slice K2 x.kids.length k2] 44 (0, 0)))
      have HI3 := Lib.hid (HI.out.below hbx2)
      have hln : i < v.names.length := by have := HL.out; omega
      clear hs hx hxm hsm hxt n0w kk0 kk1 kk2 kk3 kk4 hrk hbx2
      by_cases hn : x.kind = 1
      · have HDN := Lib.hid (HD.out.skip HX.out hn)
        have hxb : (x.kind == 1) = true := by simpa using hn
        clear hn HKX HI HD
        go_wp2
        go_roundw
        case rel => exact ⟨i + 1, _, _, _, by go_num, by omega, HI3.out, HDN.out⟩
        case measure => simp [intOf]; omega
      · have HDN := Lib.hid (HD.out.more HMV.out.sorted HI.out.ok HX.out HS.out hn)
        have HNEW := Lib.hid (HD.out.fresh HMV.out.sorted HS.out)
        have HZO := Lib.hid (clean_ok x HXO.out).1
        have hxb : (x.kind != 1) = true := by simpa using hn
        have hsz3 := HI3.out.size
        have HMO := Lib.hid HI.out.ok
        clear hn HI hbx
        go_wp2
        generalize hw3 : wr.alloc (.cells #[.int .i64 x.kind, .int .i64 x.num, .string x.text, .slice K1 x.names.length k1, .slice K2 x.kids.length k2] 44 (0, 0)) = w3 at HI3 HKX hsz3 ⊢
        have hxa : w.heap.size + 3 ≤ wr.heap.size := hsz
        have hxw : wr.heap.size < w3.heap.size := lt_of_block HKX.out
        obtain ⟨xa, hxae⟩ : ∃ xa, xa = wr.heap.size := ⟨_, rfl⟩
        rw [← hxae] at HKX hxa hxw ⊢
        clear hxae hw3 hsz x0 x1 x2 x3 x4
        obtain ⟨D1, e1, D2, e2, rsO, eO, _⟩ := HI3.out.lt.open
        obtain rfl : ocs = [.int .i64 7, .int .i64 0, .string emptyB, .slice D1 on.length e1, .slice D2 ot.length e2] := eO
        have HDRW := Lib.hid (show Below w3.heap.size w3 w3.drew from (Below.refl _ _).drew)
        have HKEEP := Lib.hid (fun (W : World) (hb : Below w3.heap.size w3 W) => show W.cell? ⟨w.heap.size + 1 + 1, 0, none⟩ = some (.int .i64 7) ∧ W.cell? ⟨w.heap.size + 1 + 1, 1, none⟩ = some (.int .i64 0) ∧ W.cell? ⟨w.heap.size + 1 + 1, 2, none⟩ = some (.string emptyB) ∧ W.cell? ⟨w.heap.size + 1 + 1, 3, none⟩ = some (.slice D1 on.length e1) ∧ W.cell? ⟨w.heap.size + 1 + 1, 4, none⟩ = some (.slice D2 ot.length e2) ∧ W.cell? ⟨w.heap.size, 3, none⟩ = some (.slice (some ⟨bn, on', none⟩) v.names.length c1) ∧ W.cell? ⟨bn, on' + i, none⟩ = some (.string s) ∧ W.cell? ⟨xa, 0, none⟩ = some (.int .i64 x.kind) ∧ W.cell? ⟨xa, 1, none⟩ = some (.int .i64 x.num) ∧ W.cell? ⟨xa, 2, none⟩ = some (.string x.text) ∧ W.cell? ⟨xa, 3, none⟩ = some (.slice K1 x.names.length k1) ∧ W.cell? ⟨xa, 4, none⟩ = some (.slice K2 x.kids.length k2) from
          have ho := (HI3.out.below hb).cell
          have hv' := (HI3.out.below hb).vb
          have hx' := block_below HKX.out hb
          ⟨cell_of_block ho 0, cell_of_block ho 1, cell_of_block ho 2, cell_of_block ho 3, cell_of_block ho 4, cell_of_block hv' 3, HN0.out W (HI3.out.below hb).bel, cell_of_block hx' 0, cell_of_block hx' 1, cell_of_block hx' 2, cell_of_block hx' 3, cell_of_block hx' 4⟩)
        have HDF := Lib.hid (fun W (hb : Below w.heap.size w W) => HIH.out x HXM.out HXO.out HXC.out (fun b => F b ∧ b < w.heap.size) _ W (HXT.out.frame (Agree.of_below hb) (fun b h h' => ⟨h, h'⟩)))
        have HPU := Lib.hid (fun (W : World) (zc : List Value) (N : Nat) (hb : Below w3.heap.size w3 W) (hN : w.heap.size + 3 ≤ N) (hz : LtAt (Nw (fun b => F b ∧ b < w.heap.size) N) W zc x.clean) => sPut_any (.mk 7 0 emptyB on ot) s x.clean rfl HMO.out HNEW.out HOL.out (Ny3 F w.heap.size) _ zc W (HI3.out.lt.below hb) (hz.frame (Agree.refl _ _) (fun b h _ => by
          rcases h with h | h
          · exact .inl h.1
          · exact .inr (by omega))))
        refine till_region 9 (fun W => W.cell? ⟨w.heap.size + 1 + 1, 0, none⟩ = some (.int .i64 7) ∧ W.cell? ⟨w.heap.size + 1 + 1, 1, none⟩ = some (.int .i64 0) ∧ W.cell? ⟨w.heap.size + 1 + 1, 2, none⟩ = some (.string emptyB) ∧ W.cell? ⟨w.heap.size + 1 + 1, 3, none⟩ = some (.slice D1 on.length e1) ∧ W.cell? ⟨w.heap.size + 1 + 1, 4, none⟩ = some (.slice D2 ot.length e2) ∧ W.cell? ⟨w.heap.size, 3, none⟩ = some (.slice (some ⟨bn, on', none⟩) v.names.length c1) ∧ W.cell? ⟨bn, on' + i, none⟩ = some (.string s) ∧ W.cell? ⟨xa, 0, none⟩ = some (.int .i64 x.kind) ∧ W.cell? ⟨xa, 1, none⟩ = some (.int .i64 x.num) ∧ W.cell? ⟨xa, 2, none⟩ = some (.string x.text) ∧ W.cell? ⟨xa, 3, none⟩ = some (.slice K1 x.names.length k1) ∧ W.cell? ⟨xa, 4, none⟩ = some (.slice K2 x.kids.length k2)) (by kernel_rfl) ?_ (fun hHeld => ?_)
        · exact HKEEP.out _ HDRW.out
        (refine Till.load (i := 0) (u := ?_) rfl (by kernel_rfl) (by kernel_rfl) (by kernel_rfl) (by kernel_rfl) (by kernel_rfl) (fun _ _ _ h => h) (Or.inl ⟨by rfl, ?_⟩) hHeld ?_; rotate_left 1; (focus (intro w hSw; (try dsimp only at hSw); go_split_ands; go_simp; try (with_reducible rfl))); change Till _ _ _ _ _ _ _ _ (Act.put _ (some 22) _) _; simp only [Act.put, List.setIfInBounds_toArray, List.set_cons_zero, List.set_cons_succ])
        (refine Till.pure (i := 1) (u := ?_) rfl (by kernel_rfl) (by kernel_rfl) (by kernel_rfl) (by decide) (fun _ _ _ h => h) (Or.inl ⟨by rfl, ?_⟩) (fun _ => hHeld) ?_; rotate_left 1; (focus (intro w _; go_simp; try (with_reducible rfl))); change Till _ _ _ _ _ _ _ _ (Act.put _ (some 23) _) _; simp only [Act.put, List.setIfInBounds_toArray, List.set_cons_zero, List.set_cons_succ])
        (refine Till.load (i := 2) (u := ?_) rfl (by kernel_rfl) (by kernel_rfl) (by kernel_rfl) (by kernel_rfl) (by kernel_rfl) (fun _ _ _ h => h) (Or.inl ⟨by rfl, ?_⟩) hHeld ?_; rotate_left 1; (focus (intro w hSw; (try dsimp only at hSw); go_split_ands; go_simp; try (with_reducible rfl))); change Till _ _ _ _ _ _ _ _ (Act.put _ (some 24) _) _; simp only [Act.put, List.setIfInBounds_toArray, List.set_cons_zero, List.set_cons_succ])
        (refine Till.pure (i := 3) (u := ?_) rfl (by kernel_rfl) (by kernel_rfl) (by kernel_rfl) (by decide) (fun _ _ _ h => h) (Or.inl ⟨by rfl, ?_⟩) (fun _ => hHeld) ?_; rotate_left 1; (focus (intro w _; go_simp; try (with_reducible rfl))); change Till _ _ _ _ _ _ _ _ (Act.put _ (some 25) _) _; simp only [Act.put, List.setIfInBounds_toArray, List.set_cons_zero, List.set_cons_succ])
        (refine Till.pure (i := 4) (u := ?_) rfl (by kernel_rfl) (by kernel_rfl) (by kernel_rfl) (by decide) (fun _ _ _ h => h) (Or.inl ⟨by rfl, ?_⟩) (fun _ => hHeld) ?_; rotate_left 1; (focus (intro w _; go_simp; try (with_reducible rfl))); change Till _ _ _ _ _ _ _ _ (Act.put _ (some 26) _) _; simp only [Act.put, List.setIfInBounds_toArray, List.set_cons_zero, List.set_cons_succ])
        (refine Till.load (i := 5) (u := ?_) rfl (by kernel_rfl) (by kernel_rfl) (by kernel_rfl) (by kernel_rfl) (by kernel_rfl) (fun _ _ _ h => h) (Or.inl ⟨by rfl, ?_⟩) hHeld ?_; rotate_left 1; (focus (intro w hSw; (try dsimp only at hSw); go_split_ands; go_simp; try (with_reducible rfl))); change Till _ _ _ _ _ _ _ _ (Act.put _ (some 27) _) _; simp only [Act.put, List.setIfInBounds_toArray, List.set_cons_zero, List.set_cons_succ])
        (refine Till.load (i := 6) (u := ?_) rfl (by kernel_rfl) (by kernel_rfl) (by kernel_rfl) (by kernel_rfl) (by kernel_rfl) (fun _ _ _ h => h) (Or.inl ⟨by rfl, ?_⟩) hHeld ?_; rotate_left 1; (focus (intro w hSw; (try dsimp only at hSw); go_split_ands; go_simp; try (with_reducible rfl))); change Till _ _ _ _ _ _ _ _ (Act.put _ (some 28) _) _; simp only [Act.put, List.setIfInBounds_toArray, List.set_cons_zero, List.set_cons_succ])
        (refine Till.one (i := 7) (by kernel_rfl) rfl (fun K hK => ?_))
        go_simp
        refine (HDF.out _ (HI3.out.below HDRW.out).bel).mono ?_
        rintro e w5 ⟨cs5, rfl, hb5, hz5⟩
        obtain ⟨G1, h1, G2, h2, rs5, e5, _⟩ := hz5.open
        obtain rfl : cs5 = [.int .i64 x.clean.kind, .int .i64 x.clean.num, .string x.clean.text, .slice G1 x.clean.names.length h1, .slice G2 x.clean.kids.length h2] := e5
        have HB5 := Lib.hid (below_then HDRW.out (Nat.le_refl _) hb5)
        have HP := Lib.hid (HPU.out w5 _ w3.drew.heap.size HB5.out hsz3 hz5)
        clear hb5 hz5
        go_simp
        refine hK.out _ _ (HKEEP.out _ HB5.out) (fun hHeld => ?_)
        clear hK K
        (refine Till.one (i := 8) (by kernel_rfl) rfl (fun K hK => ?_))
        go_simp
        refine HP.out.mono ?_
        rintro e w6 ⟨cs6, rfl, hb6, hz6⟩
        obtain ⟨M1, m1, M2, m2, rs6, e6, _⟩ := hz6.open
        obtain rfl : cs6 = [.int .i64 7, .int .i64 0, .string emptyB, .slice M1 (ins (insPos on s) s on).length m1, .slice M2 (ins (insPos on s) x.clean ot).length m2] := e6
        have HB6 := Lib.hid (below_then HB5.out HB5.out.size hb6)
        have HNEXT := Lib.hid (HI3.out.put HNEW.out HSOK.out HZO.out HB6.out (Nat.le_trans hsz3 HB5.out.size) hz6)
        have HC6 := Lib.hid (block_below HI3.out.cell HB6.out)
        clear hb6 hz6
        go_simp
        refine hK.out _ _ (HKEEP.out _ HB6.out) (fun hHeld => ?_)
        clear hK K
        have p0 := cell_of_block HC6.out 0
        have p1 := cell_of_block HC6.out 1
        have p2 := cell_of_block HC6.out 2
        have p3 := cell_of_block HC6.out 3
        have p4 := cell_of_block HC6.out 4
        simp at p0 p1 p2 p3 p4
        have f0 := free_of_block HC6.out 0
        have f1 := free_of_block HC6.out 1
        have f2 := free_of_block HC6.out 2
        have f3 := free_of_block HC6.out 3
        have f4 := free_of_block HC6.out 4
        (refine Till.last (by kernel_rfl) rfl (by kernel_rfl) (fun K hK => ?_))
        go_simp
        refine hK.out _ _ ?_
        clear hK K
        refine wpAny_done (by kernel_rfl) ?_ _
        go_wp2
        go_roundw
        case rel => exact ⟨i + 1, _, _, _, by go_num, by omega, HNEXT.out, HDN.out⟩
        case measure => simp [intOf]; omega
    · obtain rfl : i = v.kids.length := by omega
      have HE := Lib.hid (HD.out.eq.done (Nat.le_refl _) HVK.out)
      obtain ⟨D1, e1, D2, e2, rsO, eO, _⟩ := HI.out.lt.open
      obtain rfl : ocs = [.int .i64 7, .int .i64 0, .string emptyB, .slice D1 on.length e1, .slice D2 ot.length e2] := eO
      have p0 := cell_of_block HI.out.cell 0
      have p1 := cell_of_block HI.out.cell 1
      have p2 := cell_of_block HI.out.cell 2
      have p3 := cell_of_block HI.out.cell 3
      have p4 := cell_of_block HI.out.cell 4
      have r0 := cell_of_block HI.out.rb 0
      have r1 := cell_of_block HI.out.rb 1
      have r2 := cell_of_block HI.out.rb 2
      have r3 := cell_of_block HI.out.rb 3
      have r4 := cell_of_block HI.out.rb 4
      have f0 := free_of_block HI.out.rb 0
      have f1 := free_of_block HI.out.rb 1
      have f2 := free_of_block HI.out.rb 2
      have f3 := free_of_block HI.out.rb 3
      have f4 := free_of_block HI.out.rb 4
      simp at p0 p1 p2 p3 p4 r0 r1 r2 r3 r4
      clear hbx
      go_wp2
      refine bodyPost_ret (results_cell_row rfl _ _ (w.heap.size + 1) _ _ _ _ rfl (block_setCell (block_setCell (block_setCell (block_setCell (block_setCell HI.out.rb _ _) _ _) _ _) _ _) _ _) Tryz.underlying44 rfl ((info_size infoL1V).trans (by simp))) rfl ?_
      have hB := below_set5 HI.out.bel (show w.heap.size ≤ w.heap.size + 1 by omega) (.int .i64 7) (.int .i64 0) (.string emptyB) (.slice D1 on.length e1) (.slice D2 ot.length e2)
      refine ⟨[.int .i64 7, .int .i64 0, .string emptyB, .slice D1 on.length e1, .slice D2 ot.length e2], rfl, hB, ?_⟩
      rw [HE.out]
      have hne : ∀ c, Ny3 F w.heap.size c → c ≠ w.heap.size + 1 := fun c h => by
        rcases h with h | h <;> omega
      refine HI.out.lt.frame ((((((Agree.refl _ wr).set hne 0 _).set hne 1 _).set hne 2 _).set hne 3 _).set hne 4 _) (fun b h _ => ?_)
      rcases h with h | h
      · exact .inl h
      · exact .inr (by omega)
/-- What CleanOf tells. -/
def CoRes (l l' : List Nd) (f : Bool) : Prop := (f = true ∧ ∃ t, IsGood l t ∧ l' = t.clean.flat emptyB (-1) 0) ∨ (f = false ∧ l' = [] ∧ ∀ t, ¬ IsGood l t)
def CoPost (l : List Nd) (w : World) (e : Ending) (w' : World) : Prop := ∃ l' v f, e = .returned (.tuple #[.agg #[v], .bool f]) ∧ CoRes l l' f ∧ NdOwn l' w v w'
theorem CoRes.one {l l1 l2 : List Nd} {f1 f2 : Bool} (h : CoRes l l1 f1) (h' : CoRes l l2 f2) : l1 = l2 ∧ f1 = f2 := by
  rcases h with ⟨rfl, t, h1, rfl⟩ | ⟨rfl, rfl, h1⟩
  · rcases h' with ⟨rfl, t', g1, rfl⟩ | ⟨rfl, rfl, g1⟩
    · rw [isGood_one h1 g1]
      exact ⟨rfl, rfl⟩
    · exact absurd h1 (g1 _)
  · rcases h' with ⟨rfl, t', g1, rfl⟩ | ⟨rfl, rfl, g1⟩
    · exact absurd g1 (h1 _)
    · exact ⟨rfl, rfl⟩
set_option maxRecDepth 100000 in
set_option maxHeartbeats 4000000 in
theorem sCleanOfV_any (l : List Nd) (hl : l.length ≤ 1000000000) (hsz : SzNd l) (F : Nat → Prop) (A : Option Addr) (c : Nat) (w : World) (hr : Rds F w A (ndCells l)) :
    Calls Tryz.prog 14 #[.agg #[.slice A l.length c]] w (CoPost l w) := by
  have HG := Lib.hid (fun W (hb : Below w.heap.size w W) => sGoodValue_any l hl hsz F A c W (hr.frame (Agree.of_below hb)))
  have HR := Lib.hid (fun W (hb : Below w.heap.size w W) => hr.frame (w1 := W) (Agree.of_below hb))
  obtain ⟨w1, hw⟩ : ∃ w1, w1 = (w.alloc (.cells #[.slice A l.length c] 25 (0, 0))).alloc (.cells #[.slice none 0 0] 25 (0, 0)) := ⟨_, rfl⟩
  have hb1 : Below w.heap.size w w1 := by rw [hw]; exact ((Below.refl _ _).alloc (Nat.le_refl _) _).alloc (by simp) _
  have kv : w1.heap[w.heap.size]? = some (.cells #[.slice A l.length c] 25 (0, 0)) := by rw [hw]; (repeat (first | with_reducible assumption | (with_reducible refine blk_new _ ?_; (first | rfl | (simp; done) | (simp; omega))) | with_reducible apply block_setCell | (with_reducible refine blk_skip _ _ ?_ ?_; rotate_left; (first | (simp; done) | (simp; omega))) | with_reducible refine blk_old ?_))
  have kr : w1.heap[w.heap.size + 1]? = some (.cells #[.slice none 0 0] 25 (0, 0)) := by rw [hw]; (repeat (first | with_reducible assumption | (with_reducible refine blk_new _ ?_; (first | rfl | (simp; done) | (simp; omega))) | with_reducible apply block_setCell | (with_reducible refine blk_skip _ _ ?_ ?_; rotate_left; (first | (simp; done) | (simp; omega))) | with_reducible refine blk_old ?_))
  have hs1 : w1.heap.size = w.heap.size + 2 := by rw [hw]; simp
  have HW := Lib.hid hw
  have HB1 := Lib.hid hb1
  have HK := Lib.hid kv
  have HKR := Lib.hid kr
  clear hr hsz hb1 hw kv kr
  go_enter Tryz.func14, Tryz.ntmps14
  go_wp2_with fail
  rw [← HW.out]
  clear HW
  refine (HG.out w1 HB1.out).mono ?_
  rintro e w2 ⟨hb2, g, rfl, hg⟩
  have HB2 := Lib.hid (below_then HB1.out HB1.out.size hb2)
  have HK2 := Lib.hid (block_below HK.out hb2)
  have HKR2 := Lib.hid (block_below HKR.out hb2)
  have hs2 := hb2.size
  clear hb2 HK HKR
  cases g
  · have HN := Lib.hid (show ∀ t, ¬ IsGood l t from fun t h => by have := hg.2 ⟨t, h⟩; cases this)
    have r0 := cell_of_block HKR2.out 0
    have f0 := free_of_block HKR2.out 0
    simp at r0
    clear hg
    go_wp2
    refine bodyPost_ret (results_row_one rfl _ _ (w.heap.size + 1) _ _ _ _ rfl (block_setCell HKR2.out _ _) Tryz.underlying25 rfl ((info_size infoValue).trans (by simp))) rfl ?_
    exact ⟨[], _, false, rfl, .inr ⟨rfl, rfl, HN.out⟩, NdOwn.nil (HB2.out.setCell (p := ⟨w.heap.size + 1, 0, none⟩) (by show w.heap.size ≤ w.heap.size + 1; omega) _)⟩
  · obtain ⟨t, ht⟩ := hg.1 rfl
    have HTT := Lib.hid ht
    obtain ⟨n1, n2⟩ := ht.count
    have HT := Lib.hid (sTree_any t ht.2.1 l (by omega) 0 (Sub.of_flat ht.1) F A c w2 (HR.out w2 HB2.out))
    have y0 := cell_of_block HK2.out 0
    simp at y0
    obtain ⟨hco, hcc⟩ := clean_ok t ht.2.1
    have HOF := Lib.hid (fun (W : World) (F : Nat → Prop) (cs : List Value) (h : LtAt F W cs t.clean) => sOf_any t.clean (Tree.ok_shaped t.clean hco) (by omega) F cs W h)
    have HCF := Lib.hid (fun (W : World) (F : Nat → Prop) (cs : List Value) (h : LtAt F W cs t) => sCleanOf_any t ht.2.1 n2 F cs W h)
    clear hg ht n1 hco hcc
    go_wp2_with fail
    refine HT.out.mono ?_
    rintro e w3 ⟨cs, rfl, hb3, hlt⟩
    have HB3 := Lib.hid (below_then HB2.out HB2.out.size hb3)
    have HKR3 := Lib.hid (block_below HKR2.out hb3)
    have HC := Lib.hid (HCF.out w3 _ cs hlt)
    have hs3 := hb3.size
    clear hb3 hlt HT HCF HKR2
    go_wp2_with fail
    refine HC.out.mono ?_
    rintro e w4 ⟨cs4, rfl, hb4, hlt4⟩
    have HB4 := Lib.hid (below_then HB3.out HB3.out.size hb4)
    have HKR4 := Lib.hid (block_below HKR3.out hb4)
    have HC4 := Lib.hid (HOF.out w4 _ cs4 hlt4)
    have hs4 := hb4.size
    clear hb4 HC hlt4 HOF HKR3
    go_wp2_with fail
    refine HC4.out.mono ?_
    rintro e w5 ⟨u, rfl, hown⟩
    obtain ⟨A5, c5, rfl⟩ := hown.shape
    have HKR5 := Lib.hid (block_below HKR4.out hown.1)
    have r0 := cell_of_block HKR5.out 0
    have f0 := free_of_block HKR5.out 0
    simp at r0
    have HO := Lib.hid hown
    clear hown HC4 HKR4
    go_wp2
    refine bodyPost_ret (results_row_one rfl _ _ (w.heap.size + 1) _ _ _ _ rfl (block_setCell HKR5.out _ _) Tryz.underlying25 rfl ((info_size infoValue).trans (by simp))) rfl ?_
    exact ⟨_, _, true, rfl, .inl ⟨rfl, t, HTT.out, rfl⟩, NdOwn.cell HB4.out HO.out (by omega) (by omega) _⟩
end Go.Proofs.YteeppdobeeodiaaGreatDoor
