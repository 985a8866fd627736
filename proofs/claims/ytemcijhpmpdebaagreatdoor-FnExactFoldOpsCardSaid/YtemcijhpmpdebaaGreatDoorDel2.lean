/- slices.Delete of one stored document. -/
import Derived.Test.YtemcijhpmpdebaaGreatDoorIns2
import Derived.Deep.RegionLaw
namespace Go.Proofs.YtemcijhpmpdebaaGreatDoor
open Go.Shelf Go.RowKit Go.Lib
/-- A block behind a row of stores. -/
theorem setCells_blk (g : Nat) (T : TypeId) : ∀ (vs : List Value) (o : Nat) (w : World) (cur : Array Value), w.heap[g]? = some (.cells cur T (0, 0)) → o + vs.length ≤ cur.size →
    (w.setCells g o vs).heap[g]? = some (.cells (cur.toList.take o ++ vs ++ cur.toList.drop (o + vs.length)).toArray T (0, 0)) ∧ w.grownBy (w.setCells g o vs) (some g) ∧ (w.setCells g o vs).heap.size = w.heap.size
  | [], o, w, cur, hg, _ => by
    rw [World.setCells]
    refine ⟨by simpa using hg, ⟨rfl, rfl, rfl, Nat.le_refl _, fun _ _ _ => rfl⟩, rfl⟩
  | v :: r, o, w, cur, hg, hl => by
    rw [World.setCells]
    simp only [List.length_cons] at hl
    obtain ⟨h1, h2, h3⟩ := setCells_blk g T r (o + 1) (w.setCell ⟨g, o, none⟩ v) _ (block_setCell hg o v) (by simp; omega)
    have hs : (w.setCell ⟨g, o, none⟩ v).heap.size = w.heap.size := by simp [World.setCell]
    refine ⟨?_, ⟨h2.os, h2.tape, h2.output, by rw [h3, hs]; exact Nat.le_refl _, fun k hk hne => ?_⟩, h3.trans hs⟩
    · have e := list_seg_step cur.toList o v r (by simp; omega)
      rw [h1, Array.toList_setIfInBounds, List.length_cons, e]
    · rw [h2.block k (by rw [hs]; exact hk) hne]
      exact Below.heap_setCell w _ _ k (fun e => hne (by rw [e]))
/-- clear at one struct. -/
theorem run_clear_one {P : Program} (w : World) (t e ty : TypeId) (z : Value) (zs : List Value) (ht : P.underlying t = some (.slice e)) (hv : ∀ w, (zeroValue e).run P w = .ok z w) (hz : (Builtin.zeroCells z.cells 1).toList = zs) (h1 : ∀ v ∈ zs, v.oneCell' = true) (g o c : Nat) (cur : Array Value) (T : TypeId)
    (hg : w.heap[g]? = some (.cells cur T (0, 0))) (hfit : o + zs.length ≤ cur.size) :
    (Builtin.clear_ #[t] ty #[.slice (some ⟨g, o, none⟩) 1 c]).run P w = .ok (.tuple #[]) (w.setRow g (cur.toList.take o ++ zs ++ cur.toList.drop (o + zs.length)).toArray) := by
  have hst := run_storeCells_at P g o T zs 0 cur w hg (by simpa using hfit) h1
  simp [Builtin.clear_, run_underlying ht, hv, hz, hst]
def DelNPost (base : Nat) (E : TypeId) (z : Nat) (xs : List Value) (i n : Nat) (A : Option Addr) (c : Nat) (w : World) (en : Ending) (w' : World) : Prop :=
  en = .returned (.slice A (n - 1) c) ∧ w'.ownsRow base E z (.slice A (n - 1) c) (n - 1) (xs.take (i * z) ++ xs.drop ((i + 1) * z)) ∧ w.grownBy w' (Value.slice A n c).ownBlock
/-- The row behind the append in place, and behind the clearing. -/
def delA (cur : Array Value) (xs : List Value) (i z : Nat) : Array Value := (cur.toList.take (i * z) ++ xs.drop ((i + 1) * z) ++ cur.toList.drop (i * z + (xs.drop ((i + 1) * z)).length)).toArray
def clrA (cur : Array Value) (k : Nat) (zs : List Value) : Array Value := (cur.toList.take k ++ zs ++ cur.toList.drop (k + zs.length)).toArray
theorem del_fin {w : World} {base g n c i z : Nat} {E : TypeId} {xs zs : List Value} {cur : Array Value} (hb : base ≤ g) (hh : w.heap[g]? = some (.cells cur E (0, 0))) (hcs : cur.size = c * z) (htk : cur.toList.take (n * z) = xs) (hxl : xs.length = n * z) (hi : i < n) (hnc : n ≤ c) (hcm : c ≤ maxLen) (hz : zs.length = z) :
    (w.drew.setCells g (i * z) (xs.drop ((i + 1) * z))).heap[g]? = some (.cells (delA cur xs i z) E (0, 0)) ∧ (delA cur xs i z).size = c * z ∧ DelNPost base E z xs i n (some ⟨g, 0, none⟩) c w (.returned (.slice (some ⟨g, 0, none⟩) (n - 1) c)) ((w.drew.setCells g (i * z) (xs.drop ((i + 1) * z))).setRow g (clrA (delA cur xs i z) ((n - 1) * z) zs)) := by
  have m1 : (i + 1) * z = i * z + z := Nat.succ_mul i z
  have m2 : n * z = (n - 1) * z + z := by rw [← Nat.succ_mul]; congr 1; omega
  have m3 : (i + 1) * z ≤ n * z := Nat.mul_le_mul_right z hi
  have m4 : n * z ≤ c * z := Nat.mul_le_mul_right z hnc
  have hnl : (xs.drop ((i + 1) * z)).length = n * z - (i + 1) * z := by rw [List.length_drop, hxl]
  have hcl : cur.toList.length = c * z := by simpa using hcs
  obtain ⟨k1, k2, k3⟩ := setCells_blk g E (xs.drop ((i + 1) * z)) (i * z) w.drew cur hh (by rw [hnl]; omega)
  have hsz : (delA cur xs i z).size = c * z := by
    simp only [delA, List.size_toArray, List.length_append, List.length_take, List.length_drop, hxl, hcl]
    omega
  have hpre : (delA cur xs i z).toList.take ((n - 1) * z) = xs.take (i * z) ++ xs.drop ((i + 1) * z) := by
    have e1 : cur.toList.take (i * z) = xs.take (i * z) := by rw [← htk, List.take_take, Nat.min_eq_left (by omega)]
    unfold delA
    rw [show (cur.toList.take (i * z) ++ xs.drop ((i + 1) * z) ++ cur.toList.drop (i * z + (xs.drop ((i + 1) * z)).length)).toArray.toList = cur.toList.take (i * z) ++ xs.drop ((i + 1) * z) ++ cur.toList.drop (i * z + (xs.drop ((i + 1) * z)).length) from rfl, e1]
    exact List.take_left' (by rw [List.length_append, List.length_take, hnl, hxl]; omega)
  have hpl : (xs.take (i * z) ++ xs.drop ((i + 1) * z)).length = (n - 1) * z := by rw [List.length_append, List.length_take, hnl, hxl]; omega
  have hdl : (delA cur xs i z).toList.length = c * z := by simpa using hsz
  refine ⟨k1, hsz, rfl, ?_, ⟨k2.os, k2.tape, k2.output, by rw [size_setRow, k3]; exact Nat.le_refl _, fun k hk hne => ?_⟩⟩
  · refine ⟨hpl, .inr ⟨g, c, _, rfl, hb, setRow_heap _ g _ _ E (0, 0) k1, by omega, hcm, ?_, ?_⟩⟩
    · simp only [clrA, List.size_toArray, List.length_append, List.length_take, List.length_drop, hdl, hz]
      omega
    · unfold clrA
      rw [hpre]
      show ((xs.take (i * z) ++ xs.drop ((i + 1) * z)) ++ zs ++ (delA cur xs i z).toList.drop ((n - 1) * z + zs.length)).take ((n - 1) * z) = _
      rw [List.append_assoc]
      exact List.take_left' hpl
  · have hkg : k ≠ g := fun e => hne (by rw [e]; rfl)
    rw [setRow_other _ g k _ hkg]
    exact k2.block k hk (fun e => hkg (Option.some.inj e))
set_option maxHeartbeats 4000000 in
set_option maxRecDepth 100000 in
theorem delSt_any (base : Nat) (xs : List Value) (n c i : Nat) (A : Option Addr) (w : World) (hi : i < n) (_hn6 : n ≤ 1000000) (ho : w.ownsRow base 94 2 (.slice A n c) n xs) (h1c : ∀ v ∈ xs, v.oneCell' = true) :
    Calls Tryz.prog 104 #[.slice A n c, .int .i64 (i : Int), .int .i64 ((i : Int) + 1)] w (DelNPost base 94 2 xs i n A c w) := by
  obtain ⟨i0, hi0, hz⟩ := Option.map_eq_some_iff.1 infoStored
  simp only [Prod.mk.injEq] at hz
  obtain ⟨hz0, hzs, hzb⟩ := hz
  have hxl : xs.length = n * 2 := ho.1
  rcases ho.2 with ⟨_, h0⟩ | ⟨g, cap, cur, e, hb, hh, hnc, hcm, hcs, htk⟩
  · omega
  injection e with e1 _ e3
  subst e1 e3
  have hcx : ∀ j v, xs[j]? = some v → w.cell? ⟨g, j, none⟩ = some v := fun j v hj => by
    rw [cell_of_block hh]
    rw [← htk, List.getElem?_take] at hj
    split at hj
    · simpa using hj
    · cases hj
  have hnl : (xs.drop ((i + 1) * 2)).length = (n - (i + 1)) * 2 := by rw [List.length_drop, hxl]; omega
  have hnews : ∀ j u, (xs.drop ((i + 1) * 2))[j]? = some u → w.drew.cell? ((⟨g, (i + 1) * 2, none⟩ : Addr).add j) = some u := fun j u hj => by
    rw [Addr.add_lit]
    rw [List.getElem?_drop] at hj
    exact hcx _ u hj
  have hspare : ∀ j, j < (xs.drop ((i + 1) * 2)).length → (w.drew.cell? ⟨g, 0 + i * 2 + j, none⟩).isSome = true ∧ w.drew.frozen? ⟨g, 0 + i * 2 + j, none⟩ = false := fun j hj => by
    rw [hnl] at hj
    refine ⟨?_, free_of_block (w := w.drew) hh _⟩
    rw [cell_of_block (w := w.drew) hh, Nat.zero_add]
    have : i * 2 + j < cur.size := by omega
    simp [this]
  have hzv : ∀ w, (zeroValue 94).run Tryz.prog w = .ok (.agg #[.int .i64 0, .slice none 0 0]) w := Tryz.zeroValue94
  obtain ⟨k1, k2, k3⟩ := del_fin (zs := [Value.int .i64 0, Value.slice none 0 0]) hb hh hcs htk hxl hi hnc hcm rfl
  have hcl : ∀ ty cc, (Builtin.clear_ #[24] ty #[.slice (some ⟨g, (n - 1) * 2, none⟩) 1 cc]).run Tryz.prog (w.drew.setCells g (i * 2) (xs.drop ((i + 1) * 2))) = .ok (.tuple #[]) ((w.drew.setCells g (i * 2) (xs.drop ((i + 1) * 2))).setRow g (clrA (delA cur xs i 2) ((n - 1) * 2) [Value.int .i64 0, Value.slice none 0 0])) := fun ty cc =>
    run_clear_one _ 24 94 ty _ [Value.int .i64 0, Value.slice none 0 0] Tryz.underlying24 hzv (by kernel_rfl) (by simp [Value.oneCell']) g ((n - 1) * 2) cc _ 94 k1 (by rw [k2]; simp; omega)
  have hin : i + 1 ≤ n := hi
  have hz2 : ¬ ((i : Int) = (i : Int) + 1) := by omega
  have hb3 : (i : Int) ≤ (i : Int) + 1 := by omega
  have hb4 : ((i : Int) + 1 ≤ (n : Int)) := by omega
  have htn : ((i : Int) + 1).toNat = i + 1 := by omega
  have mixed : Tryz.prog.follows Departure.mixedOrders = true := by kernel_rfl
  have e1 : i + (n - (i + 1)) = n - 1 := by omega
  have e2 : n - (n - 1) = 1 := by omega
  have h1n : ∀ u ∈ xs.drop ((i + 1) * 2), u.oneCell' = true := fun u hu => h1c u (List.mem_of_mem_drop hu)
  have hic : i ≤ c := by omega
  have hin2 : i ≤ n := by omega
  have hic2 : i + 1 ≤ c := by omega
  have hi0' : (0 : Int) ≤ (i : Int) + 1 := by omega
  have hn1 : n - 1 ≤ n := by omega
  have hnc1 : n - 1 ≤ c := by omega
  have hne1 : ¬ (c = n - 1) := by omega
  have HP := Lib.hid k3
  clear k1 k2 k3 hcx
  go_enter Tryz.func104, Tryz.ntmps104
  go_wp2
  by_cases hce : c = i + 1
  · have hne : n - (i + 1) = 0 := by omega
    have hn1i : n - 1 = i := by omega
    have hnl0 : xs.drop ((i + 1) * 2) = [] := List.length_eq_zero_iff.1 (by rw [hnl, hne])
    rw [hn1i] at HP hcl e2
    rw [hnl0] at HP hcl
    go_region_law (refine step_append_room rfl (.tmp 22) (.tmp 25) 24 rfl 94 i0 2 Tryz.underlying24 hi0 hzs g 0 i (i + 1) (by simp [Act.eval, Act.put]) ⟨g, 0, none⟩ 0 0 [] (by simp [Act.eval, Act.put]) (by simp) (by intro j u hj; simp at hj) (by intro u hu; simp at hu) (by omega) (by intro j hj; simp at hj) ?_)
    go_wp2_with (simp only [hcl])
    go_ret
    have h := HP.out
    rw [show Value.slice (some ⟨g, 0, none⟩) i c = Value.slice (some ⟨g, 0, none⟩) i (i + 1) by rw [hce]] at h
    exact h
  · go_region_law (refine step_append_room rfl (.tmp 22) (.tmp 25) 24 rfl 94 i0 2 Tryz.underlying24 hi0 hzs g 0 i c (by simp [Act.eval, Act.put]) ⟨g, (i + 1) * 2, none⟩ (n - (i + 1)) (c - (i + 1)) (xs.drop ((i + 1) * 2)) (by simp [Act.eval, Act.put]) hnl hnews h1n (by omega) (by intro j hj; exact hspare j hj) ?_)
    go_wp2_with (simp only [hcl])
    go_ret
    exact HP.out
end Go.Proofs.YtemcijhpmpdebaaGreatDoor
