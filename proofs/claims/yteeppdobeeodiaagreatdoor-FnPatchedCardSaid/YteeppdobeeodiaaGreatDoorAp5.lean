/- slices.Delete of one element at names and at parts. (*val).without: a map without a part. (*val).patch: what the program makes of a value and a patch is what the plain words say. The program's ApplyPatch. -/
import Derived.Test.YteeppdobeeodiaaGreatDoorDf1
import Derived.Test.YteeppdobeeodiaaGreatDoorJn3
import Derived.Test.YteeppdobeeodiaaGreatDoorShelf
import Derived.Test.YteeppdobeeodiaaGreatDoorJn10
import Derived.Deep.RegionHeld3
namespace Go.Proofs.YteeppdobeeodiaaGreatDoor
open Go.RowKit
def DelPost (base : Nat) (E : TypeId) (xs : List Value) (i n : Nat) (A : Option Addr) (c : Nat) (w : World) (en : Ending) (w' : World) : Prop :=
  en = .returned (.slice A (n - 1) c) ∧ w'.ownsRow base E 1 (.slice A (n - 1) c) (n - 1) (del i xs) ∧ w.grownBy w' (Value.slice A n c).ownBlock
theorem del_map {α β : Type} (f : α → β) (i : Nat) (l : List α) : del i (l.map f) = (del i l).map f := by simp [del]
theorem del_row {α : Type} [Inhabited α] (enc : α → Value) {w : World} {base g n c i q : Nat} {E : TypeId} {d : List α} {zr : α} {cur : Array Value} (hb : base ≤ g) (hg : w.heap[g]? = some (.cells cur E (0, 0))) (hcs : cur.size = c) (hcm : c ≤ maxLen) (hnc : n ≤ c) (hn : d.length = n) (hi : i < n) :
    (Sort.putRow enc (Sort.ahead w q) g 0 (d.take i ++ d.drop (i + 1) ++ List.replicate 1 zr).toArray).ownsRow base E 1 (.slice (some ⟨g, 0, none⟩) (n - 1) c) (n - 1) (del i (d.map enc)) ∧ w.grownBy (Sort.putRow enc (Sort.ahead w q) g 0 (d.take i ++ d.drop (i + 1) ++ List.replicate 1 zr).toArray) (some g) := by
  have hdl := del_length i d (by omega)
  obtain ⟨D, hD⟩ : ∃ D, D = (d.take i ++ d.drop (i + 1) ++ List.replicate 1 zr).toArray := ⟨_, rfl⟩
  have hDs : D.size = n := by rw [hD]; simp; omega
  have hDl : D.toList = del i d ++ [zr] := by rw [hD]; rfl
  rw [← hD]
  have hh : (Sort.putRow enc (Sort.ahead w q) g 0 D).heap[g]? = some (.cells (Sort.putCells enc 0 D cur) E (0, 0)) := by simp [Sort.putRow, Sort.mapBlock, Sort.ahead, Array.getElem?_modify, hg, Sort.onCells]
  refine ⟨⟨?_, .inr ⟨g, c, _, rfl, hb, hh, by omega, hcm, by simp [Sort.putCells, hcs], ?_⟩⟩, ⟨rfl, rfl, rfl, by simp, fun k _ hk => ?_⟩⟩
  · rw [del_map, List.length_map]; omega
  · rw [Nat.mul_one, del_map]
    apply List.ext_getElem
    · simp [Sort.putCells, hcs]; omega
    · intro j h1 h2
      have hj : j < (del i d).length := by simpa using h2
      have hjD : j < D.size := by omega
      have e : D[j] = (del i d)[j] := by
        have : D.toList[j]'(by simpa using hjD) = (del i d)[j] := by simp only [hDl]; rw [List.getElem_append_left hj]
        simpa using this
      simp [Sort.putCells, hjD, e]
  · have hkg : g ≠ k := fun e => hk (by rw [e])
    simp [Sort.putRow, Sort.mapBlock, Sort.ahead, Array.getElem?_modify, hkg]
theorem mem_own {w : World} {base n c : Nat} {E : TypeId} {A : Option Addr} {xs : List Value} (ho : w.ownsRow base E 1 (.slice A n c) n xs) (hn : 0 < n) : ∃ g cur, A = some ⟨g, 0, none⟩ ∧ base ≤ g ∧ w.heap[g]? = some (.cells cur E (0, 0)) ∧ n ≤ c ∧ c ≤ maxLen ∧ cur.size = c ∧ cur.toList.take n = xs := by
  rcases ho.2 with ⟨_, h0⟩ | ⟨g, cap, cur, hv, hb, hh, h1, h2, h3, h4⟩
  · omega
  · injection hv with hA _ hc
    subst hA
    subst hc
    exact ⟨g, cur, rfl, hb, hh, h1, h2, by omega, by simpa using h4⟩
set_option maxRecDepth 100000 in
theorem delS_any (ns : List ByteArray) (base n c i : Nat) (A : Option Addr) (w : World) (hi : i < n) (hn : ns.length = n) (ho : w.ownsRow base 9 1 (.slice A n c) n (strs ns)) :
    Calls Tryz.prog 89 #[.slice A n c, .int .i64 (i : Int), .int .i64 ((i : Int) + 1)] w (DelPost base 9 (strs ns) i n A c w) := by
  obtain ⟨g, cur, rfl, hb, hg, h1, h2, h3, h4⟩ := mem_own ho (by omega)
  obtain ⟨i0, hi0, hz⟩ := Option.map_eq_some_iff.1 infoStr
  simp only [Prod.mk.injEq] at hz
  have hH : Sort.Holds Value.string w g 0 ns.toArray := fun j hj => by
    have hj' : j < ns.length := by simpa using hj
    refine ⟨?_, free_of_block hg _⟩
    rw [cell_of_block hg, Nat.zero_add]
    have e : (cur.toList.take n)[j]? = some (.string ns[j]) := by rw [h4]; simp [strs, hj']
    rw [List.getElem?_take, if_pos (by omega)] at e
    simpa [hj'] using e
  have hc := Tryz.slices_Delete Value.string (fun _ => rfl) (⟨#[]⟩ : ByteArray) Tryz.zeroValue9 i0 hi0 hz.2.1 g 0 c i (i + 1) ns.toArray w hH (by simpa [hn] using h1) (by simpa [maxLen] using h2) (by omega) (by simp; omega)
  have e1 : ns.toArray.size = n := by simpa using hn
  rw [e1] at hc
  refine (show Calls Tryz.prog 89 #[.slice (some ⟨g, 0, none⟩) n c, .int .i64 (i : Int), .int .i64 ((i : Int) + 1)] w _ from by simpa using hc).mono ?_
  rintro e w' ⟨rfl, q, rfl⟩
  obtain ⟨r1, r2⟩ := del_row Value.string (q := q) (zr := (⟨#[]⟩ : ByteArray)) hb hg h3 h2 h1 hn hi
  refine ⟨?_, ?_, ?_⟩
  · simp
  · simpa [strs] using r1
  · simpa [Value.ownBlock] using r2
set_option maxRecDepth 100000 in
theorem delP_any (ns : List (Option Addr)) (base n c i : Nat) (A : Option Addr) (w : World) (hi : i < n) (hn : ns.length = n) (ho : w.ownsRow base 36 1 (.slice A n c) n (ns.map Value.pointer)) :
    Calls Tryz.prog 88 #[.slice A n c, .int .i64 (i : Int), .int .i64 ((i : Int) + 1)] w (DelPost base 36 (ns.map Value.pointer) i n A c w) := by
  obtain ⟨g, cur, rfl, hb, hg, h1, h2, h3, h4⟩ := mem_own ho (by omega)
  obtain ⟨i0, hi0, hz⟩ := Option.map_eq_some_iff.1 infoPtr
  simp only [Prod.mk.injEq] at hz
  have hH : Sort.Holds Value.pointer w g 0 ns.toArray := fun j hj => by
    have hj' : j < ns.length := by simpa using hj
    refine ⟨?_, free_of_block hg _⟩
    rw [cell_of_block hg, Nat.zero_add]
    have e : (cur.toList.take n)[j]? = some (.pointer ns[j]) := by rw [h4]; simp [hj']
    rw [List.getElem?_take, if_pos (by omega)] at e
    simpa [hj'] using e
  have hc := Tryz.slices_DeleteP Value.pointer (fun _ => rfl) (none : Option Addr) Tryz.zeroValue36 i0 hi0 hz.2.1 g 0 c i (i + 1) ns.toArray w hH (by simpa [hn] using h1) (by simpa [maxLen] using h2) (by omega) (by simp; omega)
  have e1 : ns.toArray.size = n := by simpa using hn
  rw [e1] at hc
  refine (show Calls Tryz.prog 88 #[.slice (some ⟨g, 0, none⟩) n c, .int .i64 (i : Int), .int .i64 ((i : Int) + 1)] w _ from by simpa using hc).mono ?_
  rintro e w' ⟨rfl, q, rfl⟩
  obtain ⟨r1, r2⟩ := del_row Value.pointer (q := q) (zr := (none : Option Addr)) hb hg h3 h2 h1 hn hi
  refine ⟨?_, ?_, ?_⟩
  · simp
  · simpa using r1
  · simpa [Value.ownBlock] using r2
theorem TreesAt.ptrs {F : Nat → Prop} {w : World} : ∀ {ps : List Value} {ks : List Tree}, TreesAt F w ps ks → ∃ al : List (Option Addr), ps = al.map Value.pointer
  | [], [], _ => ⟨[], rfl⟩
  | p :: ps, k :: ks, h => by
    simp only [TreesAt] at h
    obtain ⟨b, _, _, _, _, _, rfl, _⟩ := h.1.open
    obtain ⟨al, rfl⟩ := TreesAt.ptrs h.2
    exact ⟨some ⟨b, 0, none⟩ :: al, rfl⟩
  | [], _ :: _, h => by simp [TreesAt] at h
  | _ :: _, [], h => by simp [TreesAt] at h
end Go.Proofs.YteeppdobeeodiaaGreatDoor
namespace Go.Proofs.YteeppdobeeodiaaGreatDoor
open Go.RowKit
theorem TreesAt.del {F : Nat → Prop} {w : World} {ps : List Value} {ks : List Tree} (h : TreesAt F w ps ks) (i : Nat) : TreesAt F w (del i ps) (del i ks) :=
  (h.split i).1.app (h.split (i + 1)).2
def WithoutPost (F : Nat → Prop) (t : Tree) (i : Nat) (w : World) (e : Ending) (w' : World) : Prop :=
  ∃ g A2 c2 ps, e = .returned (.pointer (some ⟨g, 0, none⟩)) ∧ Below w.heap.size w w' ∧ Made w.heap.size w' g t.kind t.num t.text (del i t.names) A2 c2 ps ∧ TreesAt (fun b => F b ∧ b < w.heap.size) w' ps (del i t.kids)
/-- What is known of the map behind the first deletion. -/
theorem without_mid {t : Tree} {F : Nat → Prop} {w w2 w3 : World} {g n i d1 d2 : Nat} {B1 B2 : Option Addr} {qs : List Value} (_hn : t.names.length = n) (_hq : qs.length = n) (hb2 : Below w.heap.size w w2) (hgb : w.heap.size ≤ g)
    (hkg : w2.heap[g]? = some (.cells #[.int .i64 t.kind, .int .i64 t.num, .string t.text, .slice B1 n d1, .slice B2 n d2] 69 (0, 0)))
    (ho1 : w2.ownsRow w.heap.size 9 1 (.slice B1 n d1) n (strs t.names)) (ho2 : w2.ownsRow w.heap.size 36 1 (.slice B2 n d2) n qs) (htr : TreesAt (fun b => F b ∧ b < w.heap.size) w2 qs t.kids)
    (hown : w3.ownsRow w.heap.size 36 1 (.slice B2 (n - 1) d2) (n - 1) (del i qs)) (hg : w2.grownBy w3 (Value.slice B2 n d2).ownBlock) :
    Below w.heap.size w (w3.setCell ⟨g, 4, none⟩ (.slice B2 (n - 1) d2)) ∧ w3.heap[g]? = some (.cells #[.int .i64 t.kind, .int .i64 t.num, .string t.text, .slice B1 n d1, .slice B2 n d2] 69 (0, 0)) ∧
      (w3.setCell ⟨g, 4, none⟩ (.slice B2 (n - 1) d2)).heap[g]? = some (.cells #[.int .i64 t.kind, .int .i64 t.num, .string t.text, .slice B1 n d1, .slice B2 (n - 1) d2] 69 (0, 0)) ∧
      (w3.setCell ⟨g, 4, none⟩ (.slice B2 (n - 1) d2)).ownsRow w.heap.size 9 1 (.slice B1 n d1) n (strs t.names) ∧ (w3.setCell ⟨g, 4, none⟩ (.slice B2 (n - 1) d2)).ownsRow w.heap.size 36 1 (.slice B2 (n - 1) d2) (n - 1) (del i qs) ∧
      TreesAt (fun b => F b ∧ b < w.heap.size) (w3.setCell ⟨g, 4, none⟩ (.slice B2 (n - 1) d2)) (del i qs) (del i t.kids) := by
  have hgl := lt_of_block hkg
  have n1 := own_not_at ho1 hkg (by decide)
  have n2 := own_not_at ho2 hkg (by decide)
  have hb3 : Below w.heap.size w w3 := hb2.grown hg hb2.size (fun k hk => (own_base ho2 k hk).1)
  have hk3 : w3.heap[g]? = some (.cells #[.int .i64 t.kind, .int .i64 t.num, .string t.text, .slice B1 n d1, .slice B2 n d2] 69 (0, 0)) := by
    rw [hg.block g hgl (fun e => n2 g e.symm rfl)]
    exact hkg
  have h1 : w3.ownsRow w.heap.size 9 1 (.slice B1 n d1) n (strs t.names) := ho1.kept hg (own_apart ho2 ho1 (by decide))
  have ha : ∀ G : Nat → Prop, (∀ c, G c → c ≠ g) → Agree G w3 (w3.setCell ⟨g, 4, none⟩ (.slice B2 (n - 1) d2)) := fun G hG => Agree.of_setCell _ _ _ hG
  have n2' := own_not_at hown hk3 (by decide)
  refine ⟨hb3.setCell hgb _, hk3, by rw [block_setCell hk3]; rfl, own_agree h1 (ha (fun c => c ≠ g) (fun _ h => h)) (fun k hk e => n1 k hk e.symm), own_agree hown (ha (fun c => c ≠ g) (fun _ h => h)) (fun k hk e => n2' k hk e.symm), ?_⟩
  have hs := hb2.size
  have hs3 := hg.size
  have htr3 : TreesAt (fun b => F b ∧ b < w.heap.size) w3 qs t.kids := htr.frame ⟨hs3, fun b h hb => by rw [hb3.block b h.2, hb2.block b h.2]⟩ (fun b h _ => h)
  exact (htr3.del i).frame (ha _ (fun c h e => by have := h.2; omega)) (fun b h _ => h)
theorem without_fin {t : Tree} {F : Nat → Prop} {w w4 w5 : World} {g n i d1 d2 : Nat} {B1 B2 : Option Addr} {qs : List Value} (hn : t.names.length = n) (hq : qs.length = n) (hi : i < n) (hb4 : Below w.heap.size w w4) (hgb : w.heap.size ≤ g)
    (hkg : w4.heap[g]? = some (.cells #[.int .i64 t.kind, .int .i64 t.num, .string t.text, .slice B1 n d1, .slice B2 (n - 1) d2] 69 (0, 0)))
    (ho1 : w4.ownsRow w.heap.size 9 1 (.slice B1 n d1) n (strs t.names)) (ho2 : w4.ownsRow w.heap.size 36 1 (.slice B2 (n - 1) d2) (n - 1) (del i qs)) (htr : TreesAt (fun b => F b ∧ b < w.heap.size) w4 (del i qs) (del i t.kids))
    (hown : w5.ownsRow w.heap.size 9 1 (.slice B1 (n - 1) d1) (n - 1) (del i (strs t.names))) (hg : w4.grownBy w5 (Value.slice B1 n d1).ownBlock) :
    w5.heap[g]? = some (.cells #[.int .i64 t.kind, .int .i64 t.num, .string t.text, .slice B1 n d1, .slice B2 (n - 1) d2] 69 (0, 0)) ∧ WithoutPost F t i w (.returned (.pointer (some ⟨g, 0, none⟩))) (w5.setCell ⟨g, 3, none⟩ (.slice B1 (n - 1) d1)) := by
  have hgl := lt_of_block hkg
  have n1 := own_not_at ho1 hkg (by decide)
  have n2 := own_not_at ho2 hkg (by decide)
  have hb5 : Below w.heap.size w w5 := hb4.grown hg hb4.size (fun k hk => (own_base ho1 k hk).1)
  have hk5 : w5.heap[g]? = some (.cells #[.int .i64 t.kind, .int .i64 t.num, .string t.text, .slice B1 n d1, .slice B2 (n - 1) d2] 69 (0, 0)) := by
    rw [hg.block g hgl (fun e => n1 g e.symm rfl)]
    exact hkg
  have h2 : w5.ownsRow w.heap.size 36 1 (.slice B2 (n - 1) d2) (n - 1) (del i qs) := ho2.kept hg (own_apart ho1 ho2 (by decide))
  have ha : ∀ G : Nat → Prop, (∀ c, G c → c ≠ g) → Agree G w5 (w5.setCell ⟨g, 3, none⟩ (.slice B1 (n - 1) d1)) := fun G hG => Agree.of_setCell _ _ _ hG
  have n1' := own_not_at hown hk5 (by decide)
  have l1 := del_length i t.names (by omega)
  have l2 := del_length i qs (by omega)
  have e1 : n - 1 = (del i t.names).length := by omega
  have e2 : n - 1 = (del i qs).length := by omega
  obtain ⟨A', c', e', hc1⟩ := own_slice hown
  injection e' with _ _ e3
  subst e3
  obtain ⟨A', c', e', hc2⟩ := own_slice h2
  injection e' with _ _ e3
  subst e3
  refine ⟨hk5, g, B2, d2, del i qs, rfl, hb5.setCell hgb _, ⟨B1, d1, hgb, by rw [block_setCell hk5, ← e1, ← e2]; rfl, by omega, by omega, ?_, ?_⟩, ?_⟩
  · rw [← e1, show strs (del i t.names) = del i (strs t.names) from by simp [strs, del]]
    exact own_agree hown (ha (fun c => c ≠ g) (fun _ h => h)) (fun k hk e => n1' k hk e.symm)
  · rw [← e2]
    exact own_agree h2 (ha (fun c => c ≠ g) (fun _ h => h)) (fun k hk e => n2 k hk e.symm)
  · have hs5 := hg.size
    have htr5 : TreesAt (fun b => F b ∧ b < w.heap.size) w5 (del i qs) (del i t.kids) := htr.frame ⟨hs5, fun b h hb => by rw [hb5.block b h.2, hb4.block b h.2]⟩ (fun b h _ => h)
    exact htr5.frame (ha _ (fun c h e => by have := h.2; omega)) (fun b h _ => h)
set_option maxRecDepth 100000 in
set_option maxHeartbeats 1600000 in
theorem without_any (t : Tree) (hk : t.kind = 7) (hlen : t.names.length = t.kids.length) (hl : t.names.length ≤ 1000000) (i : Nat) (hi : i < t.names.length) (F : Nat → Prop) (v : Value) (w : World) (ht : TreeAt F w v t) :
    Calls Tryz.prog 53 #[v, .int .i64 (i : Int)] w (WithoutPost F t i w) := by
  have HC := Lib.hid (clone_any t (by omega) (by omega) F v w ht)
  obtain ⟨b, A1, c1, A2, c2, ps, rfl, hF, hbl, h0, h1, h2, h3, g3, r3, h4, g4, r4, hts⟩ := ht.open
  rw [hk] at h0
  obtain ⟨n, hn⟩ : ∃ n, n = t.names.length := ⟨_, rfl⟩
  have HN := Lib.hid hn
  have HKN := Lib.hid (show t.kids.length = n by omega)
  have hin : i < n := by omega
  have hnl : n ≤ 1000000 := by omega
  clear r3 r4 hts ht h1 h2 h3 h4 hn hlen hl hi
  have HK := Lib.hid hk
  clear hk
  go_enter Tryz.func53, Tryz.ntmps53
  go_wp2_with fail
  refine HC.out.mono ?_
  rintro e w2 ⟨g, B2, d2, qs, rfl, hb2, hmade, htr⟩
  have h0' := (World.cell?_of_block (a := ⟨b, 0, none⟩) (hb2.block b hbl)).trans h0
  have hql : qs.length = n := by rw [htr.length]; exact HKN.out
  obtain ⟨B1, d1, hgb, hkg, hd1, hd2, ho1, ho2⟩ := hmade
  rw [hql] at hkg ho2
  rw [← HN.out] at hkg ho1
  obtain ⟨al, hal⟩ := htr.ptrs
  have HD := Lib.hid (show Calls Tryz.prog 88 #[.slice B2 n d2, .int .i64 (i : Int), .int .i64 ((i : Int) + 1)] w2 (DelPost w.heap.size 36 qs i n B2 d2 w2) from by
    rw [hal] at ho2 hql ⊢
    exact delP_any al w.heap.size n d2 i B2 w2 hin (by simpa using hql) ho2)
  have y4 := cell_of_block hkg 4
  simp at y4
  have HM := Lib.hid (fun w3 hown hg => without_mid (i := i) (w3 := w3) HN.out.symm hql hb2 hgb hkg ho1 ho2 htr hown hg)
  have HGB := Lib.hid (hb2.block b hbl)
  have HB0 := Lib.hid h0
  have HQL := Lib.hid hql
  have hin1 : (i : Int) + 1 ≤ 1000000 := by omega
  clear h0 hal htr ho1 ho2 hkg hd1 hd2 hb2 HC h0' hql
  go_wp2_with fail
  refine HD.out.mono ?_
  rintro e w3 ⟨rfl, hown, hgr⟩
  obtain ⟨hb4, hk3, hk4, ho1, ho2, htr⟩ := HM.out w3 hown hgr
  have y3 := cell_of_block hk4 3
  simp at y3
  have f3 := free_of_block hk3 4
  have c4 := cell_of_block hk3 4
  simp at c4
  have h0' := (World.cell?_of_block (a := ⟨b, 0, none⟩) (hb4.block b hbl)).trans HB0.out
  have HD2 := Lib.hid (delS_any t.names w.heap.size n d1 i B1 _ hin HN.out.symm ho1)
  have HF := Lib.hid (fun w5 hown hg => without_fin (w5 := w5) HN.out.symm HQL.out hin hb4 hgb hk4 ho1 ho2 htr hown hg)
  clear hown hgr hk3 hk4 ho1 ho2 htr hb4 HD HM y4
  go_wp2_with fail
  refine HD2.out.mono ?_
  rintro e w5 ⟨rfl, hown, hgr⟩
  obtain ⟨hk5, hfin⟩ := HF.out w5 hown hgr
  have f5 := free_of_block hk5 3
  have c5 := cell_of_block hk5 3
  simp at c5
  have HFIN := Lib.hid hfin
  clear hown hgr hk5 hfin HD2 HF y3 f3 c4 h0'
  go_wp2
  go_ret
  exact HFIN.out
end Go.Proofs.YteeppdobeeodiaaGreatDoor
namespace Go.Proofs.YteeppdobeeodiaaGreatDoor
open Go.RowKit
def PatchPost (F : Nat → Prop) (v p : Tree) (w : World) (e : Ending) (w' : World) : Prop :=
  ∃ rv, e = .returned rv ∧ Below w.heap.size w w' ∧ TreeAt (Fg F w.heap.size) w' rv (Tree.patch v p)
def PatchSpec (p : Tree) : Prop := p.ok = true → ∀ (v : Tree) (F : Nat → Prop) (vv pv : Value) (w : World), v.ok = true → v.count + 2 * p.count ≤ 1000000 → TreeAt F w vv v → TreeAt F w pv p → Calls Tryz.prog 28 #[vv, pv] w (PatchPost F v p w)
structure PaInv (F : Nat → Prop) (v p : Tree) (w wx : World) (i g : Nat) (A : Option Addr) (c : Nat) (ps : List Value) (pn : List ByteArray) (pk : List Tree) : Prop where
  made : Made w.heap.size wx g 7 0 emptyB pn A c ps
  trees : TreesAt (Fk F w.heap.size A) wx ps pk
  ok : MapOK pn pk
  eq : Tree.patch v p = Tree.patchL pn pk (p.names.drop i) (p.kids.drop i)
  cnt : Tree.countL pk + 2 * Tree.countL (p.kids.drop i) ≤ Tree.countL v.kids + 2 * Tree.countL p.kids
  bel : Below w.heap.size w wx
section
variable {F : Nat → Prop} {v p : Tree} {w wx w4 : World} {i g g4 : Nat} {A A4 : Option Addr} {c c4 : Nat} {ps ps4 : List Value} {pn : List ByteArray} {pk : List Tree} {s : ByteArray} {x y : Tree} {rv : Value}
theorem PaInv.below (h : PaInv F v p w wx i g A c ps pn pk) (hb : Below wx.heap.size wx w4) : PaInv F v p w w4 i g A c ps pn pk :=
  ⟨h.made.below hb, h.trees.below hb, h.ok, h.eq, h.cnt, below_then h.bel h.bel.size hb⟩
theorem PaInv.put (h : PaInv F v p w wx i g A c ps pn pk) (hs : p.names[i]? = some s) (hx : p.kids[i]? = some x) (hf : ¬ pn[insPos pn s]? = some s) (hn : x.kind ≠ 1) (hso : strOK s = true) (hxo : x.ok = true) (hb : Below wx.heap.size wx w4)
    (hm : Made wx.heap.size w4 g4 7 0 emptyB (ins (insPos pn s) s pn) A4 c4 ps4) (ht : TreesAt (fun b => Fg F w.heap.size b ∧ b < wx.heap.size) w4 ps4 (ins (insPos pn s) (Tree.patch nullT x) pk)) :
    PaInv F v p w w4 (i + 1) g4 A4 c4 ps4 (ins (insPos pn s) s pn) (ins (insPos pn s) (Tree.patch nullT x) pk) := by
  have hsz := h.bel.size
  have hr := hm.row
  obtain ⟨hzo, hzc⟩ := patch_ok x nullT null_ok hxo
  refine ⟨hm.weaken hsz, ht.frame (Agree.refl _ _) (fun b hb _ => fk_of_new hsz (fun a ha => (hr a ha).1) b hb), h.ok.ins hf hso hzo, ?_, ?_, below_then h.bel hsz hb⟩
  · rw [h.eq, patch_step hs hx, if_neg hf, if_neg hn]
  · have h1 := h.cnt
    rw [countL_drop hx] at h1
    rw [countL_ins]
    have := null_count
    omega
theorem PaInv.del (h : PaInv F v p w wx i g A c ps pn pk) (hs : p.names[i]? = some s) (hx : p.kids[i]? = some x) (hf : pn[insPos pn s]? = some s) (hn : x.kind = 1) (hb : Below wx.heap.size wx w4)
    (hm : Made wx.heap.size w4 g4 7 0 emptyB (del (insPos pn s) pn) A4 c4 ps4) (ht : TreesAt (fun b => Fg F w.heap.size b ∧ b < wx.heap.size) w4 ps4 (del (insPos pn s) pk)) :
    PaInv F v p w w4 (i + 1) g4 A4 c4 ps4 (del (insPos pn s) pn) (del (insPos pn s) pk) := by
  have hsz := h.bel.size
  have hr := hm.row
  have hlt : insPos pn s < pk.length := by
    have := (List.getElem?_eq_some_iff.1 hf).1
    have := h.ok.len
    omega
  refine ⟨hm.weaken hsz, ht.frame (Agree.refl _ _) (fun b hb _ => fk_of_new hsz (fun a ha => (hr a ha).1) b hb), h.ok.del _ hlt, ?_, ?_, below_then h.bel hsz hb⟩
  · rw [h.eq, patch_step hs hx, if_pos hf, if_pos hn]
  · have h1 := h.cnt
    rw [countL_drop hx] at h1
    have := countL_del (insPos pn s) pk
    omega
theorem PaInv.skip (h : PaInv F v p w wx i g A c ps pn pk) (hs : p.names[i]? = some s) (hx : p.kids[i]? = some x) (hf : ¬ pn[insPos pn s]? = some s) (hn : x.kind = 1) : PaInv F v p w wx (i + 1) g A c ps pn pk := by
  refine ⟨h.made, h.trees, h.ok, ?_, ?_, h.bel⟩
  · rw [h.eq, patch_step hs hx, if_neg hf, if_pos hn]
  · have h1 := h.cnt
    rw [countL_drop hx] at h1
    omega
theorem PaInv.set {gk : Nat} (h : PaInv F v p w wx i g A c ps pn pk) (hs : p.names[i]? = some s) (hx : p.kids[i]? = some x) (hf : pn[insPos pn s]? = some s) (hn : x.kind ≠ 1) (hxo : x.ok = true) (hy : pk[insPos pn s]? = some y) (hb : Below wx.heap.size wx w4) (hA : A = some ⟨gk, 0, none⟩)
    (ht : TreeAt (Fg (Fk F w.heap.size A) wx.heap.size) w4 rv (Tree.patch y x)) : PaInv F v p w (w4.setCell ⟨gk, insPos pn s, none⟩ rv) (i + 1) g A c (ps.set (insPos pn s) rv) pn (pk.set (insPos pn s) (Tree.patch y x)) := by
  have hsz := h.bel.size
  have hyo : y.ok = true := (okL_iff pk).1 h.ok.ok y (List.mem_of_getElem? hy)
  obtain ⟨hzo, hzc⟩ := patch_ok x y hyo hxo
  have hlt : insPos pn s < ps.length := by
    have := (List.getElem?_eq_some_iff.1 hy).1
    rw [h.trees.length]
    exact this
  obtain ⟨gk', _, e, _, hbk, _, _, _, hset⟩ := (h.made.below hb).at (insPos pn s) hlt
  rw [hA] at e
  injection e with e
  injection e with e1
  subst e1
  have hkl : gk < wx.heap.size := (h.made.row _ hA).2
  have h1c : rv.oneCell' = true := by obtain ⟨_, _, _, _, _, _, rfl, _⟩ := ht.open; rfl
  have hz : TreeAt (Fk F w.heap.size A) w4 rv (Tree.patch y x) := ht.frame (Agree.refl _ _) (fun b hb' _ => by
    rcases hb' with h1 | h1
    · exact h1.1
    · exact ⟨.inr (by omega), fun a ha e => by rw [hA] at ha; injection ha with ha; subst ha; have e' : b = gk := e; omega⟩)
  refine ⟨hset rv h1c, ((h.trees.below hb).set _ hz).frame (Agree.of_setCell _ _ _ (fun b hb' => hb'.2 ⟨gk, 0, none⟩ hA)) (fun b h _ => h), h.ok.set _ hzo, ?_, ?_, (below_then h.bel hsz hb).setCell hbk _⟩
  · rw [h.eq, patch_step hs hx, if_pos hf, if_neg hn, hy]
  · have h1 := h.cnt
    rw [countL_drop hx] at h1
    have h2 := countL_set pk (insPos pn s) (Tree.patch y x) y hy
    omega
end
theorem PaInv.start {F : Nat → Prop} {v p : Tree} {w w1 : World} (hb : Below w.heap.size w w1) (hk : w1.heap[w.heap.size]? = some (.cells #[.int .i64 7, .int .i64 0, .string ⟨#[]⟩, .slice none 0 0, .slice none 0 0] 69 (0, 0))) (hp : p.kind = 7) (hv : v.kind ≠ 7) : PaInv F v p w w1 0 w.heap.size none 0 [] [] [] := by
  refine ⟨⟨none, 0, Nat.le_refl _, hk, Nat.le_refl _, Nat.le_refl _, World.ownsRow_nil _ _ _ _, World.ownsRow_nil _ _ _ _⟩, by simp [TreesAt], MapOK.nil, ?_, ?_, hb⟩
  · rw [patch_eq, if_pos hp, if_neg hv]; rfl
  · simp only [Tree.countL, List.drop_zero]; omega
theorem PaInv.cloned {F : Nat → Prop} {v p : Tree} {w w1 w2 : World} {g : Nat} {A : Option Addr} {c : Nat} {ps : List Value} (hb1 : Below w.heap.size w w1) (hb : Below w1.heap.size w1 w2) (hmade : Made w1.heap.size w2 g v.kind v.num v.text v.names A c ps) (htr : TreesAt (fun b => (F b ∧ b < w.heap.size) ∧ b < w1.heap.size) w2 ps v.kids) (hv : v.ok = true) (hvk : v.kind = 7) (hp : p.kind = 7) :
    PaInv F v p w w2 0 g A c ps v.names v.kids := by
  obtain ⟨hz1, hz2⟩ := map_zero hv hvk
  rw [hvk, hz1, hz2] at hmade
  have hr := hmade.row
  have hs := hb1.size
  refine ⟨hmade.weaken hs, htr.frame (Agree.refl _ _) (fun b h _ => ⟨.inl h.1, fun a ha e => by have := (hr a ha).1; have := h.1.2; omega⟩), Tree.ok_map hv hvk, ?_, ?_, below_then hb1 hs hb⟩
  · rw [patch_eq, if_pos hp, if_pos hvk]; rfl
  · simp
set_option maxRecDepth 100000 in
set_option maxHeartbeats 8000000 in
theorem patch_any : ∀ p, PatchSpec p := Tree.ind fun p ih hp v F vv pv w hv hcount htv htp => by
  have HP := Lib.hid htp
  obtain ⟨b, A1, c1, A2, c2, ps, rfl, hF, hbl, h0, h1, h2, h3, g3, r3, h4, g4, r4, hts⟩ := htv.open
  obtain ⟨b', A1', c1', A2', c2', ps', rfl, hF', hbl', h0', h1', h2', h3', g3', r3', h4', g4', r4', hts'⟩ := htp.open
  by_cases hpk : p.kind = 7
  case neg =>
    go_enter Tryz.func28, Tryz.ntmps28
    go_wp2
    go_ret
    refine ⟨_, rfl, Below.refl _ _, ?_⟩
    rw [patch_eq, if_neg hpk]
    exact HP.out.frame (Agree.refl _ _) (fun b h h' => .inl ⟨h, h'⟩)
  have hmp := Tree.ok_map hp hpk
  have hcp := p.count_eq
  have hcv := v.count_eq
  have hkp := Tree.kids_le_count p.kids
  have hkv := Tree.kids_le_count v.kids
  have hb1 : Below w.heap.size w (w.alloc (.cells #[.int .i64 7, .int .i64 0, .string ⟨#[]⟩, .slice none 0 0, .slice none 0 0] 69 (0, 0))) := (Below.refl _ _).alloc (Nat.le_refl _) _
  have k1 := heap_alloc_new w (.cells #[.int .i64 7, .int .i64 0, .string ⟨#[]⟩, .slice none 0 0, .slice none 0 0] 69 (0, 0))
  have HCL := Lib.hid (fun (hvk : v.kind = 7) => show Calls Tryz.prog 41 #[.pointer (some ⟨b, 0, none⟩)] (w.alloc (.cells #[.int .i64 7, .int .i64 0, .string ⟨#[]⟩, .slice none 0 0, .slice none 0 0] 69 (0, 0))) (ClonePost (fun b => F b ∧ b < w.heap.size) v (w.alloc (.cells #[.int .i64 7, .int .i64 0, .string ⟨#[]⟩, .slice none 0 0, .slice none 0 0] 69 (0, 0)))) from
    clone_any v (by have := (Tree.ok_map hv hvk).len; omega) (by omega) _ _ _ (htv.frame (Agree.of_below hb1) (fun b h h' => ⟨h, h'⟩)))
  rw [hpk] at h0'
  have z0 := (World.cell?_of_block (a := ⟨b, 0, none⟩) (hb1.block b hbl)).trans h0
  have y3' := (World.cell?_of_block (a := ⟨b', 3, none⟩) (hb1.block b' hbl')).trans h3'
  have HMP := Lib.hid hmp
  have HVO := Lib.hid hv
  have HCC := Lib.hid (show 1 + Tree.countL v.kids + 2 * (1 + Tree.countL p.kids) ≤ 1000000 by omega)
  have HIH := Lib.hid ih
  have HR3' := Lib.hid (fun W (hb : Below w.heap.size w W) => r3'.frame (Agree.of_below hb))
  have HR4' := Lib.hid (fun W (hb : Below w.heap.size w W) => r4'.frame (Agree.of_below hb))
  have HTS' := Lib.hid (fun W (hb : Below w.heap.size w W) => hts'.frame (G := fun b => F b ∧ b < w.heap.size) (Agree.of_below hb) (fun _ h h' => ⟨h, h'⟩))
  have HPK := Lib.hid hpk
  have HB1 := Lib.hid hb1
  have HK1 := Lib.hid k1
  clear r3 r4 hts htv htp ih r3' r4' hts' hmp hcp hcv hpk hv hp hcount hkp hkv hb1 k1
  by_cases hvk : v.kind = 7
  case' pos =>
    have HC := Lib.hid (HCL.out hvk)
    have HVK := Lib.hid hvk
    rw [hvk] at z0
    rw [hvk] at h0
    clear hvk
    go_enter Tryz.func28, Tryz.ntmps28
    go_wp2_with fail
    generalize w.alloc (.cells #[.int .i64 7, .int .i64 0, .string ⟨#[]⟩, .slice none 0 0, .slice none 0 0] 69 (0, 0)) = w1 at HC HCL HB1 HK1 z0 y3' ⊢
    refine HC.out.mono ?_
    rintro e w2 ⟨g, B2, d2, qs, rfl, hb2, hmade, htr⟩
    have HINV0 := Lib.hid (PaInv.cloned HB1.out hb2 hmade htr HVO.out HVK.out HPK.out)
    have y3 := (World.cell?_of_block (a := ⟨b', 3, none⟩) (hb2.block b' (by have := HB1.out.size; omega))).trans y3'
    clear hmade htr hb2 HC HCL y3' z0 h0 HVK
    go_wp2
    clear y3 h1 h2 h3 h4
  case' neg =>
    have HINV0 := Lib.hid (PaInv.start (F := F) HB1.out HK1.out HPK.out hvk)
    have hvb : (v.kind == 7) = false := by simpa using hvk
    go_enter Tryz.func28, Tryz.ntmps28
    go_wp2
    generalize w.alloc (.cells #[.int .i64 7, .int .i64 0, .string ⟨#[]⟩, .slice none 0 0, .slice none 0 0] 69 (0, 0)) = w1 at HINV0 HCL HB1 HK1 z0 y3' ⊢
    clear HCL y3' z0 h0 hvk hvb h1 h2 h3 h4
  all_goals
    go_loopw [5, 30] (fun ov iv wx => ∃ (i g : Nat) (A : Option Addr) (c : Nat) (ps : List Value) (pn : List ByteArray) (pk : List Tree), ov = .pointer (some ⟨g, 0, none⟩) ∧ iv = .int .i64 (i : Int) ∧ i ≤ p.names.length ∧ Hid (PaInv F v p w wx i g A c ps pn pk)) (fun _ iv _ => p.names.length - (intOf iv).toNat)
    case atStart => exact ⟨0, _, _, _, _, _, _, rfl, rfl, Nat.zero_le _, HINV0.out⟩
    case round =>
      clear HINV0
      obtain ⟨i, g, A, c, ps, pn, pk, rfl, rfl, hi, hinv⟩ := hrel
      have HI := Lib.hid hinv
      have hbx := HI.out.bel
      have HTREE := Lib.hid (HI.out.made.tree HI.out.trees)
      have hpl : pn.length ≤ 1000000 ∧ pk.length ≤ 1000000 := by
        have h1 := HI.out.cnt
        have h2 := HCC.out
        have h3 := Tree.kids_le_count pk
        have h4 := HI.out.ok.len
        omega
      have hcond : p.names.length = p.kids.length := HMP.out.len
      by_cases hlt : i < p.names.length
      · obtain ⟨bn, on, s, rfl, hnl, n0, hs, hsm⟩ := name_at (HR3'.out _ hbx) i hlt
        obtain ⟨bk, ok, xp, x, rfl, hkl, k0w, hxtw, hx, hxm⟩ := kid_at2 (HR4'.out w (Below.refl _ _)) (HTS'.out w (Below.refl _ _)) i (by omega)
        have k0 := (World.cell?_of_block (a := ⟨bk, ok + i, none⟩) (hbx.block bk hkl)).trans k0w
        have hxt := hxtw.below hbx
        clear k0w hxtw
        have y4 := (World.cell?_of_block (a := ⟨b', 4, none⟩) (hbx.block b' hbl')).trans h4'
        have hltk : i < p.kids.length := by omega
        have hqn : p.names.length ≤ 1000000 := by have h1 := HCC.out; have h2 := Tree.kids_le_count p.kids; omega
        have HSS := Lib.hid hs
        have HSX := Lib.hid hx
        have HXT := Lib.hid hxt
        have HXM := Lib.hid hxm
        have HSOK := Lib.hid (show strOK s = true by have := HMP.out.str; rw [List.all_eq_true] at this; exact this s hsm)
        have HXOK := Lib.hid (show x.ok = true from (okL_iff p.kids).1 HMP.out.ok x hxm)
        have HCND := Lib.hid hcond
        have HA := Lib.hid (show Calls Tryz.prog 42 #[.pointer (some ⟨g, 0, none⟩), .string s] wr (AtPost pn s wr) from at_any (.mk 7 0 emptyB pn pk) (by show pn.length ≤ _; omega) HI.out.ok.sorted s _ _ wr HTREE.out)
        obtain ⟨bx, _, _, _, _, _, rfl, _, hbxl, xk, _⟩ := hxt.open
        clear hs hx hxt hxm hsm hinv hbx hcond
        go_wp2_with fail
        refine HA.out.mono ?_
        rintro e w' ⟨rfl, rfl⟩
        clear HA
        have hpos := insPos_le pn s
        have hbnd : x.count + x.count + 1 ≤ 1000000 := by
          have h1 := HI.out.cnt
          rw [countL_drop HSX.out] at h1
          have h2 := HCC.out
          omega
        by_cases hf : pn[insPos pn s]? = some s
        case neg =>
          rw [decide_eq_false hf]
          have HF := Lib.hid hf
          clear hf
          by_cases hn : x.kind = 1
          · have HINV := Lib.hid (HI.out.skip HSS.out HSX.out HF.out hn)
            rw [hn] at xk
            clear hn
            go_wp2
            go_roundw
            case rel => exact ⟨i + 1, g, A, c, ps, pn, pk, rfl, by go_num, by omega, HINV.out⟩
            case measure => simp [intOf]; omega
          · have HN := Lib.hid hn
            have HDR := Lib.hid (show Below wr.heap.size wr wr.drew from (Below.refl _ _).drew)
            have hsz0 := HI.out.bel.size
            have HPA := Lib.hid (fun (w5 : World) (hq : Below wr.heap.size wr w5) (nv : Value) (hnt : TreeAt (fun b => wr.drew.heap.size ≤ b) w5 nv nullT) => HIH.out x HXM.out HXOK.out nullT (fun b => F b ∧ b < w.heap.size ∨ wr.heap.size ≤ b) nv _ w5 null_ok (by rw [null_count]; omega) (hnt.frame (Agree.refl _ _) (fun b h _ => .inr h)) ((HXT.out.below hq).frame (Agree.refl _ _) (fun b h _ => .inl h)))
            have HPU := Lib.hid (fun (w6 : World) (hq : Below wr.heap.size wr w6) (rv : Value) (N : Nat) (hN : wr.heap.size ≤ N) (hrt : TreeAt (Fg (fun b => F b ∧ b < w.heap.size ∨ wr.heap.size ≤ b) N) w6 rv (Tree.patch nullT x)) => put_any (.mk 7 0 emptyB pn pk) rfl HI.out.ok.len hpl.1 HI.out.ok.sorted s HF.out (Tree.patch nullT x) (Fg F w.heap.size) _ rv w6 (HTREE.out.below hq) (hrt.frame (Agree.refl _ _) (fun b h _ => by
              rcases h with ⟨h | h, _⟩ | h
              · exact .inl h
              · exact .inr (by omega)
              · exact .inr (by omega))))
            have HKEEP := Lib.hid (fun W (hb : Below wr.heap.size wr W) => show W.cell? ⟨b', 4, none⟩ = some (.slice (some ⟨bk, ok, none⟩) p.kids.length c2') ∧ W.cell? ⟨bk, ok + i, none⟩ = some (.pointer (some ⟨bx, 0, none⟩)) from
              ⟨(World.cell?_of_block (a := ⟨b', 4, none⟩) (hb.block b' (by omega))).trans y4, (World.cell?_of_block (a := ⟨bk, ok + i, none⟩) (hb.block bk (by omega))).trans k0⟩)
            go_wp2
            go_region_held3 (fun W => W.cell? ⟨b', 4, none⟩ = some (.slice (some ⟨bk, ok, none⟩) p.kids.length c2') ∧ W.cell? ⟨bk, ok + i, none⟩ = some (.pointer (some ⟨bx, 0, none⟩)))
              (first | exact HKEEP.out _ hq7 | exact HKEEP.out _ hq6 | exact HKEEP.out _ hq5 | exact HKEEP.out _ HDR.out)
              (first
                | (go_at_call 54; refine (null_any _).mono ?_; rintro e w5 ⟨nv, rfl, hb5, hnt⟩; have hq5 : Below wr.heap.size wr w5 := below_then HDR.out (Nat.le_refl _) hb5)
                | (go_at_call 28; refine (HPA.out w5 hq5 nv hnt).mono ?_; rintro e w6 ⟨rv, rfl, hb6, hrt⟩; have hq6 : Below wr.heap.size wr w6 := below_then hq5 hq5.size hb6)
                | (go_at_call 43; refine (HPU.out w6 hq6 rv w5.heap.size hq5.size hrt).mono ?_; rintro e w7 ⟨g4, A4, c4, ps4, rfl, hb7, hmade4, htr4⟩; have hq7 : Below wr.heap.size wr w7 := below_then hq6 hq6.size hb7))
            have HINV := Lib.hid ((HI.out.below hq6).put HSS.out HSX.out HF.out HN.out HSOK.out HXOK.out hb7 hmade4 htr4)
            clear hb5 hnt hq5 hb6 hrt hq6 hb7 hq7 hmade4 htr4 HPA HPU HKEEP
            go_wp2
            go_roundw
            case rel => exact ⟨i + 1, g4, A4, c4, ps4, _, _, rfl, by go_num, by omega, HINV.out⟩
            case measure => simp [intOf]; omega
        case pos =>
          rw [decide_eq_true hf]
          have HF := Lib.hid hf
          have hplt : insPos pn s < pn.length := (List.getElem?_eq_some_iff.1 hf).1
          by_cases hn : x.kind = 1
          · have HN := Lib.hid hn
            have HWO := Lib.hid (show Calls Tryz.prog 53 #[.pointer (some ⟨g, 0, none⟩), .int .i64 ((insPos pn s : Nat) : Int)] wr (WithoutPost (Fg F w.heap.size) (.mk 7 0 emptyB pn pk) (insPos pn s) wr) from without_any (.mk 7 0 emptyB pn pk) rfl HI.out.ok.len hpl.1 (insPos pn s) hplt (Fg F w.heap.size) _ wr HTREE.out)
            rw [hn] at xk
            clear hn hf
            go_wp2_with fail
            refine HWO.out.mono ?_
            rintro e w4 ⟨g4, A4, c4, ps4, rfl, hb4, hmade4, htr4⟩
            have HINV := Lib.hid (HI.out.del HSS.out HSX.out HF.out HN.out hb4 hmade4 htr4)
            clear hb4 hmade4 htr4 HWO
            go_wp2
            go_roundw
            case rel => exact ⟨i + 1, g4, A4, c4, ps4, _, _, rfl, by go_num, by omega, HINV.out⟩
            case measure => simp [intOf]; omega
          · have HN := Lib.hid hn
            have hptk : insPos pn s < pk.length := by have := HI.out.ok.len; omega
            have hy : pk[insPos pn s]? = some (pk[insPos pn s]'hptk) := by simp [hptk]
            generalize pk[insPos pn s]'hptk = y at hy
            have hpslt : insPos pn s < ps.length := by rw [HI.out.trees.length]; exact hptk
            obtain ⟨gk, yp, hA, hgkg, hgkb, hyp, hyc, hyf, _⟩ := HI.out.made.at (insPos pn s) hpslt
            obtain ⟨yp', hyp', hyt⟩ := HI.out.trees.get _ y hy
            obtain rfl : yp = yp' := by rw [hyp] at hyp'; injection hyp'
            have hyo : y.ok = true := (okL_iff pk).1 HI.out.ok.ok y (List.mem_of_getElem? hy)
            have hcy := Tree.countL_mem pk y (List.mem_of_getElem? hy)
            have hbnd2 : y.count + 2 * x.count ≤ 1000000 := by
              have h1 := HI.out.cnt
              rw [countL_drop HSX.out] at h1
              have h2 := HCC.out
              omega
            have hgkl := (HI.out.made.row _ hA).2
            have hsz0 := HI.out.bel.size
            have hxt2 := HXT.out.frame (G := Fk F w.heap.size A) (Agree.refl _ _) (fun b h _ => ⟨.inl h, fun a ha e => by rw [hA] at ha; injection ha with ha; subst ha; have e' : b = gk := e; have := h.2; omega⟩)
            have HJ := Lib.hid (HIH.out x HXM.out HXOK.out y (Fk F w.heap.size A) yp _ wr.drew hyo hbnd2 hyt.drawn hxt2.drawn)
            have HDR := Lib.hid (show Below wr.heap.size wr wr.drew from (Below.refl _ _).drew)
            have HA2 := Lib.hid hA
            have HY := Lib.hid hy
            obtain ⟨Bn, cn, hgb, hkg, hn1, hn2, _, _⟩ := HI.out.made
            have z4 := cell_of_block hkg 4
            have hgl := lt_of_block hkg
            simp at z4
            rw [hA] at z4
            have HKEEP := Lib.hid (fun W (hb : Below wr.heap.size wr W) => show W.cell? ⟨g, 4, none⟩ = some (.slice (some ⟨gk, 0, none⟩) ps.length c) ∧ W.cell? ⟨b', 4, none⟩ = some (.slice (some ⟨bk, ok, none⟩) p.kids.length c2') ∧ W.cell? ⟨bk, ok + i, none⟩ = some (.pointer (some ⟨bx, 0, none⟩)) from
              ⟨(World.cell?_of_block (a := ⟨g, 4, none⟩) (hb.block g hgl)).trans z4, (World.cell?_of_block (a := ⟨b', 4, none⟩) (hb.block b' (by omega))).trans y4, (World.cell?_of_block (a := ⟨bk, ok + i, none⟩) (hb.block bk (by omega))).trans k0⟩)
            have HKEEP2 := Lib.hid (fun W (u : Value) (hb : Below wr.heap.size wr W) => show (W.setCell ⟨gk, insPos pn s, none⟩ u).cell? ⟨g, 4, none⟩ = some (.slice (some ⟨gk, 0, none⟩) ps.length c) ∧ (W.setCell ⟨gk, insPos pn s, none⟩ u).cell? ⟨b', 4, none⟩ = some (.slice (some ⟨bk, ok, none⟩) p.kids.length c2') ∧ (W.setCell ⟨gk, insPos pn s, none⟩ u).cell? ⟨bk, ok + i, none⟩ = some (.pointer (some ⟨bx, 0, none⟩)) from
              ⟨(World.cell?_of_block (a := ⟨g, 4, none⟩) (Below.heap_setCell _ _ _ _ (Ne.symm hgkg))).trans (HKEEP.out W hb).1, (World.cell?_of_block (a := ⟨b', 4, none⟩) (Below.heap_setCell _ _ _ _ (by show b' ≠ gk; omega))).trans (HKEEP.out W hb).2.1, (World.cell?_of_block (a := ⟨bk, ok + i, none⟩) (Below.heap_setCell _ _ _ _ (by show bk ≠ gk; omega))).trans (HKEEP.out W hb).2.2⟩)
            have HYC := Lib.hid hyc
            have HYF := Lib.hid hyf
            have ycd : wr.drew.cell? ⟨gk, insPos pn s, none⟩ = some yp := hyc
            clear hf hy hyt hyp hyp' hxt2 hkg hA hcy hn1 hn2 hyo hyc hyf
            go_wp2
            refine wp_region_held_drew (S := fun W => W.cell? ⟨g, 4, none⟩ = some (.slice (some ⟨gk, 0, none⟩) ps.length c) ∧ W.cell? ⟨b', 4, none⟩ = some (.slice (some ⟨bk, ok, none⟩) p.kids.length c2') ∧ W.cell? ⟨bk, ok + i, none⟩ = some (.pointer (some ⟨bx, 0, none⟩))) (by kernel_rfl) ?_ (fun hHeld => ?_)
            · exact HKEEP.out _ HDR.out
            (refine wpAnyH_take (i := 0) (v := ?_) rfl (by kernel_rfl) (by kernel_rfl) (by kernel_rfl) (fun _ _ _ h => h) (Or.inl ⟨by rfl, ?_⟩) hHeld ?_; rotate_left 1; (focus (intro w hSw; (try dsimp only at hSw); go_split_ands; go_simp; try (with_reducible rfl))); change wpAnyH _ _ _ _ _ _ _ (Act.put _ (some 85) _) _; simp only [Act.put, List.setIfInBounds_toArray, List.set_cons_zero, List.set_cons_succ])
            (refine wpAnyH_take (i := 1) (v := ?_) rfl (by kernel_rfl) (by kernel_rfl) (by kernel_rfl) (fun _ _ _ h => h) (Or.inl ⟨by rfl, ?_⟩) hHeld ?_; rotate_left 1; (focus (intro w hSw; (try dsimp only at hSw); go_split_ands; go_simp; try (with_reducible rfl))); change wpAnyH _ _ _ _ _ _ _ (Act.put _ (some 86) _) _; simp only [Act.put, List.setIfInBounds_toArray, List.set_cons_zero, List.set_cons_succ])
            (refine wpAnyH_take (i := 2) (v := ?_) rfl (by kernel_rfl) (by kernel_rfl) (by kernel_rfl) (fun _ _ _ h => h) (Or.inl ⟨by rfl, ?_⟩) hHeld ?_; rotate_left 1; (focus (intro w hSw; (try dsimp only at hSw); go_split_ands; go_simp; try (with_reducible rfl))); change wpAnyH _ _ _ _ _ _ _ (Act.put _ (some 87) _) _; simp only [Act.put, List.setIfInBounds_toArray, List.set_cons_zero, List.set_cons_succ])
            (refine wpAnyH_take (i := 3) (v := ?_) rfl (by kernel_rfl) (by kernel_rfl) (by kernel_rfl) (fun _ _ _ h => h) (Or.inl ⟨by rfl, ?_⟩) hHeld ?_; rotate_left 1; (focus (intro w hSw; (try dsimp only at hSw); go_split_ands; go_simp; try (with_reducible rfl))); change wpAnyH _ _ _ _ _ _ _ (Act.put _ (some 88) _) _; simp only [Act.put, List.setIfInBounds_toArray, List.set_cons_zero, List.set_cons_succ])
            (refine wpAnyH_take (i := 4) (v := ?_) rfl (by kernel_rfl) (by kernel_rfl) (by kernel_rfl) (fun _ _ _ h => h) (Or.inl ⟨by rfl, ?_⟩) hHeld ?_; rotate_left 1; (focus (intro w hSw; (try dsimp only at hSw); go_split_ands; go_simp; try (with_reducible rfl))); change wpAnyH _ _ _ _ _ _ _ (Act.put _ (some 89) _) _; simp only [Act.put, List.setIfInBounds_toArray, List.set_cons_zero, List.set_cons_succ])
            (refine wpAnyH_take (i := 5) (v := ?_) rfl (by kernel_rfl) (by kernel_rfl) (by kernel_rfl) (fun _ _ _ h => h) (Or.inl ⟨by rfl, ?_⟩) hHeld ?_; rotate_left 1; (focus (intro w hSw; (try dsimp only at hSw); go_split_ands; go_simp; try (with_reducible rfl))); change wpAnyH _ _ _ _ _ _ _ (Act.put _ (some 90) _) _; simp only [Act.put, List.setIfInBounds_toArray, List.set_cons_zero, List.set_cons_succ])
            (refine wpAnyH_take (i := 6) (v := ?_) rfl (by kernel_rfl) (by kernel_rfl) (by kernel_rfl) (fun _ _ _ h => h) (Or.inl ⟨by rfl, ?_⟩) hHeld ?_; rotate_left 1; (focus (intro w hSw; (try dsimp only at hSw); go_split_ands; go_simp; try (with_reducible rfl))); change wpAnyH _ _ _ _ _ _ _ (Act.put _ (some 91) _) _; simp only [Act.put, List.setIfInBounds_toArray, List.set_cons_zero, List.set_cons_succ])
            (refine wpAnyH_take (i := 7) (v := ?_) rfl (by kernel_rfl) (by kernel_rfl) (by kernel_rfl) (fun _ _ _ h => h) (Or.inl ⟨by rfl, ?_⟩) hHeld ?_; rotate_left 1; (focus (intro w hSw; (try dsimp only at hSw); go_split_ands; go_simp; try (with_reducible rfl))); change wpAnyH _ _ _ _ _ _ _ (Act.put _ (some 92) _) _; simp only [Act.put, List.setIfInBounds_toArray, List.set_cons_zero, List.set_cons_succ])
            (refine wpAnyH_take (i := 8) (v := ?_) rfl (by kernel_rfl) (by kernel_rfl) (by kernel_rfl) (fun _ _ _ h => h) (Or.inl ⟨by rfl, ?_⟩) hHeld ?_; rotate_left 1; (focus (intro w hSw; (try dsimp only at hSw); go_split_ands; go_simp; try (with_reducible rfl))); change wpAnyH _ _ _ _ _ _ _ (Act.put _ (some 93) _) _; simp only [Act.put, List.setIfInBounds_toArray, List.set_cons_zero, List.set_cons_succ])
            (refine wpAnyH_take (i := 9) (v := ?_) rfl (by kernel_rfl) (by kernel_rfl) (by kernel_rfl) (fun _ _ _ h => h) (Or.inl ⟨by rfl, ?_⟩) hHeld ?_; rotate_left 1; (focus (intro w hSw; (try dsimp only at hSw); go_split_ands; go_simp; try (with_reducible rfl))); change wpAnyH _ _ _ _ _ _ _ (Act.put _ (some 94) _) _; simp only [Act.put, List.setIfInBounds_toArray, List.set_cons_zero, List.set_cons_succ])
            (refine wpAnyH_take (i := 10) (v := ?_) rfl (by kernel_rfl) (by kernel_rfl) (by kernel_rfl) (fun _ _ _ h => h) (Or.inl ⟨by rfl, ?_⟩) hHeld ?_; rotate_left 1; (focus (intro w hSw; (try dsimp only at hSw); go_split_ands; go_simp; try (with_reducible rfl))); change wpAnyH _ _ _ _ _ _ _ (Act.put _ (some 95) _) _; simp only [Act.put, List.setIfInBounds_toArray, List.set_cons_zero, List.set_cons_succ])
            (refine wpAnyH_take (i := 12) (v := ?_) rfl (by kernel_rfl) (by kernel_rfl) (by kernel_rfl) (fun _ _ _ h => h) (Or.inl ⟨by rfl, ?_⟩) hHeld ?_; rotate_left 1; (focus (intro w hSw; (try dsimp only at hSw); go_split_ands; go_simp; try (with_reducible rfl))); change wpAnyH _ _ _ _ _ _ _ (Act.put _ (some 97) _) _; simp only [Act.put, List.setIfInBounds_toArray, List.set_cons_zero, List.set_cons_succ])
            (refine wpAnyH_take (i := 13) (v := ?_) rfl (by kernel_rfl) (by kernel_rfl) (by kernel_rfl) (fun _ _ _ h => h) (Or.inl ⟨by rfl, ?_⟩) hHeld ?_; rotate_left 1; (focus (intro w hSw; (try dsimp only at hSw); go_split_ands; go_simp; try (with_reducible rfl))); change wpAnyH _ _ _ _ _ _ _ (Act.put _ (some 98) _) _; simp only [Act.put, List.setIfInBounds_toArray, List.set_cons_zero, List.set_cons_succ])
            (refine wpAnyH_take (i := 14) (v := ?_) rfl (by kernel_rfl) (by kernel_rfl) (by kernel_rfl) (fun _ _ _ h => h) (Or.inl ⟨by rfl, ?_⟩) hHeld ?_; rotate_left 1; (focus (intro w hSw; (try dsimp only at hSw); go_split_ands; go_simp; try (with_reducible rfl))); change wpAnyH _ _ _ _ _ _ _ (Act.put _ (some 99) _) _; simp only [Act.put, List.setIfInBounds_toArray, List.set_cons_zero, List.set_cons_succ])
            (refine wpAnyH_take (i := 15) (v := ?_) rfl (by kernel_rfl) (by kernel_rfl) (by kernel_rfl) (fun _ _ _ h => h) (Or.inl ⟨by rfl, ?_⟩) hHeld ?_; rotate_left 1; (focus (intro w hSw; (try dsimp only at hSw); go_split_ands; go_simp; try (with_reducible rfl))); change wpAnyH _ _ _ _ _ _ _ (Act.put _ (some 100) _) _; simp only [Act.put, List.setIfInBounds_toArray, List.set_cons_zero, List.set_cons_succ])
            (refine wpAnyH_take (i := 16) (v := ?_) rfl (by kernel_rfl) (by kernel_rfl) (by kernel_rfl) (fun _ _ _ h => h) (Or.inl ⟨by rfl, ?_⟩) hHeld ?_; rotate_left 1; (focus (intro w hSw; (try dsimp only at hSw); go_split_ands; go_simp; try (with_reducible rfl))); change wpAnyH _ _ _ _ _ _ _ (Act.put _ (some 101) _) _; simp only [Act.put, List.setIfInBounds_toArray, List.set_cons_zero, List.set_cons_succ])
            (refine wpAnyH_take (i := 17) (v := ?_) rfl (by kernel_rfl) (by kernel_rfl) (by kernel_rfl) (fun _ _ _ h => h) (Or.inl ⟨by rfl, ?_⟩) hHeld ?_; rotate_left 1; (focus (intro w hSw; (try dsimp only at hSw); go_split_ands; go_simp; try (with_reducible rfl))); change wpAnyH _ _ _ _ _ _ _ (Act.put _ (some 102) _) _; simp only [Act.put, List.setIfInBounds_toArray, List.set_cons_zero, List.set_cons_succ])
            (refine wpAnyH_take (i := 18) (v := ?_) rfl (by kernel_rfl) (by kernel_rfl) (by kernel_rfl) (fun _ _ _ h => h) (Or.inl ⟨by rfl, ?_⟩) hHeld ?_; rotate_left 1; (focus (intro w hSw; (try dsimp only at hSw); go_split_ands; go_simp; try (with_reducible rfl))); change wpAnyH _ _ _ _ _ _ _ (Act.put _ (some 103) _) _; simp only [Act.put, List.setIfInBounds_toArray, List.set_cons_zero, List.set_cons_succ])
            refine wpAnyH_ready (rs := [11]) (by kernel_rfl) (by simp) ?_; refine AllReadyH.cons rfl (fun K hK => ?_) AllReadyH.nil
            go_simp
            refine hK.out _ _ hHeld (fun hHeld => ?_)
            clear hK K
            refine wpAnyH_ready (rs := [19]) (by kernel_rfl) (by simp) ?_; refine AllReadyH.cons rfl (fun K hK => ?_) AllReadyH.nil
            go_simp
            refine HJ.out.mono ?_
            rintro e w4 ⟨rv, rfl, hb4, hzt⟩
            have hb4' := below_then HDR.out HDR.out.size hb4
            have u4 := (World.cell?_of_block (a := ⟨gk, insPos pn s, none⟩) (hb4'.block gk hgkl)).trans HYC.out
            have f4 := (World.frozen?_of_block (a := ⟨gk, insPos pn s, none⟩) (hb4'.block gk hgkl)).trans HYF.out
            have HINV := Lib.hid (HI.out.set HSS.out HSX.out HF.out HN.out HXOK.out HY.out hb4' HA2.out hzt)
            have HB4 := Lib.hid hb4'
            obtain ⟨br, _, _, _, _, _, rfl, _⟩ := hzt.open
            clear hb4 hzt hb4'
            go_simp
            refine hK.out _ _ (HKEEP.out _ HB4.out) (fun hHeld => ?_)
            clear hK K
            refine wpAnyH_ready (rs := [20]) (by kernel_rfl) (by simp) ?_; refine AllReadyH.cons rfl (fun K hK => ?_) AllReadyH.nil
            go_simp
            refine hK.out _ _ hHeld (fun hHeld => ?_)
            clear hK K
            refine wpAnyH_ready (rs := [21]) (by kernel_rfl) (by simp) ?_; refine AllReadyH.cons rfl (fun K hK => ?_) AllReadyH.nil
            go_simp
            refine hK.out _ _ (HKEEP2.out w4 _ HB4.out) (fun _ => ?_)
            clear hK K
            refine wpAnyH_done (by kernel_rfl) ?_ _
            go_wp2
            go_roundw
            case rel => exact ⟨i + 1, g, A, c, _, pn, _, rfl, by go_num, by omega, HINV.out⟩
            case measure => simp [intOf]; omega
      · obtain rfl : i = p.names.length := by omega
        have e : Tree.patch v p = .mk 7 0 emptyB pn pk := by rw [HI.out.eq, patch_end (Nat.le_refl _)]
        have HEE := Lib.hid e
        clear e hinv hbx hcond
        go_wp2
        go_ret
        refine ⟨_, rfl, HI.out.bel, ?_⟩
        rw [HEE.out]
        exact HTREE.out
end Go.Proofs.YteeppdobeeodiaaGreatDoor
namespace Go.Proofs.YteeppdobeeodiaaGreatDoor
open Go.RowKit
def patchOp (v p : Tree) : Option Tree := some (Tree.patch v p)
set_option maxRecDepth 100000 in
set_option maxHeartbeats 4000000 in
theorem applyPatch_any (lp lq : List Nd) (hp : lp.length ≤ 1000000000) (hq : lq.length ≤ 1000000000) (hsp : SzNd lp) (hsq : SzNd lq) (F : Nat → Prop) (A1 A2 : Option Addr) (c1 c2 : Nat) (hc1 : lp.length ≤ c1) (hc2 : lq.length ≤ c2) (w : World) (hr1 : Rds F w A1 (ndCells lp)) (hr2 : Rds F w A2 (ndCells lq)) (htab : Tabs w.heap.size w) :
    Calls Tryz.prog 10 #[.agg #[.slice A1 lp.length c1], .agg #[.slice A2 lq.length c2]] w (TwoPost patchOp lp lq w) := by
  have H1 := Lib.hid (fun W (hb : Below w.heap.size w W) => valOf_any lp (by omega) hsp F A1 c1 hc1 W (hr1.frame (Agree.of_below hb)) ((htab.below hb).mono hb.size))
  have H2 := Lib.hid (fun W (hb : Below w.heap.size w W) => valOf_any lq (by omega) hsq F A2 c2 hc2 W (hr2.frame (Agree.of_below hb)) ((htab.below hb).mono hb.size))
  have HT := Lib.hid (fun W (hb : Below w.heap.size w W) => (htab.below hb).mono hb.size)
  clear hr1 hr2 htab hsp hsq
  obtain ⟨w1, hw⟩ : ∃ w1, w1 = ((w.alloc (.cells #[.slice A1 lp.length c1] 25 (0, 0))).alloc (.cells #[.slice A2 lq.length c2] 25 (0, 0))).alloc (.cells #[.slice none 0 0] 25 (0, 0)) := ⟨_, rfl⟩
  have hb1 : Below w.heap.size w w1 := by rw [hw]; exact (((Below.refl _ _).alloc (Nat.le_refl _) _).alloc (by simp) _).alloc (by simp <;> omega) _
  have kp : w1.heap[w.heap.size]? = some (.cells #[.slice A1 lp.length c1] 25 (0, 0)) := by rw [hw]; (repeat (first | with_reducible assumption | (with_reducible refine blk_new _ ?_; (first | rfl | (simp; done) | (simp; omega))) | with_reducible apply block_setCell | (with_reducible refine blk_skip _ _ ?_ ?_; rotate_left; (first | (simp; done) | (simp; omega))) | with_reducible refine blk_old ?_))
  have kq : w1.heap[w.heap.size + 1]? = some (.cells #[.slice A2 lq.length c2] 25 (0, 0)) := by rw [hw]; (repeat (first | with_reducible assumption | (with_reducible refine blk_new _ ?_; (first | rfl | (simp; done) | (simp; omega))) | with_reducible apply block_setCell | (with_reducible refine blk_skip _ _ ?_ ?_; rotate_left; (first | (simp; done) | (simp; omega))) | with_reducible refine blk_old ?_))
  have kr : w1.heap[w.heap.size + 1 + 1]? = some (.cells #[.slice none 0 0] 25 (0, 0)) := by rw [hw]; (repeat (first | with_reducible assumption | (with_reducible refine blk_new _ ?_; (first | rfl | (simp; done) | (simp; omega))) | with_reducible apply block_setCell | (with_reducible refine blk_skip _ _ ?_ ?_; rotate_left; (first | (simp; done) | (simp; omega))) | with_reducible refine blk_old ?_))
  have hs1 : w1.heap.size = w.heap.size + 3 := by rw [hw]; simp
  have HW := Lib.hid hw
  have xp : w1.cell? ⟨w.heap.size, 0, none⟩ = some (.slice A1 lp.length c1) := cell_of_block kp 0
  have xq : w1.cell? ⟨w.heap.size + 1, 0, none⟩ = some (.slice A2 lq.length c2) := cell_of_block kq 0
  have HB1 := Lib.hid hb1
  have HKQ := Lib.hid kq
  have HKR := Lib.hid kr
  clear hw hb1 kp kq kr
  go_enter Tryz.func10, Tryz.ntmps10
  go_wp2_with fail
  rw [← HW.out]
  clear HW
  go_cut [6, 7] (fun x y wx => ∃ v1 v2, x = v1 ∧ y = v2 ∧ JpCut lp lq w w1 v1 v2 wx)
  case first =>
    refine wp_region_any (by kernel_rfl) ?_
    change wpAny _ _ _ _ _ _ _ (World.drew _)
    (refine wpAny_ready (rs := [0, 2]) (by kernel_rfl) (by simp) ?_; refine AllReady.cons rfl (fun K hK => ?_) (AllReady.cons rfl (fun K hK => ?_) (AllReady.nil)))
    · go_simp
      refine hK _ _ ?_
      clear hK K
      (refine wpAny_ready (rs := [1, 2]) (by kernel_rfl) (by simp) ?_; refine AllReady.cons rfl (fun K hK => ?_) (AllReady.cons rfl (fun K hK => ?_) (AllReady.nil)))
      · go_simp
        refine (H1.out _ (by exact HB1.out.drew)).mono ?_
        rintro e w2 ⟨hb2, o1, v1, rfl, ho1, hv1⟩
        have hkq2 := (hb2.block _ (lt_of_block HKQ.out)).trans HKQ.out
        have xq2 : w2.cell? ⟨w.heap.size + 1, 0, none⟩ = some (.slice A2 lq.length c2) := cell_of_block hkq2 0
        have hb12 : Below w.heap.size w w2 := below_then HB1.out.drew HB1.out.size hb2
        go_simp
        refine hK _ _ ?_
        clear hK K
        (refine wpAny_ready (rs := [2]) (by kernel_rfl) (by simp) ?_; refine AllReady.cons rfl (fun K hK => ?_) (AllReady.nil))
        go_simp
        refine hK _ _ ?_
        clear hK K
        (refine wpAny_ready (rs := [3]) (by kernel_rfl) (by simp) ?_; refine AllReady.cons rfl (fun K hK => ?_) (AllReady.nil))
        go_simp
        refine (H2.out _ hb12).mono ?_
        rintro e w3 ⟨hb3, o2, v2, rfl, ho2, hv2⟩
        have hcut : JpCut lp lq w w1 v1 v2 w3 := jp_cut HB1.out hb2 hb3 ho1 hv1 ho2 hv2
        clear hb2 hb3 ho1 hv1 ho2 hv2 hb12 hkq2 xq2
        go_simp
        refine hK _ _ ?_
        clear hK K
        (refine wpAny_take (i := 4) (v := ?_) rfl (by kernel_rfl) (by kernel_rfl) (by kernel_rfl) (fun _ _ _ h => h) (Or.inl ⟨rfl, ?_⟩) ?_; rotate_left 1; (focus (intro w; go_simp; try (with_reducible rfl))); change wpAny _ _ _ _ _ _ (Act.put _ (some 6) _) _; simp only [Act.put, List.setIfInBounds_toArray, List.set_cons_zero, List.set_cons_succ])
        (refine wpAny_take (i := 5) (v := ?_) rfl (by kernel_rfl) (by kernel_rfl) (by kernel_rfl) (fun _ _ _ h => h) (Or.inl ⟨rfl, ?_⟩) ?_; rotate_left 1; (focus (intro w; go_simp; try (with_reducible rfl))); change wpAny _ _ _ _ _ _ (Act.put _ (some 7) _) _; simp only [Act.put, List.setIfInBounds_toArray, List.set_cons_zero, List.set_cons_succ])
        refine wpAny_done (by kernel_rfl) ?_ _
        go_wp2
        go_meet
        exact ⟨_, _, rfl, rfl, hcut⟩
      · go_simp
        refine hK _ _ ?_
        clear hK K
        (refine wpAny_ready (rs := [1]) (by kernel_rfl) (by simp) ?_; refine AllReady.cons rfl (fun K hK => ?_) (AllReady.nil))
        go_simp
        refine (H1.out _ (by exact HB1.out.drew)).mono ?_
        rintro e w2 ⟨hb2, o1, v1, rfl, ho1, hv1⟩
        have hkq2 := (hb2.block _ (lt_of_block HKQ.out)).trans HKQ.out
        have xq2 : w2.cell? ⟨w.heap.size + 1, 0, none⟩ = some (.slice A2 lq.length c2) := cell_of_block hkq2 0
        have hb12 : Below w.heap.size w w2 := below_then HB1.out.drew HB1.out.size hb2
        go_simp
        refine hK _ _ ?_
        clear hK K
        (refine wpAny_ready (rs := [3]) (by kernel_rfl) (by simp) ?_; refine AllReady.cons rfl (fun K hK => ?_) (AllReady.nil))
        go_simp
        refine (H2.out _ hb12).mono ?_
        rintro e w3 ⟨hb3, o2, v2, rfl, ho2, hv2⟩
        have hcut : JpCut lp lq w w1 v1 v2 w3 := jp_cut HB1.out hb2 hb3 ho1 hv1 ho2 hv2
        clear hb2 hb3 ho1 hv1 ho2 hv2 hb12 hkq2 xq2
        go_simp
        refine hK _ _ ?_
        clear hK K
        (refine wpAny_take (i := 4) (v := ?_) rfl (by kernel_rfl) (by kernel_rfl) (by kernel_rfl) (fun _ _ _ h => h) (Or.inl ⟨rfl, ?_⟩) ?_; rotate_left 1; (focus (intro w; go_simp; try (with_reducible rfl))); change wpAny _ _ _ _ _ _ (Act.put _ (some 6) _) _; simp only [Act.put, List.setIfInBounds_toArray, List.set_cons_zero, List.set_cons_succ])
        (refine wpAny_take (i := 5) (v := ?_) rfl (by kernel_rfl) (by kernel_rfl) (by kernel_rfl) (fun _ _ _ h => h) (Or.inl ⟨rfl, ?_⟩) ?_; rotate_left 1; (focus (intro w; go_simp; try (with_reducible rfl))); change wpAny _ _ _ _ _ _ (Act.put _ (some 7) _) _; simp only [Act.put, List.setIfInBounds_toArray, List.set_cons_zero, List.set_cons_succ])
        refine wpAny_done (by kernel_rfl) ?_ _
        go_wp2
        go_meet
        exact ⟨_, _, rfl, rfl, hcut⟩
    · go_simp
      refine hK _ _ ?_
      clear hK K
      (refine wpAny_ready (rs := [0]) (by kernel_rfl) (by simp) ?_; refine AllReady.cons rfl (fun K hK => ?_) (AllReady.nil))
      go_simp
      refine hK _ _ ?_
      clear hK K
      (refine wpAny_ready (rs := [1]) (by kernel_rfl) (by simp) ?_; refine AllReady.cons rfl (fun K hK => ?_) (AllReady.nil))
      go_simp
      refine (H1.out _ (by exact HB1.out.drew)).mono ?_
      rintro e w2 ⟨hb2, o1, v1, rfl, ho1, hv1⟩
      have hkq2 := (hb2.block _ (lt_of_block HKQ.out)).trans HKQ.out
      have xq2 : w2.cell? ⟨w.heap.size + 1, 0, none⟩ = some (.slice A2 lq.length c2) := cell_of_block hkq2 0
      have hb12 : Below w.heap.size w w2 := below_then HB1.out.drew HB1.out.size hb2
      go_simp
      refine hK _ _ ?_
      clear hK K
      (refine wpAny_ready (rs := [3]) (by kernel_rfl) (by simp) ?_; refine AllReady.cons rfl (fun K hK => ?_) (AllReady.nil))
      go_simp
      refine (H2.out _ hb12).mono ?_
      rintro e w3 ⟨hb3, o2, v2, rfl, ho2, hv2⟩
      have hcut : JpCut lp lq w w1 v1 v2 w3 := jp_cut HB1.out hb2 hb3 ho1 hv1 ho2 hv2
      clear hb2 hb3 ho1 hv1 ho2 hv2 hb12 hkq2 xq2
      go_simp
      refine hK _ _ ?_
      clear hK K
      (refine wpAny_take (i := 4) (v := ?_) rfl (by kernel_rfl) (by kernel_rfl) (by kernel_rfl) (fun _ _ _ h => h) (Or.inl ⟨rfl, ?_⟩) ?_; rotate_left 1; (focus (intro w; go_simp; try (with_reducible rfl))); change wpAny _ _ _ _ _ _ (Act.put _ (some 6) _) _; simp only [Act.put, List.setIfInBounds_toArray, List.set_cons_zero, List.set_cons_succ])
      (refine wpAny_take (i := 5) (v := ?_) rfl (by kernel_rfl) (by kernel_rfl) (by kernel_rfl) (fun _ _ _ h => h) (Or.inl ⟨rfl, ?_⟩) ?_; rotate_left 1; (focus (intro w; go_simp; try (with_reducible rfl))); change wpAny _ _ _ _ _ _ (Act.put _ (some 7) _) _; simp only [Act.put, List.setIfInBounds_toArray, List.set_cons_zero, List.set_cons_succ])
      refine wpAny_done (by kernel_rfl) ?_ _
      go_wp2
      go_meet
      exact ⟨_, _, rfl, rfl, hcut⟩
  case rest =>
    obtain ⟨v1, v2, e1, e2, o1, o2, ho1, ho2, hv1, hv2, hb3⟩ := hcut
    replace e1 := e1.symm
    replace e2 := e2.symm
    subst e1 e2
    have hb13 : Below w.heap.size w wc := below_then HB1.out HB1.out.size hb3
    have hs3 : w1.heap.size ≤ wc.heap.size := hb3.size
    have hk3 := block_below HKR.out hb3
    have x3 := cell_of_block hk3 0
    have f3 := free_of_block hk3 0
    simp at x3
    have HK3 := Lib.hid hk3
    have HB13 := Lib.hid hb13
    have HO1 := Lib.hid ho1
    have HO2 := Lib.hid ho2
    have HV1 := Lib.hid hv1
    have HV2 := Lib.hid hv2
    clear hb3 hb13 hk3 ho1 ho2 hv1 hv2 xp xq
    have hnone : ((∀ t, ¬ IsGood lp t) ∨ ∀ t, ¬ IsGood lq t) → ∀ u, TwoPost patchOp lp lq w (.returned (.tuple #[.agg #[.slice none 0 0], .bool false])) (wc.setCell ⟨w.heap.size + 1 + 1, 0, none⟩ u) := fun h u =>
      ⟨[], _, false, rfl, two_none h, NdOwn.nil (HB13.out.setCell (p := ⟨w.heap.size + 1 + 1, 0, none⟩) (by show w.heap.size ≤ w.heap.size + 1 + 1; omega) _)⟩
    have HNONE := Lib.hid hnone
    clear hnone
    cases o1 with
    | none =>
      obtain rfl : v1 = .pointer none := HO1.out
      have heq := run_eql_nil_nil_val
      go_wp2
      refine bodyPost_ret (results_row_one rfl _ _ (w.heap.size + 1 + 1) _ _ _ _ rfl (block_setCell HK3.out _ _) Tryz.underlying25 rfl ((info_size infoValue).trans (by simp))) rfl ?_
      exact HNONE.out (.inl (HV1.out.2 rfl)) _
    | some tp =>
      have htp : TreeAt (fun b => w.heap.size ≤ b) wc v1 tp := HO1.out
      obtain ⟨bp, _, _, _, _, _, rfl, _⟩ := htp.open
      have heq1 := run_eql_ptr_nil bp
      have HTP := Lib.hid htp
      clear htp
      cases o2 with
      | none =>
        obtain rfl : v2 = .pointer none := HO2.out
        have heq := run_eql_nil_nil_val
        go_wp2
        refine bodyPost_ret (results_row_one rfl _ _ (w.heap.size + 1 + 1) _ _ _ _ rfl (block_setCell HK3.out _ _) Tryz.underlying25 rfl ((info_size infoValue).trans (by simp))) rfl ?_
        exact HNONE.out (.inr (HV2.out.2 rfl)) _
      | some tq =>
        have htq : TreeAt (fun b => w.heap.size ≤ b) wc v2 tq := HO2.out
        obtain ⟨bq, _, _, _, _, _, rfl, _⟩ := htq.open
        have heq2 := run_eql_ptr_nil bq
        have gp := HV1.out.1 tp rfl
        have gq := HV2.out.1 tq rfl
        have np := gp.count.2
        have nq := gq.count.2
        have HGP := Lib.hid gp
        have HGQ := Lib.hid gq
        have HJ := Lib.hid (patch_any tq gq.2.1 tp (fun b => w.heap.size ≤ b) _ _ wc gp.2.1 (by omega) HTP.out htq)
        clear htq gp gq
        go_wp2_with fail
        refine HJ.out.mono ?_
        rintro e w4 ⟨rv, rfl, hb4, hopt⟩
        have hok : ∀ t, patchOp tp tq = some t → t.shaped ∧ t.sized ∧ t.count ≤ 1000000000 := fun t ht => by
          obtain ⟨h1, h2⟩ := patch_ok tq tp HGP.out.2.1 HGQ.out.2.1
          injection ht with ht
          subst ht
          exact ⟨Tree.ok_shaped _ h1, Tree.ok_sized _ h1 (by omega), by omega⟩
        have hb14 := below_then HB13.out HB13.out.size hb4
        have HTO := Lib.hid (told_any (patchOp tp tq) hok _ rv w4 (show OptAt _ w4 rv (patchOp tp tq) from hopt) (HT.out w4 hb14))
        have hk4 := block_below HK3.out hb4
        have HK4 := Lib.hid hk4
        have HB14 := Lib.hid hb14
        have hs4 := hb4.size
        clear hok hb4 hopt hb14 hk4 x3 f3 HNONE HJ
        go_wp2_with fail
        refine HTO.out.mono ?_
        rintro e w5 ⟨l, u, f, rfl, htold, hown⟩
        obtain ⟨A5, c5, rfl⟩ := hown.shape
        have hk5 := block_below HK4.out hown.1
        have x5 := cell_of_block hk5 0
        have f5 := free_of_block hk5 0
        simp at x5
        have HK5 := Lib.hid hk5
        have HO5 := Lib.hid hown
        have HTD := Lib.hid htold
        clear hown htold hk5 HTO
        go_wp2
        refine bodyPost_ret (results_row_one rfl _ _ (w.heap.size + 1 + 1) _ _ _ _ rfl (block_setCell HK5.out _ _) Tryz.underlying25 rfl ((info_size infoValue).trans (by simp))) rfl ?_
        exact ⟨l, _, f, rfl, told_res HGP.out HGQ.out HTD.out, NdOwn.cell HB14.out HO5.out (by omega) (by omega) _⟩
end Go.Proofs.YteeppdobeeodiaaGreatDoor
