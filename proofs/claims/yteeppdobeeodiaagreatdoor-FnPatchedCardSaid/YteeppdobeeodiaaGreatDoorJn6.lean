/- (*val).put of a new name into a map. -/
import Derived.Test.YteeppdobeeodiaaGreatDoorJn3
import Derived.Test.YteeppdobeeodiaaGreatDoorDf1
import Derived.Test.YteeppdobeeodiaaGreatDoorJn5
import Derived.Test.YteeppdobeeodiaaGreatDoorHk
import Derived.Deep.RegionHeld3
namespace Go.Proofs.YteeppdobeeodiaaGreatDoor
open Go.RowKit

set_option maxRecDepth 100000 in
set_option maxHeartbeats 4000000 in
theorem put_any (t : Tree) (hk : t.kind = 7) (hlen : t.names.length = t.kids.length) (hl : t.names.length ≤ 1000000) (hs : sortedB t.names = true) (nm : ByteArray) (hnf : t.names[insPos t.names nm]? ≠ some nm) (tx : Tree) (F : Nat → Prop) (v xv : Value) (w : World) (ht : TreeAt F w v t) (hx : TreeAt F w xv tx) :
    Calls Tryz.prog 43 #[v, .string nm, xv] w (PutPost F t nm tx w) := by
  have HLEN := Lib.hid hlen
  have HP := Lib.hid (place_any t hk (by omega) hs nm F v w ht)
  have HC := Lib.hid (clone_any t (by omega) (by omega) F v w ht)
  have HT := Lib.hid ht
  obtain ⟨bx, _, _, _, _, _, rfl, _⟩ := hx.open
  have HX := Lib.hid hx
  have hpi : placeI t.names nm = -1 := by rw [placeI, if_neg hnf]
  rw [hpi] at HP
  obtain ⟨b, A1, c1, A2, c2, ps, rfl, hF, hbl, h0, h1, h2, h3, g3, r3, h4, g4, r4, hts⟩ := ht.open
  rw [hk] at h0
  clear r3 r4 hts ht hx hpi
  clear hlen
  go_enter Tryz.func43, Tryz.ntmps43
  go_wp2_with fail
  refine HP.out.mono ?_
  rintro e w' ⟨rfl, rfl⟩
  go_wp2_with fail
  refine HC.out.mono ?_
  rintro e w2 ⟨g, B2, d2, qs, rfl, hb2, hmade, htr⟩
  have h0' := (World.cell?_of_block (a := ⟨b, 0, none⟩) (hb2.block b hbl)).trans h0
  have HA := Lib.hid (at_any t (by omega) hs nm F _ w2 (HT.out.below hb2))
  clear h0 h1 h2 h3 h4
  go_wp2_with fail
  refine HA.out.mono ?_
  rintro e w' ⟨rfl, rfl⟩
  rw [decide_eq_false hnf]
  have HQT := Lib.hid htr.length
  have hqk : insPos t.names nm ≤ qs.length := by rw [HQT.out, ← HLEN.out]; exact insPos_le t.names nm
  obtain ⟨B1, d1, hgb, hkg, hd1, hd2, ho1, ho2⟩ := hmade
  have hpk := insPos_le t.names nm
  obtain ⟨p, hp⟩ : ∃ p, p = insPos t.names nm := ⟨_, rfl⟩
  rw [← hp] at hpk hqk ⊢
  have hql : qs.length ≤ 1000000 := by rw [HQT.out, ← HLEN.out]; exact hl
  have HPP := Lib.hid hp
  have HO1 := Lib.hid (fun W (hb : Below w2.heap.size w2 W) => own_below ho1 hb)
  have HO2 := Lib.hid (fun W (hb : Below w2.heap.size w2 W) => own_below ho2 hb)
  have HN1 := Lib.hid (fun k hk => (own_base ho1 k hk).2)
  have HN2 := Lib.hid (fun k hk => (own_base ho2 k hk).2)
  have HNE := Lib.hid (own_apart ho1 ho2 (by decide))
  have HL1 := Lib.hid (fun k hk => (own_base ho1 k hk).1)
  have HL2 := Lib.hid (fun k hk => (own_base ho2 k hk).1)
  have HKG := Lib.hid (fun W (hb : Below w2.heap.size w2 W) => block_below hkg hb)
  have y3 := cell_of_block hkg 3
  have y4 := cell_of_block hkg 4
  simp at y3 y4
  have hgl := lt_of_block hkg
  have HONE := Lib.hid htr.one
  have HTR := Lib.hid htr
  have HB2 := Lib.hid hb2
  have hgn1 := own_not_at ho1 hkg (by decide)
  have HG1 := Lib.hid hgn1
  have HG2 := Lib.hid (own_not_at ho2 hkg (by decide))
  clear ho1 ho2 hkg htr hb2 hgn1 hp HC HA HP
  go_wp2_with fail
  have HKEEP := Lib.hid (fun (W : World) (hv : W.heap[g]? = some (.cells #[.int .i64 t.kind, .int .i64 t.num, .string t.text, .slice B1 t.names.length d1, .slice B2 qs.length d2] 69 (0, 0))) => show W.cell? ⟨g, 3, none⟩ = some (.slice B1 t.names.length d1) ∧ W.cell? ⟨g, 4, none⟩ = some (.slice B2 qs.length d2) from ⟨cell_of_block hv 3, cell_of_block hv 4⟩)
  refine till_region 20 (fun W => W.cell? ⟨g, 3, none⟩ = some (.slice B1 t.names.length d1) ∧ W.cell? ⟨g, 4, none⟩ = some (.slice B2 qs.length d2)) (by kernel_rfl) ?_ (fun hHeld => ?_)
  · exact HKEEP.out _ (HKG.out _ (by (repeat (first | exact Below.refl _ _ | refine Below.drew ?_ | refine Below.alloc ?_ (by simp) _))))
  (refine Till.pure (i := 0) (u := ?_) rfl (by kernel_rfl) (by kernel_rfl) (by kernel_rfl) (by decide) (fun _ _ _ h => h) (Or.inl ⟨by rfl, ?_⟩) (fun _ => hHeld) ?_; rotate_left 1; (focus (intro w _; go_simp; try (with_reducible rfl))); change Till _ _ _ _ _ _ _ _ (Act.put _ (some 34) _) _; simp only [Act.put, List.setIfInBounds_toArray, List.set_cons_zero, List.set_cons_succ])
  (refine Till.pure (i := 1) (u := ?_) rfl (by kernel_rfl) (by kernel_rfl) (by kernel_rfl) (by decide) (fun _ _ _ h => h) (Or.inl ⟨by rfl, ?_⟩) (fun _ => hHeld) ?_; rotate_left 1; (focus (intro w _; go_simp; try (with_reducible rfl))); change Till _ _ _ _ _ _ _ _ (Act.put _ (some 35) _) _; simp only [Act.put, List.setIfInBounds_toArray, List.set_cons_zero, List.set_cons_succ])
  (refine Till.pure (i := 2) (u := ?_) rfl (by kernel_rfl) (by kernel_rfl) (by kernel_rfl) (by decide) (fun _ _ _ h => h) (Or.inl ⟨by rfl, ?_⟩) (fun _ => hHeld) ?_; rotate_left 1; (focus (intro w _; go_simp; try (with_reducible rfl))); change Till _ _ _ _ _ _ _ _ (Act.put _ (some 36) _) _; simp only [Act.put, List.setIfInBounds_toArray, List.set_cons_zero, List.set_cons_succ])
  (refine Till.pure (i := 3) (u := ?_) rfl (by kernel_rfl) (by kernel_rfl) (by kernel_rfl) (by decide) (fun _ _ _ h => h) (Or.inl ⟨by rfl, ?_⟩) (fun _ => hHeld) ?_; rotate_left 1; (focus (intro w _; go_simp; try (with_reducible rfl))); change Till _ _ _ _ _ _ _ _ (Act.put _ (some 37) _) _; simp only [Act.put, List.setIfInBounds_toArray, List.set_cons_zero, List.set_cons_succ])
  (refine Till.pure (i := 4) (u := ?_) rfl (by kernel_rfl) (by kernel_rfl) (by kernel_rfl) (by decide) (fun _ _ _ h => h) (Or.inl ⟨by rfl, ?_⟩) (fun _ => hHeld) ?_; rotate_left 1; (focus (intro w _; go_simp; try (with_reducible rfl))); change Till _ _ _ _ _ _ _ _ (Act.put _ (some 38) _) _; simp only [Act.put, List.setIfInBounds_toArray, List.set_cons_zero, List.set_cons_succ])
  (refine Till.load (i := 5) (u := ?_) rfl (by kernel_rfl) (by kernel_rfl) (by kernel_rfl) (by kernel_rfl) (by kernel_rfl) (fun _ _ _ h => h) (Or.inl ⟨by rfl, ?_⟩) hHeld ?_; rotate_left 1; (focus (intro w hSw; (try dsimp only at hSw); go_split_ands; go_simp; try (with_reducible rfl))); change Till _ _ _ _ _ _ _ _ (Act.put _ (some 39) _) _; simp only [Act.put, List.setIfInBounds_toArray, List.set_cons_zero, List.set_cons_succ])
  (refine Till.pure (i := 6) (u := ?_) rfl (by kernel_rfl) (by kernel_rfl) (by kernel_rfl) (by decide) (fun _ _ _ h => h) (Or.inl ⟨by rfl, ?_⟩) (fun _ => hHeld) ?_; rotate_left 1; (focus (intro w _; go_simp; try (with_reducible rfl))); change Till _ _ _ _ _ _ _ _ (Act.put _ (some 40) _) _; simp only [Act.put, List.setIfInBounds_toArray, List.set_cons_zero, List.set_cons_succ])
  (refine Till.pure (i := 7) (u := ?_) rfl (by kernel_rfl) (by kernel_rfl) (by kernel_rfl) (by decide) (fun _ _ _ h => h) (Or.inl ⟨by rfl, ?_⟩) (fun _ => hHeld) ?_; rotate_left 1; (focus (intro w _; go_simp; try (with_reducible rfl))); change Till _ _ _ _ _ _ _ _ (Act.put _ (some 41) _) _; simp only [Act.put, List.setIfInBounds_toArray, List.set_cons_zero, List.set_cons_succ])
  (refine Till.pure (i := 10) (u := ?_) rfl (by kernel_rfl) (by kernel_rfl) (by kernel_rfl) (by decide) (fun _ _ _ h => h) (Or.inl ⟨by rfl, ?_⟩) (fun _ => hHeld) ?_; rotate_left 1; (focus (intro w _; go_simp; try (with_reducible rfl))); change Till _ _ _ _ _ _ _ _ (Act.put _ (some 44) _) _; simp only [Act.put, List.setIfInBounds_toArray, List.set_cons_zero, List.set_cons_succ])
  (refine Till.pure (i := 11) (u := ?_) rfl (by kernel_rfl) (by kernel_rfl) (by kernel_rfl) (by decide) (fun _ _ _ h => h) (Or.inl ⟨by rfl, ?_⟩) (fun _ => hHeld) ?_; rotate_left 1; (focus (intro w _; go_simp; try (with_reducible rfl))); change Till _ _ _ _ _ _ _ _ (Act.put _ (some 45) _) _; simp only [Act.put, List.setIfInBounds_toArray, List.set_cons_zero, List.set_cons_succ])
  (refine Till.pure (i := 12) (u := ?_) rfl (by kernel_rfl) (by kernel_rfl) (by kernel_rfl) (by decide) (fun _ _ _ h => h) (Or.inl ⟨by rfl, ?_⟩) (fun _ => hHeld) ?_; rotate_left 1; (focus (intro w _; go_simp; try (with_reducible rfl))); change Till _ _ _ _ _ _ _ _ (Act.put _ (some 46) _) _; simp only [Act.put, List.setIfInBounds_toArray, List.set_cons_zero, List.set_cons_succ])
  (refine Till.load (i := 13) (u := ?_) rfl (by kernel_rfl) (by kernel_rfl) (by kernel_rfl) (by kernel_rfl) (by kernel_rfl) (fun _ _ _ h => h) (Or.inl ⟨by rfl, ?_⟩) hHeld ?_; rotate_left 1; (focus (intro w hSw; (try dsimp only at hSw); go_split_ands; go_simp; try (with_reducible rfl))); change Till _ _ _ _ _ _ _ _ (Act.put _ (some 47) _) _; simp only [Act.put, List.setIfInBounds_toArray, List.set_cons_zero, List.set_cons_succ])
  (refine Till.pure (i := 14) (u := ?_) rfl (by kernel_rfl) (by kernel_rfl) (by kernel_rfl) (by decide) (fun _ _ _ h => h) (Or.inl ⟨by rfl, ?_⟩) (fun _ => hHeld) ?_; rotate_left 1; (focus (intro w _; go_simp; try (with_reducible rfl))); change Till _ _ _ _ _ _ _ _ (Act.put _ (some 48) _) _; simp only [Act.put, List.setIfInBounds_toArray, List.set_cons_zero, List.set_cons_succ])
  (refine Till.pure (i := 15) (u := ?_) rfl (by kernel_rfl) (by kernel_rfl) (by kernel_rfl) (by decide) (fun _ _ _ h => h) (Or.inl ⟨by rfl, ?_⟩) (fun _ => hHeld) ?_; rotate_left 1; (focus (intro w _; go_simp; try (with_reducible rfl))); change Till _ _ _ _ _ _ _ _ (Act.put _ (some 49) _) _; simp only [Act.put, List.setIfInBounds_toArray, List.set_cons_zero, List.set_cons_succ])
  clear hHeld
  refine Till.two (i := 8) (j := 16) (by kernel_rfl) rfl rfl (fun K hK => ?_) (fun K hK => ?_)
  · go_simp
    refine hK.out _ _ (HKEEP.out _ (by first | exact block_below hk3 ((Below.refl _ _).alloc (Nat.le_refl _) _) | exact hk3 | exact HKG.out _ (by (repeat (first | exact Below.refl _ _ | refine Below.drew ?_ | refine Below.alloc ?_ (by simp) _))))) (fun hHeld => ?_)
    clear hK K
    refine Till.two (i := 9) (j := 16) (by kernel_rfl) rfl rfl (fun K hK => ?_) (fun K hK => ?_)
    · go_simp
      refine (insertS_any w.heap.size (strs t.names) t.names.length p d1 _ (.string nm) B1 _ hpk hl (by have := HB2.out.size; simp; omega) (by simp [strs]) (HO1.out _ (by (repeat (first | exact Below.refl _ _ | refine Below.drew ?_ | refine Below.alloc ?_ (by simp) _)))) (by first | ((repeat (first | with_reducible assumption | (with_reducible refine blk_new _ ?_; (first | rfl | (simp; done) | (simp; omega))) | with_reducible apply block_setCell | (with_reducible refine blk_skip _ _ ?_ ?_; rotate_left; (first | (simp; done) | (simp; omega))) | with_reducible refine blk_old ?_)); done) | (refine blk_drew ?_; (repeat (first | with_reducible assumption | (with_reducible refine blk_new _ ?_; (first | rfl | (simp; done) | (simp; omega))) | with_reducible apply block_setCell | (with_reducible refine blk_skip _ _ ?_ ?_; rotate_left; (first | (simp; done) | (simp; omega))) | with_reducible refine blk_old ?_)); done) | exact blk_drew2) (fun k hk => by have := HN1.out k hk; (try simp); omega) (strs_one _) rfl).mono ?_
      rintro e w3 ⟨A3, c3, rfl, hc3, hown3, hg3, hat3⟩
      have hk3 := (hg3.block g (by simp; omega) (fun e => HG1.out g e.symm rfl)).trans (HKG.out _ (by (repeat (first | exact Below.refl _ _ | refine Below.drew ?_ | refine Below.alloc ?_ (by simp) _))))
      have z3 := cell_of_block hk3 3
      have z4 := cell_of_block hk3 4
      simp at z3 z4
      have hbw3 : Below w.heap.size w w3 := (below_then HB2.out HB2.out.size (by (repeat (first | exact Below.refl _ _ | refine Below.drew ?_ | refine Below.alloc ?_ (by simp) _)))).grown hg3 (by have := HB2.out.size; simp; omega) (fun k hk => HL1.out k hk)
      have ho23 := (HO2.out _ (by (repeat (first | exact Below.refl _ _ | refine Below.drew ?_ | refine Below.alloc ?_ (by simp) _)))).kept hg3 HNE.out
      have hs3 := hg3.size
      have hgl3 := lt_of_block hk3
      simp at hs3
      go_simp
      refine hK.out _ _ (HKEEP.out _ hk3) (fun hHeld => ?_)
      clear hK K
      (refine Till.one (i := 16) (by kernel_rfl) rfl (fun K hK => ?_))
      go_simp
      refine hK.out _ _ (HKEEP.out _ (by first | exact block_below hk3 ((Below.refl _ _).alloc (Nat.le_refl _) _) | exact hk3 | exact HKG.out _ (by (repeat (first | exact Below.refl _ _ | refine Below.drew ?_ | refine Below.alloc ?_ (by simp) _))))) (fun hHeld => ?_)
      clear hK K
      (refine Till.one (i := 17) (by kernel_rfl) rfl (fun K hK => ?_))
      go_simp
      refine (insertP_any w.heap.size qs qs.length p d2 _ (.pointer (some ⟨bx, 0, none⟩)) B2 _ hqk hql (by have := hbw3.size; (try simp); omega) rfl (by first | exact ho23 | exact ho23.alloc _) (by first | ((repeat (first | with_reducible assumption | (with_reducible refine blk_new _ ?_; (first | rfl | (simp; done) | (simp; omega))) | with_reducible apply block_setCell | (with_reducible refine blk_skip _ _ ?_ ?_; rotate_left; (first | (simp; done) | (simp; omega))) | with_reducible refine blk_old ?_)); done) | (refine (hg3.block _ ?_ ?_).trans ?_; (focus (first | (simp; done) | (simp; omega))); (focus (intro e; have h := HN1.out _ e.symm; first | omega | (simp at h; done) | (simp at h; omega))); (first | (refine blk_drew ?_; (repeat (first | with_reducible assumption | (with_reducible refine blk_new _ ?_; (first | rfl | (simp; done) | (simp; omega))) | with_reducible apply block_setCell | (with_reducible refine blk_skip _ _ ?_ ?_; rotate_left; (first | (simp; done) | (simp; omega))) | with_reducible refine blk_old ?_)); done) | ((repeat (first | with_reducible assumption | (with_reducible refine blk_new _ ?_; (first | rfl | (simp; done) | (simp; omega))) | with_reducible apply block_setCell | (with_reducible refine blk_skip _ _ ?_ ?_; rotate_left; (first | (simp; done) | (simp; omega))) | with_reducible refine blk_old ?_)); done)))) (fun k hk => by have := HN2.out k hk; (try simp); omega) HONE.out rfl).mono ?_
      rintro e w5 ⟨A5, c5, rfl, hc5, hown5, hg5, hat5⟩
      have hk5 := (hg5.block g (by (try simp); omega) (fun e => HG2.out g e.symm rfl)).trans (show _ = some (.cells #[.int .i64 t.kind, .int .i64 t.num, .string t.text, .slice B1 t.names.length d1, .slice B2 qs.length d2] 69 (0, 0)) by first | exact hk3 | ((repeat (first | with_reducible assumption | (with_reducible refine blk_new _ ?_; (first | rfl | (simp; done) | (simp; omega))) | with_reducible apply block_setCell | (with_reducible refine blk_skip _ _ ?_ ?_; rotate_left; (first | (simp; done) | (simp; omega))) | with_reducible refine blk_old ?_)); done))
      have y5 := cell_of_block hk5 3
      have y6 := cell_of_block hk5 4
      have f5 := free_of_block hk5 3
      have f6 := free_of_block hk5 4
      simp at y5 y6
      go_simp
      refine hK.out _ _ (HKEEP.out _ hk5) (fun hHeld => ?_)
      clear hK K
      have hs5 := hg5.size
      (try simp at hs5)
      have hn5 := names_kept hg5 (by first | exact hown3 | exact hown3.alloc _) (by first | exact ho23 | exact ho23.alloc _)
      have hB5 := put_below hg5 (by first | exact hbw3 | exact hbw3.alloc hbw3.size _) HL2.out
      have HFIN := Lib.hid (fun W hK hA hB hsz => put_fin (W := W) (g := g) HPP.out hgb hk5 hK hA hB5 hB HB2.out hc3 hc5 hn5 hown5 hpk hqk hsz HTR.out HX.out)
      have HBB := Lib.hid hB5
      have hs25 : w2.heap.size ≤ w5.heap.size := by omega
      clear hs3 hs5 hk3 z3 z4 hbw3 ho23 hgl3 hown3 hat3 hg3 hn5 hB5 hat5 hown5
      (refine Till.pure (i := 18) (u := ?_) rfl (by kernel_rfl) (by kernel_rfl) (by kernel_rfl) (by decide) (fun _ _ _ h => h) (Or.inl ⟨by rfl, ?_⟩) (fun _ => hHeld) ?_; rotate_left 1; (focus (intro w _; go_simp; try (with_reducible rfl))); change Till _ _ _ _ _ _ _ _ (Act.put _ (some 52) _) _; simp only [Act.put, List.setIfInBounds_toArray, List.set_cons_zero, List.set_cons_succ])
      (refine Till.pure (i := 19) (u := ?_) rfl (by kernel_rfl) (by kernel_rfl) (by kernel_rfl) (by decide) (fun _ _ _ h => h) (Or.inl ⟨by rfl, ?_⟩) (fun _ => hHeld) ?_; rotate_left 1; (focus (intro w _; go_simp; try (with_reducible rfl))); change Till _ _ _ _ _ _ _ _ (Act.put _ (some 53) _) _; simp only [Act.put, List.setIfInBounds_toArray, List.set_cons_zero, List.set_cons_succ])
      (refine Till.last (by kernel_rfl) rfl (by kernel_rfl) (fun K hK => ?_))
      go_simp
      refine hK.out _ _ ?_
      clear hK K
      (refine wpAny_take (i := 21) (v := ?_) rfl (by kernel_rfl) (by kernel_rfl) (by kernel_rfl) (fun _ _ _ h => h) (Or.inl ⟨rfl, ?_⟩) ?_; rotate_left 1; (focus (intro w; go_simp; try (with_reducible rfl))); change wpAny _ _ _ _ _ _ (Act.put _ (some 54) _) _; simp only [Act.put, List.setIfInBounds_toArray, List.set_cons_zero, List.set_cons_succ])
      (refine wpAny_take (i := 22) (v := ?_) rfl (by kernel_rfl) (by kernel_rfl) (by kernel_rfl) (fun _ _ _ h => h) (Or.inl ⟨rfl, ?_⟩) ?_; rotate_left 1; (focus (intro w; go_simp; try (with_reducible rfl))); change wpAny _ _ _ _ _ _ (Act.put _ (some 55) _) _; simp only [Act.put, List.setIfInBounds_toArray, List.set_cons_zero, List.set_cons_succ])
      (refine wpAny_ready (rs := [23]) (by kernel_rfl) (by simp) ?_; refine AllReady.cons rfl (fun K hK => ?_) AllReady.nil; go_simp)
      refine hK _ _ ?_
      clear hK K
      refine wpAny_done (by kernel_rfl) ?_ _
      go_wp2
      go_ret
      exact HFIN.out _ (block_setCell (block_setCell hk5 3 _) 4 _) (fun G hG => (Agree.of_setCell _ _ _ hG).trans (Agree.of_setCell _ _ _ hG)) ((HBB.out.setCell hgb _).setCell hgb _) (by simp [World.setCell]; omega)
    · go_simp
      refine hK.out _ _ (HKEEP.out _ (by first | exact block_below hk3 ((Below.refl _ _).alloc (Nat.le_refl _) _) | exact hk3 | exact HKG.out _ (by (repeat (first | exact Below.refl _ _ | refine Below.drew ?_ | refine Below.alloc ?_ (by simp) _))))) (fun hHeld => ?_)
      clear hK K
      (refine Till.one (i := 9) (by kernel_rfl) rfl (fun K hK => ?_))
      go_simp
      refine (insertS_any w.heap.size (strs t.names) t.names.length p d1 _ (.string nm) B1 _ hpk hl (by have := HB2.out.size; simp; omega) (by simp [strs]) (HO1.out _ (by (repeat (first | exact Below.refl _ _ | refine Below.drew ?_ | refine Below.alloc ?_ (by simp) _)))) (by first | ((repeat (first | with_reducible assumption | (with_reducible refine blk_new _ ?_; (first | rfl | (simp; done) | (simp; omega))) | with_reducible apply block_setCell | (with_reducible refine blk_skip _ _ ?_ ?_; rotate_left; (first | (simp; done) | (simp; omega))) | with_reducible refine blk_old ?_)); done) | (refine blk_drew ?_; (repeat (first | with_reducible assumption | (with_reducible refine blk_new _ ?_; (first | rfl | (simp; done) | (simp; omega))) | with_reducible apply block_setCell | (with_reducible refine blk_skip _ _ ?_ ?_; rotate_left; (first | (simp; done) | (simp; omega))) | with_reducible refine blk_old ?_)); done) | exact blk_drew2) (fun k hk => by have := HN1.out k hk; (try simp); omega) (strs_one _) rfl).mono ?_
      rintro e w3 ⟨A3, c3, rfl, hc3, hown3, hg3, hat3⟩
      have hk3 := (hg3.block g (by simp; omega) (fun e => HG1.out g e.symm rfl)).trans (HKG.out _ (by (repeat (first | exact Below.refl _ _ | refine Below.drew ?_ | refine Below.alloc ?_ (by simp) _))))
      have z3 := cell_of_block hk3 3
      have z4 := cell_of_block hk3 4
      simp at z3 z4
      have hbw3 : Below w.heap.size w w3 := (below_then HB2.out HB2.out.size (by (repeat (first | exact Below.refl _ _ | refine Below.drew ?_ | refine Below.alloc ?_ (by simp) _)))).grown hg3 (by have := HB2.out.size; simp; omega) (fun k hk => HL1.out k hk)
      have ho23 := (HO2.out _ (by (repeat (first | exact Below.refl _ _ | refine Below.drew ?_ | refine Below.alloc ?_ (by simp) _)))).kept hg3 HNE.out
      have hs3 := hg3.size
      have hgl3 := lt_of_block hk3
      simp at hs3
      go_simp
      refine hK.out _ _ (HKEEP.out _ hk3) (fun hHeld => ?_)
      clear hK K
      (refine Till.one (i := 17) (by kernel_rfl) rfl (fun K hK => ?_))
      go_simp
      refine (insertP_any w.heap.size qs qs.length p d2 _ (.pointer (some ⟨bx, 0, none⟩)) B2 _ hqk hql (by have := hbw3.size; (try simp); omega) rfl (by first | exact ho23 | exact ho23.alloc _) (by first | ((repeat (first | with_reducible assumption | (with_reducible refine blk_new _ ?_; (first | rfl | (simp; done) | (simp; omega))) | with_reducible apply block_setCell | (with_reducible refine blk_skip _ _ ?_ ?_; rotate_left; (first | (simp; done) | (simp; omega))) | with_reducible refine blk_old ?_)); done) | (refine (hg3.block _ ?_ ?_).trans ?_; (focus (first | (simp; done) | (simp; omega))); (focus (intro e; have h := HN1.out _ e.symm; first | omega | (simp at h; done) | (simp at h; omega))); (first | (refine blk_drew ?_; (repeat (first | with_reducible assumption | (with_reducible refine blk_new _ ?_; (first | rfl | (simp; done) | (simp; omega))) | with_reducible apply block_setCell | (with_reducible refine blk_skip _ _ ?_ ?_; rotate_left; (first | (simp; done) | (simp; omega))) | with_reducible refine blk_old ?_)); done) | ((repeat (first | with_reducible assumption | (with_reducible refine blk_new _ ?_; (first | rfl | (simp; done) | (simp; omega))) | with_reducible apply block_setCell | (with_reducible refine blk_skip _ _ ?_ ?_; rotate_left; (first | (simp; done) | (simp; omega))) | with_reducible refine blk_old ?_)); done)))) (fun k hk => by have := HN2.out k hk; (try simp); omega) HONE.out rfl).mono ?_
      rintro e w5 ⟨A5, c5, rfl, hc5, hown5, hg5, hat5⟩
      have hk5 := (hg5.block g (by (try simp); omega) (fun e => HG2.out g e.symm rfl)).trans (show _ = some (.cells #[.int .i64 t.kind, .int .i64 t.num, .string t.text, .slice B1 t.names.length d1, .slice B2 qs.length d2] 69 (0, 0)) by first | exact hk3 | ((repeat (first | with_reducible assumption | (with_reducible refine blk_new _ ?_; (first | rfl | (simp; done) | (simp; omega))) | with_reducible apply block_setCell | (with_reducible refine blk_skip _ _ ?_ ?_; rotate_left; (first | (simp; done) | (simp; omega))) | with_reducible refine blk_old ?_)); done))
      have y5 := cell_of_block hk5 3
      have y6 := cell_of_block hk5 4
      have f5 := free_of_block hk5 3
      have f6 := free_of_block hk5 4
      simp at y5 y6
      go_simp
      refine hK.out _ _ (HKEEP.out _ hk5) (fun hHeld => ?_)
      clear hK K
      have hs5 := hg5.size
      (try simp at hs5)
      have hn5 := names_kept hg5 (by first | exact hown3 | exact hown3.alloc _) (by first | exact ho23 | exact ho23.alloc _)
      have hB5 := put_below hg5 (by first | exact hbw3 | exact hbw3.alloc hbw3.size _) HL2.out
      have HFIN := Lib.hid (fun W hK hA hB hsz => put_fin (W := W) (g := g) HPP.out hgb hk5 hK hA hB5 hB HB2.out hc3 hc5 hn5 hown5 hpk hqk hsz HTR.out HX.out)
      have HBB := Lib.hid hB5
      have hs25 : w2.heap.size ≤ w5.heap.size := by omega
      clear hs3 hs5 hk3 z3 z4 hbw3 ho23 hgl3 hown3 hat3 hg3 hn5 hB5 hat5 hown5
      (refine Till.pure (i := 18) (u := ?_) rfl (by kernel_rfl) (by kernel_rfl) (by kernel_rfl) (by decide) (fun _ _ _ h => h) (Or.inl ⟨by rfl, ?_⟩) (fun _ => hHeld) ?_; rotate_left 1; (focus (intro w _; go_simp; try (with_reducible rfl))); change Till _ _ _ _ _ _ _ _ (Act.put _ (some 52) _) _; simp only [Act.put, List.setIfInBounds_toArray, List.set_cons_zero, List.set_cons_succ])
      (refine Till.pure (i := 19) (u := ?_) rfl (by kernel_rfl) (by kernel_rfl) (by kernel_rfl) (by decide) (fun _ _ _ h => h) (Or.inl ⟨by rfl, ?_⟩) (fun _ => hHeld) ?_; rotate_left 1; (focus (intro w _; go_simp; try (with_reducible rfl))); change Till _ _ _ _ _ _ _ _ (Act.put _ (some 53) _) _; simp only [Act.put, List.setIfInBounds_toArray, List.set_cons_zero, List.set_cons_succ])
      (refine Till.last (by kernel_rfl) rfl (by kernel_rfl) (fun K hK => ?_))
      go_simp
      refine hK.out _ _ ?_
      clear hK K
      (refine wpAny_take (i := 21) (v := ?_) rfl (by kernel_rfl) (by kernel_rfl) (by kernel_rfl) (fun _ _ _ h => h) (Or.inl ⟨rfl, ?_⟩) ?_; rotate_left 1; (focus (intro w; go_simp; try (with_reducible rfl))); change wpAny _ _ _ _ _ _ (Act.put _ (some 54) _) _; simp only [Act.put, List.setIfInBounds_toArray, List.set_cons_zero, List.set_cons_succ])
      (refine wpAny_take (i := 22) (v := ?_) rfl (by kernel_rfl) (by kernel_rfl) (by kernel_rfl) (fun _ _ _ h => h) (Or.inl ⟨rfl, ?_⟩) ?_; rotate_left 1; (focus (intro w; go_simp; try (with_reducible rfl))); change wpAny _ _ _ _ _ _ (Act.put _ (some 55) _) _; simp only [Act.put, List.setIfInBounds_toArray, List.set_cons_zero, List.set_cons_succ])
      (refine wpAny_ready (rs := [23]) (by kernel_rfl) (by simp) ?_; refine AllReady.cons rfl (fun K hK => ?_) AllReady.nil; go_simp)
      refine hK _ _ ?_
      clear hK K
      refine wpAny_done (by kernel_rfl) ?_ _
      go_wp2
      go_ret
      exact HFIN.out _ (block_setCell (block_setCell hk5 3 _) 4 _) (fun G hG => (Agree.of_setCell _ _ _ hG).trans (Agree.of_setCell _ _ _ hG)) ((HBB.out.setCell hgb _).setCell hgb _) (by simp [World.setCell]; omega)
  · go_simp
    refine hK.out _ _ (HKEEP.out _ (by first | exact block_below hk3 ((Below.refl _ _).alloc (Nat.le_refl _) _) | exact hk3 | exact HKG.out _ (by (repeat (first | exact Below.refl _ _ | refine Below.drew ?_ | refine Below.alloc ?_ (by simp) _))))) (fun hHeld => ?_)
    clear hK K
    (refine Till.one (i := 8) (by kernel_rfl) rfl (fun K hK => ?_))
    go_simp
    refine hK.out _ _ (HKEEP.out _ (by first | exact block_below hk3 ((Below.refl _ _).alloc (Nat.le_refl _) _) | exact hk3 | exact HKG.out _ (by (repeat (first | exact Below.refl _ _ | refine Below.drew ?_ | refine Below.alloc ?_ (by simp) _))))) (fun hHeld => ?_)
    clear hK K
    (refine Till.one (i := 9) (by kernel_rfl) rfl (fun K hK => ?_))
    go_simp
    refine (insertS_any w.heap.size (strs t.names) t.names.length p d1 _ (.string nm) B1 _ hpk hl (by have := HB2.out.size; simp; omega) (by simp [strs]) (HO1.out _ (by (repeat (first | exact Below.refl _ _ | refine Below.drew ?_ | refine Below.alloc ?_ (by simp) _)))) (by first | ((repeat (first | with_reducible assumption | (with_reducible refine blk_new _ ?_; (first | rfl | (simp; done) | (simp; omega))) | with_reducible apply block_setCell | (with_reducible refine blk_skip _ _ ?_ ?_; rotate_left; (first | (simp; done) | (simp; omega))) | with_reducible refine blk_old ?_)); done) | (refine blk_drew ?_; (repeat (first | with_reducible assumption | (with_reducible refine blk_new _ ?_; (first | rfl | (simp; done) | (simp; omega))) | with_reducible apply block_setCell | (with_reducible refine blk_skip _ _ ?_ ?_; rotate_left; (first | (simp; done) | (simp; omega))) | with_reducible refine blk_old ?_)); done) | exact blk_drew2) (fun k hk => by have := HN1.out k hk; (try simp); omega) (strs_one _) rfl).mono ?_
    rintro e w3 ⟨A3, c3, rfl, hc3, hown3, hg3, hat3⟩
    have hk3 := (hg3.block g (by simp; omega) (fun e => HG1.out g e.symm rfl)).trans (HKG.out _ (by (repeat (first | exact Below.refl _ _ | refine Below.drew ?_ | refine Below.alloc ?_ (by simp) _))))
    have z3 := cell_of_block hk3 3
    have z4 := cell_of_block hk3 4
    simp at z3 z4
    have hbw3 : Below w.heap.size w w3 := (below_then HB2.out HB2.out.size (by (repeat (first | exact Below.refl _ _ | refine Below.drew ?_ | refine Below.alloc ?_ (by simp) _)))).grown hg3 (by have := HB2.out.size; simp; omega) (fun k hk => HL1.out k hk)
    have ho23 := (HO2.out _ (by (repeat (first | exact Below.refl _ _ | refine Below.drew ?_ | refine Below.alloc ?_ (by simp) _)))).kept hg3 HNE.out
    have hs3 := hg3.size
    have hgl3 := lt_of_block hk3
    simp at hs3
    go_simp
    refine hK.out _ _ (HKEEP.out _ hk3) (fun hHeld => ?_)
    clear hK K
    (refine Till.one (i := 17) (by kernel_rfl) rfl (fun K hK => ?_))
    go_simp
    refine (insertP_any w.heap.size qs qs.length p d2 _ (.pointer (some ⟨bx, 0, none⟩)) B2 _ hqk hql (by have := hbw3.size; (try simp); omega) rfl (by first | exact ho23 | exact ho23.alloc _) (by first | ((repeat (first | with_reducible assumption | (with_reducible refine blk_new _ ?_; (first | rfl | (simp; done) | (simp; omega))) | with_reducible apply block_setCell | (with_reducible refine blk_skip _ _ ?_ ?_; rotate_left; (first | (simp; done) | (simp; omega))) | with_reducible refine blk_old ?_)); done) | (refine (hg3.block _ ?_ ?_).trans ?_; (focus (first | (simp; done) | (simp; omega))); (focus (intro e; have h := HN1.out _ e.symm; first | omega | (simp at h; done) | (simp at h; omega))); (first | (refine blk_drew ?_; (repeat (first | with_reducible assumption | (with_reducible refine blk_new _ ?_; (first | rfl | (simp; done) | (simp; omega))) | with_reducible apply block_setCell | (with_reducible refine blk_skip _ _ ?_ ?_; rotate_left; (first | (simp; done) | (simp; omega))) | with_reducible refine blk_old ?_)); done) | ((repeat (first | with_reducible assumption | (with_reducible refine blk_new _ ?_; (first | rfl | (simp; done) | (simp; omega))) | with_reducible apply block_setCell | (with_reducible refine blk_skip _ _ ?_ ?_; rotate_left; (first | (simp; done) | (simp; omega))) | with_reducible refine blk_old ?_)); done)))) (fun k hk => by have := HN2.out k hk; (try simp); omega) HONE.out rfl).mono ?_
    rintro e w5 ⟨A5, c5, rfl, hc5, hown5, hg5, hat5⟩
    have hk5 := (hg5.block g (by (try simp); omega) (fun e => HG2.out g e.symm rfl)).trans (show _ = some (.cells #[.int .i64 t.kind, .int .i64 t.num, .string t.text, .slice B1 t.names.length d1, .slice B2 qs.length d2] 69 (0, 0)) by first | exact hk3 | ((repeat (first | with_reducible assumption | (with_reducible refine blk_new _ ?_; (first | rfl | (simp; done) | (simp; omega))) | with_reducible apply block_setCell | (with_reducible refine blk_skip _ _ ?_ ?_; rotate_left; (first | (simp; done) | (simp; omega))) | with_reducible refine blk_old ?_)); done))
    have y5 := cell_of_block hk5 3
    have y6 := cell_of_block hk5 4
    have f5 := free_of_block hk5 3
    have f6 := free_of_block hk5 4
    simp at y5 y6
    go_simp
    refine hK.out _ _ (HKEEP.out _ hk5) (fun hHeld => ?_)
    clear hK K
    have hs5 := hg5.size
    (try simp at hs5)
    have hn5 := names_kept hg5 (by first | exact hown3 | exact hown3.alloc _) (by first | exact ho23 | exact ho23.alloc _)
    have hB5 := put_below hg5 (by first | exact hbw3 | exact hbw3.alloc hbw3.size _) HL2.out
    have HFIN := Lib.hid (fun W hK hA hB hsz => put_fin (W := W) (g := g) HPP.out hgb hk5 hK hA hB5 hB HB2.out hc3 hc5 hn5 hown5 hpk hqk hsz HTR.out HX.out)
    have HBB := Lib.hid hB5
    have hs25 : w2.heap.size ≤ w5.heap.size := by omega
    clear hs3 hs5 hk3 z3 z4 hbw3 ho23 hgl3 hown3 hat3 hg3 hn5 hB5 hat5 hown5
    (refine Till.pure (i := 18) (u := ?_) rfl (by kernel_rfl) (by kernel_rfl) (by kernel_rfl) (by decide) (fun _ _ _ h => h) (Or.inl ⟨by rfl, ?_⟩) (fun _ => hHeld) ?_; rotate_left 1; (focus (intro w _; go_simp; try (with_reducible rfl))); change Till _ _ _ _ _ _ _ _ (Act.put _ (some 52) _) _; simp only [Act.put, List.setIfInBounds_toArray, List.set_cons_zero, List.set_cons_succ])
    (refine Till.pure (i := 19) (u := ?_) rfl (by kernel_rfl) (by kernel_rfl) (by kernel_rfl) (by decide) (fun _ _ _ h => h) (Or.inl ⟨by rfl, ?_⟩) (fun _ => hHeld) ?_; rotate_left 1; (focus (intro w _; go_simp; try (with_reducible rfl))); change Till _ _ _ _ _ _ _ _ (Act.put _ (some 53) _) _; simp only [Act.put, List.setIfInBounds_toArray, List.set_cons_zero, List.set_cons_succ])
    (refine Till.last (by kernel_rfl) rfl (by kernel_rfl) (fun K hK => ?_))
    go_simp
    refine hK.out _ _ ?_
    clear hK K
    (refine wpAny_take (i := 21) (v := ?_) rfl (by kernel_rfl) (by kernel_rfl) (by kernel_rfl) (fun _ _ _ h => h) (Or.inl ⟨rfl, ?_⟩) ?_; rotate_left 1; (focus (intro w; go_simp; try (with_reducible rfl))); change wpAny _ _ _ _ _ _ (Act.put _ (some 54) _) _; simp only [Act.put, List.setIfInBounds_toArray, List.set_cons_zero, List.set_cons_succ])
    (refine wpAny_take (i := 22) (v := ?_) rfl (by kernel_rfl) (by kernel_rfl) (by kernel_rfl) (fun _ _ _ h => h) (Or.inl ⟨rfl, ?_⟩) ?_; rotate_left 1; (focus (intro w; go_simp; try (with_reducible rfl))); change wpAny _ _ _ _ _ _ (Act.put _ (some 55) _) _; simp only [Act.put, List.setIfInBounds_toArray, List.set_cons_zero, List.set_cons_succ])
    (refine wpAny_ready (rs := [23]) (by kernel_rfl) (by simp) ?_; refine AllReady.cons rfl (fun K hK => ?_) AllReady.nil; go_simp)
    refine hK _ _ ?_
    clear hK K
    refine wpAny_done (by kernel_rfl) ?_ _
    go_wp2
    go_ret
    exact HFIN.out _ (block_setCell (block_setCell hk5 3 _) 4 _) (fun G hG => (Agree.of_setCell _ _ _ hG).trans (Agree.of_setCell _ _ _ hG)) ((HBB.out.setCell hgb _).setCell hgb _) (by simp [World.setCell]; omega)
end Go.Proofs.YteeppdobeeodiaaGreatDoor
