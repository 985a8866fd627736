/- The reference's l16Put. -/
import Derived.Test.YtemcijhpmpdebaaGreatDoorFo7
namespace Go.Proofs.YtemcijhpmpdebaaGreatDoor
open Go.RowKit
set_option maxRecDepth 100000 in
set_option maxHeartbeats 8000000 in
theorem sPut_any (rs : List StR) (hl : rs.length ≤ 20) (hri : RiseI (dIds (rs.map StR.d))) (d : StV) (hdl : d.doc.length ≤ 1000000000) {FD : Nat → Prop} (F : Nat → Prop) (A : Option Addr) (c : Nat) (DA : Option Addr) (dc : Nat) (w : World) (h : SAt F w A c rs) (hdr : Rds FD w DA (ndCells d.doc)) :
    Calls Tryz.prog 95 #[.slice A rs.length c, .agg #[.int .i64 d.id, .slice DA d.doc.length dc]] w (SDocs F (putD (rs.map StR.d) d) w) := by
  have hcap := h.cap
  have hb1 : Below w.heap.size w (w.alloc (.cells #[.int .i64 d.id, .slice DA d.doc.length dc] 94 (0, 0))) := bl_alloc (Below.refl _ _)
  have HS := Lib.hid (h.below hb1)
  have HDR := Lib.hid (hdr.below hb1)
  have HRI := Lib.hid hri
  have HB1 := Lib.hid hb1
  have HK1 := Lib.hid (heap_alloc_new w (.cells #[.int .i64 d.id, .slice DA d.doc.length dc] 94 (0, 0)))
  have hs1 : (w.alloc (.cells #[.int .i64 d.id, .slice DA d.doc.length dc] 94 (0, 0))).heap.size = w.heap.size + 1 := by simp
  clear h hri hdr hb1
  go_enter Tryz.func95, Tryz.ntmps95
  go_upto_block 0 with fail
  generalize w.alloc (.cells #[.int .i64 d.id, .slice DA d.doc.length dc] 94 (0, 0)) = w1 at HS HDR HB1 HK1 hs1 ⊢
  go_cut [6] (fun v wx => ∃ k : Nat, v = .int .i64 (k : Int) ∧ k ≤ rs.length ∧ Hid (k = posI (dIds (rs.map StR.d)) d.id) ∧ Below w1.heap.size w1 wx)
  case first =>
    go_wp2_with fail
    go_loopw [6] (fun iv wx => ∃ k : Nat, iv = .int .i64 (k : Int) ∧ k ≤ rs.length ∧ Hid (∀ (j : Nat) (a : Int), j < k → (dIds (rs.map StR.d))[j]? = some a → a < d.id) ∧ Below w1.heap.size w1 wx) (fun iv _ => rs.length - (intOf iv).toNat)
    case atStart => exact ⟨0, rfl, Nat.zero_le _, Lib.hid (fun j a h => by omega), Below.refl _ _⟩
    case round =>
      obtain ⟨k, rfl, hk, HN, hbx⟩ := hrel
      have hkb := block_below HK1.out hbx
      have z0 := cell_of_block hkb 0
      simp at z0
      have HB := Lib.hid hbx
      by_cases hlt : k < rs.length
      · have hrk : rs[k]? = some rs[k] := by simp [hlt]
        generalize rs[k] = r at hrk
        obtain ⟨b, o, rfl, y0, y1⟩ := (HS.out.below hbx).at k r hrk
        have hgk : (dIds (rs.map StR.d))[k]? = some r.d.id := by unfold dIds; rw [List.getElem?_map, List.getElem?_map, hrk]; rfl
        have HGK := Lib.hid hgk
        have hbb : decide ((k : Int) < (rs.length : Int)) = true := by simp; omega
        clear hbx hrk hkb hgk y1
        by_cases he : r.d.id < d.id
        · have de : decide (r.d.id < d.id) = true := by simpa using he
          have HE := Lib.hid he
          clear he
          go_upto_region 2 with fail
          go_quiet (fail)
          go_wp2
          go_roundw
          case rel => exact ⟨k + 1, by go_num, by omega, Lib.hid (fun j a hj ha => by
            by_cases e : j = k
            · subst e; rw [HGK.out] at ha; injection ha with ha; rw [← ha]; exact HE.out
            · exact HN.out j a (by omega) ha), HB.out.trans (below_dn' _ _)⟩
          case measure => simp [intOf]; omega
        · have de : decide (r.d.id < d.id) = false := by simpa using he
          have HE := Lib.hid he
          clear he
          go_upto_region 2 with fail
          go_quiet (fail)
          go_wp2
          go_meet
          exact ⟨k, rfl, hk, Lib.hid (posI_first (by simpa [dIds] using hk) HN.out (fun a ha => by rw [HGK.out] at ha; injection ha with ha; have := HE.out; omega)), HB.out.trans (below_dn' _ _)⟩
      · obtain rfl : k = rs.length := by omega
        have hbb : decide ((rs.length : Int) < (rs.length : Int)) = false := by simp
        clear hbx hkb
        go_upto_region 2 with fail
        go_quiet (fail)
        go_wp2
        go_meet
        exact ⟨rs.length, rfl, hk, Lib.hid (posI_first (by simp [dIds]) HN.out (fun a ha => by simp [dIds] at ha)), HB.out.trans (below_dn' _ _)⟩
  case rest =>
    obtain ⟨k, rfl, hk, HP, hbc⟩ := hcut
    obtain ⟨wq, hwq⟩ : ∃ wq, wq = wc := ⟨_, rfl⟩
    subst hwq
    have HBC := Lib.hid (HB1.out.trans (hbc.mono (by omega) : Below w.heap.size w1 wq))
    have HSC := Lib.hid (HS.out.below hbc)
    have HDC := Lib.hid (HDR.out.below hbc)
    have HKC := Lib.hid (block_below HK1.out hbc)
    have HLF := Lib.hid (show (stCells (rs.take k)).length = k * 2 from by rw [stCells_length, List.length_take, Nat.min_eq_left hk])
    have HRF := Lib.hid (show Rds F wq A (stCells (rs.take k)) from by rw [← st_take rs k hk]; exact rds_take HSC.out.row _)
    have hkc : k ≤ c := by omega
    have hcl : w.heap.size < wq.heap.size := lt_of_block HKC.out
    clear hbc HS HDR HK1 HB1
    go_upto_region 6 with (at_builtin; refine append_rows wq.heap.size rfl (.tmp 24) (.tmp 27) 24 94 _ 2 32 rfl Tryz.underlying24 infoStored rfl (by decide) (.slice none 0 0) 0 [] rfl (World.ownsRow_nil _ _ _ _) A k c (stCells (rs.take k)) rfl HLF.out HRF.out (stCells_one _) (by simp only [maxLen]; omega) (by omega) (Nat.le_refl _) ?_; intro A1 c1 w5 hc1 hown1 hg1 hat1)
    have hb5 : Below wq.heap.size wq w5 := (Below.refl _ _).grown hg1 (Nat.le_refl _) (fun k hk => by cases hk)
    have HB5 := Lib.hid hb5
    have HO5 := Lib.hid (show w5.ownsRow wq.heap.size 94 2 (.slice A1 k c1) k (stCells (rs.take k)) from by rw [Nat.zero_add, List.nil_append] at hown1; exact hown1)
    have HK5 := Lib.hid (block_below HKC.out hb5)
    have HD5 := Lib.hid (HDC.out.below hb5)
    rw [Nat.zero_add] at hc1
    clear hb5 hown1 hg1 hat1 HKC HDC HRF HLF
    have hcl5 : w.heap.size < w5.heap.size := lt_of_block HK5.out
    have hcw5 : wq.heap.size ≤ w5.heap.size := HB5.out.size
    have HKEEP := Lib.hid (fun (W : World) (hk : W.heap[w.heap.size]? = some (.cells #[.int .i64 d.id, .slice DA d.doc.length dc] 94 (0, 0))) => show W.cell? ⟨w.heap.size, 0, none⟩ = some (.int .i64 d.id) ∧ W.cell? ⟨w.heap.size, 1, none⟩ = some (.slice DA d.doc.length dc) from ⟨cell_of_block hk 0, cell_of_block hk 1⟩)
    have HCL := Lib.hid (sOwnVal_any d.doc hdl FD DA dc w5.drew (HD5.out.below (Below.refl _ _).drew))
    go_cut [7] (fun v wx => ∃ A2 c2 r, v = .slice A2 (k + 1) c2 ∧ k + 1 ≤ c2 ∧ Below wq.heap.size wq wx ∧ Hid (r.d = d ∧ wx.ownsRow wq.heap.size 94 2 (.slice A2 (k + 1) c2) (k + 1) (stCells (rs.take k ++ [r])) ∧ r.d.doc.length ≤ r.cap ∧ wx.ownsRow wq.heap.size 100 5 (.slice r.adr r.d.doc.length r.cap) r.d.doc.length (ndCells r.d.doc)))
    case first =>
      refine till_region 9 (fun W => W.cell? ⟨w.heap.size, 0, none⟩ = some (.int .i64 d.id) ∧ W.cell? ⟨w.heap.size, 1, none⟩ = some (.slice DA d.doc.length dc)) (by kernel_rfl) ?_ (fun hHeld => ?_)
      · exact HKEEP.out _ HK5.out
      (refine Till.pure (i := 0) (u := ?_) rfl (by kernel_rfl) (by kernel_rfl) (by kernel_rfl) (by decide) (fun _ _ _ h => h) (Or.inl ⟨by rfl, ?_⟩) (fun _ => hHeld) ?_; rotate_left 1; (focus (intro w _; go_simp; try (with_reducible rfl))); change Till _ _ _ _ _ _ _ _ (Act.put _ (some 29) _) _; simp only [Act.put, List.setIfInBounds_toArray, List.set_cons_zero, List.set_cons_succ])
      (refine Till.pure (i := 1) (u := ?_) rfl (by kernel_rfl) (by kernel_rfl) (by kernel_rfl) (by decide) (fun _ _ _ h => h) (Or.inl ⟨by rfl, ?_⟩) (fun _ => hHeld) ?_; rotate_left 1; (focus (intro w _; go_simp; try (with_reducible rfl))); change Till _ _ _ _ _ _ _ _ (Act.put _ (some 30) _) _; simp only [Act.put, List.setIfInBounds_toArray, List.set_cons_zero, List.set_cons_succ])
      (refine Till.load (i := 2) (u := ?_) rfl (by kernel_rfl) (by kernel_rfl) (by kernel_rfl) (by kernel_rfl) (by kernel_rfl) (fun _ _ _ h => h) (Or.inl ⟨by rfl, ?_⟩) hHeld ?_; rotate_left 1; (focus (intro w hSw; (try dsimp only at hSw); go_split_ands; go_simp; try (with_reducible rfl))); change Till _ _ _ _ _ _ _ _ (Act.put _ (some 31) _) _; simp only [Act.put, List.setIfInBounds_toArray, List.set_cons_zero, List.set_cons_succ])
      (refine Till.pure (i := 3) (u := ?_) rfl (by kernel_rfl) (by kernel_rfl) (by kernel_rfl) (by decide) (fun _ _ _ h => h) (Or.inl ⟨by rfl, ?_⟩) (fun _ => hHeld) ?_; rotate_left 1; (focus (intro w _; go_simp; try (with_reducible rfl))); change Till _ _ _ _ _ _ _ _ (Act.put _ (some 32) _) _; simp only [Act.put, List.setIfInBounds_toArray, List.set_cons_zero, List.set_cons_succ])
      (refine Till.load (i := 4) (u := ?_) rfl (by kernel_rfl) (by kernel_rfl) (by kernel_rfl) (by kernel_rfl) (by kernel_rfl) (fun _ _ _ h => h) (Or.inl ⟨by rfl, ?_⟩) hHeld ?_; rotate_left 1; (focus (intro w hSw; (try dsimp only at hSw); go_split_ands; go_simp; try (with_reducible rfl))); change Till _ _ _ _ _ _ _ _ (Act.put _ (some 33) _) _; simp only [Act.put, List.setIfInBounds_toArray, List.set_cons_zero, List.set_cons_succ])
      (refine Till.one (i := 5) (by kernel_rfl) rfl (fun K hK => ?_))
      go_simp
      refine HCL.out.mono ?_
      rintro e w6 ⟨v6, rfl, hb6, A6, c6, rfl, hc6, hr6, ho6⟩
      have hb56 : Below w5.heap.size w5 w6 := below_then (Below.refl _ _).drew (Nat.le_refl _) hb6
      have HK6 := Lib.hid (block_below HK5.out hb56)
      have HO6 := Lib.hid (own_below HO5.out hb56)
      have HR6 := Lib.hid hr6
      have HB6 := Lib.hid (HB5.out.trans (hb56.mono hcw5 : Below wq.heap.size w5 w6))
      have hs6 := hb56.size
      have HN6 := Lib.hid ho6
      go_simp
      refine hK.out _ _ (HKEEP.out _ HK6.out) (fun hHeld => ?_)
      clear hK K hb6 hb56 hr6 ho6
      (refine Till.pure (i := 6) (u := ?_) rfl (by kernel_rfl) (by kernel_rfl) (by kernel_rfl) (by decide) (fun _ _ _ h => h) (Or.inl ⟨by rfl, ?_⟩) (fun _ => hHeld) ?_; rotate_left 1; (focus (intro w _; go_simp; try (with_reducible rfl))); change Till _ _ _ _ _ _ _ _ (Act.put _ (some 35) _) _; simp only [Act.put, List.setIfInBounds_toArray, List.set_cons_zero, List.set_cons_succ])
      (refine Till.one (i := 7) (by kernel_rfl) rfl (fun K hK => ?_))
      go_simp
      have HV7 := Lib.hid (heap_alloc_new w6 (.cells #[.int .i64 d.id, .slice A6 d.doc.length c6] 94 (0, 0)))
      have HK7 := Lib.hid (block_below HK6.out (bl_alloc (o := .cells #[.int .i64 d.id, .slice A6 d.doc.length c6] 94 (0, 0)) (Below.refl _ _)))
      refine hK.out _ _ (HKEEP.out _ HK7.out) (fun hHeld => ?_)
      clear hK K
      (refine Till.one (i := 8) (by kernel_rfl) rfl (fun K hK => ?_))
      refine step_rows wq.heap.size rfl (.tmp 29) (.tmp 36) 24 94 _ 2 32 rfl Tryz.underlying24 infoStored rfl (by decide) (.slice A1 k c1) k (stCells (rs.take k)) rfl (HO6.out.alloc _) (some ⟨w6.heap.size, 0, none⟩) 1 1 [.int .i64 d.id, .slice A6 d.doc.length c6] rfl rfl (rds_blk HV7.out) (by intro v hv; simp at hv; rcases hv with rfl | rfl <;> rfl) (by simp only [maxLen]; omega) (by omega) (by simp; omega) ?_
      intro A7 c7 w7 hc7 hown7 hg7
      have haW : Agree (fun b => (Value.slice A1 k c1).ownBlock ≠ some b) (w6.alloc (.cells #[.int .i64 d.id, .slice A6 d.doc.length c6] 94 (0, 0))) w7 := ⟨hg7.size, fun b hb hl => grown_at hg7 b hl hb⟩
      have hn7 := own_agree (HN6.out.alloc (.cells #[.int .i64 d.id, .slice A6 d.doc.length c6] 94 (0, 0))) haW (fun b hb => own_ne HN6.out HO6.out (by decide) b hb)
      have hk7 := (grown_at hg7 w.heap.size (by simp; omega) (fun e => by have := (own_base HO6.out _ e).1; omega)).trans HK7.out
      have HB7 := Lib.hid (show Below wq.heap.size wq w7 from (HB6.out.alloc HB6.out.size (.cells #[.int .i64 d.id, .slice A6 d.doc.length c6] 94 (0, 0))).grown hg7 (by have := HB6.out.size; simp; omega) (fun b hb => (own_base HO6.out b hb).1))
      have HX := Lib.hid (show (⟨d, A6, c6⟩ : StR).d = d ∧ w7.ownsRow wq.heap.size 94 2 (.slice A7 (k + 1) c7) (k + 1) (stCells (rs.take k ++ [⟨d, A6, c6⟩])) ∧ (⟨d, A6, c6⟩ : StR).d.doc.length ≤ (⟨d, A6, c6⟩ : StR).cap ∧ w7.ownsRow wq.heap.size 100 5 (.slice (⟨d, A6, c6⟩ : StR).adr (⟨d, A6, c6⟩ : StR).d.doc.length (⟨d, A6, c6⟩ : StR).cap) (⟨d, A6, c6⟩ : StR).d.doc.length (ndCells (⟨d, A6, c6⟩ : StR).d.doc) from
        ⟨rfl, by rw [st_app]; exact hown7, hc6, own_weaken hn7 (by have h2 : w5.drew.heap.size = w5.heap.size := rfl; omega)⟩)
      refine hK.out _ _ (HKEEP.out _ hk7) (fun hHeld => ?_)
      clear hK K haW hn7 hk7 hown7 hg7
      (refine Till.last (by kernel_rfl) rfl (by kernel_rfl) (fun K hK => ?_))
      go_simp
      refine hK.out _ _ ?_
      clear hK K
      refine wpAny_done (by kernel_rfl) ?_ _
      go_wp2
      go_meet
      exact ⟨A7, c7, ⟨d, A6, c6⟩, rfl, hc7, HB7.out, Lib.hid ⟨rfl, HX.out.2⟩⟩
    case rest =>
      obtain ⟨A2, c2, r, rfl, hc2, hb6, HX⟩ := hcut
      have HB6 := Lib.hid hb6
      have HS6 := Lib.hid (HSC.out.below hb6)
      have HK6 := Lib.hid ((hb6.block _ hcl).trans ((HB5.out.block _ hcl).symm.trans HK5.out))
      clear hb6 HO5 HD5 HK5 HB5 HKEEP HCL
      go_upto_region 7 with fail
      go_cut [51] (fun v wx => v = .bool (hasI (dIds (rs.map StR.d)) d.id) ∧ Below wc.heap.size wc wx)
      case first =>
        have z0 := cell_of_block HK6.out 0
        simp at z0
        by_cases hlt : k < rs.length
        · have hrk : rs[k]? = some rs[k] := by simp [hlt]
          generalize rs[k] = r' at hrk
          obtain ⟨b, o, rfl, y0, y1⟩ := HS6.out.at k r' hrk
          have hgk : (dIds (rs.map StR.d))[k]? = some r'.d.id := by unfold dIds; rw [List.getElem?_map, List.getElem?_map, hrk]; rfl
          have HHI := Lib.hid (show (r'.d.id == d.id) = hasI (dIds (rs.map StR.d)) d.id from by unfold hasI; rw [← HP.out, hgk]; simp)
          have hbb : decide ((k : Int) < (rs.length : Int)) = true := by simp; omega
          clear hrk hgk y1
          go_quiet (fail)
          go_wp2
          go_meet
          exact ⟨by rw [← HHI.out], below_dn _ _⟩
        · obtain rfl : k = rs.length := by omega
          have HHI := Lib.hid (show hasI (dIds (rs.map StR.d)) d.id = false from by unfold hasI; rw [← HP.out]; simp [dIds])
          have hbb : decide ((rs.length : Int) < (rs.length : Int)) = false := by simp
          go_quiet (fail)
          go_wp2
          go_meet
          exact ⟨by rw [HHI.out], below_dn _ _⟩
      case rest =>
        obtain ⟨rfl, hb7⟩ := hcut
        obtain ⟨e6, e7, e8, e9⟩ := HX.out
        have HS7 := Lib.hid (HS6.out.below hb7)
        have HO7 := Lib.hid (own_below e7 hb7)
        have HN7 := Lib.hid (own_below e9 hb7)
        have HB7 := Lib.hid ((HB6.out.trans (hb7.mono HB6.out.size)))
        have HE6 := Lib.hid e6
        have hs7 := HB7.out.size
        have HBW := Lib.hid (show Below w.heap.size w wc from HBC.out.trans (HB7.out.mono (by omega)))
        have HLR := Lib.hid (show ∀ (m : Nat), (stCells (rs.drop m)).length = (rs.length - m) * 2 from fun m => by rw [stCells_length, List.length_drop])
        have HRB := Lib.hid (fun (m : Nat) (hm : m ≤ rs.length) => show Rds F wc (if c = m then A else A.map (fun x => x.add (m * 2))) (stCells (rs.drop m)) from by
          rw [← st_drop rs m hm]
          have h := rds_drop HS7.out.row (m * 2) (c * 2) (m * 2) (fun e => List.drop_eq_nil_of_le (by rw [stCells_length]; omega))
          by_cases hc : c = m
          · rw [if_pos hc]; rw [if_pos (by omega)] at h; exact h
          · rw [if_neg hc]; rw [if_neg (by omega)] at h; exact h)
        have HLL := Lib.hid (show (stCells (rs.take k ++ [r])).length = (k + 1) * 2 from by rw [stCells_length, List.length_append, List.length_take, List.length_singleton, Nat.min_eq_left hk])
        have HFIN := Lib.hid (show ∀ (m : Nat) (A8 : Option Addr) (c8 : Nat) (w8 : World), m ≤ rs.length → k + 1 + (rs.length - m) ≤ c8 → w8.ownsRow wq.heap.size 94 2 (.slice A8 (k + 1 + (rs.length - m)) c8) (k + 1 + (rs.length - m)) (stCells (rs.take k ++ [r]) ++ stCells (rs.drop m)) → wc.grownBy w8 (Value.slice A2 (k + 1) c2).ownBlock →
            (Below wq.heap.size wq w8 ∧ Below w.heap.size w w8) ∧ SAt (fun b => F b ∨ w.heap.size ≤ b) w8 A8 c8 (rs.take k ++ r :: rs.drop m) ∧ (rs.take k ++ r :: rs.drop m).length = k + 1 + (rs.length - m) from fun m A8 c8 w8 hm hc8 ho8 hg8 => by
          have hB8 : Below wq.heap.size wq w8 := HB7.out.grown hg8 hs7 (fun b hb => (own_base HO7.out b hb).1)
          have haW : Agree (fun b => (Value.slice A2 (k + 1) c2).ownBlock ≠ some b) wc w8 := ⟨hg8.size, fun b hb hl => grown_at hg8 b hl hb⟩
          have hlen : (rs.take k ++ r :: rs.drop m).length = k + 1 + (rs.length - m) := by simp; omega
          refine ⟨⟨hB8, HBC.out.trans (hB8.mono (by omega))⟩, ⟨by rw [hlen]; exact hc8, ?_, fun r' hr' => ?_⟩, hlen⟩
          · have e : rs.take k ++ r :: rs.drop m = (rs.take k ++ [r]) ++ rs.drop m := by simp
            rw [e, st_app]
            exact (Rds.of_own ho8).mono (fun b h _ => .inr (by have h' : wq.heap.size ≤ b := h; omega))
          · have hold : ∀ r' ∈ rs, r'.d.doc.length ≤ r'.cap ∧ Rds (fun b => F b ∨ w.heap.size ≤ b) w8 r'.adr (ndCells r'.d.doc) := fun r' hr' => by
              have h3 := (HSC.out.below hB8).docs r' hr'
              exact ⟨h3.1, h3.2.mono (fun b h _ => .inl h)⟩
            rcases List.mem_append.1 hr' with h | h
            · exact hold r' (List.mem_of_mem_take h)
            · rcases List.mem_cons.1 h with rfl | h
              · exact ⟨e8, (Rds.of_own (own_agree HN7.out haW (fun b hb => own_ne HN7.out HO7.out (by decide) b hb))).mono (fun b h _ => .inr (by have h' : wq.heap.size ≤ b := h; omega))⟩
              · exact hold r' (List.mem_of_mem_drop h))
        clear hb7 e6 e7 e8 e9
        have hw1 : IntKind.i64.wrap ((k : Int) + 1) = (k : Int) + 1 := by rw [IntKind.wrap_i64]; omega
        have hin2 : (0 : Int) ≤ (k : Int) + 1 := by omega
        have htn : ((k : Int) + 1).toNat = k + 1 := by omega
        cases hh : hasI (dIds (rs.map StR.d)) d.id
        · have HPU := Lib.hid (show putD (rs.map StR.d) d = if rs.length = 20 then (rs.map StR.d, false) else (ins k d (rs.map StR.d), true) from by unfold putD; rw [if_neg (by rw [hh]; decide), List.length_map, HP.out])
          clear hh
          have hin1 : (k : Int) ≤ (rs.length : Int) := by omega
          go_upto_region 10 with (at_builtin; refine append_rows wq.heap.size rfl (.tmp 54) (.tmp 57) 24 94 _ 2 32 rfl Tryz.underlying24 infoStored rfl (by decide) (.slice A2 (k + 1) c2) (k + 1) (stCells (rs.take k ++ [r])) rfl HO7.out _ (rs.length - k) _ (stCells (rs.drop k)) rfl (HLR.out _) (HRB.out k (by omega)) (stCells_one _) (by simp only [maxLen]; omega) (by omega) hs7 ?_; intro A8 c8 w8 hc8 ho8 hg8 hat8)
          obtain ⟨⟨hbQ, hbF⟩, hsF, hlF⟩ := HFIN.out (k) A8 c8 w8 (by omega) hc8 ho8 hg8
          have HBQ := Lib.hid hbQ
          have HBF := Lib.hid hbF
          have HSF := Lib.hid hsF
          have HLF2 := Lib.hid hlF
          clear hbQ hbF hsF hlF ho8 hg8 hat8
          obtain ⟨N, hN⟩ : ∃ N, N = k + 1 + (rs.length - (k)) := ⟨_, rfl⟩
          rw [← hN] at HLF2 hc8 ⊢
          have hN1 : N = rs.length + 1 := by omega
          clear hN
          generalize (if c = k then A else Option.map (fun x => x.add ((k) * 2)) A) = Asl
          by_cases h20 : rs.length = 20
          · have d20 : decide ((20 : Int) < (N : Int)) = true := by simp; omega
            have HPV := Lib.hid (HPU.out.trans (if_pos h20))
            clear h20 hN1
            go_wp2
            go_ret2
            rw [HPV.out]
            exact ⟨rs, A, c, rfl, rfl, HBF.out, (HSC.out.below HBQ.out).mono (fun b h _ => .inl h)⟩
          · have d20 : decide ((20 : Int) < (N : Int)) = false := by simp; omega
            have HPV := Lib.hid (HPU.out.trans (if_neg h20))
            clear h20 hN1
            go_wp2
            go_ret2
            rw [HPV.out]
            exact ⟨ins k r rs, A8, c8, by rw [map_ins, HE6.out], by rw [show (ins k r rs).length = N from HLF2.out]; rfl, HBF.out, HSF.out⟩
        · have hkl : k < rs.length := by
            have h1 := hasI_iff.1 hh
            rw [← HP.out] at h1
            have := (List.getElem?_eq_some_iff.1 h1).1
            simpa [dIds] using this
          have HPU := Lib.hid (show putD (rs.map StR.d) d = ((rs.map StR.d).set k d, true) from by unfold putD; rw [if_pos hh, HP.out])
          clear hh
          have hin1 : (k : Int) + 1 ≤ (rs.length : Int) := by omega
          go_upto_region 10 with (at_builtin; refine append_rows wq.heap.size rfl (.tmp 54) (.tmp 57) 24 94 _ 2 32 rfl Tryz.underlying24 infoStored rfl (by decide) (.slice A2 (k + 1) c2) (k + 1) (stCells (rs.take k ++ [r])) rfl HO7.out _ (rs.length - (k + 1)) _ (stCells (rs.drop (k + 1))) rfl (HLR.out _) (HRB.out (k + 1) (by omega)) (stCells_one _) (by simp only [maxLen]; omega) (by omega) hs7 ?_; intro A8 c8 w8 hc8 ho8 hg8 hat8)
          obtain ⟨⟨hbQ, hbF⟩, hsF, hlF⟩ := HFIN.out (k + 1) A8 c8 w8 (by omega) hc8 ho8 hg8
          have HBQ := Lib.hid hbQ
          have HBF := Lib.hid hbF
          have HSF := Lib.hid hsF
          have HLF2 := Lib.hid hlF
          clear hbQ hbF hsF hlF ho8 hg8 hat8
          obtain ⟨N, hN⟩ : ∃ N, N = k + 1 + (rs.length - (k + 1)) := ⟨_, rfl⟩
          rw [← hN] at HLF2 hc8 ⊢
          have hN1 : N = rs.length + 0 := by omega
          clear hN
          generalize (if c = k + 1 then A else Option.map (fun x => x.add ((k + 1) * 2)) A) = Asl
          have d20 : decide ((20 : Int) < (N : Int)) = false := by simp; omega
          clear hN1
          go_wp2
          go_ret2
          rw [HPU.out]
          have e : rs.set k r = rs.take k ++ r :: rs.drop (k + 1) := set_mid' hkl
          exact ⟨rs.set k r, A8, c8, by rw [List.map_set, HE6.out], by rw [e, HLF2.out]; rfl, HBF.out, by rw [e]; exact HSF.out⟩
end Go.Proofs.YtemcijhpmpdebaaGreatDoor
