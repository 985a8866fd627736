/- (*Base).apply on a base of the program's own. -/
import Derived.Test.YtemcijhpmpdebaaGreatDoorFo3
import Derived.BigQuiet
namespace Go.Proofs.YtemcijhpmpdebaaGreatDoor
open Go.RowKit
theorem idle_no {l : List SsV} {o : OpV} (h : hasI (sIds l) o.session = false) : idle l o = decide (l.length = 8) := by
  unfold hasI sIds at h
  rw [List.getElem?_map] at h
  unfold idle sIds
  split
  · next s hs =>
    rw [hs] at h
    split
    · next e => simp [e] at h
    · rfl
  · rfl
theorem idle_yes {l : List SsV} {o : OpV} {s : SsV} (h : l[posI (sIds l) o.session]? = some s) (hs : s.id = o.session) : idle l o = decide (o.no ≤ s.no) := by
  unfold idle
  rw [h]
  simp only [hs, if_true]
theorem ss_here {l : List SsV} {x : Int} (h : hasI (sIds l) x = true) : ∃ s, l[posI (sIds l) x]? = some s ∧ s.id = x := by
  have h1 := hasI_iff.1 h
  unfold sIds at h1 ⊢
  rw [List.getElem?_map] at h1
  exact Option.map_eq_some_iff.1 h1
theorem ss_set {l : List SsV} {i : Nat} {s : SsV} (r : SsV) (hs : l[i]? = some s) (he : s.id = r.id) : ssCells (l.set i r) = ((ssCells l).set (i * 3 + 1) (.int .i64 r.no)).set (i * 3 + 2) (.bool r.fine) := by
  obtain ⟨hi, hs⟩ := List.getElem?_eq_some_iff.1 hs
  have hl : (ssCells (l.take i)).length = i * 3 := by unfold ssCells; rw [flat_len SsV.cells 3 (fun _ => rfl), List.length_take, Nat.min_eq_left (by omega)]
  have e : ssCells l = ssCells (l.take i) ++ (l[i].cells ++ ssCells (l.drop (i + 1))) := by
    have h : l = l.take i ++ l[i] :: l.drop (i + 1) := by rw [← List.drop_eq_getElem_cons hi, List.take_append_drop]
    have h2 : ssCells l = ssCells (l.take i ++ l[i] :: l.drop (i + 1)) := by rw [← h]
    rw [h2]
    unfold ssCells
    rw [List.flatMap_append, List.flatMap_cons]
  rw [set_mid' hi, e, set_off hl (by simp [SsV.cells]), set_off hl (by simp [SsV.cells])]
  unfold ssCells
  rw [List.flatMap_append, List.flatMap_cons, hs]
  simp [SsV.cells, he]
theorem ins_set {α : Type} (i : Nat) (x y : α) (l : List α) (hi : i ≤ l.length) : (ins i x l).set i y = ins i y l := by
  have hl : (l.take i).length = i := by rw [List.length_take]; omega
  unfold ins
  rw [List.set_append_right _ _ (by omega), hl, Nat.sub_self]
  rfl
theorem ins_get {α : Type} (i : Nat) (x : α) (l : List α) (hi : i ≤ l.length) : (ins i x l)[i]? = some x := by
  have hl : (l.take i).length = i := by rw [List.length_take]; omega
  unfold ins
  rw [List.getElem?_append_right (by omega), hl, Nat.sub_self]
  rfl
theorem below_dn (w : World) (n : Nat) : Below w.heap.size w (w.drewN n) := ⟨rfl, rfl, rfl, Nat.le_refl _, fun _ _ => rfl⟩
theorem below_dn' {base : Nat} (w : World) (n : Nat) : Below base w (w.drewN n) := ⟨rfl, rfl, rfl, Nat.le_refl _, fun _ _ => rfl⟩
/-- What apply leaves of a base. -/
def ApPost (base g : Nat) (b : BsV) (w : World) (e : Ending) (w' : World) : Prop :=
  e = .returned (.bool true) ∧ Below base w w' ∧ ∃ rs A1 c1 A2 c2, BMem base g b rs A1 c1 A2 c2 w'
set_option maxRecDepth 100000 in
set_option maxHeartbeats 16000000 in
theorem apply_any (base g n : Nat) (b : BsV) (rs : List StR) (A1 : Option Addr) (c1 : Nat) (A2 : Option Addr) (c2 : Nat) (o : OpV) (doc : List Nd) (OA : Option Addr) (oc : Nat) (w : World) (h : BMem base g b rs A1 c1 A2 c2 w) (hf : FoldOK n b) (hn : n < 60)
    (hid : 0 ≤ o.id ∧ o.id ≤ 100) (hsid : 0 ≤ o.session ∧ o.session ≤ 100) (hdl : doc.length ≤ 1000000000) (hdr : Rds (fun k => k < base) w OA (ndCells doc)) :
    Calls Tryz.prog 55 #[.pointer (some ⟨g, 0, none⟩), .int .i64 n, o.val OA doc.length oc] w (ApPost base g (stepV b o doc) w) := by
  have hgl := lt_of_block h.blk
  have hge := h.hg
  have happ := hf.app
  have hwa : w.heap.size = (w.setCell ⟨g, 0, none⟩ (.int .i64 ((n : Int) + 1))).heap.size := by simp
  have hbs : Below base w (w.setCell ⟨g, 0, none⟩ (.int .i64 ((n : Int) + 1))) := (Below.refl base w).setCell (p := ⟨g, 0, none⟩) hge _
  have hb1 := (Below.refl (w.setCell ⟨g, 0, none⟩ (.int .i64 ((n : Int) + 1))).heap.size (w.setCell ⟨g, 0, none⟩ (.int .i64 ((n : Int) + 1)))).alloc (Nat.le_refl _) (.cells #[.int .i64 o.kind, .int .i64 o.id, .slice OA doc.length oc, .int .i64 o.session, .int .i64 o.no] 57 (0, 0))
  have hb2 : Below base w ((w.setCell ⟨g, 0, none⟩ (.int .i64 ((n : Int) + 1))).alloc (.cells #[.int .i64 o.kind, .int .i64 o.id, .slice OA doc.length oc, .int .i64 o.session, .int .i64 o.no] 57 (0, 0))) := hbs.alloc (by omega) _
  have HB1 := Lib.hid hb2
  have HBOX := Lib.hid (show ((w.setCell ⟨g, 0, none⟩ (.int .i64 ((n : Int) + 1))).alloc (.cells #[.int .i64 o.kind, .int .i64 o.id, .slice OA doc.length oc, .int .i64 o.session, .int .i64 o.no] 57 (0, 0))).heap[w.heap.size]? = some (.cells #[.int .i64 o.kind, .int .i64 o.id, .slice OA doc.length oc, .int .i64 o.session, .int .i64 o.no] 57 (0, 0)) from by rw [hwa]; exact heap_alloc_new (w.setCell ⟨g, 0, none⟩ (.int .i64 ((n : Int) + 1))) (.cells #[.int .i64 o.kind, .int .i64 o.id, .slice OA doc.length oc, .int .i64 o.session, .int .i64 o.no] 57 (0, 0)))
  have HM1 := Lib.hid ((h.app ((n : Int) + 1)).below hb1)
  have HR1 := Lib.hid (show Rds (fun k => k < base) _ OA (ndCells doc) from hdr.frame ⟨hb2.size, fun k hk hl => hb2.block k hk⟩)
  have hk0 := h.blk
  rw [happ] at hk0
  have x0 := cell_of_block hk0 0
  have x3 := cell_of_block HBOX.out 3
  have f0 := free_of_block hk0 0
  simp at x0 x3
  have d1 : decide ((n : Int) < 0) = false := by simp
  have d3 : ((n : Int) == 60) = false := by simp; omega
  have hw1 : IntKind.i64.wrap ((n : Int) + 1) = (n : Int) + 1 := by rw [IntKind.wrap_i64]; omega
  have HSS := Lib.hid (session_any b.sess (by have := hf.sl; omega) o.session _ g _ _ _ A2 c2 _ HM1.out.blk HM1.out.ss)
  have HF := Lib.hid hf
  have HAPP := Lib.hid happ
  have HSZ := Lib.hid (show w.heap.size < ((w.setCell ⟨g, 0, none⟩ (.int .i64 ((n : Int) + 1))).alloc (.cells #[.int .i64 o.kind, .int .i64 o.id, .slice OA doc.length oc, .int .i64 o.session, .int .i64 o.no] 57 (0, 0))).heap.size from by simp)
  have hbg : base ≤ w.heap.size := by omega
  clear h hb1 hb2 hbs hdr hk0 hf happ hwa
  unfold OpV.val
  go_enter Tryz.func55, Tryz.ntmps55
  go_wp2_with fail
  generalize (w.setCell ⟨g, 0, none⟩ (.int .i64 ((n : Int) + 1))).alloc (.cells #[.int .i64 o.kind, .int .i64 o.id, .slice OA doc.length oc, .int .i64 o.session, .int .i64 o.no] 57 (0, 0)) = w1 at HM1 HR1 HBOX HSS HB1 HSZ ⊢
  refine HSS.out.mono ?_
  rintro e w2 ⟨hb2, i, f, rfl, hbin⟩
  obtain ⟨hi, hf'⟩ := binS_pos hbin HF.out.sr HF.out.si hsid
  have hil : i ≤ b.sess.length := hbin.1
  have HM2 := Lib.hid (HM1.out.below hb2)
  have HR2 := Lib.hid (HR1.out.below hb2)
  have HBOX2 := Lib.hid (block_below HBOX.out hb2)
  have HB2 := Lib.hid (show Below base w w2 from HB1.out.trans (hb2.mono (by have := HB1.out.size; omega)))
  have hsz2 : w.heap.size < w2.heap.size := by have := HSZ.out; have := hb2.size; omega
  have HI := Lib.hid hi
  have HFO := Lib.hid hf'
  clear hb2 hbin HSS HM1 HB1 HBOX HR1 hi hf' x0 x3 f0 HSZ
  obtain ⟨x0, x1, x2⟩ := cells3 HM2.out.blk
  have x4 := cell_of_block HBOX2.out 4
  simp at x4
  have f0 := free_of_block HM2.out.blk 2
  go_upto_region 7 with fail
  cases f
  · -- no such session
    have hno : hasI (sIds b.sess) o.session = false := HFO.out.symm
    by_cases h8 : b.sess.length = 8
    · have d8 : ((b.sess.length : Int) == 8) = true := by simp; omega
      have HST := Lib.hid (show stepV b o doc = ⟨(n : Int) + 1, b.docs, b.sess⟩ from by unfold stepV; rw [if_pos (by rw [idle_no hno]; simpa using h8), HAPP.out])
      clear hno h8
      go_quiet (fail)
      go_wp2
      go_ret
      exact ⟨rfl, HB2.out.trans (below_dn' _ _), rs, A1, c1, A2, c2, by rw [HST.out]; exact HM2.out.below (below_dn _ _)⟩
    · have d8 : ((b.sess.length : Int) == 8) = false := by simp; omega
      have h8l : b.sess.length < 8 := by have := HF.out.sl; omega
      have HLS := Lib.hid (show stepV b o doc = ⟨(n : Int) + 1, (opD b.docs o doc).1, (ins i (⟨o.session, 0, false⟩ : SsV) b.sess).set i ⟨o.session, o.no, (opD b.docs o doc).2⟩⟩ from by unfold stepV; rw [if_neg (by rw [idle_no hno]; simpa using h8), HAPP.out, ins_set i _ _ _ hil, sessD, if_neg (by simp [hno]), HI.out])
      clear hno h8
      go_quiet (fail)
      go_upto_region 11 with fail
      have HBN := Lib.hid (show Below w2.heap.size w2 (w2.drewN nq) from below_dn _ _)
      generalize w2.drewN nq = w3 at HBN ⊢
      have HM3 := Lib.hid (HM2.out.below HBN.out)
      have HR3 := Lib.hid (HR2.out.below HBN.out)
      have HBOX3 := Lib.hid (block_below HBOX2.out HBN.out)
      have HB3 := Lib.hid (HB2.out.trans (HBN.out.mono (by omega) : Below base w2 w3))
      have hsz3 : w.heap.size < w3.heap.size := by have := HBN.out.size; omega
      clear x0 x1 x2 x4 f0 HM2 HR2 HBOX2 HB2 HBN
      have HDRW := Lib.hid (show Below w3.heap.size w3 w3.drew from (Below.refl _ _).drew)
      have HROW := Lib.hid (show ∀ k, (Value.slice A2 b.sess.length c2).ownBlock = some k → k < w3.heap.size from fun k hk => (own_base HM3.out.own2 k hk).2)
      have hgw : g < w3.heap.size := lt_of_block HM3.out.blk
      have HKEEP := Lib.hid (fun (W : World) (hk : W.heap[g]? = some (.cells #[.int .i64 ((n : Int) + 1), .slice A1 rs.length c1, .slice A2 b.sess.length c2] 27 (0, 0))) (hd : W.heap[w.heap.size]? = some (.cells #[.int .i64 o.kind, .int .i64 o.id, .slice OA doc.length oc, .int .i64 o.session, .int .i64 o.no] 57 (0, 0))) => show W.cell? ⟨g, 2, none⟩ = some (.slice A2 b.sess.length c2) ∧ W.cell? ⟨w.heap.size, 3, none⟩ = some (.int .i64 o.session) from
        ⟨cell_of_block hk 2, cell_of_block hd 3⟩)
      refine till_region 13 (fun W => W.cell? ⟨g, 2, none⟩ = some (.slice A2 b.sess.length c2) ∧ W.cell? ⟨w.heap.size, 3, none⟩ = some (.int .i64 o.session)) (by kernel_rfl) ?_ (fun hHeld => ?_)
      · exact HKEEP.out _ (block_below HM3.out.blk HDRW.out) (block_below HBOX3.out HDRW.out)
      (refine Till.pure (i := 0) (u := ?_) rfl (by kernel_rfl) (by kernel_rfl) (by kernel_rfl) (by decide) (fun _ _ _ h => h) (Or.inl ⟨by rfl, ?_⟩) (fun _ => hHeld) ?_; rotate_left 1; (focus (intro w _; go_simp; try (with_reducible rfl))); change Till _ _ _ _ _ _ _ _ (Act.put _ (some 74) _) _; simp only [Act.put, List.setIfInBounds_toArray, List.set_cons_zero, List.set_cons_succ])
      (refine Till.pure (i := 1) (u := ?_) rfl (by kernel_rfl) (by kernel_rfl) (by kernel_rfl) (by decide) (fun _ _ _ h => h) (Or.inl ⟨by rfl, ?_⟩) (fun _ => hHeld) ?_; rotate_left 1; (focus (intro w _; go_simp; try (with_reducible rfl))); change Till _ _ _ _ _ _ _ _ (Act.put _ (some 75) _) _; simp only [Act.put, List.setIfInBounds_toArray, List.set_cons_zero, List.set_cons_succ])
      (refine Till.pure (i := 2) (u := ?_) rfl (by kernel_rfl) (by kernel_rfl) (by kernel_rfl) (by decide) (fun _ _ _ h => h) (Or.inl ⟨by rfl, ?_⟩) (fun _ => hHeld) ?_; rotate_left 1; (focus (intro w _; go_simp; try (with_reducible rfl))); change Till _ _ _ _ _ _ _ _ (Act.put _ (some 76) _) _; simp only [Act.put, List.setIfInBounds_toArray, List.set_cons_zero, List.set_cons_succ])
      (refine Till.pure (i := 3) (u := ?_) rfl (by kernel_rfl) (by kernel_rfl) (by kernel_rfl) (by decide) (fun _ _ _ h => h) (Or.inl ⟨by rfl, ?_⟩) (fun _ => hHeld) ?_; rotate_left 1; (focus (intro w _; go_simp; try (with_reducible rfl))); change Till _ _ _ _ _ _ _ _ (Act.put _ (some 77) _) _; simp only [Act.put, List.setIfInBounds_toArray, List.set_cons_zero, List.set_cons_succ])
      (refine Till.load (i := 4) (u := ?_) rfl (by kernel_rfl) (by kernel_rfl) (by kernel_rfl) (by kernel_rfl) (by kernel_rfl) (fun _ _ _ h => h) (Or.inl ⟨by rfl, ?_⟩) hHeld ?_; rotate_left 1; (focus (intro w hSw; (try dsimp only at hSw); go_split_ands; go_simp; try (with_reducible rfl))); change Till _ _ _ _ _ _ _ _ (Act.put _ (some 78) _) _; simp only [Act.put, List.setIfInBounds_toArray, List.set_cons_zero, List.set_cons_succ])
      (refine Till.pure (i := 5) (u := ?_) rfl (by kernel_rfl) (by kernel_rfl) (by kernel_rfl) (by decide) (fun _ _ _ h => h) (Or.inl ⟨by rfl, ?_⟩) (fun _ => hHeld) ?_; rotate_left 1; (focus (intro w _; go_simp; try (with_reducible rfl))); change Till _ _ _ _ _ _ _ _ (Act.put _ (some 79) _) _; simp only [Act.put, List.setIfInBounds_toArray, List.set_cons_zero, List.set_cons_succ])
      (refine Till.pure (i := 6) (u := ?_) rfl (by kernel_rfl) (by kernel_rfl) (by kernel_rfl) (by decide) (fun _ _ _ h => h) (Or.inl ⟨by rfl, ?_⟩) (fun _ => hHeld) ?_; rotate_left 1; (focus (intro w _; go_simp; try (with_reducible rfl))); change Till _ _ _ _ _ _ _ _ (Act.put _ (some 80) _) _; simp only [Act.put, List.setIfInBounds_toArray, List.set_cons_zero, List.set_cons_succ])
      (refine Till.load (i := 7) (u := ?_) rfl (by kernel_rfl) (by kernel_rfl) (by kernel_rfl) (by kernel_rfl) (by kernel_rfl) (fun _ _ _ h => h) (Or.inl ⟨by rfl, ?_⟩) hHeld ?_; rotate_left 1; (focus (intro w hSw; (try dsimp only at hSw); go_split_ands; go_simp; try (with_reducible rfl))); change Till _ _ _ _ _ _ _ _ (Act.put _ (some 81) _) _; simp only [Act.put, List.setIfInBounds_toArray, List.set_cons_zero, List.set_cons_succ])
      (refine Till.pure (i := 8) (u := ?_) rfl (by kernel_rfl) (by kernel_rfl) (by kernel_rfl) (by decide) (fun _ _ _ h => h) (Or.inl ⟨by rfl, ?_⟩) (fun _ => hHeld) ?_; rotate_left 1; (focus (intro w _; go_simp; try (with_reducible rfl))); change Till _ _ _ _ _ _ _ _ (Act.put _ (some 82) _) _; simp only [Act.put, List.setIfInBounds_toArray, List.set_cons_zero, List.set_cons_succ])
      (refine Till.one (i := 9) (by kernel_rfl) rfl (fun K hK => ?_))
      go_simp
      have hba := HDRW.out.alloc HDRW.out.size (.cells #[.int .i64 o.session, .int .i64 0, .bool false] 97 (0, 0))
      have HMA := Lib.hid (HM3.out.below hba)
      have HBXA := Lib.hid (block_below HBOX3.out hba)
      have HVA := Lib.hid (heap_alloc_new w3.drew (.cells #[.int .i64 o.session, .int .i64 0, .bool false] 97 (0, 0)))
      have HBA := Lib.hid hba
      refine hK.out _ _ (HKEEP.out _ HMA.out.blk HBXA.out) (fun hHeld => ?_)
      clear hK K hba
      (refine Till.one (i := 10) (by kernel_rfl) rfl (fun K hK => ?_))
      go_simp
      have hsa : (w3.drew.alloc (.cells #[.int .i64 o.session, .int .i64 0, .bool false] 97 (0, 0))).heap.size = w3.heap.size + 1 := by
        rw [show w3.heap.size = w3.drew.heap.size from rfl]
        simp
      refine (insertSs_any base (ssCells b.sess) [.int .i64 o.session, .int .i64 0, .bool false] b.sess.length i c2 w3.heap.size A2 _ hil (by omega) (by omega) HMA.out.own2.1 rfl HMA.out.own2 HVA.out (fun k hk e => by have := HROW.out k hk; omega) (ssCells_one b.sess) (by intro v hv; simp at hv; rcases hv with rfl | rfl | rfl <;> rfl)).mono ?_
      rintro e w5 ⟨A5, c5, rfl, hc5, hown5, hg5, hat5⟩
      have HO5 := Lib.hid hown5
      have HG5 := Lib.hid hg5
      have k5 := (HMA.out.sess_at hg5.size (grown_at hg5)).1
      have kb5 : w5.heap[w.heap.size]? = some (.cells #[.int .i64 o.kind, .int .i64 o.id, .slice OA doc.length oc, .int .i64 o.session, .int .i64 o.no] 57 (0, 0)) := (grown_at hg5 w.heap.size (by omega) (fun e => own_not_at HMA.out.own2 HBXA.out (by decide) _ e rfl)).trans HBXA.out
      have HK5 := Lib.hid k5
      have HKB5 := Lib.hid kb5
      go_simp
      refine hK.out _ _ (HKEEP.out _ k5 kb5) (fun hHeld => ?_)
      clear hK K hown5 hg5 hat5 kb5
      have z2 := cell_of_block k5 2
      have f2 := free_of_block k5 2
      simp at z2
      clear k5
      (refine Till.pure (i := 11) (u := ?_) rfl (by kernel_rfl) (by kernel_rfl) (by kernel_rfl) (by decide) (fun _ _ _ h => h) (Or.inl ⟨by rfl, ?_⟩) (fun _ => hHeld) ?_; rotate_left 1; (focus (intro w _; go_simp; try (with_reducible rfl))); change Till _ _ _ _ _ _ _ _ (Act.put _ (some 85) _) _; simp only [Act.put, List.setIfInBounds_toArray, List.set_cons_zero, List.set_cons_succ])
      (refine Till.pure (i := 12) (u := ?_) rfl (by kernel_rfl) (by kernel_rfl) (by kernel_rfl) (by decide) (fun _ _ _ h => h) (Or.inl ⟨by rfl, ?_⟩) (fun _ => hHeld) ?_; rotate_left 1; (focus (intro w _; go_simp; try (with_reducible rfl))); change Till _ _ _ _ _ _ _ _ (Act.put _ (some 86) _) _; simp only [Act.put, List.setIfInBounds_toArray, List.set_cons_zero, List.set_cons_succ])
      (refine Till.last (by kernel_rfl) rfl (by kernel_rfl) (fun K hK => ?_))
      go_simp
      refine hK.out _ _ ?_
      clear hK K
      refine wpAny_done (by kernel_rfl) ?_ _
      have e1 : insN (i * 3) [.int .i64 o.session, .int .i64 0, .bool false] (ssCells b.sess) = ssCells (ins i ⟨o.session, 0, false⟩ b.sess) := flat_ins SsV.cells 3 (fun _ => rfl) b.sess i hil ⟨o.session, 0, false⟩
      have e2 : (ins i (⟨o.session, 0, false⟩ : SsV) b.sess).length = b.sess.length + 1 := ins_length _ _ _ hil
      have hmt := HMA.out.sess_to (w1 := w5) (l := ins i ⟨o.session, 0, false⟩ b.sess) (A2' := A5) (c2' := c5) HG5.out.size (grown_at HG5.out) (by have h5 := HO5.out; rw [e1, ← e2] at h5; exact h5)
      rw [e2] at hmt
      have HBT := Lib.hid (show Below base w (w5.setCell ⟨g, 2, none⟩ (.slice A5 (b.sess.length + 1) c5)) from ((HB3.out.trans (HBA.out.mono (by omega : base ≤ w3.heap.size))).grown HG5.out (by omega) (fun k hk => (own_base HMA.out.own2 k hk).1)).setCell (p := ⟨g, 2, none⟩) hge _)
      have hb35 : Below base w3 (w5.setCell ⟨g, 2, none⟩ (.slice A5 (b.sess.length + 1) c5)) := ((HBA.out.mono (by omega : base ≤ w3.heap.size)).grown HG5.out (by omega) (fun k hk => (own_base HMA.out.own2 k hk).1)).setCell (p := ⟨g, 2, none⟩) hge _
      have HRT := Lib.hid (show Rds (fun k => k < base) _ OA (ndCells doc) from HR3.out.frame ⟨hb35.size, fun k hk hl => hb35.block k hk⟩)
      have HBX := Lib.hid (show (w5.setCell ⟨g, 2, none⟩ (.slice A5 (b.sess.length + 1) c5)).heap[w.heap.size]? = some (.cells #[.int .i64 o.kind, .int .i64 o.id, .slice OA doc.length oc, .int .i64 o.session, .int .i64 o.no] 57 (0, 0)) from (Agree.of_setCell (F := fun k => k ≠ g) w5 ⟨g, 2, none⟩ _ (fun _ h => h)).block _ (by omega) (lt_of_block HKB5.out) |>.trans HKB5.out)
      have HMT := Lib.hid hmt
      have HLG := Lib.hid (show ∃ s1 : SsV, (ins i (⟨o.session, 0, false⟩ : SsV) b.sess)[i]? = some s1 ∧ s1.id = o.session from ⟨_, ins_get i _ _ hil, rfl⟩)
      have HE2 := Lib.hid e2
      clear e1 e2 hmt hb35 z2 f2
      go_upto_region 12 with fail
      generalize w5.setCell ⟨g, 2, none⟩ (.slice A5 (b.sess.length + 1) c5) = wt at HBT HRT HBX HMT ⊢
      clear HMA HBXA HVA HBA HO5 HG5 HK5 HKB5 HDRW HROW HKEEP HM3 HR3 HBOX3 HB3 hHeld
      obtain ⟨s1, hs1, hs2⟩ : ∃ s1 : SsV, (ins i (⟨o.session, 0, false⟩ : SsV) b.sess)[i]? = some s1 ∧ s1.id = o.session := HLG.out
      have HS1 := Lib.hid hs1
      have HS2 := Lib.hid hs2
      have hLl : i < (b.sess.length + 1) := by have := (List.getElem?_eq_some_iff.1 hs1).1; rw [HE2.out] at this; exact this
      clear hs1 hs2
      have y0 := cell_of_block HBX.out 0
      have y1 := cell_of_block HBX.out 1
      have y2 := cell_of_block HBX.out 2
      have y3 := cell_of_block HBX.out 3
      have y4 := cell_of_block HBX.out 4
      simp at y0 y1 y2 y3 y4
      have hcs : ∀ (r : List StV × Bool), opD b.docs o doc = r → ∀ (e : Ending) (w6 : World), DocsPost base g ⟨(n : Int) + 1, b.docs, (ins i (⟨o.session, 0, false⟩ : SsV) b.sess)⟩ (.slice A1 rs.length c1) A5 c5 r wt e w6 → e = .returned (.bool r.2) ∧ w6.heap[w.heap.size]? = some (.cells #[.int .i64 o.kind, .int .i64 o.id, .slice OA doc.length oc, .int .i64 o.session, .int .i64 o.no] 57 (0, 0)) ∧ Below base w w6 ∧ ∃ rs' A1' c1', BMem base g ⟨(n : Int) + 1, r.1, (ins i (⟨o.session, 0, false⟩ : SsV) b.sess)⟩ rs' A1' c1' A5 c5 w6 := fun r hr e w6 ⟨he, ⟨hb6, hk6⟩, rs', A1', c1', hm6⟩ => ⟨he, (hk6 _ (lt_of_block HBX.out) (by omega) (fun e => own_not_at HMT.out.own1 HBX.out (by decide) _ e rfl)).trans HBX.out, HBT.out.trans hb6, rs', A1', c1', hm6⟩
      have HCS := Lib.hid hcs
      clear hcs
      by_cases hk : o.kind = 1
      · have HDP := Lib.hid (put_any base g ⟨(n : Int) + 1, b.docs, (ins i (⟨o.session, 0, false⟩ : SsV) b.sess)⟩ rs A1 c1 A5 c5 o doc OA oc (fun k => k < base) wt HMT.out HF.out.dl HF.out.dr (fun d hd => (HF.out.di d hd).1) hid hdl HRT.out)
        have HOP := Lib.hid (show opD b.docs o doc = putD b.docs ⟨o.id, doc⟩ from by unfold opD; rw [if_pos hk])
        have hdk : (o.kind == 1) = true := by simp [hk]
        have HK := Lib.hid hk
        clear hk
        go_wp2_with fail
        refine HDP.out.mono ?_
        rintro e w6 h6
        obtain ⟨rfl, hbx6, hb6, rs', A1', c1', hm6⟩ := HCS.out _ HOP.out _ _ h6
        rcases hm6.own2.2 with ⟨_, h0⟩ | ⟨g1, cap, cur, e, hg1, hk1, hnc, hcm, hcs, htk⟩
        · have h1 : (ins i (⟨o.session, 0, false⟩ : SsV) b.sess).length = 0 := h0
          have := HE2.out
          omega
        injection e with e1 e2' e3
        subst e1 e3
        have hlen6 : cur.size = c5 * 3 := hcs
        have hnc6 : (b.sess.length + 1) ≤ c5 := by have h1 : (ins i (⟨o.session, 0, false⟩ : SsV) b.sess).length ≤ c5 := hnc; rw [HE2.out] at h1; exact h1
        obtain ⟨u1, e1⟩ := some_at (cs := cur) (j := i * 3 + 1) (by omega)
        obtain ⟨u2, e2⟩ := some_at (cs := cur) (j := i * 3 + 2) (by omega)
        have q1 := (cell_of_block hk1 _).trans e1
        have q2 := (cell_of_block hk1 _).trans e2
        have f1 := free_of_block hk1 (i * 3 + 1)
        have f2 := free_of_block hk1 (i * 3 + 2)
        have v2 := cell_of_block hm6.blk 2
        have v4 := cell_of_block hbx6 4
        simp at v2 v4
        rw [HE2.out] at v2
        have hbb : (i : Int) < (((b.sess.length + 1) : Nat) : Int) := by omega
        have hne1 : g1 ≠ g := fun e => own_not_at hm6.own2 hm6.blk (by decide) g1 rfl e.symm
        have hne2 : g1 ≠ w.heap.size := fun e => own_not_at hm6.own2 hbx6 (by decide) g1 rfl e.symm
        have HM6 := Lib.hid hm6
        have HB6 := Lib.hid hb6
        have HG1 := Lib.hid hg1
        clear hm6 hb6 hg1 h6 e1 e2 e2' htk hcs hk1 hbx6 hnc hlen6 y0 y1 y2 y3 y4
        go_wp2
        go_region
        go_wp2
        go_ret
        have haW : Agree (fun k => k ≠ g1) w6 ((w6.setCell ⟨g1, i * 3 + 1, none⟩ (.int .i64 o.no)).setCell ⟨g1, i * 3 + 2, none⟩ (.bool (putD b.docs ⟨o.id, doc⟩).2)) := ((Agree.refl _ _).set (fun _ h => h) _ _).set (fun _ h => h) _ _
        have h4 := HM6.out.sess_in (w1 := (w6.setCell ⟨g1, i * 3 + 1, none⟩ (.int .i64 o.no)).setCell ⟨g1, i * 3 + 2, none⟩ (.bool (putD b.docs ⟨o.id, doc⟩).2)) (l := ((ins i (⟨o.session, 0, false⟩ : SsV) b.sess)).set i ⟨o.session, o.no, (putD b.docs ⟨o.id, doc⟩).2⟩) haW.size (fun k hk hne => haW.block k (fun e => hne (by rw [e]; rfl)) hk) (by simp) (by
          have h5 := own_set (j := i * 3 + 2) (own_set (j := i * 3 + 1) HM6.out.own2 (.int .i64 o.no)) (.bool (putD b.docs ⟨o.id, doc⟩).2)
          rw [List.length_set, ss_set ⟨o.session, o.no, (putD b.docs ⟨o.id, doc⟩).2⟩ HS1.out HS2.out]
          exact h5)
        refine ⟨rfl, ?_, rs', A1', c1', some ⟨g1, 0, none⟩, c5, by rw [HLS.out, HOP.out]; exact h4.below (Below.refl _ _).drew⟩
        exact ((HB6.out.setCell (p := ⟨g1, i * 3 + 1, none⟩) HG1.out _).setCell (p := ⟨g1, i * 3 + 2, none⟩) HG1.out _).drew
      · have HDP := Lib.hid (cut_any base g ⟨(n : Int) + 1, b.docs, (ins i (⟨o.session, 0, false⟩ : SsV) b.sess)⟩ rs A1 c1 A5 c5 o OA doc.length oc wt HMT.out HF.out.dl HF.out.dr (fun d hd => (HF.out.di d hd).1) hid)
        have HOP := Lib.hid (show opD b.docs o doc = cutD b.docs o.id from by unfold opD; rw [if_neg hk])
        have hdk : (o.kind == 1) = false := by simp [hk]
        have HK := Lib.hid hk
        clear hk
        go_wp2_with fail
        refine HDP.out.mono ?_
        rintro e w6 h6
        obtain ⟨rfl, hbx6, hb6, rs', A1', c1', hm6⟩ := HCS.out _ HOP.out _ _ h6
        rcases hm6.own2.2 with ⟨_, h0⟩ | ⟨g1, cap, cur, e, hg1, hk1, hnc, hcm, hcs, htk⟩
        · have h1 : (ins i (⟨o.session, 0, false⟩ : SsV) b.sess).length = 0 := h0
          have := HE2.out
          omega
        injection e with e1 e2' e3
        subst e1 e3
        have hlen6 : cur.size = c5 * 3 := hcs
        have hnc6 : (b.sess.length + 1) ≤ c5 := by have h1 : (ins i (⟨o.session, 0, false⟩ : SsV) b.sess).length ≤ c5 := hnc; rw [HE2.out] at h1; exact h1
        obtain ⟨u1, e1⟩ := some_at (cs := cur) (j := i * 3 + 1) (by omega)
        obtain ⟨u2, e2⟩ := some_at (cs := cur) (j := i * 3 + 2) (by omega)
        have q1 := (cell_of_block hk1 _).trans e1
        have q2 := (cell_of_block hk1 _).trans e2
        have f1 := free_of_block hk1 (i * 3 + 1)
        have f2 := free_of_block hk1 (i * 3 + 2)
        have v2 := cell_of_block hm6.blk 2
        have v4 := cell_of_block hbx6 4
        simp at v2 v4
        rw [HE2.out] at v2
        have hbb : (i : Int) < (((b.sess.length + 1) : Nat) : Int) := by omega
        have hne1 : g1 ≠ g := fun e => own_not_at hm6.own2 hm6.blk (by decide) g1 rfl e.symm
        have hne2 : g1 ≠ w.heap.size := fun e => own_not_at hm6.own2 hbx6 (by decide) g1 rfl e.symm
        have HM6 := Lib.hid hm6
        have HB6 := Lib.hid hb6
        have HG1 := Lib.hid hg1
        clear hm6 hb6 hg1 h6 e1 e2 e2' htk hcs hk1 hbx6 hnc hlen6 y0 y1 y2 y3 y4
        go_wp2
        go_region
        go_wp2
        go_ret
        have haW : Agree (fun k => k ≠ g1) w6 ((w6.setCell ⟨g1, i * 3 + 1, none⟩ (.int .i64 o.no)).setCell ⟨g1, i * 3 + 2, none⟩ (.bool (cutD b.docs o.id).2)) := ((Agree.refl _ _).set (fun _ h => h) _ _).set (fun _ h => h) _ _
        have h4 := HM6.out.sess_in (w1 := (w6.setCell ⟨g1, i * 3 + 1, none⟩ (.int .i64 o.no)).setCell ⟨g1, i * 3 + 2, none⟩ (.bool (cutD b.docs o.id).2)) (l := ((ins i (⟨o.session, 0, false⟩ : SsV) b.sess)).set i ⟨o.session, o.no, (cutD b.docs o.id).2⟩) haW.size (fun k hk hne => haW.block k (fun e => hne (by rw [e]; rfl)) hk) (by simp) (by
          have h5 := own_set (j := i * 3 + 2) (own_set (j := i * 3 + 1) HM6.out.own2 (.int .i64 o.no)) (.bool (cutD b.docs o.id).2)
          rw [List.length_set, ss_set ⟨o.session, o.no, (cutD b.docs o.id).2⟩ HS1.out HS2.out]
          exact h5)
        refine ⟨rfl, ?_, rs', A1', c1', some ⟨g1, 0, none⟩, c5, by rw [HLS.out, HOP.out]; exact h4.below (Below.refl _ _).drew⟩
        exact ((HB6.out.setCell (p := ⟨g1, i * 3 + 1, none⟩) HG1.out _).setCell (p := ⟨g1, i * 3 + 2, none⟩) HG1.out _).drew
  · have hyes : hasI (sIds b.sess) o.session = true := HFO.out.symm
    obtain ⟨s, hs, hse⟩ := ss_here hyes
    have hsi : b.sess[i]? = some s := by rw [HI.out]; exact hs
    have hil' : i < b.sess.length := (List.getElem?_eq_some_iff.1 hsi).1
    have hss : (ssCells b.sess)[i * 3 + 1]? = some (.int .i64 s.no) := by unfold ssCells; rw [flat_get SsV.cells 3 (fun _ => rfl) b.sess i s hsi 1 (by omega)]; rfl
    obtain ⟨g1, rfl⟩ : ∃ g1, A2 = some ⟨g1, 0, none⟩ := by
      rcases HM2.out.own2.2 with ⟨_, h0⟩ | ⟨g1, cap, cur, e, hg1, hk1, hnc, hcm, hcs, htk⟩
      · have h1 : b.sess.length = 0 := h0
        omega
      · injection e with e1 _ e3
        exact ⟨g1, e1⟩
    have x5 := HM2.out.ss.at (i * 3 + 1) _ hss
    rw [Nat.zero_add] at x5
    have hbb : (i : Int) < (b.sess.length : Int) := by omega
    have hss1 := hse
    by_cases hle : o.no ≤ s.no
    · have HST := Lib.hid (show stepV b o doc = ⟨(n : Int) + 1, b.docs, b.sess⟩ from by unfold stepV; rw [if_pos (by rw [idle_yes hs hse]; simpa using hle), HAPP.out])
      have dle : decide (o.no ≤ s.no) = true := by simpa using hle
      clear hyes hs hse hss1 hsi hle hss
      go_quiet (fail)
      go_wp2
      go_ret
      exact ⟨rfl, HB2.out.trans (below_dn' _ _), rs, A1, c1, _, c2, by rw [HST.out]; exact HM2.out.below (below_dn _ _)⟩
    · have HLS := Lib.hid (show stepV b o doc = ⟨(n : Int) + 1, (opD b.docs o doc).1, b.sess.set i ⟨o.session, o.no, (opD b.docs o doc).2⟩⟩ from by unfold stepV; rw [if_neg (by rw [idle_yes hs hse]; simpa using hle), HAPP.out, sessD, if_pos hyes, HI.out])
      have dle : decide (o.no ≤ s.no) = false := by simp; omega
      have HLG := Lib.hid (show ∃ s1 : SsV, b.sess[i]? = some s1 ∧ s1.id = o.session from ⟨s, hsi, hse⟩)
      clear hyes hs hse hss1 hsi hle hss
      go_quiet (fail)
      go_upto_region 12 with fail
      have HBN := Lib.hid (show Below w2.heap.size w2 (w2.drewN nq) from below_dn _ _)
      generalize w2.drewN nq = wt at HBN ⊢
      have HMT := Lib.hid (HM2.out.below HBN.out)
      have HRT := Lib.hid (HR2.out.below HBN.out)
      have HBX := Lib.hid (block_below HBOX2.out HBN.out)
      have HBT := Lib.hid (HB2.out.trans (HBN.out.mono (by omega) : Below base w2 wt))
      clear x0 x1 x2 x4 x5 f0 HM2 HR2 HBOX2 HB2 HBN
      generalize hA : (some (⟨g1, 0, none⟩ : Addr)) = A2 at HMT ⊢
      clear hA
      obtain ⟨s1, hs1, hs2⟩ : ∃ s1 : SsV, b.sess[i]? = some s1 ∧ s1.id = o.session := HLG.out
      have HS1 := Lib.hid hs1
      have HS2 := Lib.hid hs2
      have hLl : i < b.sess.length := by have := (List.getElem?_eq_some_iff.1 hs1).1; exact this
      clear hs1 hs2
      have y0 := cell_of_block HBX.out 0
      have y1 := cell_of_block HBX.out 1
      have y2 := cell_of_block HBX.out 2
      have y3 := cell_of_block HBX.out 3
      have y4 := cell_of_block HBX.out 4
      simp at y0 y1 y2 y3 y4
      have hcs : ∀ (r : List StV × Bool), opD b.docs o doc = r → ∀ (e : Ending) (w6 : World), DocsPost base g ⟨(n : Int) + 1, b.docs, b.sess⟩ (.slice A1 rs.length c1) A2 c2 r wt e w6 → e = .returned (.bool r.2) ∧ w6.heap[w.heap.size]? = some (.cells #[.int .i64 o.kind, .int .i64 o.id, .slice OA doc.length oc, .int .i64 o.session, .int .i64 o.no] 57 (0, 0)) ∧ Below base w w6 ∧ ∃ rs' A1' c1', BMem base g ⟨(n : Int) + 1, r.1, b.sess⟩ rs' A1' c1' A2 c2 w6 := fun r hr e w6 ⟨he, ⟨hb6, hk6⟩, rs', A1', c1', hm6⟩ => ⟨he, (hk6 _ (lt_of_block HBX.out) (by omega) (fun e => own_not_at HMT.out.own1 HBX.out (by decide) _ e rfl)).trans HBX.out, HBT.out.trans hb6, rs', A1', c1', hm6⟩
      have HCS := Lib.hid hcs
      clear hcs
      by_cases hk : o.kind = 1
      · have HDP := Lib.hid (put_any base g ⟨(n : Int) + 1, b.docs, b.sess⟩ rs A1 c1 A2 c2 o doc OA oc (fun k => k < base) wt HMT.out HF.out.dl HF.out.dr (fun d hd => (HF.out.di d hd).1) hid hdl HRT.out)
        have HOP := Lib.hid (show opD b.docs o doc = putD b.docs ⟨o.id, doc⟩ from by unfold opD; rw [if_pos hk])
        have hdk : (o.kind == 1) = true := by simp [hk]
        have HK := Lib.hid hk
        clear hk
        go_wp2_with fail
        refine HDP.out.mono ?_
        rintro e w6 h6
        obtain ⟨rfl, hbx6, hb6, rs', A1', c1', hm6⟩ := HCS.out _ HOP.out _ _ h6
        rcases hm6.own2.2 with ⟨_, h0⟩ | ⟨g1, cap, cur, e, hg1, hk1, hnc, hcm, hcs, htk⟩
        · have h1 : b.sess.length = 0 := h0
          omega
        injection e with e1 e2' e3
        subst e1 e3
        have hlen6 : cur.size = c2 * 3 := hcs
        have hnc6 : b.sess.length ≤ c2 := by have h1 : b.sess.length ≤ c2 := hnc; exact h1
        obtain ⟨u1, e1⟩ := some_at (cs := cur) (j := i * 3 + 1) (by omega)
        obtain ⟨u2, e2⟩ := some_at (cs := cur) (j := i * 3 + 2) (by omega)
        have q1 := (cell_of_block hk1 _).trans e1
        have q2 := (cell_of_block hk1 _).trans e2
        have f1 := free_of_block hk1 (i * 3 + 1)
        have f2 := free_of_block hk1 (i * 3 + 2)
        have v2 := cell_of_block hm6.blk 2
        have v4 := cell_of_block hbx6 4
        simp at v2 v4
        have hbb : (i : Int) < ((b.sess.length : Nat) : Int) := by omega
        have hne1 : g1 ≠ g := fun e => own_not_at hm6.own2 hm6.blk (by decide) g1 rfl e.symm
        have hne2 : g1 ≠ w.heap.size := fun e => own_not_at hm6.own2 hbx6 (by decide) g1 rfl e.symm
        have HM6 := Lib.hid hm6
        have HB6 := Lib.hid hb6
        have HG1 := Lib.hid hg1
        clear hm6 hb6 hg1 h6 e1 e2 e2' htk hcs hk1 hbx6 hnc hlen6 y0 y1 y2 y3 y4
        go_wp2
        go_region
        go_wp2
        go_ret
        have haW : Agree (fun k => k ≠ g1) w6 ((w6.setCell ⟨g1, i * 3 + 1, none⟩ (.int .i64 o.no)).setCell ⟨g1, i * 3 + 2, none⟩ (.bool (putD b.docs ⟨o.id, doc⟩).2)) := ((Agree.refl _ _).set (fun _ h => h) _ _).set (fun _ h => h) _ _
        have h4 := HM6.out.sess_in (w1 := (w6.setCell ⟨g1, i * 3 + 1, none⟩ (.int .i64 o.no)).setCell ⟨g1, i * 3 + 2, none⟩ (.bool (putD b.docs ⟨o.id, doc⟩).2)) (l := (b.sess).set i ⟨o.session, o.no, (putD b.docs ⟨o.id, doc⟩).2⟩) haW.size (fun k hk hne => haW.block k (fun e => hne (by rw [e]; rfl)) hk) (by simp) (by
          have h5 := own_set (j := i * 3 + 2) (own_set (j := i * 3 + 1) HM6.out.own2 (.int .i64 o.no)) (.bool (putD b.docs ⟨o.id, doc⟩).2)
          rw [List.length_set, ss_set ⟨o.session, o.no, (putD b.docs ⟨o.id, doc⟩).2⟩ HS1.out HS2.out]
          exact h5)
        refine ⟨rfl, ?_, rs', A1', c1', some ⟨g1, 0, none⟩, c2, by rw [HLS.out, HOP.out]; exact h4.below (Below.refl _ _).drew⟩
        exact ((HB6.out.setCell (p := ⟨g1, i * 3 + 1, none⟩) HG1.out _).setCell (p := ⟨g1, i * 3 + 2, none⟩) HG1.out _).drew
      · have HDP := Lib.hid (cut_any base g ⟨(n : Int) + 1, b.docs, b.sess⟩ rs A1 c1 A2 c2 o OA doc.length oc wt HMT.out HF.out.dl HF.out.dr (fun d hd => (HF.out.di d hd).1) hid)
        have HOP := Lib.hid (show opD b.docs o doc = cutD b.docs o.id from by unfold opD; rw [if_neg hk])
        have hdk : (o.kind == 1) = false := by simp [hk]
        have HK := Lib.hid hk
        clear hk
        go_wp2_with fail
        refine HDP.out.mono ?_
        rintro e w6 h6
        obtain ⟨rfl, hbx6, hb6, rs', A1', c1', hm6⟩ := HCS.out _ HOP.out _ _ h6
        rcases hm6.own2.2 with ⟨_, h0⟩ | ⟨g1, cap, cur, e, hg1, hk1, hnc, hcm, hcs, htk⟩
        · have h1 : b.sess.length = 0 := h0
          omega
        injection e with e1 e2' e3
        subst e1 e3
        have hlen6 : cur.size = c2 * 3 := hcs
        have hnc6 : b.sess.length ≤ c2 := by have h1 : b.sess.length ≤ c2 := hnc; exact h1
        obtain ⟨u1, e1⟩ := some_at (cs := cur) (j := i * 3 + 1) (by omega)
        obtain ⟨u2, e2⟩ := some_at (cs := cur) (j := i * 3 + 2) (by omega)
        have q1 := (cell_of_block hk1 _).trans e1
        have q2 := (cell_of_block hk1 _).trans e2
        have f1 := free_of_block hk1 (i * 3 + 1)
        have f2 := free_of_block hk1 (i * 3 + 2)
        have v2 := cell_of_block hm6.blk 2
        have v4 := cell_of_block hbx6 4
        simp at v2 v4
        have hbb : (i : Int) < ((b.sess.length : Nat) : Int) := by omega
        have hne1 : g1 ≠ g := fun e => own_not_at hm6.own2 hm6.blk (by decide) g1 rfl e.symm
        have hne2 : g1 ≠ w.heap.size := fun e => own_not_at hm6.own2 hbx6 (by decide) g1 rfl e.symm
        have HM6 := Lib.hid hm6
        have HB6 := Lib.hid hb6
        have HG1 := Lib.hid hg1
        clear hm6 hb6 hg1 h6 e1 e2 e2' htk hcs hk1 hbx6 hnc hlen6 y0 y1 y2 y3 y4
        go_wp2
        go_region
        go_wp2
        go_ret
        have haW : Agree (fun k => k ≠ g1) w6 ((w6.setCell ⟨g1, i * 3 + 1, none⟩ (.int .i64 o.no)).setCell ⟨g1, i * 3 + 2, none⟩ (.bool (cutD b.docs o.id).2)) := ((Agree.refl _ _).set (fun _ h => h) _ _).set (fun _ h => h) _ _
        have h4 := HM6.out.sess_in (w1 := (w6.setCell ⟨g1, i * 3 + 1, none⟩ (.int .i64 o.no)).setCell ⟨g1, i * 3 + 2, none⟩ (.bool (cutD b.docs o.id).2)) (l := (b.sess).set i ⟨o.session, o.no, (cutD b.docs o.id).2⟩) haW.size (fun k hk hne => haW.block k (fun e => hne (by rw [e]; rfl)) hk) (by simp) (by
          have h5 := own_set (j := i * 3 + 2) (own_set (j := i * 3 + 1) HM6.out.own2 (.int .i64 o.no)) (.bool (cutD b.docs o.id).2)
          rw [List.length_set, ss_set ⟨o.session, o.no, (cutD b.docs o.id).2⟩ HS1.out HS2.out]
          exact h5)
        refine ⟨rfl, ?_, rs', A1', c1', some ⟨g1, 0, none⟩, c2, by rw [HLS.out, HOP.out]; exact h4.below (Below.refl _ _).drew⟩
        exact ((HB6.out.setCell (p := ⟨g1, i * 3 + 1, none⟩) HG1.out _).setCell (p := ⟨g1, i * 3 + 2, none⟩) HG1.out _).drew
end Go.Proofs.YtemcijhpmpdebaaGreatDoor
