/- The reference's l16Apply. -/
import Derived.Test.YtemcijhpmpdebaaGreatDoorFo8
namespace Go.Proofs.YtemcijhpmpdebaaGreatDoor
open Go.RowKit
/-- A base that is read. -/
structure SBs (G : Nat → Prop) (w : World) (A1 : Option Addr) (c1 : Nat) (A2 : Option Addr) (c2 : Nat) (rs : List StR) (b : BsV) : Prop where
  map : rs.map StR.d = b.docs
  docs : SAt G w A1 c1 rs
  scap : b.sess.length ≤ c2
  sess : Rds G w A2 (ssCells b.sess)
theorem SBs.frame {G : Nat → Prop} {w w1 : World} {A1 A2 : Option Addr} {c1 c2 : Nat} {rs : List StR} {b : BsV} (h : SBs G w A1 c1 A2 c2 rs b) (ha : Agree G w w1) : SBs G w1 A1 c1 A2 c2 rs b := ⟨h.map, h.docs.frame ha, h.scap, h.sess.frame ha⟩
theorem SBs.mono {G H : Nat → Prop} {w : World} {A1 A2 : Option Addr} {c1 c2 : Nat} {rs : List StR} {b : BsV} (h : SBs G w A1 c1 A2 c2 rs b) (hG : ∀ k, G k → k < w.heap.size → H k) : SBs H w A1 c1 A2 c2 rs b := ⟨h.map, h.docs.mono hG, h.scap, h.sess.mono hG⟩
theorem SBs.below {G : Nat → Prop} {w w1 : World} {A1 A2 : Option Addr} {c1 c2 : Nat} {rs : List StR} {b : BsV} (h : SBs G w A1 c1 A2 c2 rs b) (hb : Below w.heap.size w w1) : SBs G w1 A1 c1 A2 c2 rs b := h.frame (Agree.of_below hb)
def SApP (G : Nat → Prop) (b : BsV) (w : World) (e : Ending) (w' : World) : Prop :=
  ∃ rs A1 c1 A2 c2, e = .returned (.agg #[.int .i64 b.applied, .slice A1 rs.length c1, .slice A2 b.sess.length c2]) ∧ Below w.heap.size w w' ∧ SBs (fun k => G k ∨ w.heap.size ≤ k) w' A1 c1 A2 c2 rs b
theorem ss_get {l : List SsV} {k : Nat} {s : SsV} (h : l[k]? = some s) : (ssCells l)[k * 3]? = some (.int .i64 s.id) ∧ (ssCells l)[k * 3 + 1]? = some (.int .i64 s.no) := by
  have h0 := flat_get SsV.cells 3 (fun _ => rfl) l k s h 0 (by omega)
  rw [Nat.add_zero] at h0
  unfold ssCells
  exact ⟨h0, flat_get SsV.cells 3 (fun _ => rfl) l k s h 1 (by omega)⟩
set_option maxRecDepth 100000 in
set_option maxHeartbeats 16000000 in
theorem sApply_any (G : Nat → Prop) (n : Nat) (b : BsV) (rs : List StR) (A1 : Option Addr) (c1 : Nat) (A2 : Option Addr) (c2 : Nat) (o : OpV) (doc : List Nd) (OA : Option Addr) (oc : Nat) (w : World) (h : SBs G w A1 c1 A2 c2 rs b) (hf : FoldOK n b) (hn : n < 60)
    (_hid : 0 ≤ o.id ∧ o.id ≤ 100) (_hsid : 0 ≤ o.session ∧ o.session ≤ 100) (hdl : doc.length ≤ 1000000000) (hdr : Rds (fun k => k < w.heap.size) w OA (ndCells doc)) (hG : ∀ k, G k → k < w.heap.size) :
    Calls Tryz.prog 79 #[.agg #[.int .i64 n, .slice A1 rs.length c1, .slice A2 b.sess.length c2], o.val OA doc.length oc] w (SApP G (stepV b o doc) w) := by
  have hw1 : IntKind.i64.wrap ((n : Int) + 1) = (n : Int) + 1 := by rw [IntKind.wrap_i64]; omega
  have hsl := hf.sl
  have hscap := h.scap
  have HAPP := Lib.hid hf.app
  have HF := Lib.hid hf
  have HS := Lib.hid h
  have HDR := Lib.hid hdr
  have HGG := Lib.hid hG
  have k0 : (((w.alloc (.cells #[.int .i64 ((n : Int) + 1), .slice A1 rs.length c1, .slice A2 b.sess.length c2] 27 (0, 0))).alloc (.cells #[.int .i64 o.kind, .int .i64 o.id, .slice OA doc.length oc, .int .i64 o.session, .int .i64 o.no] 57 (0, 0))).alloc (.cells #[.int .i64 0, .slice none 0 0, .slice none 0 0] 27 (0, 0))).heap[w.heap.size]? = some (.cells #[.int .i64 ((n : Int) + 1), .slice A1 rs.length c1, .slice A2 b.sess.length c2] 27 (0, 0)) := by (repeat (first | with_reducible assumption | (with_reducible refine blk_new _ ?_; (first | rfl | (simp; done) | (simp; omega))) | with_reducible apply block_setCell | (with_reducible refine blk_skip _ _ ?_ ?_; rotate_left; (first | (simp; done) | (simp; omega))) | with_reducible refine blk_old ?_))
  have k1 : (((w.alloc (.cells #[.int .i64 ((n : Int) + 1), .slice A1 rs.length c1, .slice A2 b.sess.length c2] 27 (0, 0))).alloc (.cells #[.int .i64 o.kind, .int .i64 o.id, .slice OA doc.length oc, .int .i64 o.session, .int .i64 o.no] 57 (0, 0))).alloc (.cells #[.int .i64 0, .slice none 0 0, .slice none 0 0] 27 (0, 0))).heap[w.heap.size + 1]? = some (.cells #[.int .i64 o.kind, .int .i64 o.id, .slice OA doc.length oc, .int .i64 o.session, .int .i64 o.no] 57 (0, 0)) := by (repeat (first | with_reducible assumption | (with_reducible refine blk_new _ ?_; (first | rfl | (simp; done) | (simp; omega))) | with_reducible apply block_setCell | (with_reducible refine blk_skip _ _ ?_ ?_; rotate_left; (first | (simp; done) | (simp; omega))) | with_reducible refine blk_old ?_))
  have k2 : (((w.alloc (.cells #[.int .i64 ((n : Int) + 1), .slice A1 rs.length c1, .slice A2 b.sess.length c2] 27 (0, 0))).alloc (.cells #[.int .i64 o.kind, .int .i64 o.id, .slice OA doc.length oc, .int .i64 o.session, .int .i64 o.no] 57 (0, 0))).alloc (.cells #[.int .i64 0, .slice none 0 0, .slice none 0 0] 27 (0, 0))).heap[w.heap.size + 1 + 1]? = some (.cells #[.int .i64 0, .slice none 0 0, .slice none 0 0] 27 (0, 0)) := by (repeat (first | with_reducible assumption | (with_reducible refine blk_new _ ?_; (first | rfl | (simp; done) | (simp; omega))) | with_reducible apply block_setCell | (with_reducible refine blk_skip _ _ ?_ ?_; rotate_left; (first | (simp; done) | (simp; omega))) | with_reducible refine blk_old ?_))
  have HK0 := Lib.hid k0
  have HK1 := Lib.hid k1
  have HK2 := Lib.hid k2
  have HB3 := Lib.hid (show Below w.heap.size w (((w.alloc (.cells #[.int .i64 ((n : Int) + 1), .slice A1 rs.length c1, .slice A2 b.sess.length c2] 27 (0, 0))).alloc (.cells #[.int .i64 o.kind, .int .i64 o.id, .slice OA doc.length oc, .int .i64 o.session, .int .i64 o.no] 57 (0, 0))).alloc (.cells #[.int .i64 0, .slice none 0 0, .slice none 0 0] 27 (0, 0))) from bl_alloc (bl_alloc (bl_alloc (Below.refl _ _))))
  have hs3 : (((w.alloc (.cells #[.int .i64 ((n : Int) + 1), .slice A1 rs.length c1, .slice A2 b.sess.length c2] 27 (0, 0))).alloc (.cells #[.int .i64 o.kind, .int .i64 o.id, .slice OA doc.length oc, .int .i64 o.session, .int .i64 o.no] 57 (0, 0))).alloc (.cells #[.int .i64 0, .slice none 0 0, .slice none 0 0] 27 (0, 0))).heap.size = w.heap.size + 1 + 1 + 1 := by simp
  clear h hf hdr hG k0 k1 k2
  unfold OpV.val
  go_enter Tryz.func79, Tryz.ntmps79
  go_upto_block 0 with fail
  generalize (((w.alloc (.cells #[.int .i64 ((n : Int) + 1), .slice A1 rs.length c1, .slice A2 b.sess.length c2] 27 (0, 0))).alloc (.cells #[.int .i64 o.kind, .int .i64 o.id, .slice OA doc.length oc, .int .i64 o.session, .int .i64 o.no] 57 (0, 0))).alloc (.cells #[.int .i64 0, .slice none 0 0, .slice none 0 0] 27 (0, 0))) = w3 at HK0 HK1 HK2 HB3 hs3 ⊢
  go_cut [5] (fun v wx => ∃ k : Nat, v = .int .i64 (k : Int) ∧ k ≤ b.sess.length ∧ Hid (k = posI (sIds b.sess) o.session) ∧ Below w3.heap.size w3 wx)
  case first =>
    go_wp2_with fail
    go_loopw [5] (fun iv wx => ∃ k : Nat, iv = .int .i64 (k : Int) ∧ k ≤ b.sess.length ∧ Hid (∀ (j : Nat) (a : Int), j < k → (sIds b.sess)[j]? = some a → a < o.session) ∧ Below w3.heap.size w3 wx) (fun iv _ => b.sess.length - (intOf iv).toNat)
    case atStart => exact ⟨0, rfl, Nat.zero_le _, Lib.hid (fun j a h => by omega), Below.refl _ _⟩
    case round =>
      obtain ⟨k, rfl, hk, HN, hbx⟩ := hrel
      have z2 := cell_of_block (block_below HK0.out hbx) 2
      have z3 := cell_of_block (block_below HK1.out hbx) 3
      simp at z2 z3
      have HB := Lib.hid hbx
      by_cases hlt : k < b.sess.length
      · have hrk : b.sess[k]? = some b.sess[k] := by simp [hlt]
        generalize b.sess[k] = s at hrk
        have hrow := (HS.out.sess.below HB3.out).below hbx
        obtain ⟨bk, of, rfl, _, _⟩ := hrow.open (by intro e; have := (ss_get hrk).1; rw [e] at this; cases this)
        have y0 := hrow.at _ _ (ss_get hrk).1
        have hgk : (sIds b.sess)[k]? = some s.id := by unfold sIds; rw [List.getElem?_map, hrk]; rfl
        have HGK := Lib.hid hgk
        have hbb : decide ((k : Int) < (b.sess.length : Int)) = true := by simp; omega
        clear hbx hrk hgk hrow
        by_cases he : s.id < o.session
        · have de : decide (s.id < o.session) = true := by simpa using he
          have HE := Lib.hid he
          clear he
          go_upto_region 3 with fail
          go_quiet (fail)
          go_wp2
          go_roundw
          case rel => exact ⟨k + 1, by go_num, by omega, Lib.hid (fun j a hj ha => by
            by_cases e : j = k
            · subst e; rw [HGK.out] at ha; injection ha with ha; rw [← ha]; exact HE.out
            · exact HN.out j a (by omega) ha), HB.out.trans (below_dn' _ _)⟩
          case measure => simp [intOf]; omega
        · have de : decide (s.id < o.session) = false := by simpa using he
          have HE := Lib.hid he
          clear he
          go_upto_region 3 with fail
          go_quiet (fail)
          go_wp2
          go_meet
          exact ⟨k, rfl, hk, Lib.hid (posI_first (by simpa [sIds] using hk) HN.out (fun a ha => by rw [HGK.out] at ha; injection ha with ha; have := HE.out; omega)), HB.out.trans (below_dn' _ _)⟩
      · obtain rfl : k = b.sess.length := by omega
        have hbb : decide ((b.sess.length : Int) < (b.sess.length : Int)) = false := by simp
        clear hbx
        go_upto_region 3 with fail
        go_quiet (fail)
        go_wp2
        go_meet
        exact ⟨b.sess.length, rfl, hk, Lib.hid (posI_first (by simp [sIds]) HN.out (fun a ha => by simp [sIds] at ha)), HB.out.trans (below_dn' _ _)⟩
  case rest =>
    obtain ⟨k, rfl, hk, HP, hbc⟩ := hcut
    obtain ⟨w4, hw4⟩ : ∃ w4, w4 = wc := ⟨_, rfl⟩
    subst hw4
    have HK0' := Lib.hid (block_below HK0.out hbc)
    have HK1' := Lib.hid (block_below HK1.out hbc)
    have HK2' := Lib.hid (block_below HK2.out hbc)
    have HB4 := Lib.hid (below_then HB3.out HB3.out.size hbc)
    have hs4 := hbc.size
    clear hbc HK0 HK1 HK2 HB3
    go_upto_region 5 with fail
    go_cut [6] (fun v wx => v = .bool (hasI (sIds b.sess) o.session) ∧ Below w4.heap.size w4 wx)
    case first =>
      have z2 := cell_of_block HK0'.out 2
      have z3 := cell_of_block HK1'.out 3
      simp at z2 z3
      by_cases hlt : k < b.sess.length
      · have hrk : b.sess[k]? = some b.sess[k] := by simp [hlt]
        generalize b.sess[k] = s at hrk
        have hrow := HS.out.sess.below HB4.out
        obtain ⟨bk, of, rfl, _, _⟩ := hrow.open (by intro e; have := (ss_get hrk).1; rw [e] at this; cases this)
        have y0 := hrow.at _ _ (ss_get hrk).1
        have hgk : (sIds b.sess)[k]? = some s.id := by unfold sIds; rw [List.getElem?_map, hrk]; rfl
        have HHI := Lib.hid (show (s.id == o.session) = hasI (sIds b.sess) o.session from by unfold hasI; rw [← HP.out, hgk]; simp)
        have hbb : decide ((k : Int) < (b.sess.length : Int)) = true := by simp; omega
        clear hrk hgk hrow
        go_quiet (fail)
        go_wp2
        go_meet
        exact ⟨by rw [← HHI.out], below_dn _ _⟩
      · obtain rfl : k = b.sess.length := by omega
        have HHI := Lib.hid (show hasI (sIds b.sess) o.session = false from by unfold hasI; rw [← HP.out]; simp [sIds])
        have hbb : decide ((b.sess.length : Int) < (b.sess.length : Int)) = false := by simp
        go_quiet (fail)
        go_wp2
        go_meet
        exact ⟨by rw [HHI.out], below_dn _ _⟩
    case rest =>
      obtain ⟨rfl, hbc⟩ := hcut
      obtain ⟨w5, hw5⟩ : ∃ w5, w5 = wc := ⟨_, rfl⟩
      subst hw5
      have HJ0 := Lib.hid (block_below HK0'.out hbc)
      have HJ1 := Lib.hid (block_below HK1'.out hbc)
      have HJ2 := Lib.hid (block_below HK2'.out hbc)
      have HB5 := Lib.hid (below_then HB4.out HB4.out.size hbc)
      have hs5 := hbc.size
      clear hbc HK0' HK1' HK2' HB4
      cases hh : hasI (sIds b.sess) o.session
      · have HID := Lib.hid (idle_no hh)
        have HHH := Lib.hid hh
        clear hh
        go_upto_region 6 with fail
        go_cut [68] (fun v wx => v = .bool (idle b.sess o) ∧ Below w5.heap.size w5 wx)
        case first =>
          have z2 := cell_of_block HJ0.out 2
          have z4 := cell_of_block HJ1.out 4
          simp at z2 z4
          by_cases h8 : b.sess.length = 8
          · have d8 : ((b.sess.length : Int) == 8) = true := by simp; omega
            have HIE := Lib.hid (show idle b.sess o = true from HID.out.trans (by simpa using h8))
            clear h8 HID
            go_quiet (fail)
            go_wp2
            go_meet
            exact ⟨by rw [HIE.out], below_dn _ _⟩
          · have d8 : ((b.sess.length : Int) == 8) = false := by simp; omega
            have HIE := Lib.hid (show idle b.sess o = false from HID.out.trans (by simpa using h8))
            clear h8 HID
            go_quiet (fail)
            go_wp2
            go_meet
            exact ⟨by rw [HIE.out], below_dn _ _⟩
        case rest =>
          obtain ⟨rfl, hbc⟩ := hcut
          obtain ⟨w6, hw6⟩ : ∃ w6, w6 = wc := ⟨_, rfl⟩
          subst hw6
          have HL0 := Lib.hid (block_below HJ0.out hbc)
          have HL1 := Lib.hid (block_below HJ1.out hbc)
          have HL2 := Lib.hid (block_below HJ2.out hbc)
          have HB6 := Lib.hid (below_then HB5.out HB5.out.size hbc)
          have hs6 := hbc.size
          clear hbc HJ0 HJ1 HJ2 HB5
          obtain ⟨x0, x1, x2⟩ := cells3 HL0.out
          obtain ⟨r0, r1, r2⟩ := cells3 HL2.out
          have f0 := free_of_block HL2.out 0
          have f1 := free_of_block HL2.out 1
          have f2 := free_of_block HL2.out 2
          cases hi : idle b.sess o
          · have HST := Lib.hid (show stepV b o doc = ⟨(n : Int) + 1, (opD b.docs o doc).1, b.sess.take k ++ ⟨o.session, o.no, (opD b.docs o doc).2⟩ :: b.sess.drop k⟩ from by unfold stepV; rw [if_neg (by rw [hi]; decide), HAPP.out, sessD, if_neg (by rw [HHH.out]; decide), ← HP.out]; rfl)
            clear hi x0 x1 x2 r0 r1 r2 f0 f1 f2
            have HDC := Lib.hid (HS.out.docs.below HB6.out)
            have HD6 := Lib.hid (HDR.out.below HB6.out)
            have hsz6 : w.heap.size + 1 + 1 < w6.heap.size := lt_of_block HL2.out
            by_cases hk1 : o.kind = 1
            · have dk : (o.kind == 1) = true := by simp [hk1]
              have HOP := Lib.hid (show opD b.docs o doc = putD (rs.map StR.d) ⟨o.id, doc⟩ from by unfold opD; rw [if_pos hk1, HS.out.map])
              have HPU := Lib.hid (sPut_any rs (by have := HF.out.dl; rw [← HS.out.map, List.length_map] at this; exact this) (by rw [HS.out.map]; exact HF.out.dr) ⟨o.id, doc⟩ hdl _ A1 c1 OA oc w6 HDC.out HD6.out)
              have z1 := cell_of_block HL0.out 1
              have f1 := free_of_block HL0.out 1
              have y0 := cell_of_block HL1.out 0
              have y1 := cell_of_block HL1.out 1
              have y2 := cell_of_block HL1.out 2
              simp at z1 y0 y1 y2
              clear hk1 HDC HD6
              go_wp2_with fail
              refine HPU.out.mono ?_
              rintro e w7 ⟨rs', A1', c1', hmap7, rfl, hb7, hs7⟩
              have k0 := block_below HL0.out hb7
              have k1 := block_below HL1.out hb7
              have k2 := block_below HL2.out hb7
              have z1 := cell_of_block k0 1
              have g1 := free_of_block k0 1
              simp at z1
              have hB7 := below_then HB6.out HB6.out.size hb7
              have HWT := Lib.hid (fun (v : Value) => show (w7.setCell ⟨w.heap.size, 1, none⟩ v).heap[w.heap.size + 1]? = some (.cells #[.int .i64 o.kind, .int .i64 o.id, .slice OA doc.length oc, .int .i64 o.session, .int .i64 o.no] 57 (0, 0)) ∧ (w7.setCell ⟨w.heap.size, 1, none⟩ v).heap[w.heap.size + 1 + 1]? = some (.cells #[.int .i64 0, .slice none 0 0, .slice none 0 0] 27 (0, 0)) ∧ Below w.heap.size w (w7.setCell ⟨w.heap.size, 1, none⟩ v) from
                ⟨(Below.heap_setCell w7 ⟨w.heap.size, 1, none⟩ v _ (show w.heap.size + 1 ≠ w.heap.size by omega)).trans k1, (Below.heap_setCell w7 ⟨w.heap.size, 1, none⟩ v _ (show w.heap.size + 1 + 1 ≠ w.heap.size by omega)).trans k2, hB7.setCell (p := ⟨w.heap.size, 1, none⟩) (Nat.le_refl _) v⟩)
              have HWB := Lib.hid (fun (v : Value) => show (w7.setCell ⟨w.heap.size, 1, none⟩ v).heap[w.heap.size]? = some (.cells #[.int .i64 ((n : Int) + 1), v, .slice A2 b.sess.length c2] 27 (0, 0)) from block_setCell k0 1 v)
              have HWD := Lib.hid (show SAt (fun j => G j ∨ w.heap.size + 1 + 1 + 1 ≤ j) (w7.setCell ⟨w.heap.size, 1, none⟩ (.slice A1' rs'.length c1')) A1' c1' rs' from
                (hs7.mono (fun j hj _ => by rcases hj with hj | hj <;> first | exact .inl hj | exact .inr (by omega) : ∀ j, (G j ∨ w6.heap.size ≤ j) → j < w7.heap.size → (G j ∨ w.heap.size + 1 + 1 + 1 ≤ j))).frame (Agree.of_setCell _ _ _ (fun j hj e => by have e' : j = w.heap.size := e; rcases hj with hj | hj; (have := HGG.out j hj; omega); omega)))
              have HMP := Lib.hid hmap7
              have hsz7 : w6.heap.size ≤ w7.heap.size := hb7.size
              have HLR := Lib.hid (show ∀ (m : Nat), (ssCells (b.sess.drop m)).length = (b.sess.length - m) * 3 from fun m => by unfold ssCells; rw [flat_len SsV.cells 3 (fun _ => rfl), List.length_drop])
              have HLF := Lib.hid (show (ssCells (b.sess.take k)).length = k * 3 from by unfold ssCells; rw [flat_len SsV.cells 3 (fun _ => rfl), List.length_take, Nat.min_eq_left hk])
              clear k0 k1 k2 hmap7 hb7 hs7 hB7 f1 y0 y1 y2 HL0 HL1 HL2 HB6 HPU
              go_upto_region 12 with fail
              generalize hwt : w7.setCell ⟨w.heap.size, 1, none⟩ (.slice A1' rs'.length c1') = wt at HWD ⊢
              have hkt := HWB.out (.slice A1' rs'.length c1')
              have hkk := HWT.out (.slice A1' rs'.length c1')
              rw [hwt] at hkt hkk
              have HKB := Lib.hid hkt
              have HKO := Lib.hid hkk.1
              have HKZ := Lib.hid hkk.2.1
              have HBT := Lib.hid hkk.2.2
              have HSE := Lib.hid (HS.out.sess.below hkk.2.2)
              have hszt : w.heap.size + 1 + 1 < wt.heap.size := lt_of_block hkk.2.1
              clear hkt hkk hwt HWB HWT z1 g1
              obtain ⟨z0, z1, z2⟩ := cells3 HKB.out
              have hkc : k ≤ c2 := by omega
              go_upto_region 14 with (at_builtin; refine append_rows wt.heap.size rfl (.tmp 94) (.tmp 98) 25 97 _ 3 24 rfl Tryz.underlying25 infoSession rfl (by decide) (.slice none 0 0) 0 [] rfl (World.ownsRow_nil _ _ _ _) A2 k c2 (ssCells (b.sess.take k)) rfl HLF.out (by unfold ssCells; rw [← flat_take SsV.cells 3 (fun _ => rfl) b.sess k hk]; exact rds_take HSE.out _) (ssCells_one _) (by simp only [maxLen]; omega) (by omega) (Nat.le_refl _) ?_; intro A8 c8 w8 hc8 ho8 hg8 hat8)
              have HB8 := Lib.hid (show Below wt.heap.size wt w8 from (Below.refl _ _).grown hg8 (Nat.le_refl _) (fun k hk => by cases hk))
              have HO8 := Lib.hid (show w8.ownsRow wt.heap.size 97 3 (.slice A8 k c8) k (ssCells (b.sess.take k)) from by rw [Nat.zero_add, List.nil_append] at ho8; exact ho8)
              have hs8 := HB8.out.size
              rw [Nat.zero_add] at hc8
              clear ho8 hg8 hat8 z0 z1 z2
              have q3 := cell_of_block (block_below HKO.out HB8.out) 3
              have q4 := cell_of_block (block_below HKO.out HB8.out) 4
              simp at q3 q4
              have HV9 := Lib.hid (heap_alloc_new w8 (.cells #[.int .i64 o.session, .int .i64 o.no, .bool (putD (rs.map StR.d) ⟨o.id, doc⟩).2] 97 (0, 0)))
              have HB9 := Lib.hid (show Below wt.heap.size wt (w8.alloc (.cells #[.int .i64 o.session, .int .i64 o.no, .bool (putD (rs.map StR.d) ⟨o.id, doc⟩).2] 97 (0, 0))) from HB8.out.alloc hs8 _)
              go_upto_region 15 with (at_builtin; refine append_rows wt.heap.size rfl (.tmp 100) (.tmp 107) 25 97 _ 3 24 rfl Tryz.underlying25 infoSession rfl (by decide) (.slice A8 k c8) k (ssCells (b.sess.take k)) rfl (HO8.out.alloc _) (some ⟨w8.heap.size, 0, none⟩) 1 1 [.int .i64 o.session, .int .i64 o.no, .bool (putD (rs.map StR.d) ⟨o.id, doc⟩).2] rfl rfl (rds_blk HV9.out) (by intro v hv; simp at hv; rcases hv with rfl | rfl | rfl <;> rfl) (by simp only [maxLen]; omega) (by omega) (by simp; omega) ?_; intro A10 c10 w10 hc10 ho10 hg10 hat10)
              have HB10 := Lib.hid (show Below wt.heap.size wt w10 from HB9.out.grown hg10 HB9.out.size (fun j hj => (own_base HO8.out j hj).1))
              have HO10 := Lib.hid (show w10.ownsRow wt.heap.size 97 3 (.slice A10 (k + 1) c10) (k + 1) (ssCells (b.sess.take k ++ [⟨o.session, o.no, (putD (rs.map StR.d) ⟨o.id, doc⟩).2⟩])) from by
                have e : ssCells (b.sess.take k ++ [⟨o.session, o.no, (putD (rs.map StR.d) ⟨o.id, doc⟩).2⟩]) = ssCells (b.sess.take k) ++ [.int .i64 o.session, .int .i64 o.no, .bool (putD (rs.map StR.d) ⟨o.id, doc⟩).2] := by unfold ssCells; rw [List.flatMap_append]; rfl
                rw [e]; exact ho10)
              have hs10 := HB10.out.size
              clear ho10 hg10 hat10 q3 q4
              obtain ⟨z0, z1, z2⟩ := cells3 (block_below HKB.out HB10.out)
              have hw1k : IntKind.i64.wrap ((k : Int) + 1) = (k : Int) + 1 := by rw [IntKind.wrap_i64]; omega
              have hin1 : ((k : Nat) : Int) ≤ (b.sess.length : Int) := by omega
              have hin1' : ((k : Int) : Int) ≤ (b.sess.length : Int) := by omega
              have hin2 : (0 : Int) ≤ (k : Int) + 1 := by omega
              have htn : ((k : Int) + 1).toNat = k + 1 := by omega
              have HRB := Lib.hid (show Rds G w10 (if c2 = k then A2 else A2.map (fun x => x.add ((k) * 3))) (ssCells (b.sess.drop (k))) from by
                have e := flat_drop SsV.cells 3 (fun _ => rfl) b.sess (k) (by omega)
                unfold ssCells
                rw [← e]
                have h := rds_drop (HSE.out.below HB10.out) ((k) * 3) (c2 * 3) ((k) * 3) (fun e => List.drop_eq_nil_of_le (by unfold ssCells; rw [flat_len SsV.cells 3 (fun _ => rfl)]; omega))
                by_cases hc : c2 = k
                · rw [if_pos hc]; rw [if_pos (by omega)] at h; exact h
                · rw [if_neg hc]; rw [if_neg (by omega)] at h; exact h)
              have HKP := Lib.hid (fun (W : World) (hb : Below wt.heap.size wt W) => show W.cell? ⟨w.heap.size, 0, none⟩ = some (.int .i64 ((n : Int) + 1)) ∧ W.cell? ⟨w.heap.size, 1, none⟩ = some (.slice A1' rs'.length c1') ∧ W.cell? ⟨w.heap.size, 2, none⟩ = some (.slice A2 b.sess.length c2) ∧ W.frozen? ⟨w.heap.size, 2, none⟩ = false ∧ W.cell? ⟨w.heap.size + 1 + 1, 0, none⟩ = some (.int .i64 0) ∧ W.cell? ⟨w.heap.size + 1 + 1, 1, none⟩ = some (.slice none 0 0) ∧ W.cell? ⟨w.heap.size + 1 + 1, 2, none⟩ = some (.slice none 0 0) ∧ W.frozen? ⟨w.heap.size + 1 + 1, 0, none⟩ = false ∧ W.frozen? ⟨w.heap.size + 1 + 1, 1, none⟩ = false ∧ W.frozen? ⟨w.heap.size + 1 + 1, 2, none⟩ = false from
                ⟨cell_of_block (block_below HKB.out hb) 0, cell_of_block (block_below HKB.out hb) 1, cell_of_block (block_below HKB.out hb) 2, free_of_block (block_below HKB.out hb) 2, cell_of_block (block_below HKZ.out hb) 0, cell_of_block (block_below HKZ.out hb) 1, cell_of_block (block_below HKZ.out hb) 2, free_of_block (block_below HKZ.out hb) 0, free_of_block (block_below HKZ.out hb) 1, free_of_block (block_below HKZ.out hb) 2⟩)
              go_wp2_with (at_builtin; refine append_rows wt.heap.size rfl (.tmp 112) (.tmp 116) 25 97 _ 3 24 rfl Tryz.underlying25 infoSession rfl (by decide) (.slice A10 (k + 1) c10) (k + 1) (ssCells (b.sess.take k ++ [⟨o.session, o.no, (putD (rs.map StR.d) ⟨o.id, doc⟩).2⟩])) rfl HO10.out _ (b.sess.length - (k)) _ (ssCells (b.sess.drop (k))) rfl (HLR.out _) HRB.out (ssCells_one _) (by simp only [maxLen]; omega) (by omega) hs10 ?_; intro A11 c11 w11 hc11 ho11 hg11 hat11; have hb11 : Below wt.heap.size wt w11 := HB10.out.grown hg11 hs10 (fun j hj => (own_base HO10.out j hj).1); obtain ⟨p0, p1, p2, p3, p4, p5, p6, p7, p8, p9⟩ := HKP.out w11 hb11; have HB11 := Lib.hid hb11; have HO11 := Lib.hid ho11; clear hb11 ho11 hg11 hat11; generalize (if c2 = k then A2 else Option.map (fun x => x.add ((k) * 3)) A2) = Asl)
              have hkz : ∀ v, (w11.setCell ⟨w.heap.size, 2, none⟩ v).heap[w.heap.size + 1 + 1]? = some (.cells #[.int .i64 0, .slice none 0 0, .slice none 0 0] 27 (0, 0)) := fun v => (Below.heap_setCell w11 ⟨w.heap.size, 2, none⟩ v _ (show w.heap.size + 1 + 1 ≠ w.heap.size by omega)).trans (block_below HKZ.out HB11.out)
              refine bodyPost_ret (results_cell_row rfl _ _ (w.heap.size + 1 + 1) _ _ _ _ rfl (block_setCell (block_setCell (block_setCell (hkz _) _ _) _ _) _ _) Tryz.underlying27 rfl ((info_size infoBase).trans (by simp))) rfl ?_
              have hlen : (b.sess.take k ++ (⟨o.session, o.no, (putD (rs.map StR.d) ⟨o.id, doc⟩).2⟩ : SsV) :: b.sess.drop (k)).length = k + 1 + (b.sess.length - (k)) := by simp; omega
              have hrow : ssCells (b.sess.take k ++ [⟨o.session, o.no, (putD (rs.map StR.d) ⟨o.id, doc⟩).2⟩]) ++ ssCells (b.sess.drop (k)) = ssCells (b.sess.take k ++ (⟨o.session, o.no, (putD (rs.map StR.d) ⟨o.id, doc⟩).2⟩ : SsV) :: b.sess.drop (k)) := by unfold ssCells; rw [← List.flatMap_append]; simp
              have hs0 : w.heap.size ≤ w.heap.size + 1 + 1 := by omega
              have hbt : Below w.heap.size w w11 := HBT.out.trans (HB11.out.mono (by omega))
              rw [HST.out, HOP.out]
              have n1 : ∀ j, (G j ∨ w.heap.size + 1 + 1 + 1 ≤ j) → j ≠ w.heap.size := fun j h => by rcases h with h | h; (have := HGG.out j h; omega); omega
              have n2 : ∀ j, (G j ∨ w.heap.size + 1 + 1 + 1 ≤ j) → j ≠ w.heap.size + 1 + 1 := fun j h => by rcases h with h | h; (have := HGG.out j h; omega); omega
              have m1 : ∀ j, wt.heap.size ≤ j → j ≠ w.heap.size := fun j h => by omega
              have m2 : ∀ j, wt.heap.size ≤ j → j ≠ w.heap.size + 1 + 1 := fun j h => by omega
              refine ⟨rs', A1', c1', A11, c11, by rw [hlen]; rfl, ((((hbt.setCell (p := ⟨w.heap.size, 2, none⟩) (Nat.le_refl _) _).setCell (p := ⟨w.heap.size + 1 + 1, 0, none⟩) hs0 _).setCell (p := ⟨w.heap.size + 1 + 1, 1, none⟩) hs0 _).setCell (p := ⟨w.heap.size + 1 + 1, 2, none⟩) hs0 _), HMP.out, ?_, by rw [hlen]; exact hc11, ?_⟩
              · exact ((HWD.out.below HB11.out).frame (((((Agree.refl _ _).set n1 _ _).set n2 _ _).set n2 _ _).set n2 _ _)).mono (fun j h _ => h.imp id (fun h => by omega))
              · have h := (Rds.of_own HO11.out).frame (((((Agree.refl _ _).set m1 2 (.slice A11 (k + 1 + (b.sess.length - (k))) c11)).set m2 0 (.int .i64 ((n : Int) + 1))).set m2 1 (.slice A1' rs'.length c1')).set m2 2 (.slice A11 (k + 1 + (b.sess.length - (k))) c11))
                rw [hrow] at h
                exact h.mono (fun j hj _ => .inr (by have h' : wt.heap.size ≤ j := hj; omega))
            · have dk : (o.kind == 1) = false := by simp [hk1]
              have HOP := Lib.hid (show opD b.docs o doc = cutD (rs.map StR.d) o.id from by unfold opD; rw [if_neg hk1, HS.out.map])
              have HPU := Lib.hid (sCut_any rs (by have := HF.out.dl; rw [← HS.out.map, List.length_map] at this; omega) (by rw [HS.out.map]; exact HF.out.dr) o.id _ A1 c1 w6 HDC.out)
              have z1 := cell_of_block HL0.out 1
              have f1 := free_of_block HL0.out 1
              have y0 := cell_of_block HL1.out 0
              have y1 := cell_of_block HL1.out 1
              have y2 := cell_of_block HL1.out 2
              simp at z1 y0 y1 y2
              clear hk1 HDC HD6
              go_wp2_with fail
              refine HPU.out.mono ?_
              rintro e w7 ⟨rs', A1', c1', hmap7, rfl, hb7, hs7⟩
              have k0 := block_below HL0.out hb7
              have k1 := block_below HL1.out hb7
              have k2 := block_below HL2.out hb7
              have z1 := cell_of_block k0 1
              have g1 := free_of_block k0 1
              simp at z1
              have hB7 := below_then HB6.out HB6.out.size hb7
              have HWT := Lib.hid (fun (v : Value) => show (w7.setCell ⟨w.heap.size, 1, none⟩ v).heap[w.heap.size + 1]? = some (.cells #[.int .i64 o.kind, .int .i64 o.id, .slice OA doc.length oc, .int .i64 o.session, .int .i64 o.no] 57 (0, 0)) ∧ (w7.setCell ⟨w.heap.size, 1, none⟩ v).heap[w.heap.size + 1 + 1]? = some (.cells #[.int .i64 0, .slice none 0 0, .slice none 0 0] 27 (0, 0)) ∧ Below w.heap.size w (w7.setCell ⟨w.heap.size, 1, none⟩ v) from
                ⟨(Below.heap_setCell w7 ⟨w.heap.size, 1, none⟩ v _ (show w.heap.size + 1 ≠ w.heap.size by omega)).trans k1, (Below.heap_setCell w7 ⟨w.heap.size, 1, none⟩ v _ (show w.heap.size + 1 + 1 ≠ w.heap.size by omega)).trans k2, hB7.setCell (p := ⟨w.heap.size, 1, none⟩) (Nat.le_refl _) v⟩)
              have HWB := Lib.hid (fun (v : Value) => show (w7.setCell ⟨w.heap.size, 1, none⟩ v).heap[w.heap.size]? = some (.cells #[.int .i64 ((n : Int) + 1), v, .slice A2 b.sess.length c2] 27 (0, 0)) from block_setCell k0 1 v)
              have HWD := Lib.hid (show SAt (fun j => G j ∨ w.heap.size + 1 + 1 + 1 ≤ j) (w7.setCell ⟨w.heap.size, 1, none⟩ (.slice A1' rs'.length c1')) A1' c1' rs' from
                (hs7.mono (fun j hj _ => by rcases hj with hj | hj <;> first | exact .inl hj | exact .inr (by omega) : ∀ j, (G j ∨ w6.heap.size ≤ j) → j < w7.heap.size → (G j ∨ w.heap.size + 1 + 1 + 1 ≤ j))).frame (Agree.of_setCell _ _ _ (fun j hj e => by have e' : j = w.heap.size := e; rcases hj with hj | hj; (have := HGG.out j hj; omega); omega)))
              have HMP := Lib.hid hmap7
              have hsz7 : w6.heap.size ≤ w7.heap.size := hb7.size
              have HLR := Lib.hid (show ∀ (m : Nat), (ssCells (b.sess.drop m)).length = (b.sess.length - m) * 3 from fun m => by unfold ssCells; rw [flat_len SsV.cells 3 (fun _ => rfl), List.length_drop])
              have HLF := Lib.hid (show (ssCells (b.sess.take k)).length = k * 3 from by unfold ssCells; rw [flat_len SsV.cells 3 (fun _ => rfl), List.length_take, Nat.min_eq_left hk])
              clear k0 k1 k2 hmap7 hb7 hs7 hB7 f1 y0 y1 y2 HL0 HL1 HL2 HB6 HPU
              go_upto_region 12 with fail
              generalize hwt : w7.setCell ⟨w.heap.size, 1, none⟩ (.slice A1' rs'.length c1') = wt at HWD ⊢
              have hkt := HWB.out (.slice A1' rs'.length c1')
              have hkk := HWT.out (.slice A1' rs'.length c1')
              rw [hwt] at hkt hkk
              have HKB := Lib.hid hkt
              have HKO := Lib.hid hkk.1
              have HKZ := Lib.hid hkk.2.1
              have HBT := Lib.hid hkk.2.2
              have HSE := Lib.hid (HS.out.sess.below hkk.2.2)
              have hszt : w.heap.size + 1 + 1 < wt.heap.size := lt_of_block hkk.2.1
              clear hkt hkk hwt HWB HWT z1 g1
              obtain ⟨z0, z1, z2⟩ := cells3 HKB.out
              have hkc : k ≤ c2 := by omega
              go_upto_region 14 with (at_builtin; refine append_rows wt.heap.size rfl (.tmp 94) (.tmp 98) 25 97 _ 3 24 rfl Tryz.underlying25 infoSession rfl (by decide) (.slice none 0 0) 0 [] rfl (World.ownsRow_nil _ _ _ _) A2 k c2 (ssCells (b.sess.take k)) rfl HLF.out (by unfold ssCells; rw [← flat_take SsV.cells 3 (fun _ => rfl) b.sess k hk]; exact rds_take HSE.out _) (ssCells_one _) (by simp only [maxLen]; omega) (by omega) (Nat.le_refl _) ?_; intro A8 c8 w8 hc8 ho8 hg8 hat8)
              have HB8 := Lib.hid (show Below wt.heap.size wt w8 from (Below.refl _ _).grown hg8 (Nat.le_refl _) (fun k hk => by cases hk))
              have HO8 := Lib.hid (show w8.ownsRow wt.heap.size 97 3 (.slice A8 k c8) k (ssCells (b.sess.take k)) from by rw [Nat.zero_add, List.nil_append] at ho8; exact ho8)
              have hs8 := HB8.out.size
              rw [Nat.zero_add] at hc8
              clear ho8 hg8 hat8 z0 z1 z2
              have q3 := cell_of_block (block_below HKO.out HB8.out) 3
              have q4 := cell_of_block (block_below HKO.out HB8.out) 4
              simp at q3 q4
              have HV9 := Lib.hid (heap_alloc_new w8 (.cells #[.int .i64 o.session, .int .i64 o.no, .bool (cutD (rs.map StR.d) o.id).2] 97 (0, 0)))
              have HB9 := Lib.hid (show Below wt.heap.size wt (w8.alloc (.cells #[.int .i64 o.session, .int .i64 o.no, .bool (cutD (rs.map StR.d) o.id).2] 97 (0, 0))) from HB8.out.alloc hs8 _)
              go_upto_region 15 with (at_builtin; refine append_rows wt.heap.size rfl (.tmp 100) (.tmp 107) 25 97 _ 3 24 rfl Tryz.underlying25 infoSession rfl (by decide) (.slice A8 k c8) k (ssCells (b.sess.take k)) rfl (HO8.out.alloc _) (some ⟨w8.heap.size, 0, none⟩) 1 1 [.int .i64 o.session, .int .i64 o.no, .bool (cutD (rs.map StR.d) o.id).2] rfl rfl (rds_blk HV9.out) (by intro v hv; simp at hv; rcases hv with rfl | rfl | rfl <;> rfl) (by simp only [maxLen]; omega) (by omega) (by simp; omega) ?_; intro A10 c10 w10 hc10 ho10 hg10 hat10)
              have HB10 := Lib.hid (show Below wt.heap.size wt w10 from HB9.out.grown hg10 HB9.out.size (fun j hj => (own_base HO8.out j hj).1))
              have HO10 := Lib.hid (show w10.ownsRow wt.heap.size 97 3 (.slice A10 (k + 1) c10) (k + 1) (ssCells (b.sess.take k ++ [⟨o.session, o.no, (cutD (rs.map StR.d) o.id).2⟩])) from by
                have e : ssCells (b.sess.take k ++ [⟨o.session, o.no, (cutD (rs.map StR.d) o.id).2⟩]) = ssCells (b.sess.take k) ++ [.int .i64 o.session, .int .i64 o.no, .bool (cutD (rs.map StR.d) o.id).2] := by unfold ssCells; rw [List.flatMap_append]; rfl
                rw [e]; exact ho10)
              have hs10 := HB10.out.size
              clear ho10 hg10 hat10 q3 q4
              obtain ⟨z0, z1, z2⟩ := cells3 (block_below HKB.out HB10.out)
              have hw1k : IntKind.i64.wrap ((k : Int) + 1) = (k : Int) + 1 := by rw [IntKind.wrap_i64]; omega
              have hin1 : ((k : Nat) : Int) ≤ (b.sess.length : Int) := by omega
              have hin1' : ((k : Int) : Int) ≤ (b.sess.length : Int) := by omega
              have hin2 : (0 : Int) ≤ (k : Int) + 1 := by omega
              have htn : ((k : Int) + 1).toNat = k + 1 := by omega
              have HRB := Lib.hid (show Rds G w10 (if c2 = k then A2 else A2.map (fun x => x.add ((k) * 3))) (ssCells (b.sess.drop (k))) from by
                have e := flat_drop SsV.cells 3 (fun _ => rfl) b.sess (k) (by omega)
                unfold ssCells
                rw [← e]
                have h := rds_drop (HSE.out.below HB10.out) ((k) * 3) (c2 * 3) ((k) * 3) (fun e => List.drop_eq_nil_of_le (by unfold ssCells; rw [flat_len SsV.cells 3 (fun _ => rfl)]; omega))
                by_cases hc : c2 = k
                · rw [if_pos hc]; rw [if_pos (by omega)] at h; exact h
                · rw [if_neg hc]; rw [if_neg (by omega)] at h; exact h)
              have HKP := Lib.hid (fun (W : World) (hb : Below wt.heap.size wt W) => show W.cell? ⟨w.heap.size, 0, none⟩ = some (.int .i64 ((n : Int) + 1)) ∧ W.cell? ⟨w.heap.size, 1, none⟩ = some (.slice A1' rs'.length c1') ∧ W.cell? ⟨w.heap.size, 2, none⟩ = some (.slice A2 b.sess.length c2) ∧ W.frozen? ⟨w.heap.size, 2, none⟩ = false ∧ W.cell? ⟨w.heap.size + 1 + 1, 0, none⟩ = some (.int .i64 0) ∧ W.cell? ⟨w.heap.size + 1 + 1, 1, none⟩ = some (.slice none 0 0) ∧ W.cell? ⟨w.heap.size + 1 + 1, 2, none⟩ = some (.slice none 0 0) ∧ W.frozen? ⟨w.heap.size + 1 + 1, 0, none⟩ = false ∧ W.frozen? ⟨w.heap.size + 1 + 1, 1, none⟩ = false ∧ W.frozen? ⟨w.heap.size + 1 + 1, 2, none⟩ = false from
                ⟨cell_of_block (block_below HKB.out hb) 0, cell_of_block (block_below HKB.out hb) 1, cell_of_block (block_below HKB.out hb) 2, free_of_block (block_below HKB.out hb) 2, cell_of_block (block_below HKZ.out hb) 0, cell_of_block (block_below HKZ.out hb) 1, cell_of_block (block_below HKZ.out hb) 2, free_of_block (block_below HKZ.out hb) 0, free_of_block (block_below HKZ.out hb) 1, free_of_block (block_below HKZ.out hb) 2⟩)
              go_wp2_with (at_builtin; refine append_rows wt.heap.size rfl (.tmp 112) (.tmp 116) 25 97 _ 3 24 rfl Tryz.underlying25 infoSession rfl (by decide) (.slice A10 (k + 1) c10) (k + 1) (ssCells (b.sess.take k ++ [⟨o.session, o.no, (cutD (rs.map StR.d) o.id).2⟩])) rfl HO10.out _ (b.sess.length - (k)) _ (ssCells (b.sess.drop (k))) rfl (HLR.out _) HRB.out (ssCells_one _) (by simp only [maxLen]; omega) (by omega) hs10 ?_; intro A11 c11 w11 hc11 ho11 hg11 hat11; have hb11 : Below wt.heap.size wt w11 := HB10.out.grown hg11 hs10 (fun j hj => (own_base HO10.out j hj).1); obtain ⟨p0, p1, p2, p3, p4, p5, p6, p7, p8, p9⟩ := HKP.out w11 hb11; have HB11 := Lib.hid hb11; have HO11 := Lib.hid ho11; clear hb11 ho11 hg11 hat11; generalize (if c2 = k then A2 else Option.map (fun x => x.add ((k) * 3)) A2) = Asl)
              have hkz : ∀ v, (w11.setCell ⟨w.heap.size, 2, none⟩ v).heap[w.heap.size + 1 + 1]? = some (.cells #[.int .i64 0, .slice none 0 0, .slice none 0 0] 27 (0, 0)) := fun v => (Below.heap_setCell w11 ⟨w.heap.size, 2, none⟩ v _ (show w.heap.size + 1 + 1 ≠ w.heap.size by omega)).trans (block_below HKZ.out HB11.out)
              refine bodyPost_ret (results_cell_row rfl _ _ (w.heap.size + 1 + 1) _ _ _ _ rfl (block_setCell (block_setCell (block_setCell (hkz _) _ _) _ _) _ _) Tryz.underlying27 rfl ((info_size infoBase).trans (by simp))) rfl ?_
              have hlen : (b.sess.take k ++ (⟨o.session, o.no, (cutD (rs.map StR.d) o.id).2⟩ : SsV) :: b.sess.drop (k)).length = k + 1 + (b.sess.length - (k)) := by simp; omega
              have hrow : ssCells (b.sess.take k ++ [⟨o.session, o.no, (cutD (rs.map StR.d) o.id).2⟩]) ++ ssCells (b.sess.drop (k)) = ssCells (b.sess.take k ++ (⟨o.session, o.no, (cutD (rs.map StR.d) o.id).2⟩ : SsV) :: b.sess.drop (k)) := by unfold ssCells; rw [← List.flatMap_append]; simp
              have hs0 : w.heap.size ≤ w.heap.size + 1 + 1 := by omega
              have hbt : Below w.heap.size w w11 := HBT.out.trans (HB11.out.mono (by omega))
              rw [HST.out, HOP.out]
              have n1 : ∀ j, (G j ∨ w.heap.size + 1 + 1 + 1 ≤ j) → j ≠ w.heap.size := fun j h => by rcases h with h | h; (have := HGG.out j h; omega); omega
              have n2 : ∀ j, (G j ∨ w.heap.size + 1 + 1 + 1 ≤ j) → j ≠ w.heap.size + 1 + 1 := fun j h => by rcases h with h | h; (have := HGG.out j h; omega); omega
              have m1 : ∀ j, wt.heap.size ≤ j → j ≠ w.heap.size := fun j h => by omega
              have m2 : ∀ j, wt.heap.size ≤ j → j ≠ w.heap.size + 1 + 1 := fun j h => by omega
              refine ⟨rs', A1', c1', A11, c11, by rw [hlen]; rfl, ((((hbt.setCell (p := ⟨w.heap.size, 2, none⟩) (Nat.le_refl _) _).setCell (p := ⟨w.heap.size + 1 + 1, 0, none⟩) hs0 _).setCell (p := ⟨w.heap.size + 1 + 1, 1, none⟩) hs0 _).setCell (p := ⟨w.heap.size + 1 + 1, 2, none⟩) hs0 _), HMP.out, ?_, by rw [hlen]; exact hc11, ?_⟩
              · exact ((HWD.out.below HB11.out).frame (((((Agree.refl _ _).set n1 _ _).set n2 _ _).set n2 _ _).set n2 _ _)).mono (fun j h _ => h.imp id (fun h => by omega))
              · have h := (Rds.of_own HO11.out).frame (((((Agree.refl _ _).set m1 2 (.slice A11 (k + 1 + (b.sess.length - (k))) c11)).set m2 0 (.int .i64 ((n : Int) + 1))).set m2 1 (.slice A1' rs'.length c1')).set m2 2 (.slice A11 (k + 1 + (b.sess.length - (k))) c11))
                rw [hrow] at h
                exact h.mono (fun j hj _ => .inr (by have h' : wt.heap.size ≤ j := hj; omega))
          · have HST := Lib.hid (show stepV b o doc = ⟨(n : Int) + 1, b.docs, b.sess⟩ from by unfold stepV; rw [if_pos hi, HAPP.out])
            clear hi
            go_wp2
            refine bodyPost_ret (results_cell_row rfl _ _ (w.heap.size + 1 + 1) _ _ _ _ rfl (block_setCell (block_setCell (block_setCell HL2.out _ _) _ _) _ _) Tryz.underlying27 rfl ((info_size infoBase).trans (by simp))) rfl ?_
            have hs1 : w.heap.size ≤ w.heap.size + 1 + 1 := by omega
            have hbF : Below w.heap.size w (((w6.setCell ⟨w.heap.size + 1 + 1, 0, none⟩ (.int .i64 ((n : Int) + 1))).setCell ⟨w.heap.size + 1 + 1, 1, none⟩ (.slice A1 rs.length c1)).setCell ⟨w.heap.size + 1 + 1, 2, none⟩ (.slice A2 b.sess.length c2)) := ((HB6.out.setCell (p := ⟨w.heap.size + 1 + 1, 0, none⟩) hs1 _).setCell (p := ⟨w.heap.size + 1 + 1, 1, none⟩) hs1 _).setCell (p := ⟨w.heap.size + 1 + 1, 2, none⟩) hs1 _
            have hsb := HS.out.below hbF
            rw [HST.out]
            exact ⟨rs, A1, c1, A2, c2, rfl, hbF, { hsb with docs := hsb.docs.mono (fun _ h _ => .inl h), sess := hsb.sess.mono (fun _ h _ => .inl h) }⟩
      · obtain ⟨s, hs, hse⟩ := ss_here hh
        have hsi : b.sess[k]? = some s := by rw [HP.out]; exact hs
        have hkl : k < b.sess.length := (List.getElem?_eq_some_iff.1 hsi).1
        have HID := Lib.hid (idle_yes hs hse)
        have hrow := HS.out.sess.below HB5.out
        have HHH := Lib.hid hh
        have HSI := Lib.hid hsi
        clear hh hs hsi hse
        go_upto_region 6 with fail
        go_cut [68] (fun v wx => v = .bool (idle b.sess o) ∧ Below w5.heap.size w5 wx)
        case first =>
          have z2 := cell_of_block HJ0.out 2
          have z4 := cell_of_block HJ1.out 4
          simp at z2 z4
          obtain ⟨bk, of, hA2, _, _⟩ := hrow.open (by intro e; have := (ss_get HSI.out).1; rw [e] at this; cases this)
          subst hA2
          have y1 := hrow.at _ _ (ss_get HSI.out).2
          have hbb : (k : Int) < (b.sess.length : Int) := by omega
          rw [← Nat.add_assoc] at y1
          clear hrow
          by_cases hle : o.no ≤ s.no
          · have dle : decide (o.no ≤ s.no) = true := by simpa using hle
            have HIE := Lib.hid (show idle b.sess o = true from HID.out.trans dle)
            clear hle HID
            go_quiet (fail)
            go_wp2
            go_meet
            exact ⟨by rw [HIE.out], below_dn _ _⟩
          · have dle : decide (o.no ≤ s.no) = false := by simpa using hle
            have HIE := Lib.hid (show idle b.sess o = false from HID.out.trans dle)
            clear hle HID
            go_quiet (fail)
            go_wp2
            go_meet
            exact ⟨by rw [HIE.out], below_dn _ _⟩
        case rest =>
          obtain ⟨rfl, hbc⟩ := hcut
          obtain ⟨w6, hw6⟩ : ∃ w6, w6 = wc := ⟨_, rfl⟩
          subst hw6
          have HL0 := Lib.hid (block_below HJ0.out hbc)
          have HL1 := Lib.hid (block_below HJ1.out hbc)
          have HL2 := Lib.hid (block_below HJ2.out hbc)
          have HB6 := Lib.hid (below_then HB5.out HB5.out.size hbc)
          have hs6 := hbc.size
          clear hrow
          clear hbc HJ0 HJ1 HJ2 HB5
          obtain ⟨x0, x1, x2⟩ := cells3 HL0.out
          obtain ⟨r0, r1, r2⟩ := cells3 HL2.out
          have f0 := free_of_block HL2.out 0
          have f1 := free_of_block HL2.out 1
          have f2 := free_of_block HL2.out 2
          cases hi : idle b.sess o
          · have HST := Lib.hid (show stepV b o doc = ⟨(n : Int) + 1, (opD b.docs o doc).1, b.sess.take k ++ ⟨o.session, o.no, (opD b.docs o doc).2⟩ :: b.sess.drop (k + 1)⟩ from by unfold stepV; rw [if_neg (by rw [hi]; decide), HAPP.out, sessD, if_pos HHH.out, ← HP.out, set_mid' hkl])
            clear hi x0 x1 x2 r0 r1 r2 f0 f1 f2
            have HDC := Lib.hid (HS.out.docs.below HB6.out)
            have HD6 := Lib.hid (HDR.out.below HB6.out)
            have hsz6 : w.heap.size + 1 + 1 < w6.heap.size := lt_of_block HL2.out
            by_cases hk1 : o.kind = 1
            · have dk : (o.kind == 1) = true := by simp [hk1]
              have HOP := Lib.hid (show opD b.docs o doc = putD (rs.map StR.d) ⟨o.id, doc⟩ from by unfold opD; rw [if_pos hk1, HS.out.map])
              have HPU := Lib.hid (sPut_any rs (by have := HF.out.dl; rw [← HS.out.map, List.length_map] at this; exact this) (by rw [HS.out.map]; exact HF.out.dr) ⟨o.id, doc⟩ hdl _ A1 c1 OA oc w6 HDC.out HD6.out)
              have z1 := cell_of_block HL0.out 1
              have f1 := free_of_block HL0.out 1
              have y0 := cell_of_block HL1.out 0
              have y1 := cell_of_block HL1.out 1
              have y2 := cell_of_block HL1.out 2
              simp at z1 y0 y1 y2
              clear hk1 HDC HD6
              go_wp2_with fail
              refine HPU.out.mono ?_
              rintro e w7 ⟨rs', A1', c1', hmap7, rfl, hb7, hs7⟩
              have k0 := block_below HL0.out hb7
              have k1 := block_below HL1.out hb7
              have k2 := block_below HL2.out hb7
              have z1 := cell_of_block k0 1
              have g1 := free_of_block k0 1
              simp at z1
              have hB7 := below_then HB6.out HB6.out.size hb7
              have HWT := Lib.hid (fun (v : Value) => show (w7.setCell ⟨w.heap.size, 1, none⟩ v).heap[w.heap.size + 1]? = some (.cells #[.int .i64 o.kind, .int .i64 o.id, .slice OA doc.length oc, .int .i64 o.session, .int .i64 o.no] 57 (0, 0)) ∧ (w7.setCell ⟨w.heap.size, 1, none⟩ v).heap[w.heap.size + 1 + 1]? = some (.cells #[.int .i64 0, .slice none 0 0, .slice none 0 0] 27 (0, 0)) ∧ Below w.heap.size w (w7.setCell ⟨w.heap.size, 1, none⟩ v) from
                ⟨(Below.heap_setCell w7 ⟨w.heap.size, 1, none⟩ v _ (show w.heap.size + 1 ≠ w.heap.size by omega)).trans k1, (Below.heap_setCell w7 ⟨w.heap.size, 1, none⟩ v _ (show w.heap.size + 1 + 1 ≠ w.heap.size by omega)).trans k2, hB7.setCell (p := ⟨w.heap.size, 1, none⟩) (Nat.le_refl _) v⟩)
              have HWB := Lib.hid (fun (v : Value) => show (w7.setCell ⟨w.heap.size, 1, none⟩ v).heap[w.heap.size]? = some (.cells #[.int .i64 ((n : Int) + 1), v, .slice A2 b.sess.length c2] 27 (0, 0)) from block_setCell k0 1 v)
              have HWD := Lib.hid (show SAt (fun j => G j ∨ w.heap.size + 1 + 1 + 1 ≤ j) (w7.setCell ⟨w.heap.size, 1, none⟩ (.slice A1' rs'.length c1')) A1' c1' rs' from
                (hs7.mono (fun j hj _ => by rcases hj with hj | hj <;> first | exact .inl hj | exact .inr (by omega) : ∀ j, (G j ∨ w6.heap.size ≤ j) → j < w7.heap.size → (G j ∨ w.heap.size + 1 + 1 + 1 ≤ j))).frame (Agree.of_setCell _ _ _ (fun j hj e => by have e' : j = w.heap.size := e; rcases hj with hj | hj; (have := HGG.out j hj; omega); omega)))
              have HMP := Lib.hid hmap7
              have hsz7 : w6.heap.size ≤ w7.heap.size := hb7.size
              have HLR := Lib.hid (show ∀ (m : Nat), (ssCells (b.sess.drop m)).length = (b.sess.length - m) * 3 from fun m => by unfold ssCells; rw [flat_len SsV.cells 3 (fun _ => rfl), List.length_drop])
              have HLF := Lib.hid (show (ssCells (b.sess.take k)).length = k * 3 from by unfold ssCells; rw [flat_len SsV.cells 3 (fun _ => rfl), List.length_take, Nat.min_eq_left hk])
              clear k0 k1 k2 hmap7 hb7 hs7 hB7 f1 y0 y1 y2 HL0 HL1 HL2 HB6 HPU
              go_upto_region 12 with fail
              generalize hwt : w7.setCell ⟨w.heap.size, 1, none⟩ (.slice A1' rs'.length c1') = wt at HWD ⊢
              have hkt := HWB.out (.slice A1' rs'.length c1')
              have hkk := HWT.out (.slice A1' rs'.length c1')
              rw [hwt] at hkt hkk
              have HKB := Lib.hid hkt
              have HKO := Lib.hid hkk.1
              have HKZ := Lib.hid hkk.2.1
              have HBT := Lib.hid hkk.2.2
              have HSE := Lib.hid (HS.out.sess.below hkk.2.2)
              have hszt : w.heap.size + 1 + 1 < wt.heap.size := lt_of_block hkk.2.1
              clear hkt hkk hwt HWB HWT z1 g1
              obtain ⟨z0, z1, z2⟩ := cells3 HKB.out
              have hkc : k ≤ c2 := by omega
              go_upto_region 14 with (at_builtin; refine append_rows wt.heap.size rfl (.tmp 94) (.tmp 98) 25 97 _ 3 24 rfl Tryz.underlying25 infoSession rfl (by decide) (.slice none 0 0) 0 [] rfl (World.ownsRow_nil _ _ _ _) A2 k c2 (ssCells (b.sess.take k)) rfl HLF.out (by unfold ssCells; rw [← flat_take SsV.cells 3 (fun _ => rfl) b.sess k hk]; exact rds_take HSE.out _) (ssCells_one _) (by simp only [maxLen]; omega) (by omega) (Nat.le_refl _) ?_; intro A8 c8 w8 hc8 ho8 hg8 hat8)
              have HB8 := Lib.hid (show Below wt.heap.size wt w8 from (Below.refl _ _).grown hg8 (Nat.le_refl _) (fun k hk => by cases hk))
              have HO8 := Lib.hid (show w8.ownsRow wt.heap.size 97 3 (.slice A8 k c8) k (ssCells (b.sess.take k)) from by rw [Nat.zero_add, List.nil_append] at ho8; exact ho8)
              have hs8 := HB8.out.size
              rw [Nat.zero_add] at hc8
              clear ho8 hg8 hat8 z0 z1 z2
              have q3 := cell_of_block (block_below HKO.out HB8.out) 3
              have q4 := cell_of_block (block_below HKO.out HB8.out) 4
              simp at q3 q4
              have HV9 := Lib.hid (heap_alloc_new w8 (.cells #[.int .i64 o.session, .int .i64 o.no, .bool (putD (rs.map StR.d) ⟨o.id, doc⟩).2] 97 (0, 0)))
              have HB9 := Lib.hid (show Below wt.heap.size wt (w8.alloc (.cells #[.int .i64 o.session, .int .i64 o.no, .bool (putD (rs.map StR.d) ⟨o.id, doc⟩).2] 97 (0, 0))) from HB8.out.alloc hs8 _)
              go_upto_region 15 with (at_builtin; refine append_rows wt.heap.size rfl (.tmp 100) (.tmp 107) 25 97 _ 3 24 rfl Tryz.underlying25 infoSession rfl (by decide) (.slice A8 k c8) k (ssCells (b.sess.take k)) rfl (HO8.out.alloc _) (some ⟨w8.heap.size, 0, none⟩) 1 1 [.int .i64 o.session, .int .i64 o.no, .bool (putD (rs.map StR.d) ⟨o.id, doc⟩).2] rfl rfl (rds_blk HV9.out) (by intro v hv; simp at hv; rcases hv with rfl | rfl | rfl <;> rfl) (by simp only [maxLen]; omega) (by omega) (by simp; omega) ?_; intro A10 c10 w10 hc10 ho10 hg10 hat10)
              have HB10 := Lib.hid (show Below wt.heap.size wt w10 from HB9.out.grown hg10 HB9.out.size (fun j hj => (own_base HO8.out j hj).1))
              have HO10 := Lib.hid (show w10.ownsRow wt.heap.size 97 3 (.slice A10 (k + 1) c10) (k + 1) (ssCells (b.sess.take k ++ [⟨o.session, o.no, (putD (rs.map StR.d) ⟨o.id, doc⟩).2⟩])) from by
                have e : ssCells (b.sess.take k ++ [⟨o.session, o.no, (putD (rs.map StR.d) ⟨o.id, doc⟩).2⟩]) = ssCells (b.sess.take k) ++ [.int .i64 o.session, .int .i64 o.no, .bool (putD (rs.map StR.d) ⟨o.id, doc⟩).2] := by unfold ssCells; rw [List.flatMap_append]; rfl
                rw [e]; exact ho10)
              have hs10 := HB10.out.size
              clear ho10 hg10 hat10 q3 q4
              obtain ⟨z0, z1, z2⟩ := cells3 (block_below HKB.out HB10.out)
              have hw1k : IntKind.i64.wrap ((k : Int) + 1) = (k : Int) + 1 := by rw [IntKind.wrap_i64]; omega
              have hin1 : ((k + 1 : Nat) : Int) ≤ (b.sess.length : Int) := by omega
              have hin1' : ((k : Int) + 1 : Int) ≤ (b.sess.length : Int) := by omega
              have hin2 : (0 : Int) ≤ (k : Int) + 1 := by omega
              have htn : ((k : Int) + 1).toNat = k + 1 := by omega
              have HRB := Lib.hid (show Rds G w10 (if c2 = k + 1 then A2 else A2.map (fun x => x.add ((k + 1) * 3))) (ssCells (b.sess.drop (k + 1))) from by
                have e := flat_drop SsV.cells 3 (fun _ => rfl) b.sess (k + 1) (by omega)
                unfold ssCells
                rw [← e]
                have h := rds_drop (HSE.out.below HB10.out) ((k + 1) * 3) (c2 * 3) ((k + 1) * 3) (fun e => List.drop_eq_nil_of_le (by unfold ssCells; rw [flat_len SsV.cells 3 (fun _ => rfl)]; omega))
                by_cases hc : c2 = k + 1
                · rw [if_pos hc]; rw [if_pos (by omega)] at h; exact h
                · rw [if_neg hc]; rw [if_neg (by omega)] at h; exact h)
              have HKP := Lib.hid (fun (W : World) (hb : Below wt.heap.size wt W) => show W.cell? ⟨w.heap.size, 0, none⟩ = some (.int .i64 ((n : Int) + 1)) ∧ W.cell? ⟨w.heap.size, 1, none⟩ = some (.slice A1' rs'.length c1') ∧ W.cell? ⟨w.heap.size, 2, none⟩ = some (.slice A2 b.sess.length c2) ∧ W.frozen? ⟨w.heap.size, 2, none⟩ = false ∧ W.cell? ⟨w.heap.size + 1 + 1, 0, none⟩ = some (.int .i64 0) ∧ W.cell? ⟨w.heap.size + 1 + 1, 1, none⟩ = some (.slice none 0 0) ∧ W.cell? ⟨w.heap.size + 1 + 1, 2, none⟩ = some (.slice none 0 0) ∧ W.frozen? ⟨w.heap.size + 1 + 1, 0, none⟩ = false ∧ W.frozen? ⟨w.heap.size + 1 + 1, 1, none⟩ = false ∧ W.frozen? ⟨w.heap.size + 1 + 1, 2, none⟩ = false from
                ⟨cell_of_block (block_below HKB.out hb) 0, cell_of_block (block_below HKB.out hb) 1, cell_of_block (block_below HKB.out hb) 2, free_of_block (block_below HKB.out hb) 2, cell_of_block (block_below HKZ.out hb) 0, cell_of_block (block_below HKZ.out hb) 1, cell_of_block (block_below HKZ.out hb) 2, free_of_block (block_below HKZ.out hb) 0, free_of_block (block_below HKZ.out hb) 1, free_of_block (block_below HKZ.out hb) 2⟩)
              go_wp2_with (at_builtin; refine append_rows wt.heap.size rfl (.tmp 112) (.tmp 116) 25 97 _ 3 24 rfl Tryz.underlying25 infoSession rfl (by decide) (.slice A10 (k + 1) c10) (k + 1) (ssCells (b.sess.take k ++ [⟨o.session, o.no, (putD (rs.map StR.d) ⟨o.id, doc⟩).2⟩])) rfl HO10.out _ (b.sess.length - (k + 1)) _ (ssCells (b.sess.drop (k + 1))) rfl (HLR.out _) HRB.out (ssCells_one _) (by simp only [maxLen]; omega) (by omega) hs10 ?_; intro A11 c11 w11 hc11 ho11 hg11 hat11; have hb11 : Below wt.heap.size wt w11 := HB10.out.grown hg11 hs10 (fun j hj => (own_base HO10.out j hj).1); obtain ⟨p0, p1, p2, p3, p4, p5, p6, p7, p8, p9⟩ := HKP.out w11 hb11; have HB11 := Lib.hid hb11; have HO11 := Lib.hid ho11; clear hb11 ho11 hg11 hat11; generalize (if c2 = k + 1 then A2 else Option.map (fun x => x.add ((k + 1) * 3)) A2) = Asl)
              have hkz : ∀ v, (w11.setCell ⟨w.heap.size, 2, none⟩ v).heap[w.heap.size + 1 + 1]? = some (.cells #[.int .i64 0, .slice none 0 0, .slice none 0 0] 27 (0, 0)) := fun v => (Below.heap_setCell w11 ⟨w.heap.size, 2, none⟩ v _ (show w.heap.size + 1 + 1 ≠ w.heap.size by omega)).trans (block_below HKZ.out HB11.out)
              refine bodyPost_ret (results_cell_row rfl _ _ (w.heap.size + 1 + 1) _ _ _ _ rfl (block_setCell (block_setCell (block_setCell (hkz _) _ _) _ _) _ _) Tryz.underlying27 rfl ((info_size infoBase).trans (by simp))) rfl ?_
              have hlen : (b.sess.take k ++ (⟨o.session, o.no, (putD (rs.map StR.d) ⟨o.id, doc⟩).2⟩ : SsV) :: b.sess.drop (k + 1)).length = k + 1 + (b.sess.length - (k + 1)) := by simp; omega
              have hrow : ssCells (b.sess.take k ++ [⟨o.session, o.no, (putD (rs.map StR.d) ⟨o.id, doc⟩).2⟩]) ++ ssCells (b.sess.drop (k + 1)) = ssCells (b.sess.take k ++ (⟨o.session, o.no, (putD (rs.map StR.d) ⟨o.id, doc⟩).2⟩ : SsV) :: b.sess.drop (k + 1)) := by unfold ssCells; rw [← List.flatMap_append]; simp
              have hs0 : w.heap.size ≤ w.heap.size + 1 + 1 := by omega
              have hbt : Below w.heap.size w w11 := HBT.out.trans (HB11.out.mono (by omega))
              rw [HST.out, HOP.out]
              have n1 : ∀ j, (G j ∨ w.heap.size + 1 + 1 + 1 ≤ j) → j ≠ w.heap.size := fun j h => by rcases h with h | h; (have := HGG.out j h; omega); omega
              have n2 : ∀ j, (G j ∨ w.heap.size + 1 + 1 + 1 ≤ j) → j ≠ w.heap.size + 1 + 1 := fun j h => by rcases h with h | h; (have := HGG.out j h; omega); omega
              have m1 : ∀ j, wt.heap.size ≤ j → j ≠ w.heap.size := fun j h => by omega
              have m2 : ∀ j, wt.heap.size ≤ j → j ≠ w.heap.size + 1 + 1 := fun j h => by omega
              refine ⟨rs', A1', c1', A11, c11, by rw [hlen]; rfl, ((((hbt.setCell (p := ⟨w.heap.size, 2, none⟩) (Nat.le_refl _) _).setCell (p := ⟨w.heap.size + 1 + 1, 0, none⟩) hs0 _).setCell (p := ⟨w.heap.size + 1 + 1, 1, none⟩) hs0 _).setCell (p := ⟨w.heap.size + 1 + 1, 2, none⟩) hs0 _), HMP.out, ?_, by rw [hlen]; exact hc11, ?_⟩
              · exact ((HWD.out.below HB11.out).frame (((((Agree.refl _ _).set n1 _ _).set n2 _ _).set n2 _ _).set n2 _ _)).mono (fun j h _ => h.imp id (fun h => by omega))
              · have h := (Rds.of_own HO11.out).frame (((((Agree.refl _ _).set m1 2 (.slice A11 (k + 1 + (b.sess.length - (k + 1))) c11)).set m2 0 (.int .i64 ((n : Int) + 1))).set m2 1 (.slice A1' rs'.length c1')).set m2 2 (.slice A11 (k + 1 + (b.sess.length - (k + 1))) c11))
                rw [hrow] at h
                exact h.mono (fun j hj _ => .inr (by have h' : wt.heap.size ≤ j := hj; omega))
            · have dk : (o.kind == 1) = false := by simp [hk1]
              have HOP := Lib.hid (show opD b.docs o doc = cutD (rs.map StR.d) o.id from by unfold opD; rw [if_neg hk1, HS.out.map])
              have HPU := Lib.hid (sCut_any rs (by have := HF.out.dl; rw [← HS.out.map, List.length_map] at this; omega) (by rw [HS.out.map]; exact HF.out.dr) o.id _ A1 c1 w6 HDC.out)
              have z1 := cell_of_block HL0.out 1
              have f1 := free_of_block HL0.out 1
              have y0 := cell_of_block HL1.out 0
              have y1 := cell_of_block HL1.out 1
              have y2 := cell_of_block HL1.out 2
              simp at z1 y0 y1 y2
              clear hk1 HDC HD6
              go_wp2_with fail
              refine HPU.out.mono ?_
              rintro e w7 ⟨rs', A1', c1', hmap7, rfl, hb7, hs7⟩
              have k0 := block_below HL0.out hb7
              have k1 := block_below HL1.out hb7
              have k2 := block_below HL2.out hb7
              have z1 := cell_of_block k0 1
              have g1 := free_of_block k0 1
              simp at z1
              have hB7 := below_then HB6.out HB6.out.size hb7
              have HWT := Lib.hid (fun (v : Value) => show (w7.setCell ⟨w.heap.size, 1, none⟩ v).heap[w.heap.size + 1]? = some (.cells #[.int .i64 o.kind, .int .i64 o.id, .slice OA doc.length oc, .int .i64 o.session, .int .i64 o.no] 57 (0, 0)) ∧ (w7.setCell ⟨w.heap.size, 1, none⟩ v).heap[w.heap.size + 1 + 1]? = some (.cells #[.int .i64 0, .slice none 0 0, .slice none 0 0] 27 (0, 0)) ∧ Below w.heap.size w (w7.setCell ⟨w.heap.size, 1, none⟩ v) from
                ⟨(Below.heap_setCell w7 ⟨w.heap.size, 1, none⟩ v _ (show w.heap.size + 1 ≠ w.heap.size by omega)).trans k1, (Below.heap_setCell w7 ⟨w.heap.size, 1, none⟩ v _ (show w.heap.size + 1 + 1 ≠ w.heap.size by omega)).trans k2, hB7.setCell (p := ⟨w.heap.size, 1, none⟩) (Nat.le_refl _) v⟩)
              have HWB := Lib.hid (fun (v : Value) => show (w7.setCell ⟨w.heap.size, 1, none⟩ v).heap[w.heap.size]? = some (.cells #[.int .i64 ((n : Int) + 1), v, .slice A2 b.sess.length c2] 27 (0, 0)) from block_setCell k0 1 v)
              have HWD := Lib.hid (show SAt (fun j => G j ∨ w.heap.size + 1 + 1 + 1 ≤ j) (w7.setCell ⟨w.heap.size, 1, none⟩ (.slice A1' rs'.length c1')) A1' c1' rs' from
                (hs7.mono (fun j hj _ => by rcases hj with hj | hj <;> first | exact .inl hj | exact .inr (by omega) : ∀ j, (G j ∨ w6.heap.size ≤ j) → j < w7.heap.size → (G j ∨ w.heap.size + 1 + 1 + 1 ≤ j))).frame (Agree.of_setCell _ _ _ (fun j hj e => by have e' : j = w.heap.size := e; rcases hj with hj | hj; (have := HGG.out j hj; omega); omega)))
              have HMP := Lib.hid hmap7
              have hsz7 : w6.heap.size ≤ w7.heap.size := hb7.size
              have HLR := Lib.hid (show ∀ (m : Nat), (ssCells (b.sess.drop m)).length = (b.sess.length - m) * 3 from fun m => by unfold ssCells; rw [flat_len SsV.cells 3 (fun _ => rfl), List.length_drop])
              have HLF := Lib.hid (show (ssCells (b.sess.take k)).length = k * 3 from by unfold ssCells; rw [flat_len SsV.cells 3 (fun _ => rfl), List.length_take, Nat.min_eq_left hk])
              clear k0 k1 k2 hmap7 hb7 hs7 hB7 f1 y0 y1 y2 HL0 HL1 HL2 HB6 HPU
              go_upto_region 12 with fail
              generalize hwt : w7.setCell ⟨w.heap.size, 1, none⟩ (.slice A1' rs'.length c1') = wt at HWD ⊢
              have hkt := HWB.out (.slice A1' rs'.length c1')
              have hkk := HWT.out (.slice A1' rs'.length c1')
              rw [hwt] at hkt hkk
              have HKB := Lib.hid hkt
              have HKO := Lib.hid hkk.1
              have HKZ := Lib.hid hkk.2.1
              have HBT := Lib.hid hkk.2.2
              have HSE := Lib.hid (HS.out.sess.below hkk.2.2)
              have hszt : w.heap.size + 1 + 1 < wt.heap.size := lt_of_block hkk.2.1
              clear hkt hkk hwt HWB HWT z1 g1
              obtain ⟨z0, z1, z2⟩ := cells3 HKB.out
              have hkc : k ≤ c2 := by omega
              go_upto_region 14 with (at_builtin; refine append_rows wt.heap.size rfl (.tmp 94) (.tmp 98) 25 97 _ 3 24 rfl Tryz.underlying25 infoSession rfl (by decide) (.slice none 0 0) 0 [] rfl (World.ownsRow_nil _ _ _ _) A2 k c2 (ssCells (b.sess.take k)) rfl HLF.out (by unfold ssCells; rw [← flat_take SsV.cells 3 (fun _ => rfl) b.sess k hk]; exact rds_take HSE.out _) (ssCells_one _) (by simp only [maxLen]; omega) (by omega) (Nat.le_refl _) ?_; intro A8 c8 w8 hc8 ho8 hg8 hat8)
              have HB8 := Lib.hid (show Below wt.heap.size wt w8 from (Below.refl _ _).grown hg8 (Nat.le_refl _) (fun k hk => by cases hk))
              have HO8 := Lib.hid (show w8.ownsRow wt.heap.size 97 3 (.slice A8 k c8) k (ssCells (b.sess.take k)) from by rw [Nat.zero_add, List.nil_append] at ho8; exact ho8)
              have hs8 := HB8.out.size
              rw [Nat.zero_add] at hc8
              clear ho8 hg8 hat8 z0 z1 z2
              have q3 := cell_of_block (block_below HKO.out HB8.out) 3
              have q4 := cell_of_block (block_below HKO.out HB8.out) 4
              simp at q3 q4
              have HV9 := Lib.hid (heap_alloc_new w8 (.cells #[.int .i64 o.session, .int .i64 o.no, .bool (cutD (rs.map StR.d) o.id).2] 97 (0, 0)))
              have HB9 := Lib.hid (show Below wt.heap.size wt (w8.alloc (.cells #[.int .i64 o.session, .int .i64 o.no, .bool (cutD (rs.map StR.d) o.id).2] 97 (0, 0))) from HB8.out.alloc hs8 _)
              go_upto_region 15 with (at_builtin; refine append_rows wt.heap.size rfl (.tmp 100) (.tmp 107) 25 97 _ 3 24 rfl Tryz.underlying25 infoSession rfl (by decide) (.slice A8 k c8) k (ssCells (b.sess.take k)) rfl (HO8.out.alloc _) (some ⟨w8.heap.size, 0, none⟩) 1 1 [.int .i64 o.session, .int .i64 o.no, .bool (cutD (rs.map StR.d) o.id).2] rfl rfl (rds_blk HV9.out) (by intro v hv; simp at hv; rcases hv with rfl | rfl | rfl <;> rfl) (by simp only [maxLen]; omega) (by omega) (by simp; omega) ?_; intro A10 c10 w10 hc10 ho10 hg10 hat10)
              have HB10 := Lib.hid (show Below wt.heap.size wt w10 from HB9.out.grown hg10 HB9.out.size (fun j hj => (own_base HO8.out j hj).1))
              have HO10 := Lib.hid (show w10.ownsRow wt.heap.size 97 3 (.slice A10 (k + 1) c10) (k + 1) (ssCells (b.sess.take k ++ [⟨o.session, o.no, (cutD (rs.map StR.d) o.id).2⟩])) from by
                have e : ssCells (b.sess.take k ++ [⟨o.session, o.no, (cutD (rs.map StR.d) o.id).2⟩]) = ssCells (b.sess.take k) ++ [.int .i64 o.session, .int .i64 o.no, .bool (cutD (rs.map StR.d) o.id).2] := by unfold ssCells; rw [List.flatMap_append]; rfl
                rw [e]; exact ho10)
              have hs10 := HB10.out.size
              clear ho10 hg10 hat10 q3 q4
              obtain ⟨z0, z1, z2⟩ := cells3 (block_below HKB.out HB10.out)
              have hw1k : IntKind.i64.wrap ((k : Int) + 1) = (k : Int) + 1 := by rw [IntKind.wrap_i64]; omega
              have hin1 : ((k + 1 : Nat) : Int) ≤ (b.sess.length : Int) := by omega
              have hin1' : ((k : Int) + 1 : Int) ≤ (b.sess.length : Int) := by omega
              have hin2 : (0 : Int) ≤ (k : Int) + 1 := by omega
              have htn : ((k : Int) + 1).toNat = k + 1 := by omega
              have HRB := Lib.hid (show Rds G w10 (if c2 = k + 1 then A2 else A2.map (fun x => x.add ((k + 1) * 3))) (ssCells (b.sess.drop (k + 1))) from by
                have e := flat_drop SsV.cells 3 (fun _ => rfl) b.sess (k + 1) (by omega)
                unfold ssCells
                rw [← e]
                have h := rds_drop (HSE.out.below HB10.out) ((k + 1) * 3) (c2 * 3) ((k + 1) * 3) (fun e => List.drop_eq_nil_of_le (by unfold ssCells; rw [flat_len SsV.cells 3 (fun _ => rfl)]; omega))
                by_cases hc : c2 = k + 1
                · rw [if_pos hc]; rw [if_pos (by omega)] at h; exact h
                · rw [if_neg hc]; rw [if_neg (by omega)] at h; exact h)
              have HKP := Lib.hid (fun (W : World) (hb : Below wt.heap.size wt W) => show W.cell? ⟨w.heap.size, 0, none⟩ = some (.int .i64 ((n : Int) + 1)) ∧ W.cell? ⟨w.heap.size, 1, none⟩ = some (.slice A1' rs'.length c1') ∧ W.cell? ⟨w.heap.size, 2, none⟩ = some (.slice A2 b.sess.length c2) ∧ W.frozen? ⟨w.heap.size, 2, none⟩ = false ∧ W.cell? ⟨w.heap.size + 1 + 1, 0, none⟩ = some (.int .i64 0) ∧ W.cell? ⟨w.heap.size + 1 + 1, 1, none⟩ = some (.slice none 0 0) ∧ W.cell? ⟨w.heap.size + 1 + 1, 2, none⟩ = some (.slice none 0 0) ∧ W.frozen? ⟨w.heap.size + 1 + 1, 0, none⟩ = false ∧ W.frozen? ⟨w.heap.size + 1 + 1, 1, none⟩ = false ∧ W.frozen? ⟨w.heap.size + 1 + 1, 2, none⟩ = false from
                ⟨cell_of_block (block_below HKB.out hb) 0, cell_of_block (block_below HKB.out hb) 1, cell_of_block (block_below HKB.out hb) 2, free_of_block (block_below HKB.out hb) 2, cell_of_block (block_below HKZ.out hb) 0, cell_of_block (block_below HKZ.out hb) 1, cell_of_block (block_below HKZ.out hb) 2, free_of_block (block_below HKZ.out hb) 0, free_of_block (block_below HKZ.out hb) 1, free_of_block (block_below HKZ.out hb) 2⟩)
              go_wp2_with (at_builtin; refine append_rows wt.heap.size rfl (.tmp 112) (.tmp 116) 25 97 _ 3 24 rfl Tryz.underlying25 infoSession rfl (by decide) (.slice A10 (k + 1) c10) (k + 1) (ssCells (b.sess.take k ++ [⟨o.session, o.no, (cutD (rs.map StR.d) o.id).2⟩])) rfl HO10.out _ (b.sess.length - (k + 1)) _ (ssCells (b.sess.drop (k + 1))) rfl (HLR.out _) HRB.out (ssCells_one _) (by simp only [maxLen]; omega) (by omega) hs10 ?_; intro A11 c11 w11 hc11 ho11 hg11 hat11; have hb11 : Below wt.heap.size wt w11 := HB10.out.grown hg11 hs10 (fun j hj => (own_base HO10.out j hj).1); obtain ⟨p0, p1, p2, p3, p4, p5, p6, p7, p8, p9⟩ := HKP.out w11 hb11; have HB11 := Lib.hid hb11; have HO11 := Lib.hid ho11; clear hb11 ho11 hg11 hat11; generalize (if c2 = k + 1 then A2 else Option.map (fun x => x.add ((k + 1) * 3)) A2) = Asl)
              have hkz : ∀ v, (w11.setCell ⟨w.heap.size, 2, none⟩ v).heap[w.heap.size + 1 + 1]? = some (.cells #[.int .i64 0, .slice none 0 0, .slice none 0 0] 27 (0, 0)) := fun v => (Below.heap_setCell w11 ⟨w.heap.size, 2, none⟩ v _ (show w.heap.size + 1 + 1 ≠ w.heap.size by omega)).trans (block_below HKZ.out HB11.out)
              refine bodyPost_ret (results_cell_row rfl _ _ (w.heap.size + 1 + 1) _ _ _ _ rfl (block_setCell (block_setCell (block_setCell (hkz _) _ _) _ _) _ _) Tryz.underlying27 rfl ((info_size infoBase).trans (by simp))) rfl ?_
              have hlen : (b.sess.take k ++ (⟨o.session, o.no, (cutD (rs.map StR.d) o.id).2⟩ : SsV) :: b.sess.drop (k + 1)).length = k + 1 + (b.sess.length - (k + 1)) := by simp; omega
              have hrow : ssCells (b.sess.take k ++ [⟨o.session, o.no, (cutD (rs.map StR.d) o.id).2⟩]) ++ ssCells (b.sess.drop (k + 1)) = ssCells (b.sess.take k ++ (⟨o.session, o.no, (cutD (rs.map StR.d) o.id).2⟩ : SsV) :: b.sess.drop (k + 1)) := by unfold ssCells; rw [← List.flatMap_append]; simp
              have hs0 : w.heap.size ≤ w.heap.size + 1 + 1 := by omega
              have hbt : Below w.heap.size w w11 := HBT.out.trans (HB11.out.mono (by omega))
              rw [HST.out, HOP.out]
              have n1 : ∀ j, (G j ∨ w.heap.size + 1 + 1 + 1 ≤ j) → j ≠ w.heap.size := fun j h => by rcases h with h | h; (have := HGG.out j h; omega); omega
              have n2 : ∀ j, (G j ∨ w.heap.size + 1 + 1 + 1 ≤ j) → j ≠ w.heap.size + 1 + 1 := fun j h => by rcases h with h | h; (have := HGG.out j h; omega); omega
              have m1 : ∀ j, wt.heap.size ≤ j → j ≠ w.heap.size := fun j h => by omega
              have m2 : ∀ j, wt.heap.size ≤ j → j ≠ w.heap.size + 1 + 1 := fun j h => by omega
              refine ⟨rs', A1', c1', A11, c11, by rw [hlen]; rfl, ((((hbt.setCell (p := ⟨w.heap.size, 2, none⟩) (Nat.le_refl _) _).setCell (p := ⟨w.heap.size + 1 + 1, 0, none⟩) hs0 _).setCell (p := ⟨w.heap.size + 1 + 1, 1, none⟩) hs0 _).setCell (p := ⟨w.heap.size + 1 + 1, 2, none⟩) hs0 _), HMP.out, ?_, by rw [hlen]; exact hc11, ?_⟩
              · exact ((HWD.out.below HB11.out).frame (((((Agree.refl _ _).set n1 _ _).set n2 _ _).set n2 _ _).set n2 _ _)).mono (fun j h _ => h.imp id (fun h => by omega))
              · have h := (Rds.of_own HO11.out).frame (((((Agree.refl _ _).set m1 2 (.slice A11 (k + 1 + (b.sess.length - (k + 1))) c11)).set m2 0 (.int .i64 ((n : Int) + 1))).set m2 1 (.slice A1' rs'.length c1')).set m2 2 (.slice A11 (k + 1 + (b.sess.length - (k + 1))) c11))
                rw [hrow] at h
                exact h.mono (fun j hj _ => .inr (by have h' : wt.heap.size ≤ j := hj; omega))
          · have HST := Lib.hid (show stepV b o doc = ⟨(n : Int) + 1, b.docs, b.sess⟩ from by unfold stepV; rw [if_pos hi, HAPP.out])
            clear hi
            go_wp2
            refine bodyPost_ret (results_cell_row rfl _ _ (w.heap.size + 1 + 1) _ _ _ _ rfl (block_setCell (block_setCell (block_setCell HL2.out _ _) _ _) _ _) Tryz.underlying27 rfl ((info_size infoBase).trans (by simp))) rfl ?_
            have hs1 : w.heap.size ≤ w.heap.size + 1 + 1 := by omega
            have hbF : Below w.heap.size w (((w6.setCell ⟨w.heap.size + 1 + 1, 0, none⟩ (.int .i64 ((n : Int) + 1))).setCell ⟨w.heap.size + 1 + 1, 1, none⟩ (.slice A1 rs.length c1)).setCell ⟨w.heap.size + 1 + 1, 2, none⟩ (.slice A2 b.sess.length c2)) := ((HB6.out.setCell (p := ⟨w.heap.size + 1 + 1, 0, none⟩) hs1 _).setCell (p := ⟨w.heap.size + 1 + 1, 1, none⟩) hs1 _).setCell (p := ⟨w.heap.size + 1 + 1, 2, none⟩) hs1 _
            have hsb := HS.out.below hbF
            rw [HST.out]
            exact ⟨rs, A1, c1, A2, c2, rfl, hbF, { hsb with docs := hsb.docs.mono (fun _ h _ => .inl h), sess := hsb.sess.mono (fun _ h _ => .inl h) }⟩
end Go.Proofs.YtemcijhpmpdebaaGreatDoor
