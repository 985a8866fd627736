/- The walk of l1Text: lists. The walk of l1Text: maps; l1Text whole. The walks: l1Text whole; impl.GoodValue. -/
import Derived.Test.YtemcijhpmpdebaaGreatDoorText1
import Derived.Test.YtemcijhpmpdebaaGreatDoorLaw4
namespace Go.Proofs.YtemcijhpmpdebaaGreatDoor
open Go.RowKit
theorem kidsPos_len (ks : List Tree) : ∀ p, (kidsPos p ks).length = ks.length := by
  induction ks with
  | nil => intro p; rfl
  | cons k ks ih => intro p; simp [kidsPos, ih]
/-- The kid at i: where it lies. -/
theorem SubL.at {l : List Nd} {s : Nat} {map : Bool} : ∀ (ks : List Tree) {p e : Nat} {ns : List ByteArray} (_ : SubL l s p e map ns ks) (i : Nat) (k : Tree), ks[i]? = some k →
    ∃ q x, (kidsPos p ks)[i]? = some q ∧ Sub l q k ∧ l[q]? = some x ∧ (map = true → ns.length = ks.length → ns[i]? = some x.name)
  | [], _, _, _, _, i, k, h => by simp at h
  | k0 :: ks, p, e, ns, h, 0, k, hk => by
    obtain ⟨h1, h2, x, hx, _, hn⟩ := h.head
    simp at hk
    subst hk
    refine ⟨p, x, rfl, h1, hx, fun hm hl => ?_⟩
    subst hm
    cases ns with
    | nil => simp at hl
    | cons y ns => simp at hn; simp [hn]
  | k0 :: ks, p, e, ns, h, i+1, k, hk => by
    obtain ⟨h1, h2, _⟩ := h.head
    obtain ⟨q, x, g1, g2, g3, g4⟩ := SubL.at ks h2 i k (by simpa using hk)
    refine ⟨q, x, by simpa [kidsPos] using g1, g2, g3, fun hm hl => ?_⟩
    cases ns with
    | nil => simp at hl
    | cons y ns => simpa using g4 hm (by simpa using hl)
theorem Tree.kid_count (ks : List Tree) : ∀ x ∈ ks, x.count ≤ Tree.countL ks := by
  induction ks with
  | nil => simp
  | cons k ks ih =>
    intro x hx
    rw [Tree.countL]
    rcases List.mem_cons.1 hx with rfl | hx
    · omega
    · have := ih x hx; omega
theorem intv_get (l : List Nat) (i q : Nat) (h : l[i]? = some q) : (intv l)[i]? = some (.int .i64 (q : Int)) := by simp [intv, h]
set_option maxRecDepth 100000 in
set_option maxHeartbeats 3000000 in
theorem text_list (t : Tree) (hk : t.kind = 6) (ih : ∀ x ∈ t.kids, TxSpec x) : TxSpec t := by
  intro hok hcn l hl a hsub F A c w hr
  obtain ⟨_, o3, o4, o5, o6, o7⟩ := t.ok_eq hok
  have hbd := t.ok_bounded hok
  rw [Tree.bounded_eq] at hbd
  simp only [Bool.and_eq_true] at hbd
  have HPL := Lib.hid (Tree.pieces_len t.kids hbd.2 false true t.names o6)
  have HSK := Lib.hid hsub.kids
  have HKT := Lib.hid hsub.kidsTo
  have hce := t.count_eq
  have hkl := Tree.kids_le_count t.kids
  obtain ⟨x, hx, e1, e2, e3⟩ := hsub.node
  have hal : a < l.length := (List.getElem?_eq_some_iff.1 hx).1
  obtain ⟨b, o, x', rfl, hF, hbl, hx', g0, g1, g2, g3, g4⟩ := nd_at hr a hal
  rw [hx] at hx'
  injection hx' with hx'
  subst hx'
  rw [e1, hk] at g0
  have hal' : (a : Int) < (l.length : Int) := by omega
  have HWR := Lib.hid t.wr_eq
  have hb0 : ∀ o1 o2, Below w.heap.size w ((w.alloc o1).alloc o2) := fun o1 o2 => ((Below.refl _ _).alloc (Nat.le_refl _) _).alloc (by simp) _
  have HB0 := Lib.hid hb0
  have HR := Lib.hid hr
  have K := Lib.hid hk
  have IH := Lib.hid ih
  have O7 := Lib.hid o7
  clear hx e1 e2 e3 hr hsub o3 o4 o5 o6 o7 hok hbd hb0 hk ih
  go_enter Tryz.func88, Tryz.ntmps88
  go_wp2_with fail
  obtain ⟨w1, hw⟩ : ∃ w1, w1 = (w.alloc (.cells #[.slice (some ⟨b, o, none⟩) l.length c] 55)).alloc (.cells #[.int .i64 6, .int .i64 x.num, .string x.text, .string x.name, .int .i64 x.up] 100) := ⟨_, rfl⟩
  have hb1 : Below w.heap.size w w1 := by rw [hw]; exact HB0.out _ _
  have k0 : w1.heap[w.heap.size]? = some (.cells #[.slice (some ⟨b, o, none⟩) l.length c] 55 (0, 0)) := by rw [hw]; (repeat (first | with_reducible assumption | (with_reducible refine blk_new _ ?_; (first | rfl | (simp; done) | (simp; omega))) | with_reducible apply block_setCell | (with_reducible refine blk_skip _ _ ?_ ?_; rotate_left; (first | (simp; done) | (simp; omega))) | with_reducible refine blk_old ?_))
  have k1 : w1.heap[w.heap.size + 1]? = some (.cells #[.int .i64 6, .int .i64 x.num, .string x.text, .string x.name, .int .i64 x.up] 100 (0, 0)) := by rw [hw]; (repeat (first | with_reducible assumption | (with_reducible refine blk_new _ ?_; (first | rfl | (simp; done) | (simp; omega))) | with_reducible apply block_setCell | (with_reducible refine blk_skip _ _ ?_ ?_; rotate_left; (first | (simp; done) | (simp; omega))) | with_reducible refine blk_old ?_))
  rw [← hw]
  clear hw HB0
  refine (sKids_any l (by omega) a hal F _ c _ (HR.out.frame (Agree.of_below hb1))).mono ?_
  rintro e w2 ⟨hb2, AK, cK, rfl, hown⟩
  have hrk := Rds.of_own hown
  rw [HKT.out] at hrk ⊢
  rw [kidsPos_len]
  have HRK := Lib.hid hrk
  have HK0 := Lib.hid (block_below k0 hb2)
  have HK1 := Lib.hid (block_below k1 hb2)
  have HB2 := Lib.hid (below_then hb1 hb1.size hb2)
  obtain ⟨n0, n1, n2, n3, n4⟩ := cells5 HK1.out
  have x0 := cell_of_block HK0.out 0
  simp at x0
  clear hown hrk k0 k1 hb1 hb2 n1 n2 n3 n4
  go_wp2
  go_loopw [6, 36] (fun v i wx => ∃ (j : Nat) (R : ByteArray), v = .string R ∧ i = .int .i64 (j : Int) ∧ j ≤ t.kids.length ∧ R.data.toList ++ Tree.pieces false (decide (j = 0)) (t.names.drop j) (t.kids.drop j) = Tree.pieces false true t.names t.kids ∧ Below w2.heap.size w2 wx) (fun _ i _ => t.kids.length - (intOf i).toNat)
  case atStart => exact ⟨0, ⟨#[]⟩, rfl, rfl, Nat.zero_le _, rfl, Below.refl _ _⟩
  case round =>
    obtain ⟨j, R, rfl, rfl, hj, hR, hbx⟩ := hrel
    have hRl : R.size + (Tree.pieces false (decide (j = 0)) (t.names.drop j) (t.kids.drop j)).length ≤ 110 * Tree.countL t.kids := by
      have h1 := HPL.out
      rw [← hR, List.length_append] at h1
      simpa using h1
    have HX := Lib.hid hbx
    have HRR := Lib.hid hR
    obtain ⟨n0, n1, n2, n3, n4⟩ := cells5 (block_below HK1.out hbx)
    have x0 := cell_of_block (block_below HK0.out hbx) 0
    simp at x0
    clear hbx hR n1 n2 n3 n4
    by_cases hlt : j < t.kids.length
    · have hkj : t.kids[j]? = some t.kids[j] := by simp [hlt]
      generalize t.kids[j] = kd at hkj
      have hmem : kd ∈ t.kids := List.mem_of_getElem? hkj
      have hps := Tree.pieces_step false (decide (j = 0)) t.names t.kids j kd hkj ⟨#[]⟩ (fun h => by cases h)
      rw [hps] at hRl
      simp only [List.length_append] at hRl
      have HRR' := Lib.hid HRR.out
      rw [hps] at HRR'
      have HCT := Lib.hid (Tree.kid_count t.kids kd hmem)
      obtain ⟨q, xq, p1, p2, p3, p4⟩ := SubL.at t.kids HSK.out j kd hkj
      obtain ⟨bk, ok, rfl, hFk, hlk⟩ := HRK.out.open (by intro h; have := intv_get _ _ _ p1; rw [h] at this; simp at this)
      have ck := (HRK.out.frame (Agree.of_below HX.out)).at j _ (intv_get _ _ _ p1)
      have hlt' : (j : Int) < (t.kids.length : Int) := by omega
      have HC := Lib.hid (fun w1 hb => IH.out kd hmem (O7.out kd hmem) (by have := HCT.out; omega) l hl q p2 F _ c w1 (HR.out.frame (Agree.of_below (below_then HB2.out HB2.out.size (below_then HX.out HX.out.size hb)))))
      clear p1 p2 p3 p4 hps hkj hmem
      by_cases h0 : j = 0
      · have d0 : decide (0 < j) = false := by simp; omega
        have hs1 : ¬ 9223372036854775807 < R.size + kd.wr.length := by omega
        have H0 := Lib.hid h0
        clear h0
        go_wp2_with fail
        refine (HC.out _ (Below.refl _ _)).mono ?_
        rintro e w3 ⟨rfl, hb3⟩
        have HB3 := Lib.hid (below_then HX.out HX.out.size hb3)
        clear hb3
        go_wp2
        go_roundw
        case rel =>
          refine ⟨j+1, _, rfl, by go_num, by omega, ?_, HB3.out⟩
          have := HRR'.out
          rw [H0.out] at this ⊢
          rw [app_list]
          simpa using this
        case measure => simp [intOf]; omega
      · have d0 : decide (0 < j) = true := by simp; omega
        simp only [h0, decide_false, Bool.false_eq_true, if_false, List.length_singleton] at hRl
        have hs0 : ¬ 9223372036854775807 < R.size + 1 := by omega
        have hs1 : ¬ 9223372036854775807 < R.size + 1 + kd.wr.length := by omega
        go_wp2_with fail
        refine (HC.out _ (Below.refl _ _)).mono ?_
        rintro e w3 ⟨rfl, hb3⟩
        have HB3 := Lib.hid (below_then HX.out HX.out.size hb3)
        clear hb3
        go_wp2
        go_roundw
        case rel =>
          refine ⟨j+1, _, rfl, by go_num, by omega, ?_, HB3.out⟩
          have := HRR'.out
          simp only [h0, decide_false, Bool.false_eq_true, if_false] at this
          rw [app_list, app_list]
          simpa using this
        case measure => simp [intOf]; omega
    · obtain rfl : j = t.kids.length := by omega
      have hRe := HRR.out
      rw [Tree.pieces_end _ _ _ _ _ (Nat.le_refl _), List.append_nil] at hRe
      have HRE := Lib.hid hRe
      have hs0 : ¬ 9223372036854775807 < 1 + R.size := by omega
      have hs1 : ¬ 9223372036854775807 < 1 + R.size + 1 := by omega
      clear hRe hRl
      go_wp2
      go_ret
      refine ⟨congrArg (fun x => Ending.returned (Value.string x)) (bytes_ext ?_), below_then HB2.out HB2.out.size HX.out⟩
      rw [HWR.out, if_neg (by rw [K.out]; decide), if_neg (by rw [K.out]; decide), if_neg (by rw [K.out]; decide), if_neg (by rw [K.out]; decide), if_neg (by rw [K.out]; decide), if_pos K.out, ← HRE.out]
      simp
end Go.Proofs.YtemcijhpmpdebaaGreatDoor
namespace Go.Proofs.YtemcijhpmpdebaaGreatDoor
open Go.RowKit
set_option maxRecDepth 100000 in
set_option maxHeartbeats 3000000 in
theorem text_map (t : Tree) (hk : t.kind = 7) (ih : ∀ x ∈ t.kids, TxSpec x) : TxSpec t := by
  intro hok hcn l hl a hsub F A c w hr
  obtain ⟨_, o3, o4, o5, o6, o7⟩ := t.ok_eq hok
  have hbd := t.ok_bounded hok
  rw [Tree.bounded_eq] at hbd
  simp only [Bool.and_eq_true] at hbd
  have HPL := Lib.hid (Tree.pieces_len t.kids hbd.2 true true t.names o6)
  have HSK := Lib.hid hsub.kids
  have HKT := Lib.hid hsub.kidsTo
  have hce := t.count_eq
  have hkl := Tree.kids_le_count t.kids
  obtain ⟨x, hx, e1, e2, e3⟩ := hsub.node
  have hal : a < l.length := (List.getElem?_eq_some_iff.1 hx).1
  obtain ⟨b, o, x', rfl, hF, hbl, hx', g0, g1, g2, g3, g4⟩ := nd_at hr a hal
  rw [hx] at hx'
  injection hx' with hx'
  subst hx'
  rw [e1, hk] at g0
  have hal' : (a : Int) < (l.length : Int) := by omega
  have HWR := Lib.hid t.wr_eq
  have hb0 : ∀ o1 o2, Below w.heap.size w ((w.alloc o1).alloc o2) := fun o1 o2 => ((Below.refl _ _).alloc (Nat.le_refl _) _).alloc (by simp) _
  have HB0 := Lib.hid hb0
  have HR := Lib.hid hr
  have K := Lib.hid hk
  have IH := Lib.hid ih
  have O7 := Lib.hid o7
  have O5 := Lib.hid (o5 hk)
  have O6 := Lib.hid o6
  clear hx e1 e2 e3 hr hsub o3 o4 o5 o6 o7 hok hbd hb0 hk ih
  go_enter Tryz.func88, Tryz.ntmps88
  go_wp2_with fail
  obtain ⟨w1, hw⟩ : ∃ w1, w1 = (w.alloc (.cells #[.slice (some ⟨b, o, none⟩) l.length c] 55)).alloc (.cells #[.int .i64 7, .int .i64 x.num, .string x.text, .string x.name, .int .i64 x.up] 100) := ⟨_, rfl⟩
  have hb1 : Below w.heap.size w w1 := by rw [hw]; exact HB0.out _ _
  have k0 : w1.heap[w.heap.size]? = some (.cells #[.slice (some ⟨b, o, none⟩) l.length c] 55 (0, 0)) := by rw [hw]; (repeat (first | with_reducible assumption | (with_reducible refine blk_new _ ?_; (first | rfl | (simp; done) | (simp; omega))) | with_reducible apply block_setCell | (with_reducible refine blk_skip _ _ ?_ ?_; rotate_left; (first | (simp; done) | (simp; omega))) | with_reducible refine blk_old ?_))
  have k1 : w1.heap[w.heap.size + 1]? = some (.cells #[.int .i64 7, .int .i64 x.num, .string x.text, .string x.name, .int .i64 x.up] 100 (0, 0)) := by rw [hw]; (repeat (first | with_reducible assumption | (with_reducible refine blk_new _ ?_; (first | rfl | (simp; done) | (simp; omega))) | with_reducible apply block_setCell | (with_reducible refine blk_skip _ _ ?_ ?_; rotate_left; (first | (simp; done) | (simp; omega))) | with_reducible refine blk_old ?_))
  rw [← hw]
  clear hw HB0
  refine (sKids_any l (by omega) a hal F _ c _ (HR.out.frame (Agree.of_below hb1))).mono ?_
  rintro e w2 ⟨hb2, AK, cK, rfl, hown⟩
  have hrk := Rds.of_own hown
  rw [HKT.out] at hrk ⊢
  rw [kidsPos_len]
  have HRK := Lib.hid hrk
  have HK0 := Lib.hid (block_below k0 hb2)
  have HK1 := Lib.hid (block_below k1 hb2)
  have HB2 := Lib.hid (below_then hb1 hb1.size hb2)
  obtain ⟨n0, n1, n2, n3, n4⟩ := cells5 HK1.out
  have x0 := cell_of_block HK0.out 0
  simp at x0
  clear hown hrk k0 k1 hb1 hb2 n1 n2 n3 n4
  go_wp2
  go_loopw [6, 36] (fun v i wx => ∃ (j : Nat) (R : ByteArray), v = .string R ∧ i = .int .i64 (j : Int) ∧ j ≤ t.kids.length ∧ R.data.toList ++ Tree.pieces true (decide (j = 0)) (t.names.drop j) (t.kids.drop j) = Tree.pieces true true t.names t.kids ∧ Below w2.heap.size w2 wx) (fun _ i _ => t.kids.length - (intOf i).toNat)
  case atStart => exact ⟨0, ⟨#[]⟩, rfl, rfl, Nat.zero_le _, rfl, Below.refl _ _⟩
  case round =>
    obtain ⟨j, R, rfl, rfl, hj, hR, hbx⟩ := hrel
    have hRl : R.size + (Tree.pieces true (decide (j = 0)) (t.names.drop j) (t.kids.drop j)).length ≤ 110 * Tree.countL t.kids := by
      have h1 := HPL.out
      rw [← hR, List.length_append] at h1
      simpa using h1
    have HX := Lib.hid hbx
    have HRR := Lib.hid hR
    obtain ⟨n0, n1, n2, n3, n4⟩ := cells5 (block_below HK1.out hbx)
    have x0 := cell_of_block (block_below HK0.out hbx) 0
    simp at x0
    clear hbx hR n1 n2 n3 n4
    by_cases hlt : j < t.kids.length
    · have hkj : t.kids[j]? = some t.kids[j] := by simp [hlt]
      generalize t.kids[j] = kd at hkj
      have hmem : kd ∈ t.kids := List.mem_of_getElem? hkj
      obtain ⟨q, xq, p1, p2, p3, p4⟩ := SubL.at t.kids HSK.out j kd hkj
      have hnm := p4 (by rw [K.out]; rfl) O5.out
      have hnk := strOK_len _ ((List.all_eq_true.1 O6.out) xq.name (List.mem_of_getElem? hnm))
      have hql := quoted_len xq.name.data.toList
      have hns : xq.name.size ≤ 24 := by simpa using hnk
      have hps := Tree.pieces_step true (decide (j = 0)) t.names t.kids j kd hkj xq.name (fun _ => hnm)
      rw [hps] at hRl
      simp only [List.length_append, if_true, List.length_singleton] at hRl
      have HRR' := Lib.hid HRR.out
      rw [hps] at HRR'
      have HCT := Lib.hid (Tree.kid_count t.kids kd hmem)
      have hqa : q < l.length := (List.getElem?_eq_some_iff.1 p3).1
      have hqa' : (q : Int) < (l.length : Int) := by omega
      obtain ⟨xq', y1, _, _, _, y5, _⟩ := nd_at2 (HR.out.frame (Agree.of_below (below_then HB2.out HB2.out.size HX.out))) q hqa
      rw [p3] at y1
      injection y1 with y1
      subst y1
      have HQ := Lib.hid (fun w1 => sQuote_any xq.name (by omega) w1)
      obtain ⟨bk, ok, rfl, hFk, hlk⟩ := HRK.out.open (by intro h; have := intv_get _ _ _ p1; rw [h] at this; simp at this)
      have ck := (HRK.out.frame (Agree.of_below HX.out)).at j _ (intv_get _ _ _ p1)
      have hlt' : (j : Int) < (t.kids.length : Int) := by omega
      have HC := Lib.hid (fun w1 hb => IH.out kd hmem (O7.out kd hmem) (by have := HCT.out; omega) l hl q p2 F _ c w1 (HR.out.frame (Agree.of_below (below_then HB2.out HB2.out.size (below_then HX.out HX.out.size hb)))))
      clear p1 p2 p3 p4 hps hkj hmem hnm hnk
      by_cases h0 : j = 0
      · have d0 : decide (0 < j) = false := by simp; omega
        have hsq : ¬ 9223372036854775807 < (quoted xq.name.data.toList).length + 1 := by omega
        have hsr : ¬ 9223372036854775807 < R.size + ((quoted xq.name.data.toList).length + 1) := by omega
        have hs1 : ¬ 9223372036854775807 < R.size + ((quoted xq.name.data.toList).length + 1) + kd.wr.length := by omega
        have H0 := Lib.hid h0
        clear h0
        go_wp2_with fail
        refine (HQ.out _).mono ?_
        rintro e w3 ⟨rfl, rfl⟩
        go_wp2_with fail
        refine (HC.out _ (Below.refl _ _)).mono ?_
        rintro e w3 ⟨rfl, hb3⟩
        have HB3 := Lib.hid (below_then HX.out HX.out.size hb3)
        clear hb3
        go_wp2
        go_roundw
        case rel =>
          refine ⟨j+1, _, rfl, by go_num, by omega, ?_, HB3.out⟩
          have := HRR'.out
          rw [H0.out] at this ⊢
          rw [app_list, app_list, app_list]
          simpa using this
        case measure => simp [intOf]; omega
      · have d0 : decide (0 < j) = true := by simp; omega
        simp only [h0, decide_false, Bool.false_eq_true, if_false, List.length_singleton] at hRl
        have hs0 : ¬ 9223372036854775807 < R.size + 1 := by omega
        have hsq : ¬ 9223372036854775807 < (quoted xq.name.data.toList).length + 1 := by omega
        have hsr : ¬ 9223372036854775807 < R.size + 1 + ((quoted xq.name.data.toList).length + 1) := by omega
        have hs1 : ¬ 9223372036854775807 < R.size + 1 + ((quoted xq.name.data.toList).length + 1) + kd.wr.length := by omega
        go_wp2_with fail
        refine (HQ.out _).mono ?_
        rintro e w3 ⟨rfl, rfl⟩
        go_wp2_with fail
        refine (HC.out _ (Below.refl _ _)).mono ?_
        rintro e w3 ⟨rfl, hb3⟩
        have HB3 := Lib.hid (below_then HX.out HX.out.size hb3)
        clear hb3
        go_wp2
        go_roundw
        case rel =>
          refine ⟨j+1, _, rfl, by go_num, by omega, ?_, HB3.out⟩
          have := HRR'.out
          simp only [h0, decide_false, Bool.false_eq_true, if_false] at this
          rw [app_list, app_list, app_list, app_list]
          simpa using this
        case measure => simp [intOf]; omega
    · obtain rfl : j = t.kids.length := by omega
      have hRe := HRR.out
      rw [Tree.pieces_end _ _ _ _ _ (Nat.le_refl _), List.append_nil] at hRe
      have HRE := Lib.hid hRe
      have hs0 : ¬ 9223372036854775807 < 1 + R.size := by omega
      have hs1 : ¬ 9223372036854775807 < 1 + R.size + 1 := by omega
      clear hRe hRl
      go_wp2
      go_ret
      refine ⟨congrArg (fun x => Ending.returned (Value.string x)) (bytes_ext ?_), below_then HB2.out HB2.out.size HX.out⟩
      rw [HWR.out, if_neg (by rw [K.out]; decide), if_neg (by rw [K.out]; decide), if_neg (by rw [K.out]; decide), if_neg (by rw [K.out]; decide), if_neg (by rw [K.out]; decide), if_neg (by rw [K.out]; decide), if_pos K.out, ← HRE.out]
      simp
end Go.Proofs.YtemcijhpmpdebaaGreatDoor
namespace Go.Proofs.YtemcijhpmpdebaaGreatDoor
open Go.RowKit
theorem sText_any : ∀ t : Tree, TxSpec t := Tree.ind fun t ih => by
  intro hok
  obtain ⟨⟨_, h7⟩, _⟩ := t.ok_eq hok
  by_cases h5 : t.kind ≤ 5
  · exact text_leaf t h5 hok
  · by_cases h6 : t.kind = 6
    · exact text_list t h6 ih hok
    · exact text_map t (by omega) ih hok
theorem ValOf.iff {l : List Nd} {o : Option Tree} (h : ValOf l o) : o.isSome = true ↔ ∃ t, IsGood l t := by
  cases o with
  | none => exact ⟨fun h => (by cases h), fun ⟨t, ht⟩ => absurd ht (h.2 rfl t)⟩
  | some t => exact ⟨fun _ => ⟨t, h.1 t rfl⟩, fun _ => rfl⟩
theorem ValOf.same {l : List Nd} {o o' : Option Tree} (h : ValOf l o) (h' : ValOf l o') : o.isSome = o'.isSome := by
  rw [Bool.eq_iff_iff, h.iff, h'.iff]
def GVPost (l : List Nd) (w : World) (e : Ending) (w' : World) : Prop := Below w.heap.size w w' ∧ ∃ o, e = .returned (.bool o.isSome) ∧ ValOf l o
set_option maxHeartbeats 800000 in
theorem goodValue_any (l : List Nd) (hn : l.length ≤ 1000000000000) (hsz : ∀ x ∈ l, x.text.size ≤ 9223372036854775807 ∧ x.name.size ≤ 9223372036854775807) (F : Nat → Prop) (A : Option Addr) (c : Nat) (hc : l.length ≤ c) (w : World) (hr : Rds F w A (ndCells l)) (htab : Tabs w.heap.size w) :
    Calls Tryz.prog 64 #[.agg #[.slice A l.length c]] w (GVPost l w) := by
  have hb0 : ∀ o, Below w.heap.size w (w.alloc o) := fun o => (Below.refl _ _).alloc (Nat.le_refl _) _
  have HC := Lib.hid (fun w1 (hb : Below w.heap.size w w1) => valOf_any l hn hsz F A c hc w1 (hr.frame (Agree.of_below hb)) ((htab.below hb).mono hb.size))
  clear hr htab
  go_enter Tryz.func64, Tryz.ntmps64
  go_wp2_with fail
  refine (HC.out _ (hb0 _)).mono ?_
  rintro e w2 ⟨hb2, o, v, rfl, hopt, hvo⟩
  have HB := Lib.hid (below_then (hb0 _) (hb0 _).size hb2)
  have HV := Lib.hid hvo
  clear hb2 hvo
  rcases o with _ | t
  · obtain rfl : v = .pointer none := hopt
    go_wp2
    go_ret
    exact ⟨HB.out, none, rfl, HV.out⟩
  · obtain ⟨pb, _, _, _, _, _, rfl, _⟩ := TreeAt.open hopt
    clear hopt
    go_wp2
    go_ret
    exact ⟨HB.out, some t, rfl, HV.out⟩
end Go.Proofs.YtemcijhpmpdebaaGreatDoor
