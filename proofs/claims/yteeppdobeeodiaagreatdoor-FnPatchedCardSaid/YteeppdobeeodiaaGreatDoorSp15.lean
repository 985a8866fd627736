/- The reference's l2Ints, l2Texts, l2Compare: what it compares is what the plain words say. The reference's l4Clean: it tells what the plain words tell. The reference's l4Diff: what it makes of two values is what the plain words say. -/
import Derived.Test.YteeppdobeeodiaaGreatDoorDf7
import Derived.Test.YteeppdobeeodiaaGreatDoorSp8
namespace Go.Proofs.YteeppdobeeodiaaGreatDoor
open Go.RowKit
theorem sInts_any (a b : Int) (w : World) : Calls Tryz.prog 94 #[.int .i64 a, .int .i64 b] w fun e w' => e = .returned (.int .i64 (cmpI a b)) ∧ w' = w := by
  go_enter Tryz.func94, Tryz.ntmps94
  by_cases h : a < b
  · have e : cmpI a b = -1 := by unfold cmpI; rw [if_pos h]
    go_wp2
    go_ret
    exact ⟨by first | (rw [e]; rfl) | rfl, rfl⟩
  · by_cases h' : b < a
    · have e : cmpI a b = 1 := by unfold cmpI; rw [if_neg h, if_pos h']
      go_wp2
      go_ret
      exact ⟨by first | (rw [e]; rfl) | rfl, rfl⟩
    · have e : cmpI a b = 0 := by unfold cmpI; rw [if_neg h, if_neg h']
      go_wp2
      go_ret
      exact ⟨by first | (rw [e]; rfl) | rfl, rfl⟩
theorem sTexts_any (a b : ByteArray) (w : World) : Calls Tryz.prog 95 #[.string a, .string b] w fun e w' => e = .returned (.int .i64 (cmpS a b)) ∧ w' = w := by
  go_enter Tryz.func95, Tryz.ntmps95
  cases h : ltS a b
  · have hb : Op.bytesLess a.toList b.toList = false := h
    by_cases h' : a = b
    · have e : cmpS a b = 0 := cmpS_zero.2 h'
      have hb' : (a.toList == b.toList) = true := by rw [h']; simp
      clear h h'
      go_wp2
      go_ret
      exact ⟨by rw [e]; rfl, rfl⟩
    · have e : cmpS a b = 1 := by
        unfold cmpS
        rw [h]
        rcases ltS_total a b with c | c | c
        · rw [h] at c; cases c
        · exact absurd c h'
        · rw [c]; simp
      have hb' : (a.toList == b.toList) = false := by
        rw [beq_eq_false_iff_ne]
        exact fun c => h' (ba_eq c)
      clear h h'
      go_wp2
      go_ret
      exact ⟨by rw [e]; rfl, rfl⟩
  · have hb : Op.bytesLess a.toList b.toList = true := h
    have e : cmpS a b = -1 := by unfold cmpS; rw [h]; simp
    clear h
    go_wp2
    go_ret
    exact ⟨by rw [e]; rfl, rfl⟩
/-- What may lie in a value that stands in the text: numbers in numbers, texts in texts, parts in lists and maps. -/
theorem ok_plain {t : Tree} (h : t.ok = true) : (t.kind ≠ 4 → t.num = 0) ∧ (t.kind ≠ 5 → t.text = emptyB) ∧ (t.kind = 4 ∨ t.kind = 5 → t.kids = []) := by
  obtain ⟨k, n, x, ns, ks⟩ := t
  simp only [Tree.ok, Bool.and_eq_true, Bool.or_eq_true, beq_iff_eq] at h
  obtain ⟨⟨⟨⟨⟨⟨⟨h1, h2⟩, h3⟩, h4⟩, h5⟩, h6⟩, h7⟩, h8⟩ := h
  refine ⟨fun c => h2.resolve_left c, fun c => ?_, fun c => ?_⟩
  · have e := h3.resolve_left c
    exact ba_eq (by simpa [emptyB] using e)
  · rcases h7 with h7 | h7
    · simp only [Tree.kind_mk] at c
      rcases c with c | c <;> (subst c; simp [holdsB] at h7)
    · simpa using h7
theorem cmp_num {x y : Tree} (hx : x.ok = true) (hy : y.ok = true) (hk : x.kind = y.kind) (h4 : x.kind = 4) : Tree.cmp x y = cmpI x.num y.num := by
  obtain ⟨_, a2, a3⟩ := ok_plain hx
  obtain ⟨_, b2, b3⟩ := ok_plain hy
  rw [Tree.cmp_eq, hk, cmpI_zero.2 rfl, if_neg (by simp), a2 (by omega), b2 (by omega), cmpS_zero.2 rfl, a3 (.inl h4), b3 (.inl (by omega)), Tree.cmpL]
  by_cases c : cmpI x.num y.num = 0
  · simp [c]
  · rw [if_pos c]
theorem cmp_text {x y : Tree} (hx : x.ok = true) (hy : y.ok = true) (hk : x.kind = y.kind) (h5 : x.kind = 5) : Tree.cmp x y = cmpS x.text y.text := by
  obtain ⟨a1, _, a3⟩ := ok_plain hx
  obtain ⟨b1, _, b3⟩ := ok_plain hy
  rw [Tree.cmp_eq, hk, cmpI_zero.2 rfl, if_neg (by simp), a1 (by omega), b1 (by omega), cmpI_zero.2 rfl, if_neg (by simp), a3 (.inr h5), b3 (.inr (by omega)), Tree.cmpL]
  by_cases c : cmpS x.text y.text = 0
  · simp [c]
  · rw [if_pos c]
theorem cmp_kids {x y : Tree} (hx : x.ok = true) (hy : y.ok = true) (hk : x.kind = y.kind) (h4 : x.kind ≠ 4) (h5 : x.kind ≠ 5) : Tree.cmp x y = Tree.cmpL (x.kind == 7) x.names x.kids y.names y.kids := by
  obtain ⟨a1, a2, _⟩ := ok_plain hx
  obtain ⟨b1, b2, _⟩ := ok_plain hy
  rw [Tree.cmp_eq, hk, cmpI_zero.2 rfl, if_neg (by simp), a1 h4, b1 (by omega), cmpI_zero.2 rfl, if_neg (by simp), a2 h5, b2 (by omega), cmpS_zero.2 rfl, if_neg (by simp)]
def Keep5' (b o : Nat) (t : Tree) (X1 X2 : Option Addr) (x1 x2 : Nat) (W : World) : Prop :=
  W.cell? ⟨b, o, none⟩ = some (.int .i64 t.kind) ∧ W.cell? ⟨b, o + 1, none⟩ = some (.int .i64 t.num) ∧ W.cell? ⟨b, o + 2, none⟩ = some (.string t.text) ∧ W.cell? ⟨b, o + 3, none⟩ = some (.slice X1 t.names.length x1) ∧ W.cell? ⟨b, o + 4, none⟩ = some (.slice X2 t.kids.length x2)
theorem Tree.ok_kids' {t : Tree} (h : t.ok = true) : Tree.okL t.kids = true := by
  cases t
  simp [Tree.ok] at h
  exact h.2
theorem headD_drop' {α : Type} {l : List α} {i : Nat} {x d : α} (h : l[i]? = some x) : (l.drop i).headD d = x := by
  obtain ⟨h1, e1⟩ := List.getElem?_eq_some_iff.1 h
  rw [List.drop_eq_getElem_cons h1, e1]
  rfl
def SCmpPost (x y : Tree) (w : World) (e : Ending) (w' : World) : Prop := e = .returned (.int .i64 (Tree.cmp x y)) ∧ Below w.heap.size w w'
def SCmpSpec (x : Tree) : Prop := x.ok = true → x.count ≤ 1000000 → ∀ (y : Tree) (F G : Nat → Prop) (xc yc : List Value) (w : World), y.ok = true → y.count ≤ 1000000 → LtAt F w xc x → LtAt G w yc y → Calls Tryz.prog 59 #[.agg xc.toArray, .agg yc.toArray] w (SCmpPost x y w)
set_option maxRecDepth 100000 in
set_option maxHeartbeats 8000000 in
theorem sCompare_any : ∀ x, SCmpSpec x := Tree.ind fun x ih hx hxc y F G xc yc w hy hyc htx hty => by
  obtain ⟨A1, c1, A2, c2, rs, rfl, g3, g4, r3, r4, hts⟩ := htx.open
  obtain ⟨A1', c1', A2', c2', rs', rfl, g3', g4', r3', r4', hts'⟩ := hty.open
  obtain ⟨w1, hw⟩ : ∃ w1, w1 = (w.alloc (.cells #[.int .i64 x.kind, .int .i64 x.num, .string x.text, .slice A1 x.names.length c1, .slice A2 x.kids.length c2] 44 (0, 0))).alloc (.cells #[.int .i64 y.kind, .int .i64 y.num, .string y.text, .slice A1' y.names.length c1', .slice A2' y.kids.length c2'] 44 (0, 0)) := ⟨_, rfl⟩
  have hs1 : w1.heap.size = w.heap.size + 2 := by rw [hw]; simp
  have hb1 : Below w.heap.size w w1 := by rw [hw]; exact ((Below.refl _ _).alloc (Nat.le_refl _) _).alloc (by simp) _
  have hkv : w1.heap[w.heap.size]? = some (.cells #[.int .i64 x.kind, .int .i64 x.num, .string x.text, .slice A1 x.names.length c1, .slice A2 x.kids.length c2] 44 (0, 0)) := by rw [hw]; (repeat (first | with_reducible assumption | (with_reducible refine blk_new _ ?_; (first | rfl | (simp; done) | (simp; omega))) | with_reducible apply block_setCell | (with_reducible refine blk_skip _ _ ?_ ?_; rotate_left; (first | (simp; done) | (simp; omega))) | with_reducible refine blk_old ?_))
  have hkp : w1.heap[w.heap.size + 1]? = some (.cells #[.int .i64 y.kind, .int .i64 y.num, .string y.text, .slice A1' y.names.length c1', .slice A2' y.kids.length c2'] 44 (0, 0)) := by rw [hw]; (repeat (first | with_reducible assumption | (with_reducible refine blk_new _ ?_; (first | rfl | (simp; done) | (simp; omega))) | with_reducible apply block_setCell | (with_reducible refine blk_skip _ _ ?_ ?_; rotate_left; (first | (simp; done) | (simp; omega))) | with_reducible refine blk_old ?_))
  have hcx := x.count_eq
  have hcy := y.count_eq
  have hkx := Tree.kids_le_count x.kids
  have hky := Tree.kids_le_count y.kids
  have hlx : x.kids.length ≤ 1000000 := by omega
  have hly : y.kids.length ≤ 1000000 := by omega
  have HB1 := Lib.hid hb1
  have HW := Lib.hid hw
  have HR3 := Lib.hid (r3.frame (Agree.of_below hb1))
  have HR4 := Lib.hid (r4.frame (Agree.of_below hb1))
  have HTS := Lib.hid (hts.below hb1)
  have HR3' := Lib.hid (r3'.frame (Agree.of_below hb1))
  have HR4' := Lib.hid (r4'.frame (Agree.of_below hb1))
  have HTS' := Lib.hid (hts'.below hb1)
  have HIH := Lib.hid ih
  have HX := Lib.hid (⟨hx, hxc⟩ : x.ok = true ∧ x.count ≤ 1000000)
  have HY := Lib.hid (⟨hy, hyc⟩ : y.ok = true ∧ y.count ≤ 1000000)
  have HCELL := Lib.hid (fun W (hb : Below w1.heap.size w1 W) (j : Nat) => (⟨World.cell?_of_block (a := ⟨w.heap.size, j, none⟩) (hb.block _ (by show w.heap.size < _; omega)), World.cell?_of_block (a := ⟨w.heap.size + 1, j, none⟩) (hb.block _ (by show w.heap.size + 1 < _; omega))⟩ : W.cell? ⟨w.heap.size, j, none⟩ = w1.cell? ⟨w.heap.size, j, none⟩ ∧ W.cell? ⟨w.heap.size + 1, j, none⟩ = w1.cell? ⟨w.heap.size + 1, j, none⟩))
  have z0 := cell_of_block hkv 0
  have y0 := cell_of_block hkp 0
  have z1 := cell_of_block hkv 1
  have y1 := cell_of_block hkp 1
  have z2 := cell_of_block hkv 2
  have y2 := cell_of_block hkp 2
  have z3 := cell_of_block hkv 3
  have y3 := cell_of_block hkp 3
  have z4 := cell_of_block hkv 4
  have y4 := cell_of_block hkp 4
  simp at z0 y0 z1 y1 z2 y2 z3 y3 z4 y4
  have HZ0 := Lib.hid z0
  have HZ3 := Lib.hid z3
  have HZ4 := Lib.hid z4
  have HY3 := Lib.hid y3
  have HY4 := Lib.hid y4
  clear r3 r4 hts r3' r4' hts' ih hx hxc hy hyc htx hty hcx hcy hkx hky hw hb1 hkv hkp
  go_enter Tryz.func59, Tryz.ntmps59
  go_upto_if 9 with fail
  rw [← HW.out]
  go_wp2_with fail
  refine (sInts_any _ _ _).mono ?_
  rintro e w1 ⟨rfl, rfl⟩
  by_cases hk : cmpI x.kind y.kind = 0
  case neg =>
    have HZ := Lib.hid hk
    have hd : (cmpI x.kind y.kind == 0) = false := by simpa using hk
    clear hk
    go_wp2
    go_ret
    exact ⟨by rw [Tree.cmp_eq, if_pos HZ.out]; rfl, HB1.out⟩
  have hkk := cmpI_zero.1 hk
  have HKK := Lib.hid hkk
  rw [hk]
  clear hk hkk
  by_cases hk4 : x.kind = 4
  · have HK4 := Lib.hid hk4
    have hd : (x.kind == 4) = true := by simpa using hk4
    clear hk4
    go_wp2_with fail
    refine (sInts_any _ _ _).mono ?_
    rintro e w' ⟨rfl, rfl⟩
    go_wp2
    go_ret
    exact ⟨by rw [cmp_num HX.out.1 HY.out.1 HKK.out HK4.out]; rfl, HB1.out⟩
  have HK4 := Lib.hid hk4
  have hd4 : (x.kind == 4) = false := by simpa using hk4
  clear hk4
  by_cases hk5 : x.kind = 5
  · have HK5 := Lib.hid hk5
    have hd : (x.kind == 5) = true := by simpa using hk5
    clear hk5
    go_wp2_with fail
    refine (sTexts_any _ _ _).mono ?_
    rintro e w' ⟨rfl, rfl⟩
    go_wp2
    go_ret
    exact ⟨by rw [cmp_text HX.out.1 HY.out.1 HKK.out HK5.out]; rfl, HB1.out⟩
  have HCMP := Lib.hid (cmp_kids HX.out.1 HY.out.1 HKK.out HK4.out hk5)
  have hd5 : (x.kind == 5) = false := by simpa using hk5
  clear hk5
  go_wp2
  go_loopw [36] (fun iv wx => ∃ i : Nat, iv = .int .i64 (i : Int) ∧ i ≤ x.kids.length ∧ i ≤ y.kids.length ∧ Hid (Below w1.heap.size w1 wx ∧ Tree.cmp x y = Tree.cmpL (x.kind == 7) (x.names.drop i) (x.kids.drop i) (y.names.drop i) (y.kids.drop i))) (fun iv _ => x.kids.length - (intOf iv).toNat)
  case atStart => exact ⟨0, rfl, Nat.zero_le _, Nat.zero_le _, Below.refl _ _, HCMP.out⟩
  case round =>
    clear z0 z1 z2 z3 z4 y0 y1 y2 y3 y4
    obtain ⟨i, rfl, hi, hi', hinv⟩ := hrel
    have HI := Lib.hid (show Below w1.heap.size w1 wr ∧ Tree.cmp x y = Tree.cmpL (x.kind == 7) (x.names.drop i) (x.kids.drop i) (y.names.drop i) (y.kids.drop i) from hinv)
    have hbx := HI.out.1
    have HBX := Lib.hid hbx
    have hsz := hbx.size
    have z4 := (HCELL.out wr hbx 4).1.trans HZ4.out
    have y4 := (HCELL.out wr hbx 4).2.trans HY4.out
    clear hinv hbx
    by_cases hlt : i < x.kids.length
    case neg =>
      obtain rfl : i = x.kids.length := by omega
      have HFIN := Lib.hid (HI.out.2.trans (cmpL_end (by omega)))
      go_wp2_with fail
      refine (sInts_any _ _ _).mono ?_
      rintro e w' ⟨rfl, rfl⟩
      go_wp2
      go_ret
      exact ⟨by rw [HFIN.out]; rfl, below_then HB1.out (by omega) HBX.out⟩
    by_cases hlt' : i < y.kids.length
    case neg =>
      obtain rfl : i = y.kids.length := by omega
      have HFIN := Lib.hid (HI.out.2.trans ((cmpL_end (by omega)).trans (show cmpI x.kids.length y.kids.length = 1 by unfold cmpI; rw [if_neg (by omega), if_pos (by omega)])))
      go_wp2
      go_ret
      exact ⟨by rw [HFIN.out]; rfl, below_then HB1.out (by omega) HBX.out⟩
    · obtain ⟨bk, ok, rk, xk, K1, k1, K2, k2, rfl, hFk, hkl, hxk, hxm, hrk, rfl, hxt, kk0, kk1, kk2, kk3, kk4⟩ := lt_at HR4.out HTS.out i hlt
      obtain ⟨bl, ol, rl, yk, L1, l1, L2, l2, rfl, hFl, hll, hyk, hym, hrl, rfl, hyt, ll0, ll1, ll2, ll3, ll4⟩ := lt_at HR4'.out HTS'.out i hlt'
      have HXK := Lib.hid hxk
      have HYK := Lib.hid hyk
      have HCX := Lib.hid (Tree.countL_mem x.kids xk hxm)
      have HCY := Lib.hid (Tree.countL_mem y.kids yk hym)
      have HEX := Lib.hid x.count_eq
      have HEY := Lib.hid y.count_eq
      have HXKO := Lib.hid (show xk.ok = true from (okL_iff x.kids).1 (Tree.ok_kids' HX.out.1) xk hxm)
      have HYKO := Lib.hid (show yk.ok = true from (okL_iff y.kids).1 (Tree.ok_kids' HY.out.1) yk hym)
      have HREC := Lib.hid (fun W (hb : Below w1.heap.size w1 W) => HIH.out xk hxm HXKO.out (by have h1 := HX.out.2; have h2 := HEX.out; have h3 := HCX.out; omega) yk _ _ _ _ W HYKO.out (by have h1 := HY.out.2; have h2 := HEY.out; have h3 := HCY.out; omega) (hxt.below hb) (hyt.below hb))
      have HK0 := Lib.hid (fun W (hb : Below w1.heap.size w1 W) => show Keep5' bk (ok + i * 5) xk K1 K2 k1 k2 W from
        ⟨(World.cell?_of_block (a := ⟨bk, ok + i * 5, none⟩) (hb.block bk hkl)).trans kk0, (World.cell?_of_block (a := ⟨bk, ok + i * 5 + 1, none⟩) (hb.block bk hkl)).trans kk1, (World.cell?_of_block (a := ⟨bk, ok + i * 5 + 2, none⟩) (hb.block bk hkl)).trans kk2, (World.cell?_of_block (a := ⟨bk, ok + i * 5 + 3, none⟩) (hb.block bk hkl)).trans kk3, (World.cell?_of_block (a := ⟨bk, ok + i * 5 + 4, none⟩) (hb.block bk hkl)).trans kk4⟩)
      have HL0 := Lib.hid (fun W (hb : Below w1.heap.size w1 W) => show Keep5' bl (ol + i * 5) yk L1 L2 l1 l2 W from
        ⟨(World.cell?_of_block (a := ⟨bl, ol + i * 5, none⟩) (hb.block bl hll)).trans ll0, (World.cell?_of_block (a := ⟨bl, ol + i * 5 + 1, none⟩) (hb.block bl hll)).trans ll1, (World.cell?_of_block (a := ⟨bl, ol + i * 5 + 2, none⟩) (hb.block bl hll)).trans ll2, (World.cell?_of_block (a := ⟨bl, ol + i * 5 + 3, none⟩) (hb.block bl hll)).trans ll3, (World.cell?_of_block (a := ⟨bl, ol + i * 5 + 4, none⟩) (hb.block bl hll)).trans ll4⟩)
      have z0 := (HCELL.out wr HBX.out 0).1.trans HZ0.out
      have hib : (i == y.kids.length) = false := by simp; omega
      have hib' : ((i : Int) == (y.kids.length : Int)) = false := by simp; omega
      clear kk0 kk1 kk2 kk3 kk4 ll0 ll1 ll2 ll3 ll4 hxt hyt hxk hyk hxm hym hrk hrl
      by_cases h7 : x.kind = 7
      · have hmp := Tree.ok_map HX.out.1 h7
        have hmq := Tree.ok_map HY.out.1 (show y.kind = 7 by rw [← HKK.out]; exact h7)
        have hlen1 := hmp.len
        have hlen2 := hmq.len
        obtain ⟨bn, on, s, rfl, hnl, n0w, hs, _⟩ := name_at HR3.out i (by omega)
        obtain ⟨bo, oo, u, rfl, hol, o0w, hu, _⟩ := name_at HR3'.out i (by omega)
        have hn1 : i < x.names.length := by omega
        have hn2 : i < y.names.length := by omega
        have n0 := (World.cell?_of_block (a := ⟨bn, on + i, none⟩) (HBX.out.block bn hnl)).trans n0w
        have o0 := (World.cell?_of_block (a := ⟨bo, oo + i, none⟩) (HBX.out.block bo hol)).trans o0w
        have z3 := (HCELL.out wr HBX.out 3).1.trans HZ3.out
        have y3 := (HCELL.out wr HBX.out 3).2.trans HY3.out
        have hxl : x.names.length ≤ 1000000 := by omega
        have hyl : y.names.length ≤ 1000000 := by omega
        have HST := Lib.hid (cmpL_step (map := x.kind == 7) (ns := x.names) (ms := y.names) HXK.out HYK.out)
        rw [headD_drop' hs, headD_drop' hu] at HST
        have HSE := Lib.hid (HI.out.2.trans HST.out)
        have h7b : (x.kind == 7) = true := by simpa using h7
        have H7B := Lib.hid h7b
        rw [h7] at z0
        clear hmp hmq hs hu HST n0w o0w h7 hd4 hd5 hlen1 hlen2
        go_wp2
        go_still_tail 10, (by kernel_rfl)
        have HBD := Lib.hid HBX.out.drew
        change wpList _ _ _ _ _ wr.drew
        generalize wr.drew = wd at HBD ⊢
        go_wp2_with fail
        refine (sTexts_any _ _ _).mono ?_
        rintro e w' ⟨rfl, rfl⟩
        by_cases hc : cmpS s u = 0
        case neg =>
          have HC := Lib.hid hc
          have hcb : (cmpS s u == 0) = false := by simpa using hc
          clear hc
          go_wp2
          go_ret
          exact ⟨by rw [HSE.out, if_pos ⟨H7B.out, HC.out⟩]; rfl, below_then HB1.out (by omega) HBD.out⟩
        have HC := Lib.hid hc
        rw [hc]
        clear hc z0 z3 y3 n0 o0 z4 y4
        have HS2 := Lib.hid (HSE.out.trans (if_neg (fun c => c.2 HC.out)))
        clear HSE HC
        have z4 := (HCELL.out _ HBD.out 4).1.trans HZ4.out
        have y4 := (HCELL.out _ HBD.out 4).2.trans HY4.out
        have k0 := HK0.out _ HBD.out
        have l0 := HL0.out _ HBD.out
        unfold Keep5' at k0 l0
        obtain ⟨k0, k1, k2, k3, k4⟩ := k0
        obtain ⟨l0, l1, l2, l3, l4⟩ := l0
        go_wp2
        go_still_tail 10, (by kernel_rfl)
        have HBE := Lib.hid HBD.out.drew
        change wpList _ _ _ _ _ w'.drew
        generalize w'.drew = we at HBE ⊢
        go_wp2_with fail
        refine (HREC.out we HBE.out).mono ?_
        rintro e w5 ⟨rfl, hb5⟩
        have HB5 := Lib.hid (below_then HBE.out HBE.out.size hb5)
        clear hb5 z4 y4 k0 l0 k1 k2 k3 k4 l1 l2 l3 l4
        by_cases hr : Tree.cmp xk yk = 0
        case neg =>
          have HC := Lib.hid hr
          have hcb : (Tree.cmp xk yk == 0) = false := by simpa using hr
          clear hr
          go_wp2
          go_ret
          exact ⟨by rw [HS2.out, if_pos HC.out]; rfl, below_then HB1.out (by omega) HB5.out⟩
        have HC := Lib.hid hr
        rw [hr]
        clear hr
        go_wp2
        go_roundw
        case rel => exact ⟨i + 1, by go_num, by omega, by omega, HB5.out, by rw [HS2.out, if_neg (by simp [HC.out])]⟩
        case measure => simp [intOf]; omega
      · have h7b : (x.kind == 7) = false := by simpa using h7
        have HS2 := Lib.hid (HI.out.2.trans ((cmpL_step (map := x.kind == 7) (ns := x.names) (ms := y.names) HXK.out HYK.out).trans (if_neg (fun c => by rw [h7b] at c; exact absurd c.1 (by decide)))))
        have HBD := HBX
        clear z4 y4
        have z4 := (HCELL.out _ HBD.out 4).1.trans HZ4.out
        have y4 := (HCELL.out _ HBD.out 4).2.trans HY4.out
        have k0 := HK0.out _ HBD.out
        have l0 := HL0.out _ HBD.out
        unfold Keep5' at k0 l0
        obtain ⟨k0, k1, k2, k3, k4⟩ := k0
        obtain ⟨l0, l1, l2, l3, l4⟩ := l0
        go_wp2
        clear h7 h7b z0
        go_still_tail 10, (by kernel_rfl)
        have HBE := Lib.hid HBD.out.drew
        change wpList _ _ _ _ _ wr.drew
        generalize wr.drew = we at HBE ⊢
        go_wp2_with fail
        refine (HREC.out we HBE.out).mono ?_
        rintro e w5 ⟨rfl, hb5⟩
        have HB5 := Lib.hid (below_then HBE.out HBE.out.size hb5)
        clear hb5 z4 y4 k0 l0 k1 k2 k3 k4 l1 l2 l3 l4
        by_cases hr : Tree.cmp xk yk = 0
        case neg =>
          have HC := Lib.hid hr
          have hcb : (Tree.cmp xk yk == 0) = false := by simpa using hr
          clear hr
          go_wp2
          go_ret
          exact ⟨by rw [HS2.out, if_pos HC.out]; rfl, below_then HB1.out (by omega) HB5.out⟩
        have HC := Lib.hid hr
        rw [hr]
        clear hr
        go_wp2
        go_roundw
        case rel => exact ⟨i + 1, by go_num, by omega, by omega, HB5.out, by rw [HS2.out, if_neg (by simp [HC.out])]⟩
        case measure => simp [intOf]; omega
end Go.Proofs.YteeppdobeeodiaaGreatDoor
namespace Go.Proofs.YteeppdobeeodiaaGreatDoor
open Go.RowKit
theorem isCleanL_step {ks : List Tree} {i : Nat} {x : Tree} (h : ks[i]? = some x) : Tree.isCleanL (ks.drop i) = (!(x.kind == 1) && x.isClean && Tree.isCleanL (ks.drop (i + 1))) := by
  obtain ⟨h1, e1⟩ := List.getElem?_eq_some_iff.1 h
  rw [List.drop_eq_getElem_cons h1, e1, Tree.isCleanL]
def SCleanSpec (v : Tree) : Prop := v.count ≤ 1000000 → ∀ (F : Nat → Prop) (vc : List Value) (w : World), LtAt F w vc v → Calls Tryz.prog 31 #[.agg vc.toArray] w (fun e w' => e = .returned (.bool v.isClean) ∧ Below w.heap.size w w')
set_option maxRecDepth 100000 in
set_option maxHeartbeats 8000000 in
theorem sClean_any : ∀ v, SCleanSpec v := Tree.ind fun v ih hvc F vc w htv => by
  obtain ⟨A1, c1, A2, c2, rs, rfl, g3, g4, r3, r4, hts⟩ := htv.open
  have hb1 : Below w.heap.size w (w.alloc (.cells #[.int .i64 v.kind, .int .i64 v.num, .string v.text, .slice A1 v.names.length c1, .slice A2 v.kids.length c2] 44 (0, 0))) := (Below.refl _ _).alloc (Nat.le_refl _) _
  have k1 := heap_alloc_new w (.cells #[.int .i64 v.kind, .int .i64 v.num, .string v.text, .slice A1 v.names.length c1, .slice A2 v.kids.length c2] 44 (0, 0))
  have hs1 : (w.alloc (.cells #[.int .i64 v.kind, .int .i64 v.num, .string v.text, .slice A1 v.names.length c1, .slice A2 v.kids.length c2] 44 (0, 0))).heap.size = w.heap.size + 1 := by simp
  have z0 := cell_of_block k1 0
  have z4 := cell_of_block k1 4
  simp only [List.getElem?_toArray] at z0 z4
  have HB1 := Lib.hid hb1
  by_cases hvk : v.kind = 7
  case neg =>
    have HE := Lib.hid (show v.isClean = true by rw [Tree.isClean_eq, if_neg hvk])
    have hvb : (v.kind == 7) = false := by simpa using hvk
    clear hvk htv r3 r4 hts ih k1 hb1
    go_enter Tryz.func31, Tryz.ntmps31
    go_wp2
    go_ret
    exact ⟨by rw [HE.out]; rfl, HB1.out⟩
  have hcv := v.count_eq
  have hkv := Tree.kids_le_count v.kids
  have hnk : v.kids.length ≤ 1000000 := by omega
  have HCV := Lib.hid (⟨hcv, hvc⟩ : v.count = 1 + Tree.countL v.kids ∧ v.count ≤ 1000000)
  have HE := Lib.hid (show v.isClean = Tree.isCleanL v.kids by rw [Tree.isClean_eq, if_pos hvk])
  have HIH := Lib.hid ih
  have HR4 := Lib.hid (r4.frame (Agree.of_below hb1))
  have HTS := Lib.hid (hts.below hb1)
  rw [hvk] at z0
  go_enter Tryz.func31, Tryz.ntmps31
  rw [hvk]
  rw [hvk] at HB1 hs1 z4 HR4 HTS
  clear hvk htv r3 r4 hts ih hb1 k1 hcv hkv hvc
  go_upto_if 5 with fail
  generalize w.alloc (.cells #[.int .i64 7, .int .i64 v.num, .string v.text, .slice A1 v.names.length c1, .slice A2 v.kids.length c2] 44 (0, 0)) = w1 at HB1 HR4 HTS hs1 z0 z4 ⊢
  go_wp2
  go_loopw [11] (fun iv wx => ∃ i : Nat, iv = .int .i64 (i : Int) ∧ i ≤ v.kids.length ∧ Hid (Below w1.heap.size w1 wx ∧ v.isClean = Tree.isCleanL (v.kids.drop i))) (fun iv _ => v.kids.length - (intOf iv).toNat)
  case atStart => exact ⟨0, rfl, Nat.zero_le _, Below.refl _ _, HE.out⟩
  case round =>
    obtain ⟨i, rfl, hi, hinv⟩ := hrel
    have HI := Lib.hid (show Below w1.heap.size w1 wr ∧ v.isClean = Tree.isCleanL (v.kids.drop i) from hinv)
    have hbx := HI.out.1
    have hsz := hbx.size
    clear hinv z0 z4
    by_cases hlt : i < v.kids.length
    · obtain ⟨bk, ok, rk, x, K1, k1, K2, k2, rfl, hFk, hkl, hx, hxm, hrk, rfl, hxt, kk0, kk1, kk2, kk3, kk4⟩ := lt_at HR4.out HTS.out i hlt
      have x0 := (World.cell?_of_block (a := ⟨bk, ok + i * 5, none⟩) (hbx.block bk hkl)).trans kk0
      have x1 := (World.cell?_of_block (a := ⟨bk, ok + i * 5 + 1, none⟩) (hbx.block bk hkl)).trans kk1
      have x2 := (World.cell?_of_block (a := ⟨bk, ok + i * 5 + 2, none⟩) (hbx.block bk hkl)).trans kk2
      have x3 := (World.cell?_of_block (a := ⟨bk, ok + i * 5 + 3, none⟩) (hbx.block bk hkl)).trans kk3
      have x4 := (World.cell?_of_block (a := ⟨bk, ok + i * 5 + 4, none⟩) (hbx.block bk hkl)).trans kk4
      have HST := Lib.hid (HI.out.2.trans (isCleanL_step hx))
      have hbx2 := (Below.refl wr.heap.size wr).alloc (Nat.le_refl _) (.cells #[.int .i64 x.kind, .int .i64 x.num, .string x.text, .slice K1 x.names.length k1, .slice K2 x.kids.length k2] 44 (0, 0))
      have kx := heap_alloc_new wr (.cells #[.int .i64 x.kind, .int .i64 x.num, .string x.text, .slice K1 x.names.length k1, .slice K2 x.kids.length k2] 44 (0, 0))
      have HBX := Lib.hid (below_then hbx hsz hbx2)
      have HC := Lib.hid (HIH.out x hxm (by have h1 := HCV.out; have h2 := Tree.countL_mem v.kids x hxm; omega) F _ (wr.alloc (.cells #[.int .i64 x.kind, .int .i64 x.num, .string x.text, .slice K1 x.names.length k1, .slice K2 x.kids.length k2] 44 (0, 0))) (hxt.below HBX.out))
      have HKX := Lib.hid kx
      clear kk0 kk1 kk2 kk3 kk4 hx hxm hrk hxt hbx2 kx
      by_cases hn : x.kind = 1
      · have HF := Lib.hid (show v.isClean = false by rw [HST.out, hn]; rfl)
        have hxb : (x.kind == 1) = true := by simpa using hn
        clear HC HKX hn
        go_wp2
        go_ret
        exact ⟨by rw [HF.out]; rfl, below_then HB1.out (by omega) HBX.out⟩
      · have hxb : (x.kind == 1) = false := by simpa using hn
        have HST' := Lib.hid (show v.isClean = (x.isClean && Tree.isCleanL (v.kids.drop (i + 1))) by rw [HST.out, hxb]; rfl)
        clear hn HST HKX
        go_wp2_with fail
        refine HC.out.mono ?_
        rintro e w2 ⟨rfl, hb2⟩
        have HB2 := Lib.hid (below_then HBX.out HBX.out.size hb2)
        clear hb2 HC
        cases hc : x.isClean
        · have HF := Lib.hid (show v.isClean = false by rw [HST'.out, hc]; rfl)
          clear hc
          go_wp2
          go_ret
          exact ⟨by rw [HF.out]; rfl, below_then HB1.out (by omega) HB2.out⟩
        · have HF := Lib.hid (show v.isClean = Tree.isCleanL (v.kids.drop (i + 1)) by rw [HST'.out, hc]; rfl)
          clear hc
          go_wp2
          go_roundw
          case rel => exact ⟨i + 1, by go_num, by omega, HB2.out, HF.out⟩
          case measure => simp [intOf]; omega
    · obtain rfl : i = v.kids.length := by omega
      have HF := Lib.hid (show v.isClean = true by rw [HI.out.2, List.drop_length]; rfl)
      go_wp2
      go_ret
      exact ⟨by rw [HF.out]; rfl, below_then HB1.out (by omega) hbx⟩
end Go.Proofs.YteeppdobeeodiaaGreatDoor
namespace Go.Proofs.YteeppdobeeodiaaGreatDoor
open Go.RowKit
set_option maxRecDepth 100000 in
theorem sNull2_any (w : World) : Calls Tryz.prog 58 #[] w (fun e w' => e = .returned (.agg #[.int .i64 1, .int .i64 0, .string ⟨#[]⟩, .slice none 0 0, .slice none 0 0]) ∧ Below w.heap.size w w') := by
  have hb1 : ∀ o, Below w.heap.size w (w.alloc o) := fun o => (Below.refl _ _).alloc (Nat.le_refl _) o
  have HB := Lib.hid hb1
  clear hb1
  go_enter Tryz.func58, Tryz.ntmps58
  go_wp2
  refine bodyPost_ret (results_cell_row rfl _ _ w.heap.size _ _ _ _ rfl (heap_alloc_new _ _) Tryz.underlying44 rfl ((info_size infoL1V).trans (by simp))) rfl ?_
  exact ⟨rfl, HB.out _⟩
theorem LtAt.null2 {F : Nat → Prop} {w : World} : LtAt F w [.int .i64 1, .int .i64 0, .string ⟨#[]⟩, .slice none 0 0, .slice none 0 0] nullT := by
  unfold nullT
  simp only [LtAt]
  exact ⟨none, 0, none, 0, [], rfl, Nat.le_refl _, Nat.le_refl _, Rds.nil _ _ _, Rds.nil _ _ _, by simp [LtsAt]⟩
theorem LtAt.empty2 {F : Nat → Prop} {w : World} : LtAt F w [.int .i64 7, .int .i64 0, .string ⟨#[]⟩, .slice none 0 0, .slice none 0 0] (.mk 7 0 emptyB [] []) := by
  simp only [LtAt]
  exact ⟨none, 0, none, 0, [], rfl, Nat.le_refl _, Nat.le_refl _, Rds.nil _ _ _, Rds.nil _ _ _, by simp [LtsAt]⟩
def SDPost (F : Nat → Prop) (v q : Tree) (w : World) (e : Ending) (w' : World) : Prop := ∃ cs, e = .returned (.agg cs.toArray) ∧ Below w.heap.size w w' ∧ LtAt (Nw F w.heap.size) w' cs (Tree.diff v q)
def SDSpec (v : Tree) : Prop := v.ok = true → v.count ≤ 80 → ∀ (q : Tree) (F : Nat → Prop) (vc qc : List Value) (w : World), q.ok = true → q.count ≤ 80 → LtAt F w vc v → LtAt F w qc q → Calls Tryz.prog 36 #[.agg vc.toArray, .agg qc.toArray] w (SDPost F v q w)
/-- The blocks that the map in the making may lie in. -/
def Ny (F : Nat → Prop) (B : Nat) : Nat → Prop := fun b => F b ∧ b < B ∨ B + 4 ≤ b
structure SDInv (F : Nat → Prop) (w wx : World) (ocs : List Value) (on : List ByteArray) (ot : List Tree) (vo qo ro : Obj) : Prop where
  cell : wx.heap[w.heap.size + 1 + 1 + 1]? = some (.cells ocs.toArray 44 (0, 0))
  lt : LtAt (Ny F w.heap.size) wx ocs (.mk 7 0 emptyB on ot)
  ok : MapOK on ot
  bel : Below w.heap.size w wx
  size : w.heap.size + 4 ≤ wx.heap.size
  vb : wx.heap[w.heap.size]? = some vo
  qb : wx.heap[w.heap.size + 1]? = some qo
  rb : wx.heap[w.heap.size + 1 + 1]? = some ro
section
variable {F : Nat → Prop} {w wx w4 : World} {ocs : List Value} {on : List ByteArray} {ot : List Tree} {vo qo ro : Obj}
theorem SDInv.below (h : SDInv F w wx ocs on ot vo qo ro) (hb : Below wx.heap.size wx w4) : SDInv F w w4 ocs on ot vo qo ro :=
  ⟨block_below h.cell hb, h.lt.below hb, h.ok, below_then h.bel h.bel.size hb, Nat.le_trans h.size hb.size, block_below h.vb hb, block_below h.qb hb, block_below h.rb hb⟩
theorem SDInv.put {s : ByteArray} {z : Tree} {a0 a1 a2 a3 a4 : Value} {N : Nat} (h : SDInv F w wx ocs on ot vo qo ro) (hf : on[insPos on s]? ≠ some s) (hso : strOK s = true) (hzo : z.ok = true) (hb : Below wx.heap.size wx w4) (hN : w.heap.size + 4 ≤ N)
    (ht : LtAt (Nw (Ny F w.heap.size) N) w4 [a0, a1, a2, a3, a4] (.mk 7 0 emptyB (ins (insPos on s) s on) (ins (insPos on s) z ot))) :
    SDInv F w (((((w4.setCell ⟨w.heap.size + 1 + 1 + 1, 0, none⟩ a0).setCell ⟨w.heap.size + 1 + 1 + 1, 1, none⟩ a1).setCell ⟨w.heap.size + 1 + 1 + 1, 2, none⟩ a2).setCell ⟨w.heap.size + 1 + 1 + 1, 3, none⟩ a3).setCell ⟨w.heap.size + 1 + 1 + 1, 4, none⟩ a4) [a0, a1, a2, a3, a4] (ins (insPos on s) s on) (ins (insPos on s) z ot) vo qo ro := by
  have hc := block_below h.cell hb
  have h5 := block_setCell (block_setCell (block_setCell (block_setCell (block_setCell hc 0 a0) 1 a1) 2 a2) 3 a3) 4 a4
  have hle : ∀ j, w.heap.size ≤ (⟨w.heap.size + 1 + 1 + 1, j, none⟩ : Addr).block := fun j => by show w.heap.size ≤ w.heap.size + 1 + 1 + 1; omega
  have hbel := ((((((below_then h.bel h.bel.size hb).setCell (hle 0) a0).setCell (hle 1) a1).setCell (hle 2) a2).setCell (hle 3) a3).setCell (hle 4) a4)
  have hA : ∀ G : Nat → Prop, (∀ c, G c → c ≠ w.heap.size + 1 + 1 + 1) → Agree G w4 (((((w4.setCell ⟨w.heap.size + 1 + 1 + 1, 0, none⟩ a0).setCell ⟨w.heap.size + 1 + 1 + 1, 1, none⟩ a1).setCell ⟨w.heap.size + 1 + 1 + 1, 2, none⟩ a2).setCell ⟨w.heap.size + 1 + 1 + 1, 3, none⟩ a3).setCell ⟨w.heap.size + 1 + 1 + 1, 4, none⟩ a4) :=
    fun G hG => (((((Agree.refl G w4).set hG 0 a0).set hG 1 a1).set hG 2 a2).set hG 3 a3).set hG 4 a4
  have hs4 := hb.size
  have hs := h.size
  have e := (hA (fun _ => False) (fun c h => h.elim)).size
  have keep : ∀ (b : Nat) (o : Obj), b ≠ w.heap.size + 1 + 1 + 1 → wx.heap[b]? = some o → _ := fun b o hne hk => block_agree (block_below hk hb) (hA (fun c => c ≠ w.heap.size + 1 + 1 + 1) (fun _ h => h)) hne
  refine ⟨?_, ht.frame (hA _ (fun c hc e => ?_)) (fun b hb' _ => ?_), h.ok.ins hf hso hzo, hbel, by omega, keep _ _ (by omega) h.vb, keep _ _ (by omega) h.qb, keep _ _ (by omega) h.rb⟩
  · rw [h5]
    obtain ⟨x0, x1, x2, x3, x4, e5⟩ := five_of ocs h.lt.length
    rw [e5]
    rfl
  · subst e
    rcases hc with ⟨hc | hc, _⟩ | hc <;> omega
  · rcases hb' with h | h
    · exact h.1
    · exact .inr (by omega)
end
set_option maxRecDepth 100000 in
set_option maxHeartbeats 16000000 in
theorem sDiff_any : ∀ v, SDSpec v := Tree.ind fun v ih hv hvc q F vc qc w hq hqc htv htq => by
  have HQ0 := Lib.hid htq
  have HV0 := Lib.hid htv
  obtain ⟨A1, c1, A2, c2, rs, rfl, g3, g4, r3, r4, hts⟩ := htv.open
  obtain ⟨A1', c1', A2', c2', rs', rfl, g3', g4', r3', r4', hts'⟩ := htq.open
  obtain ⟨w1, hw⟩ : ∃ w1, w1 = ((w.alloc (.cells #[.int .i64 v.kind, .int .i64 v.num, .string v.text, .slice A1 v.names.length c1, .slice A2 v.kids.length c2] 44 (0, 0))).alloc (.cells #[.int .i64 q.kind, .int .i64 q.num, .string q.text, .slice A1' q.names.length c1', .slice A2' q.kids.length c2'] 44 (0, 0))).alloc (.cells #[.int .i64 0, .int .i64 0, .string ⟨#[]⟩, .slice none 0 0, .slice none 0 0] 44 (0, 0)) := ⟨_, rfl⟩
  have hs1 : w1.heap.size = w.heap.size + 3 := by rw [hw]; simp
  have hb1 : Below w.heap.size w w1 := by rw [hw]; exact (((Below.refl _ _).alloc (Nat.le_refl _) _).alloc (by simp) _).alloc (by simp <;> omega) _
  have hkv : w1.heap[w.heap.size]? = some (.cells #[.int .i64 v.kind, .int .i64 v.num, .string v.text, .slice A1 v.names.length c1, .slice A2 v.kids.length c2] 44 (0, 0)) := by rw [hw]; (repeat (first | with_reducible assumption | (with_reducible refine blk_new _ ?_; (first | rfl | (simp; done) | (simp; omega))) | with_reducible apply block_setCell | (with_reducible refine blk_skip _ _ ?_ ?_; rotate_left; (first | (simp; done) | (simp; omega))) | with_reducible refine blk_old ?_))
  have hkq : w1.heap[w.heap.size + 1]? = some (.cells #[.int .i64 q.kind, .int .i64 q.num, .string q.text, .slice A1' q.names.length c1', .slice A2' q.kids.length c2'] 44 (0, 0)) := by rw [hw]; (repeat (first | with_reducible assumption | (with_reducible refine blk_new _ ?_; (first | rfl | (simp; done) | (simp; omega))) | with_reducible apply block_setCell | (with_reducible refine blk_skip _ _ ?_ ?_; rotate_left; (first | (simp; done) | (simp; omega))) | with_reducible refine blk_old ?_))
  have hkr : w1.heap[w.heap.size + 1 + 1]? = some (.cells #[.int .i64 0, .int .i64 0, .string ⟨#[]⟩, .slice none 0 0, .slice none 0 0] 44 (0, 0)) := by rw [hw]; (repeat (first | with_reducible assumption | (with_reducible refine blk_new _ ?_; (first | rfl | (simp; done) | (simp; omega))) | with_reducible apply block_setCell | (with_reducible refine blk_skip _ _ ?_ ?_; rotate_left; (first | (simp; done) | (simp; omega))) | with_reducible refine blk_old ?_))
  have HB1 := Lib.hid hb1
  have HKV := Lib.hid hkv
  have HKQ := Lib.hid hkq
  have HKR := Lib.hid hkr
  have HW := Lib.hid hw
  clear hw hb1 hkv hkq hkr
  have z0 := cell_of_block HKV.out 0
  have q0 := cell_of_block HKQ.out 0
  simp at z0 q0
  have HNEG := Lib.hid (fun (hd : Tree.diff v q = q) => show SDPost F v q w (.returned (.agg #[.int .i64 q.kind, .int .i64 q.num, .string q.text, .slice A1' q.names.length c1', .slice A2' q.kids.length c2'])) (((((w1.setCell ⟨w.heap.size + 1 + 1, 0, none⟩ (.int .i64 q.kind)).setCell ⟨w.heap.size + 1 + 1, 1, none⟩ (.int .i64 q.num)).setCell ⟨w.heap.size + 1 + 1, 2, none⟩ (.string q.text)).setCell ⟨w.heap.size + 1 + 1, 3, none⟩ (.slice A1' q.names.length c1')).setCell ⟨w.heap.size + 1 + 1, 4, none⟩ (.slice A2' q.kids.length c2')) from by
    have hB := below_set5 HB1.out (show w.heap.size ≤ w.heap.size + 1 + 1 by omega) (.int .i64 q.kind) (.int .i64 q.num) (.string q.text) (.slice A1' q.names.length c1') (.slice A2' q.kids.length c2')
    refine ⟨[.int .i64 q.kind, .int .i64 q.num, .string q.text, .slice A1' q.names.length c1', .slice A2' q.kids.length c2'], rfl, hB, ?_⟩
    rw [hd]
    exact HQ0.out.frame (Agree.of_below hB) (fun b h h' => .inl ⟨h, h'⟩))
  by_cases hk : v.kind = 7 ∧ q.kind = 7
  case neg =>
    have HD := Lib.hid (show Tree.diff v q = q by rw [Tree.diff_eq, if_neg hk])
    have q1 := cell_of_block HKQ.out 1
    have q2 := cell_of_block HKQ.out 2
    have q3 := cell_of_block HKQ.out 3
    have q4 := cell_of_block HKQ.out 4
    simp at q1 q2 q3 q4
    have f0 := free_of_block HKR.out 0
    have f1 := free_of_block HKR.out 1
    have f2 := free_of_block HKR.out 2
    have f3 := free_of_block HKR.out 3
    have f4 := free_of_block HKR.out 4
    have r0 := cell_of_block HKR.out 0
    have r1 := cell_of_block HKR.out 1
    have r2 := cell_of_block HKR.out 2
    have r3 := cell_of_block HKR.out 3
    have r4 := cell_of_block HKR.out 4
    simp at r0 r1 r2 r3 r4
    by_cases hvk : v.kind = 7
    · have hqb : (q.kind == 7) = false := by simpa using fun c => hk ⟨hvk, c⟩
      rw [hvk] at HW HKV z0 ⊢
      clear hk hvk
      go_enter Tryz.func36, Tryz.ntmps36
      go_upto_if 18 with fail
      rw [← HW.out]
      go_wp2
      refine bodyPost_ret (results_cell_row rfl _ _ (w.heap.size + 1 + 1) _ _ _ _ rfl (block_setCell (block_setCell (block_setCell (block_setCell (block_setCell HKR.out _ _) _ _) _ _) _ _) _ _) Tryz.underlying44 rfl ((info_size infoL1V).trans (by simp))) rfl ?_
      exact HNEG.out HD.out
    · have hvb : (v.kind != 7) = true := by simpa using hvk
      clear hk
      go_enter Tryz.func36, Tryz.ntmps36
      go_upto_if 18 with fail
      rw [← HW.out]
      go_wp2
      refine bodyPost_ret (results_cell_row rfl _ _ (w.heap.size + 1 + 1) _ _ _ _ rfl (block_setCell (block_setCell (block_setCell (block_setCell (block_setCell HKR.out _ _) _ _) _ _) _ _) _ _) Tryz.underlying44 rfl ((info_size infoL1V).trans (by simp))) rfl ?_
      exact HNEG.out HD.out
  obtain ⟨hvk, hqk⟩ := hk
  have hmv := Tree.ok_map hv hvk
  have hmq := Tree.ok_map hq hqk
  have hcv := v.count_eq
  have hcq := q.count_eq
  have hkv := Tree.kids_le_count v.kids
  have hkq := Tree.kids_le_count q.kids
  have hlv := hmv.len
  have hlq := hmq.len
  have hnv : v.names.length ≤ 80 := by omega
  have hnq : q.names.length ≤ 80 := by omega
  have hkv80 : v.kids.length ≤ 80 := by omega
  have hkq80 : q.kids.length ≤ 80 := by omega
  rw [hvk] at HW HKV z0 ⊢
  rw [hqk] at HW HKQ q0 ⊢
  have hb2 : Below w.heap.size w (w1.alloc (.cells #[.int .i64 7, .int .i64 0, .string ⟨#[]⟩, .slice none 0 0, .slice none 0 0] 44 (0, 0))) := HB1.out.alloc HB1.out.size _
  have HINV0 := Lib.hid (show SDInv F w (w1.alloc (.cells #[.int .i64 7, .int .i64 0, .string ⟨#[]⟩, .slice none 0 0, .slice none 0 0] 44 (0, 0))) [.int .i64 7, .int .i64 0, .string emptyB, .slice none ([] : List ByteArray).length 0, .slice none ([] : List Tree).length 0] [] [] (.cells #[.int .i64 7, .int .i64 v.num, .string v.text, .slice A1 v.names.length c1, .slice A2 v.kids.length c2] 44 (0, 0)) (.cells #[.int .i64 7, .int .i64 q.num, .string q.text, .slice A1' q.names.length c1', .slice A2' q.kids.length c2'] 44 (0, 0)) (.cells #[.int .i64 0, .int .i64 0, .string ⟨#[]⟩, .slice none 0 0, .slice none 0 0] 44 (0, 0)) from
    ⟨by have h := heap_alloc_new w1 (.cells #[.int .i64 7, .int .i64 0, .string ⟨#[]⟩, .slice none 0 0, .slice none 0 0] 44 (0, 0)); rw [hs1] at h; exact h, LtAt.empty2, MapOK.nil, hb2, by simp; omega, (block_below HKV.out ((Below.refl _ _).alloc (Nat.le_refl _) _)), (block_below HKQ.out ((Below.refl _ _).alloc (Nat.le_refl _) _)), (block_below HKR.out ((Below.refl _ _).alloc (Nat.le_refl _) _))⟩)
  have z3 := cell_of_block HINV0.out.vb 3
  simp at z3
  have HMV := Lib.hid hmv
  have HMQ := Lib.hid hmq
  have HVK := Lib.hid hvk
  have HQK := Lib.hid hqk
  have HL := Lib.hid (⟨hlv, hlq⟩ : v.names.length = v.kids.length ∧ q.names.length = q.kids.length)
  have HCV := Lib.hid (⟨hcv, hcq⟩ : v.count = 1 + Tree.countL v.kids ∧ q.count = 1 + Tree.countL q.kids)
  have HVO := Lib.hid (⟨hv, hvc⟩ : v.ok = true ∧ v.count ≤ 80)
  have HQO := Lib.hid (⟨hq, hqc⟩ : q.ok = true ∧ q.count ≤ 80)
  have HIH := Lib.hid ih
  have HR3 := Lib.hid r3
  have HR4 := Lib.hid r4
  have HTS := Lib.hid hts
  have HR3' := Lib.hid r3'
  have HR4' := Lib.hid r4'
  have HTS' := Lib.hid hts'
  clear hvk hqk hmv hmq hcv hcq hkv hkq hlv hlq hv hvc hq hqc ih r3 r4 hts r3' r4' hts' htv htq hb2
  go_enter Tryz.func36, Tryz.ntmps36
  go_upto_if 18 with fail
  rw [← HW.out]
  go_wp2
  generalize w1.alloc (.cells #[.int .i64 7, .int .i64 0, .string ⟨#[]⟩, .slice none 0 0, .slice none 0 0] 44 (0, 0)) = w2 at HINV0 z3 ⊢
  go_wp2
  go_loopw [24] (fun iv wx => ∃ (i : Nat) (ocs : List Value) (on : List ByteArray) (ot : List Tree), iv = .int .i64 (i : Int) ∧ i ≤ v.names.length ∧ Hid (SDInv F w wx ocs on ot (.cells #[.int .i64 7, .int .i64 v.num, .string v.text, .slice A1 v.names.length c1, .slice A2 v.kids.length c2] 44 (0, 0)) (.cells #[.int .i64 7, .int .i64 q.num, .string q.text, .slice A1' q.names.length c1', .slice A2' q.kids.length c2'] 44 (0, 0)) (.cells #[.int .i64 0, .int .i64 0, .string ⟨#[]⟩, .slice none 0 0, .slice none 0 0] 44 (0, 0)) ∧ D1 v q i on ot)) (fun iv _ => v.names.length - (intOf iv).toNat)
  case atStart => exact ⟨0, _, _, _, rfl, Nat.zero_le _, HINV0.out, D1.start v q⟩
  case round =>
    clear HINV0 z3 z0 q0
    obtain ⟨i, ocs, on, ot, rfl, hi, hinv⟩ := hrel
    have HI := Lib.hid (show SDInv F w wr ocs on ot (.cells #[.int .i64 7, .int .i64 v.num, .string v.text, .slice A1 v.names.length c1, .slice A2 v.kids.length c2] 44 (0, 0)) (.cells #[.int .i64 7, .int .i64 q.num, .string q.text, .slice A1' q.names.length c1', .slice A2' q.kids.length c2'] 44 (0, 0)) (.cells #[.int .i64 0, .int .i64 0, .string ⟨#[]⟩, .slice none 0 0, .slice none 0 0] 44 (0, 0)) from hinv.1)
    have HD := Lib.hid (show D1 v q i on ot from hinv.2)
    have hbx := HI.out.bel
    have hsz := HI.out.size
    have htl : ot.length ≤ 1000000 := by
      have h1 := HD.out.cnt
      have h2 := HVO.out.2
      have h3 := HCV.out.1
      have h4 := Tree.kids_le_count ot
      omega
    have HOL := Lib.hid htl
    have HQK7 := Lib.hid (fun W (hb : Below w.heap.size w W) => (show LtAt F W [.int .i64 7, .int .i64 q.num, .string q.text, .slice A1' q.names.length c1', .slice A2' q.kids.length c2'] q from by
      have h := HQ0.out.below hb
      rw [HQK.out] at h
      exact h))
    clear hinv htl
    by_cases hlt : i < v.names.length
    · obtain ⟨bn, on', s, rfl, hnl, n0w, hs, hsm⟩ := name_at HR3.out i hlt
      have hltk : i < v.kids.length := by have := HL.out.1; omega
      have n0 := (World.cell?_of_block (a := ⟨bn, on' + i, none⟩) (hbx.block bn hnl)).trans n0w
      have HS := Lib.hid hs
      have HSOK := Lib.hid (show strOK s = true by have := HMV.out.str; rw [List.all_eq_true] at this; exact this s hsm)
      have HNEW := Lib.hid (HD.out.fresh HMV.out.sorted hs)
      have HA := Lib.hid (sAt_any q HQK.out HMQ.out (by omega) F _ s wr (HQK7.out wr hbx))
      have q0 := cell_of_block HI.out.qb 0
      have q1 := cell_of_block HI.out.qb 1
      have q2 := cell_of_block HI.out.qb 2
      have q3 := cell_of_block HI.out.qb 3
      have q4 := cell_of_block HI.out.qb 4
      simp at q0 q1 q2 q3 q4
      clear hs hsm n0w hbx
      go_wp2_with fail
      refine HA.out.mono ?_
      rintro e w3 ⟨rfl, hb3⟩
      have HB3 := Lib.hid hb3
      have HI3 := Lib.hid (HI.out.below hb3)
      have hsz3 := HI3.out.size
      clear HA hb3 n0 q0 q1 q2 q3 q4
      obtain ⟨D1, e1, D2, e2, rsO, eO, _⟩ := HI3.out.lt.open
      obtain rfl : ocs = [.int .i64 7, .int .i64 0, .string emptyB, .slice D1 on.length e1, .slice D2 ot.length e2] := eO
      by_cases hf : q.names[insPos q.names s]? = some s
      case neg =>
        rw [show atP q.names s = -1 from by unfold atP; rw [if_neg hf]]
        have HF := Lib.hid hf
        clear hf
        have HDRW := Lib.hid (show Below w3.heap.size w3 w3.drew from (Below.refl _ _).drew)
        have HKEEP := Lib.hid (fun (W : World) (hk : W.heap[w.heap.size + 1 + 1 + 1]? = some (.cells [.int .i64 7, .int .i64 0, .string emptyB, .slice D1 on.length e1, .slice D2 ot.length e2].toArray 44 (0, 0))) => show W.cell? ⟨w.heap.size + 1 + 1 + 1, 0, none⟩ = some (.int .i64 7) ∧ W.cell? ⟨w.heap.size + 1 + 1 + 1, 1, none⟩ = some (.int .i64 0) ∧ W.cell? ⟨w.heap.size + 1 + 1 + 1, 2, none⟩ = some (.string emptyB) ∧ W.cell? ⟨w.heap.size + 1 + 1 + 1, 3, none⟩ = some (.slice D1 on.length e1) ∧ W.cell? ⟨w.heap.size + 1 + 1 + 1, 4, none⟩ = some (.slice D2 ot.length e2) from
          ⟨cell_of_block hk 0, cell_of_block hk 1, cell_of_block hk 2, cell_of_block hk 3, cell_of_block hk 4⟩)
        obtain ⟨x, hx⟩ : ∃ x, v.kids[i]? = some x := ⟨v.kids[i], by simp [hltk]⟩
        have HDN := Lib.hid (HD.out.null HS.out hx HF.out)
        have HPU := Lib.hid (fun (W : World) (zc : List Value) (hb : Below w3.heap.size w3 W) (hz : LtAt (Ny F w.heap.size) W zc nullT) => sPut_any (.mk 7 0 emptyB on ot) s nullT rfl HI.out.ok HNEW.out HOL.out (Ny F w.heap.size) _ zc W (HI3.out.lt.below hb) hz)
        clear hx
        go_wp2
        refine till_region 4 (fun W => W.cell? ⟨w.heap.size + 1 + 1 + 1, 0, none⟩ = some (.int .i64 7) ∧ W.cell? ⟨w.heap.size + 1 + 1 + 1, 1, none⟩ = some (.int .i64 0) ∧ W.cell? ⟨w.heap.size + 1 + 1 + 1, 2, none⟩ = some (.string emptyB) ∧ W.cell? ⟨w.heap.size + 1 + 1 + 1, 3, none⟩ = some (.slice D1 on.length e1) ∧ W.cell? ⟨w.heap.size + 1 + 1 + 1, 4, none⟩ = some (.slice D2 ot.length e2)) (by kernel_rfl) ?_ (fun hHeld => ?_)
        · exact HKEEP.out _ (block_below HI3.out.cell HDRW.out)
        (refine Till.load (i := 0) (u := ?_) rfl (by kernel_rfl) (by kernel_rfl) (by kernel_rfl) (by kernel_rfl) (by kernel_rfl) (fun _ _ _ h => h) (Or.inl ⟨by rfl, ?_⟩) hHeld ?_; rotate_left 1; (focus (intro w hSw; (try dsimp only at hSw); go_split_ands; go_simp; try (with_reducible rfl))); change Till _ _ _ _ _ _ _ _ (Act.put _ (some 35) _) _; simp only [Act.put, List.setIfInBounds_toArray, List.set_cons_zero, List.set_cons_succ])
        (refine Till.pure (i := 1) (u := ?_) rfl (by kernel_rfl) (by kernel_rfl) (by kernel_rfl) (by decide) (fun _ _ _ h => h) (Or.inl ⟨by rfl, ?_⟩) (fun _ => hHeld) ?_; rotate_left 1; (focus (intro w _; go_simp; try (with_reducible rfl))); change Till _ _ _ _ _ _ _ _ (Act.put _ (some 36) _) _; simp only [Act.put, List.setIfInBounds_toArray, List.set_cons_zero, List.set_cons_succ])
        (refine Till.one (i := 2) (by kernel_rfl) rfl (fun K hK => ?_))
        go_simp
        refine (sNull2_any _).mono ?_
        rintro e w4 ⟨rfl, hb4⟩
        have HB4 := Lib.hid (below_then HDRW.out (Nat.le_refl _) hb4)
        clear hb4
        go_simp
        refine hK.out _ _ (HKEEP.out _ (block_below HI3.out.cell HB4.out)) (fun hHeld => ?_)
        clear hK K
        (refine Till.one (i := 3) (by kernel_rfl) rfl (fun K hK => ?_))
        go_simp
        refine (HPU.out w4 _ HB4.out LtAt.null2).mono ?_
        rintro e w5 ⟨cs5, rfl, hb5, hz5⟩
        obtain ⟨G1, h1, G2, h2, rs5, e5, _⟩ := hz5.open
        obtain rfl : cs5 = [.int .i64 7, .int .i64 0, .string emptyB, .slice G1 (ins (insPos on s) s on).length h1, .slice G2 (ins (insPos on s) nullT ot).length h2] := e5
        have HB5 := Lib.hid (below_then HB4.out HB4.out.size hb5)
        have hN : w.heap.size + 4 ≤ w4.heap.size := by have := HB4.out.size; omega
        have HNEXT := Lib.hid (HI3.out.put HNEW.out HSOK.out null_ok HB5.out hN hz5)
        have HC5 := Lib.hid (block_below HI3.out.cell HB5.out)
        clear hb5 hz5
        go_simp
        refine hK.out _ _ (HKEEP.out _ HC5.out) (fun hHeld => ?_)
        clear hK K
        have p0 := cell_of_block HC5.out 0
        have p1 := cell_of_block HC5.out 1
        have p2 := cell_of_block HC5.out 2
        have p3 := cell_of_block HC5.out 3
        have p4 := cell_of_block HC5.out 4
        simp at p0 p1 p2 p3 p4
        have f0 := free_of_block HC5.out 0
        have f1 := free_of_block HC5.out 1
        have f2 := free_of_block HC5.out 2
        have f3 := free_of_block HC5.out 3
        have f4 := free_of_block HC5.out 4
        (refine Till.last (by kernel_rfl) rfl (by kernel_rfl) (fun K hK => ?_))
        go_simp
        refine hK.out _ _ ?_
        clear hK K
        refine wpAny_done (by kernel_rfl) ?_ _
        go_wp2
        go_roundw
        case rel => exact ⟨i + 1, _, _, _, by go_num, by omega, HNEXT.out, HDN.out⟩
        case measure => simp [intOf]; omega
      case pos =>
        rw [show atP q.names s = (insPos q.names s : Int) from by unfold atP; rw [if_pos hf]]
        have HF := Lib.hid hf
        have hqlt : insPos q.names s < q.kids.length := by
          have := (List.getElem?_eq_some_iff.1 hf).1
          have := HL.out.2
          omega
        obtain ⟨bk, ok, rk, x, K1, k1, K2, k2, rfl, hFk, hkl, hx, hxm, hrk, rfl, hxt, kk0, kk1, kk2, kk3, kk4⟩ := lt_at HR4.out HTS.out i hltk
        obtain ⟨k, hk⟩ : ∃ k, k = insPos q.names s := ⟨_, rfl⟩
        rw [← hk] at HF hqlt ⊢
        have HKP := Lib.hid hk
        obtain ⟨bl, ol, rl, y, L1, l1, L2, l2, rfl, hFl, hll, hy, hym, hrl, rfl, hyt, ll0, ll1, ll2, ll3, ll4⟩ := lt_at HR4'.out HTS'.out k hqlt
        have HX := Lib.hid hx
        have HXM := Lib.hid hxm
        have HY := Lib.hid hy
        have HXO := Lib.hid (show x.ok = true from (okL_iff v.kids).1 HMV.out.ok x hxm)
        have HYO := Lib.hid (show y.ok = true from (okL_iff q.kids).1 HMQ.out.ok y hym)
        have HXC := Lib.hid (show x.count ≤ 80 by have h1 := Tree.countL_mem v.kids x hxm; have h2 := HCV.out.1; have h3 := HVO.out.2; omega)
        have HYC := Lib.hid (show y.count ≤ 80 by have h1 := Tree.countL_mem q.kids y hym; have h2 := HCV.out.2; have h3 := HQO.out.2; omega)
        have HKX := Lib.hid (fun W (hb : Below w.heap.size w W) => show W.cell? ⟨bk, ok + i * 5, none⟩ = some (.int .i64 x.kind) ∧ W.cell? ⟨bk, ok + i * 5 + 1, none⟩ = some (.int .i64 x.num) ∧ W.cell? ⟨bk, ok + i * 5 + 2, none⟩ = some (.string x.text) ∧ W.cell? ⟨bk, ok + i * 5 + 3, none⟩ = some (.slice K1 x.names.length k1) ∧ W.cell? ⟨bk, ok + i * 5 + 4, none⟩ = some (.slice K2 x.kids.length k2) from
          ⟨(World.cell?_of_block (a := ⟨bk, ok + i * 5, none⟩) (hb.block bk hkl)).trans kk0, (World.cell?_of_block (a := ⟨bk, ok + i * 5 + 1, none⟩) (hb.block bk hkl)).trans kk1, (World.cell?_of_block (a := ⟨bk, ok + i * 5 + 2, none⟩) (hb.block bk hkl)).trans kk2, (World.cell?_of_block (a := ⟨bk, ok + i * 5 + 3, none⟩) (hb.block bk hkl)).trans kk3, (World.cell?_of_block (a := ⟨bk, ok + i * 5 + 4, none⟩) (hb.block bk hkl)).trans kk4⟩)
        have HKY := Lib.hid (fun W (hb : Below w.heap.size w W) => show W.cell? ⟨bl, ol + k * 5, none⟩ = some (.int .i64 y.kind) ∧ W.cell? ⟨bl, ol + k * 5 + 1, none⟩ = some (.int .i64 y.num) ∧ W.cell? ⟨bl, ol + k * 5 + 2, none⟩ = some (.string y.text) ∧ W.cell? ⟨bl, ol + k * 5 + 3, none⟩ = some (.slice L1 y.names.length l1) ∧ W.cell? ⟨bl, ol + k * 5 + 4, none⟩ = some (.slice L2 y.kids.length l2) from
          ⟨(World.cell?_of_block (a := ⟨bl, ol + k * 5, none⟩) (hb.block bl hll)).trans ll0, (World.cell?_of_block (a := ⟨bl, ol + k * 5 + 1, none⟩) (hb.block bl hll)).trans ll1, (World.cell?_of_block (a := ⟨bl, ol + k * 5 + 2, none⟩) (hb.block bl hll)).trans ll2, (World.cell?_of_block (a := ⟨bl, ol + k * 5 + 3, none⟩) (hb.block bl hll)).trans ll3, (World.cell?_of_block (a := ⟨bl, ol + k * 5 + 4, none⟩) (hb.block bl hll)).trans ll4⟩)
        have HXT := Lib.hid hxt
        have HYT := Lib.hid hyt
        have HCM := Lib.hid (fun W (hb : Below w.heap.size w W) => sCompare_any x HXO.out (by have := HXC.out; omega) y F F _ _ W HYO.out (by have := HYC.out; omega) (HXT.out.below hb) (HYT.out.below hb))
        have hkn : (0 : Int) ≤ (k : Int) := by omega
        have z4 := cell_of_block HI3.out.vb 4
        have q4 := cell_of_block HI3.out.qb 4
        simp at z4 q4
        obtain ⟨u0, u1, u2, u3, u4⟩ := HKX.out w3 HI3.out.bel
        obtain ⟨v0, v1, v2, v3, v4⟩ := HKY.out w3 HI3.out.bel
        clear hf hk hx hxm hrk hxt kk0 kk1 kk2 kk3 kk4 hy hym hrl hyt ll0 ll1 ll2 ll3 ll4
        go_wp2
        go_still_tail 10, (by kernel_rfl)
        have HDRW := Lib.hid (show Below w3.heap.size w3 w3.drew from (Below.refl _ _).drew)
        change wpList _ _ _ _ _ w3.drew
        generalize w3.drew = wd at HDRW ⊢
        have HBD := Lib.hid (below_then HI3.out.bel HI3.out.bel.size HDRW.out)
        go_wp2_with fail
        refine (HCM.out wd HBD.out).mono ?_
        rintro e w4 ⟨rfl, hb4⟩
        have HB34 := Lib.hid (below_then HDRW.out HDRW.out.size hb4)
        have HI4 := Lib.hid (HI3.out.below HB34.out)
        have hsz4 := HI4.out.size
        clear hb4 z4 q4 u0 u1 u2 u3 u4 v0 v1 v2 v3 v4 HDRW HBD HI3 HB34 HB3
        by_cases hc : Tree.cmp x y = 0
        · have HDN := Lib.hid (HD.out.same HS.out HX.out (by rw [← HKP.out]; exact HF.out) (by rw [← HKP.out]; exact HY.out) hc)
          rw [hc]
          clear hc
          go_wp2
          go_roundw
          case rel => exact ⟨i + 1, _, _, _, by go_num, by omega, HI4.out, HDN.out⟩
          case measure => simp [intOf]; omega
        · have HDN := Lib.hid (HD.out.differ HS.out HX.out (by rw [← HKP.out]; exact HF.out) (by rw [← HKP.out]; exact HY.out) hc HXO.out HYO.out HYC.out)
          have HZO := Lib.hid (diff_ok x y HXO.out HYO.out).1
          have hcb : (Tree.cmp x y == 0) = false := by simpa using hc
          have HDRW := Lib.hid (show Below w4.heap.size w4 w4.drew from (Below.refl _ _).drew)
          have HKEEP := Lib.hid (fun (W : World) (hb : Below w.heap.size w W) (ho : W.heap[w.heap.size + 1 + 1 + 1]? = some (.cells [.int .i64 7, .int .i64 0, .string emptyB, .slice D1 on.length e1, .slice D2 ot.length e2].toArray 44 (0, 0))) (hv' : W.heap[w.heap.size]? = some (.cells #[.int .i64 7, .int .i64 v.num, .string v.text, .slice (some ⟨bn, on', none⟩) v.names.length c1, .slice (some ⟨bk, ok, none⟩) v.kids.length c2] 44 (0, 0))) (hq' : W.heap[w.heap.size + 1]? = some (.cells #[.int .i64 7, .int .i64 q.num, .string q.text, .slice A1' q.names.length c1', .slice (some ⟨bl, ol, none⟩) q.kids.length c2'] 44 (0, 0))) => show W.cell? ⟨w.heap.size + 1 + 1 + 1, 0, none⟩ = some (.int .i64 7) ∧ W.cell? ⟨w.heap.size + 1 + 1 + 1, 1, none⟩ = some (.int .i64 0) ∧ W.cell? ⟨w.heap.size + 1 + 1 + 1, 2, none⟩ = some (.string emptyB) ∧ W.cell? ⟨w.heap.size + 1 + 1 + 1, 3, none⟩ = some (.slice D1 on.length e1) ∧ W.cell? ⟨w.heap.size + 1 + 1 + 1, 4, none⟩ = some (.slice D2 ot.length e2) ∧ W.cell? ⟨w.heap.size, 4, none⟩ = some (.slice (some ⟨bk, ok, none⟩) v.kids.length c2) ∧ W.cell? ⟨w.heap.size + 1, 4, none⟩ = some (.slice (some ⟨bl, ol, none⟩) q.kids.length c2') ∧ W.cell? ⟨bk, ok + i * 5, none⟩ = some (.int .i64 x.kind) ∧ W.cell? ⟨bk, ok + i * 5 + 1, none⟩ = some (.int .i64 x.num) ∧ W.cell? ⟨bk, ok + i * 5 + 2, none⟩ = some (.string x.text) ∧ W.cell? ⟨bk, ok + i * 5 + 3, none⟩ = some (.slice K1 x.names.length k1) ∧ W.cell? ⟨bk, ok + i * 5 + 4, none⟩ = some (.slice K2 x.kids.length k2) ∧ W.cell? ⟨bl, ol + k * 5, none⟩ = some (.int .i64 y.kind) ∧ W.cell? ⟨bl, ol + k * 5 + 1, none⟩ = some (.int .i64 y.num) ∧ W.cell? ⟨bl, ol + k * 5 + 2, none⟩ = some (.string y.text) ∧ W.cell? ⟨bl, ol + k * 5 + 3, none⟩ = some (.slice L1 y.names.length l1) ∧ W.cell? ⟨bl, ol + k * 5 + 4, none⟩ = some (.slice L2 y.kids.length l2) from
            ⟨cell_of_block ho 0, cell_of_block ho 1, cell_of_block ho 2, cell_of_block ho 3, cell_of_block ho 4, cell_of_block hv' 4, cell_of_block hq' 4, (HKX.out W hb).1, (HKX.out W hb).2.1, (HKX.out W hb).2.2.1, (HKX.out W hb).2.2.2.1, (HKX.out W hb).2.2.2.2, HKY.out W hb⟩)
          have HKI := Lib.hid (fun (W : World) (h : SDInv F w W [.int .i64 7, .int .i64 0, .string emptyB, .slice D1 on.length e1, .slice D2 ot.length e2] on ot (.cells #[.int .i64 7, .int .i64 v.num, .string v.text, .slice (some ⟨bn, on', none⟩) v.names.length c1, .slice (some ⟨bk, ok, none⟩) v.kids.length c2] 44 (0, 0)) (.cells #[.int .i64 7, .int .i64 q.num, .string q.text, .slice A1' q.names.length c1', .slice (some ⟨bl, ol, none⟩) q.kids.length c2'] 44 (0, 0)) (.cells #[.int .i64 0, .int .i64 0, .string ⟨#[]⟩, .slice none 0 0, .slice none 0 0] 44 (0, 0))) => HKEEP.out W h.bel h.cell h.vb h.qb)
          have HDF := Lib.hid (fun W (hb : Below w.heap.size w W) => HIH.out x HXM.out HXO.out HXC.out y (fun b => F b ∧ b < w.heap.size) _ _ W HYO.out HYC.out (HXT.out.frame (Agree.of_below hb) (fun b h h' => ⟨h, h'⟩)) (HYT.out.frame (Agree.of_below hb) (fun b h h' => ⟨h, h'⟩)))
          have HPU := Lib.hid (fun (W : World) (zc : List Value) (N : Nat) (hb : Below w4.heap.size w4 W) (hN : w.heap.size + 4 ≤ N) (hz : LtAt (Nw (fun b => F b ∧ b < w.heap.size) N) W zc (Tree.diff x y)) => sPut_any (.mk 7 0 emptyB on ot) s (Tree.diff x y) rfl HI.out.ok HNEW.out HOL.out (Ny F w.heap.size) _ zc W (HI4.out.lt.below hb) (hz.frame (Agree.refl _ _) (fun b h _ => by
            rcases h with h | h
            · exact .inl h.1
            · exact .inr (by omega))))
          clear hc
          go_wp2
          refine till_region 14 (fun W => W.cell? ⟨w.heap.size + 1 + 1 + 1, 0, none⟩ = some (.int .i64 7) ∧ W.cell? ⟨w.heap.size + 1 + 1 + 1, 1, none⟩ = some (.int .i64 0) ∧ W.cell? ⟨w.heap.size + 1 + 1 + 1, 2, none⟩ = some (.string emptyB) ∧ W.cell? ⟨w.heap.size + 1 + 1 + 1, 3, none⟩ = some (.slice D1 on.length e1) ∧ W.cell? ⟨w.heap.size + 1 + 1 + 1, 4, none⟩ = some (.slice D2 ot.length e2) ∧ W.cell? ⟨w.heap.size, 4, none⟩ = some (.slice (some ⟨bk, ok, none⟩) v.kids.length c2) ∧ W.cell? ⟨w.heap.size + 1, 4, none⟩ = some (.slice (some ⟨bl, ol, none⟩) q.kids.length c2') ∧ W.cell? ⟨bk, ok + i * 5, none⟩ = some (.int .i64 x.kind) ∧ W.cell? ⟨bk, ok + i * 5 + 1, none⟩ = some (.int .i64 x.num) ∧ W.cell? ⟨bk, ok + i * 5 + 2, none⟩ = some (.string x.text) ∧ W.cell? ⟨bk, ok + i * 5 + 3, none⟩ = some (.slice K1 x.names.length k1) ∧ W.cell? ⟨bk, ok + i * 5 + 4, none⟩ = some (.slice K2 x.kids.length k2) ∧ W.cell? ⟨bl, ol + k * 5, none⟩ = some (.int .i64 y.kind) ∧ W.cell? ⟨bl, ol + k * 5 + 1, none⟩ = some (.int .i64 y.num) ∧ W.cell? ⟨bl, ol + k * 5 + 2, none⟩ = some (.string y.text) ∧ W.cell? ⟨bl, ol + k * 5 + 3, none⟩ = some (.slice L1 y.names.length l1) ∧ W.cell? ⟨bl, ol + k * 5 + 4, none⟩ = some (.slice L2 y.kids.length l2)) (by kernel_rfl) ?_ (fun hHeld => ?_)
          · exact HKI.out _ (HI4.out.below HDRW.out)
          (refine Till.load (i := 0) (u := ?_) rfl (by kernel_rfl) (by kernel_rfl) (by kernel_rfl) (by kernel_rfl) (by kernel_rfl) (fun _ _ _ h => h) (Or.inl ⟨by rfl, ?_⟩) hHeld ?_; rotate_left 1; (focus (intro w hSw; (try dsimp only at hSw); go_split_ands; go_simp; try (with_reducible rfl))); change Till _ _ _ _ _ _ _ _ (Act.put _ (some 52) _) _; simp only [Act.put, List.setIfInBounds_toArray, List.set_cons_zero, List.set_cons_succ])
          (refine Till.pure (i := 1) (u := ?_) rfl (by kernel_rfl) (by kernel_rfl) (by kernel_rfl) (by decide) (fun _ _ _ h => h) (Or.inl ⟨by rfl, ?_⟩) (fun _ => hHeld) ?_; rotate_left 1; (focus (intro w _; go_simp; try (with_reducible rfl))); change Till _ _ _ _ _ _ _ _ (Act.put _ (some 53) _) _; simp only [Act.put, List.setIfInBounds_toArray, List.set_cons_zero, List.set_cons_succ])
          (refine Till.pure (i := 2) (u := ?_) rfl (by kernel_rfl) (by kernel_rfl) (by kernel_rfl) (by decide) (fun _ _ _ h => h) (Or.inl ⟨by rfl, ?_⟩) (fun _ => hHeld) ?_; rotate_left 1; (focus (intro w _; go_simp; try (with_reducible rfl))); change Till _ _ _ _ _ _ _ _ (Act.put _ (some 54) _) _; simp only [Act.put, List.setIfInBounds_toArray, List.set_cons_zero, List.set_cons_succ])
          (refine Till.load (i := 3) (u := ?_) rfl (by kernel_rfl) (by kernel_rfl) (by kernel_rfl) (by kernel_rfl) (by kernel_rfl) (fun _ _ _ h => h) (Or.inl ⟨by rfl, ?_⟩) hHeld ?_; rotate_left 1; (focus (intro w hSw; (try dsimp only at hSw); go_split_ands; go_simp; try (with_reducible rfl))); change Till _ _ _ _ _ _ _ _ (Act.put _ (some 55) _) _; simp only [Act.put, List.setIfInBounds_toArray, List.set_cons_zero, List.set_cons_succ])
          (refine Till.pure (i := 4) (u := ?_) rfl (by kernel_rfl) (by kernel_rfl) (by kernel_rfl) (by decide) (fun _ _ _ h => h) (Or.inl ⟨by rfl, ?_⟩) (fun _ => hHeld) ?_; rotate_left 1; (focus (intro w _; go_simp; try (with_reducible rfl))); change Till _ _ _ _ _ _ _ _ (Act.put _ (some 56) _) _; simp only [Act.put, List.setIfInBounds_toArray, List.set_cons_zero, List.set_cons_succ])
          (refine Till.pure (i := 5) (u := ?_) rfl (by kernel_rfl) (by kernel_rfl) (by kernel_rfl) (by decide) (fun _ _ _ h => h) (Or.inl ⟨by rfl, ?_⟩) (fun _ => hHeld) ?_; rotate_left 1; (focus (intro w _; go_simp; try (with_reducible rfl))); change Till _ _ _ _ _ _ _ _ (Act.put _ (some 57) _) _; simp only [Act.put, List.setIfInBounds_toArray, List.set_cons_zero, List.set_cons_succ])
          (refine Till.load (i := 6) (u := ?_) rfl (by kernel_rfl) (by kernel_rfl) (by kernel_rfl) (by kernel_rfl) (by kernel_rfl) (fun _ _ _ h => h) (Or.inl ⟨by rfl, ?_⟩) hHeld ?_; rotate_left 1; (focus (intro w hSw; (try dsimp only at hSw); go_split_ands; go_simp; try (with_reducible rfl))); change Till _ _ _ _ _ _ _ _ (Act.put _ (some 58) _) _; simp only [Act.put, List.setIfInBounds_toArray, List.set_cons_zero, List.set_cons_succ])
          (refine Till.pure (i := 7) (u := ?_) rfl (by kernel_rfl) (by kernel_rfl) (by kernel_rfl) (by decide) (fun _ _ _ h => h) (Or.inl ⟨by rfl, ?_⟩) (fun _ => hHeld) ?_; rotate_left 1; (focus (intro w _; go_simp; try (with_reducible rfl))); change Till _ _ _ _ _ _ _ _ (Act.put _ (some 59) _) _; simp only [Act.put, List.setIfInBounds_toArray, List.set_cons_zero, List.set_cons_succ])
          (refine Till.load (i := 8) (u := ?_) rfl (by kernel_rfl) (by kernel_rfl) (by kernel_rfl) (by kernel_rfl) (by kernel_rfl) (fun _ _ _ h => h) (Or.inl ⟨by rfl, ?_⟩) hHeld ?_; rotate_left 1; (focus (intro w hSw; (try dsimp only at hSw); go_split_ands; go_simp; try (with_reducible rfl))); change Till _ _ _ _ _ _ _ _ (Act.put _ (some 60) _) _; simp only [Act.put, List.setIfInBounds_toArray, List.set_cons_zero, List.set_cons_succ])
          (refine Till.pure (i := 9) (u := ?_) rfl (by kernel_rfl) (by kernel_rfl) (by kernel_rfl) (by decide) (fun _ _ _ h => h) (Or.inl ⟨by rfl, ?_⟩) (fun _ => hHeld) ?_; rotate_left 1; (focus (intro w _; go_simp; try (with_reducible rfl))); change Till _ _ _ _ _ _ _ _ (Act.put _ (some 61) _) _; simp only [Act.put, List.setIfInBounds_toArray, List.set_cons_zero, List.set_cons_succ])
          (refine Till.pure (i := 10) (u := ?_) rfl (by kernel_rfl) (by kernel_rfl) (by kernel_rfl) (by decide) (fun _ _ _ h => h) (Or.inl ⟨by rfl, ?_⟩) (fun _ => hHeld) ?_; rotate_left 1; (focus (intro w _; go_simp; try (with_reducible rfl))); change Till _ _ _ _ _ _ _ _ (Act.put _ (some 62) _) _; simp only [Act.put, List.setIfInBounds_toArray, List.set_cons_zero, List.set_cons_succ])
          (refine Till.load (i := 11) (u := ?_) rfl (by kernel_rfl) (by kernel_rfl) (by kernel_rfl) (by kernel_rfl) (by kernel_rfl) (fun _ _ _ h => h) (Or.inl ⟨by rfl, ?_⟩) hHeld ?_; rotate_left 1; (focus (intro w hSw; (try dsimp only at hSw); go_split_ands; go_simp; try (with_reducible rfl))); change Till _ _ _ _ _ _ _ _ (Act.put _ (some 63) _) _; simp only [Act.put, List.setIfInBounds_toArray, List.set_cons_zero, List.set_cons_succ])
          (refine Till.one (i := 12) (by kernel_rfl) rfl (fun K hK => ?_))
          go_simp
          refine (HDF.out _ (HI4.out.below HDRW.out).bel).mono ?_
          rintro e w5 ⟨cs5, rfl, hb5, hz5⟩
          obtain ⟨G1, h1, G2, h2, rs5, e5, _⟩ := hz5.open
          obtain rfl : cs5 = [.int .i64 (Tree.diff x y).kind, .int .i64 (Tree.diff x y).num, .string (Tree.diff x y).text, .slice G1 (Tree.diff x y).names.length h1, .slice G2 (Tree.diff x y).kids.length h2] := e5
          have HB5 := Lib.hid (below_then HDRW.out (Nat.le_refl _) hb5)
          have HP := Lib.hid (HPU.out w5 _ w4.drew.heap.size HB5.out hsz4 hz5)
          clear hb5 hz5
          go_simp
          refine hK.out _ _ (HKI.out _ (HI4.out.below HB5.out)) (fun hHeld => ?_)
          clear hK K
          (refine Till.one (i := 13) (by kernel_rfl) rfl (fun K hK => ?_))
          go_simp
          refine HP.out.mono ?_
          rintro e w6 ⟨cs6, rfl, hb6, hz6⟩
          obtain ⟨M1, m1, M2, m2, rs6, e6, _⟩ := hz6.open
          obtain rfl : cs6 = [.int .i64 7, .int .i64 0, .string emptyB, .slice M1 (ins (insPos on s) s on).length m1, .slice M2 (ins (insPos on s) (Tree.diff x y) ot).length m2] := e6
          have HB6 := Lib.hid (below_then HB5.out HB5.out.size hb6)
          have HNEXT := Lib.hid (HI4.out.put HNEW.out HSOK.out HZO.out HB6.out (Nat.le_trans hsz4 HB5.out.size) hz6)
          have HC6 := Lib.hid (block_below HI4.out.cell HB6.out)
          clear hb6 hz6
          go_simp
          refine hK.out _ _ (HKI.out _ (HI4.out.below HB6.out)) (fun hHeld => ?_)
          clear hK K
          have p0 := cell_of_block HC6.out 0
          have p1 := cell_of_block HC6.out 1
          have p2 := cell_of_block HC6.out 2
          have p3 := cell_of_block HC6.out 3
          have p4 := cell_of_block HC6.out 4
          simp at p0 p1 p2 p3 p4
          have f0 := free_of_block HC6.out 0
          have f1 := free_of_block HC6.out 1
          have f2 := free_of_block HC6.out 2
          have f3 := free_of_block HC6.out 3
          have f4 := free_of_block HC6.out 4
          (refine Till.last (by kernel_rfl) rfl (by kernel_rfl) (fun K hK => ?_))
          go_simp
          refine hK.out _ _ ?_
          clear hK K
          refine wpAny_done (by kernel_rfl) ?_ _
          go_wp2
          go_roundw
          case rel => exact ⟨i + 1, _, _, _, by go_num, by omega, HNEXT.out, HDN.out⟩
          case measure => simp [intOf]; omega
    · obtain rfl : i = v.names.length := by omega
      have HD2 := Lib.hid (HD.out.last HVK.out HQK.out (Nat.le_refl _))
      have q3 := cell_of_block HI.out.qb 3
      simp at q3
      clear hbx
      go_wp2
      go_loopw [70] (fun iv wx => ∃ (i : Nat) (ocs : List Value) (on : List ByteArray) (ot : List Tree), iv = .int .i64 (i : Int) ∧ i ≤ q.names.length ∧ Hid (SDInv F w wx ocs on ot (.cells #[.int .i64 7, .int .i64 v.num, .string v.text, .slice A1 v.names.length c1, .slice A2 v.kids.length c2] 44 (0, 0)) (.cells #[.int .i64 7, .int .i64 q.num, .string q.text, .slice A1' q.names.length c1', .slice A2' q.kids.length c2'] 44 (0, 0)) (.cells #[.int .i64 0, .int .i64 0, .string ⟨#[]⟩, .slice none 0 0, .slice none 0 0] 44 (0, 0)) ∧ D2 v q i on ot)) (fun iv _ => q.names.length - (intOf iv).toNat)
      case atStart => exact ⟨0, _, _, _, rfl, Nat.zero_le _, HI.out, HD2.out⟩
      case round =>
        clear HI HD HD2 q3 hsz hi
        obtain ⟨i, ocs, on, ot, rfl, hi, hinv⟩ := hrel
        have HI := Lib.hid (show SDInv F w wr ocs on ot (.cells #[.int .i64 7, .int .i64 v.num, .string v.text, .slice A1 v.names.length c1, .slice A2 v.kids.length c2] 44 (0, 0)) (.cells #[.int .i64 7, .int .i64 q.num, .string q.text, .slice A1' q.names.length c1', .slice A2' q.kids.length c2'] 44 (0, 0)) (.cells #[.int .i64 0, .int .i64 0, .string ⟨#[]⟩, .slice none 0 0, .slice none 0 0] 44 (0, 0)) from hinv.1)
        have HD := Lib.hid (show D2 v q i on ot from hinv.2)
        have hbx := HI.out.bel
        have hsz := HI.out.size
        have htl : ot.length ≤ 1000000 := by
          have h1 := HD.out.cnt
          have h2 := HVO.out.2
          have h3 := HCV.out
          have h4 := Tree.kids_le_count ot
          have h5 := HQO.out.2
          omega
        have HOL := Lib.hid htl
        have HVK7 := Lib.hid (fun W (hb : Below w.heap.size w W) => (show LtAt F W [.int .i64 7, .int .i64 v.num, .string v.text, .slice A1 v.names.length c1, .slice A2 v.kids.length c2] v from by
          have h := HV0.out.below hb
          rw [HVK.out] at h
          exact h))
        clear hinv htl
        by_cases hlt : i < q.names.length
        · obtain ⟨bn, on', s, rfl, hnl, n0w, hs, hsm⟩ := name_at HR3'.out i hlt
          have hltk : i < q.kids.length := by have := HL.out.2; omega
          have n0 := (World.cell?_of_block (a := ⟨bn, on' + i, none⟩) (hbx.block bn hnl)).trans n0w
          have HS := Lib.hid hs
          have HSOK := Lib.hid (show strOK s = true by have := HMQ.out.str; rw [List.all_eq_true] at this; exact this s hsm)
          have HA := Lib.hid (sAt_any v HVK.out HMV.out (by omega) F _ s wr (HVK7.out wr hbx))
          have z0 := cell_of_block HI.out.vb 0
          have z1 := cell_of_block HI.out.vb 1
          have z2 := cell_of_block HI.out.vb 2
          have z3 := cell_of_block HI.out.vb 3
          have z4 := cell_of_block HI.out.vb 4
          simp at z0 z1 z2 z3 z4
          clear hs hsm n0w hbx
          go_wp2_with fail
          refine HA.out.mono ?_
          rintro e w3 ⟨rfl, hb3⟩
          have HI3 := Lib.hid (HI.out.below hb3)
          have hsz3 := HI3.out.size
          clear HA hb3 n0 z0 z1 z2 z3 z4
          obtain ⟨bk, ok, rk, x, K1, k1, K2, k2, rfl, hFk, hkl, hx, hxm, hrk, rfl, hxt, kk0, kk1, kk2, kk3, kk4⟩ := lt_at HR4'.out HTS'.out i hltk
          have HX := Lib.hid hx
          have HXT := Lib.hid hxt
          have HXO := Lib.hid (show x.ok = true from (okL_iff q.kids).1 HMQ.out.ok x hxm)
          obtain ⟨D1, e1, D2, e2, rsO, eO, _⟩ := HI3.out.lt.open
          obtain rfl : ocs = [.int .i64 7, .int .i64 0, .string emptyB, .slice D1 on.length e1, .slice D2 ot.length e2] := eO
          by_cases hf : v.names[insPos v.names s]? = some s
          · rw [show atP v.names s = (insPos v.names s : Int) from by unfold atP; rw [if_pos hf]]
            have HDN := Lib.hid (HD.out.skip HS.out HX.out hf)
            have hkn : (0 : Int) ≤ (insPos v.names s : Int) := by omega
            clear hf hx hxm hrk hxt kk0 kk1 kk2 kk3 kk4
            go_wp2
            go_roundw
            case rel => exact ⟨i + 1, _, _, _, by go_num, by omega, HI3.out, HDN.out⟩
            case measure => simp [intOf]; omega
          · rw [show atP v.names s = -1 from by unfold atP; rw [if_neg hf]]
            have HNEW := Lib.hid (HD.out.fresh HMV.out.sorted HMQ.out.sorted HS.out hf)
            have HDN := Lib.hid (HD.out.add HS.out HX.out hf)
            have HDRW := Lib.hid (show Below w3.heap.size w3 w3.drew from (Below.refl _ _).drew)
            have HID := Lib.hid (HI3.out.below HDRW.out)
            have HPU := Lib.hid (sPut_any (.mk 7 0 emptyB on ot) s x rfl HI.out.ok HNEW.out HOL.out (Ny F w.heap.size) _ _ w3.drew HID.out.lt (HXT.out.frame (Agree.of_below HID.out.bel) (fun b h h' => .inl ⟨h, h'⟩)))
            have p0 := cell_of_block HI3.out.cell 0
            have p1 := cell_of_block HI3.out.cell 1
            have p2 := cell_of_block HI3.out.cell 2
            have p3 := cell_of_block HI3.out.cell 3
            have p4 := cell_of_block HI3.out.cell 4
            have q4 := cell_of_block HI3.out.qb 4
            simp at p0 p1 p2 p3 p4 q4
            have u0 := (World.cell?_of_block (a := ⟨bk, ok + i * 5, none⟩) (HI3.out.bel.block bk hkl)).trans kk0
            have u1 := (World.cell?_of_block (a := ⟨bk, ok + i * 5 + 1, none⟩) (HI3.out.bel.block bk hkl)).trans kk1
            have u2 := (World.cell?_of_block (a := ⟨bk, ok + i * 5 + 2, none⟩) (HI3.out.bel.block bk hkl)).trans kk2
            have u3 := (World.cell?_of_block (a := ⟨bk, ok + i * 5 + 3, none⟩) (HI3.out.bel.block bk hkl)).trans kk3
            have u4 := (World.cell?_of_block (a := ⟨bk, ok + i * 5 + 4, none⟩) (HI3.out.bel.block bk hkl)).trans kk4
            clear hf hx hxm hrk hxt kk0 kk1 kk2 kk3 kk4
            go_wp2
            go_still_tail 7, (by kernel_rfl)
            change wpList _ _ _ _ _ w3.drew
            generalize w3.drew = wd at HPU HID HDRW ⊢
            go_wp2_with fail
            refine HPU.out.mono ?_
            rintro e w4 ⟨cs4, rfl, hb4, hz4⟩
            obtain ⟨G1, h1, G2, h2, rs4, e4, _⟩ := hz4.open
            obtain rfl : cs4 = [.int .i64 7, .int .i64 0, .string emptyB, .slice G1 (ins (insPos on s) s on).length h1, .slice G2 (ins (insPos on s) x ot).length h2] := e4
            have HNEXT := Lib.hid (HID.out.put HNEW.out HSOK.out HXO.out hb4 HID.out.size hz4)
            have HC4 := Lib.hid (block_below HID.out.cell hb4)
            clear hb4 hz4 p0 p1 p2 p3 p4 q4 u0 u1 u2 u3 u4 HPU
            have p0 := cell_of_block HC4.out 0
            have p1 := cell_of_block HC4.out 1
            have p2 := cell_of_block HC4.out 2
            have p3 := cell_of_block HC4.out 3
            have p4 := cell_of_block HC4.out 4
            simp at p0 p1 p2 p3 p4
            have f0 := free_of_block HC4.out 0
            have f1 := free_of_block HC4.out 1
            have f2 := free_of_block HC4.out 2
            have f3 := free_of_block HC4.out 3
            have f4 := free_of_block HC4.out 4
            go_wp2
            go_roundw
            case rel => exact ⟨i + 1, _, _, _, by go_num, by omega, HNEXT.out, HDN.out⟩
            case measure => simp [intOf]; omega
        · obtain rfl : i = q.names.length := by omega
          have HE := Lib.hid (HD.out.done (Nat.le_refl _))
          obtain ⟨D1, e1, D2, e2, rsO, eO, _⟩ := HI.out.lt.open
          obtain rfl : ocs = [.int .i64 7, .int .i64 0, .string emptyB, .slice D1 on.length e1, .slice D2 ot.length e2] := eO
          have p0 := cell_of_block HI.out.cell 0
          have p1 := cell_of_block HI.out.cell 1
          have p2 := cell_of_block HI.out.cell 2
          have p3 := cell_of_block HI.out.cell 3
          have p4 := cell_of_block HI.out.cell 4
          have r0 := cell_of_block HI.out.rb 0
          have r1 := cell_of_block HI.out.rb 1
          have r2 := cell_of_block HI.out.rb 2
          have r3 := cell_of_block HI.out.rb 3
          have r4 := cell_of_block HI.out.rb 4
          have f0 := free_of_block HI.out.rb 0
          have f1 := free_of_block HI.out.rb 1
          have f2 := free_of_block HI.out.rb 2
          have f3 := free_of_block HI.out.rb 3
          have f4 := free_of_block HI.out.rb 4
          simp at p0 p1 p2 p3 p4 r0 r1 r2 r3 r4
          clear hbx
          go_wp2
          refine bodyPost_ret (results_cell_row rfl _ _ (w.heap.size + 1 + 1) _ _ _ _ rfl (block_setCell (block_setCell (block_setCell (block_setCell (block_setCell HI.out.rb _ _) _ _) _ _) _ _) _ _) Tryz.underlying44 rfl ((info_size infoL1V).trans (by simp))) rfl ?_
          have hB := below_set5 HI.out.bel (show w.heap.size ≤ w.heap.size + 1 + 1 by omega) (.int .i64 7) (.int .i64 0) (.string emptyB) (.slice D1 on.length e1) (.slice D2 ot.length e2)
          refine ⟨[.int .i64 7, .int .i64 0, .string emptyB, .slice D1 on.length e1, .slice D2 ot.length e2], rfl, hB, ?_⟩
          rw [HE.out]
          have hne : ∀ c, Ny F w.heap.size c → c ≠ w.heap.size + 1 + 1 := fun c h => by
            rcases h with h | h <;> omega
          refine HI.out.lt.frame ((((((Agree.refl _ wr).set hne 0 _).set hne 1 _).set hne 2 _).set hne 3 _).set hne 4 _) (fun b h _ => ?_)
          rcases h with h | h
          · exact .inl h
          · exact .inr (by omega)
end Go.Proofs.YteeppdobeeodiaaGreatDoor
