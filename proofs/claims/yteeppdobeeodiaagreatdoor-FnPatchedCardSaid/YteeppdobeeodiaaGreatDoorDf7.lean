/- cmp.Compare at numbers and texts, cmp.Or at three numbers: what they tell. (*val).compare and same: what the program compares is what the plain words say. A region that draws its order and at its end stores into cells that it has loaded before: loads are taken first under a condition on the memory that holds till the first of those stores. (*val).diff: what the program makes of two values is what the plain words say. (*val).clean: what the program cleans is what the plain words say. (*val).clean: the walk. The program's DiffOf. -/
import Derived.Test.YteeppdobeeodiaaGreatDoorDf1
import Derived.Test.YteeppdobeeodiaaGreatDoorJn10
import Derived.Deep.RegionHeld
import Derived.Test.YteeppdobeeodiaaGreatDoorHk
import Derived.Deep.RegionHeld3
namespace Go.Proofs.YteeppdobeeodiaaGreatDoor
open Go.RowKit
theorem isNaNI_any (x : Int) (w : World) : Calls Tryz.prog 112 #[.int .i64 x] w fun e w' => e = .returned (.bool false) ∧ w = w' := by
  go_enter Tryz.func112, Tryz.ntmps112
  go_wp2
  go_ret
  exact ⟨by simp, rfl⟩
theorem cmpI_any (a b : Int) (w : World) : Calls Tryz.prog 91 #[.int .i64 a, .int .i64 b] w fun e w' => e = .returned (.int .i64 (cmpI a b)) ∧ w' = w := by
  go_enter Tryz.func91, Tryz.ntmps91
  by_cases h : a < b
  · have e : cmpI a b = -1 := by unfold cmpI; rw [if_pos h]
    go_wp2_with (go_at_call 112; refine (isNaNI_any _ _).mono ?_; rintro e w' ⟨rfl, rfl⟩)
    go_ret
    exact ⟨by rw [e]; rfl, rfl⟩
  · by_cases h' : b < a
    · have e : cmpI a b = 1 := by unfold cmpI; rw [if_neg h, if_pos h']
      go_wp2_with (go_at_call 112; refine (isNaNI_any _ _).mono ?_; rintro e w' ⟨rfl, rfl⟩)
      go_ret
      exact ⟨by rw [e]; rfl, rfl⟩
    · have e : cmpI a b = 0 := by unfold cmpI; rw [if_neg h, if_neg h']
      go_wp2_with (go_at_call 112; refine (isNaNI_any _ _).mono ?_; rintro e w' ⟨rfl, rfl⟩)
      go_ret
      exact ⟨by rw [e]; rfl, rfl⟩
theorem cmpS_any (a b : ByteArray) (w : World) : Calls Tryz.prog 92 #[.string a, .string b] w fun e w' => e = .returned (.int .i64 (cmpS a b)) ∧ w' = w := by
  go_enter Tryz.func92, Tryz.ntmps92
  cases h : ltS a b
  · have hb : Op.bytesLess a.toList b.toList = false := h
    by_cases h' : a = b
    · have e : cmpS a b = 0 := cmpS_zero.2 h'
      have hb' : (a.toList == b.toList) = true := by rw [h']; simp
      clear h h'
      go_wp2_with (go_at_call 113; refine (isNaN_any _ _).mono ?_; rintro e w' ⟨rfl, rfl⟩)
      go_ret
      exact ⟨by rw [e]; rfl, rfl⟩
    · have e : cmpS a b = 1 := by
        unfold cmpS
        rw [h]
        rcases ltS_total a b with c | c | c
        · rw [h] at c; cases c
        · exact absurd c h'
        · rw [c]; simp
      have hb' : (a.toList == b.toList) = false := by
        rw [beq_eq_false_iff_ne]
        exact fun c => h' (ba_eq c)
      clear h h'
      go_wp2_with (go_at_call 113; refine (isNaN_any _ _).mono ?_; rintro e w' ⟨rfl, rfl⟩)
      go_ret
      exact ⟨by rw [e]; rfl, rfl⟩
  · have hb : Op.bytesLess a.toList b.toList = true := h
    have e : cmpS a b = -1 := by unfold cmpS; rw [h]; simp
    clear h
    go_wp2_with (go_at_call 113; refine (isNaN_any _ _).mono ?_; rintro e w' ⟨rfl, rfl⟩)
    go_ret
    exact ⟨by rw [e]; rfl, rfl⟩
def or3 (a b c : Int) : Int := if a ≠ 0 then a else if b ≠ 0 then b else c
def OrZ (a b c : Int) (n : Nat) : Prop := (0 < n → a = 0) ∧ (1 < n → b = 0) ∧ (2 < n → c = 0)
theorem or3_any (a b c : Int) (g : Nat) (w : World) (hk : w.heap[g]? = some (.cells #[.int .i64 a, .int .i64 b, .int .i64 c] 3 (0, 0))) :
    Calls Tryz.prog 90 #[.slice (some ⟨g, 0, none⟩) 3 3] w fun e w' => e = .returned (.int .i64 (or3 a b c)) ∧ w = w' := by
  have k0 := cell_of_block hk 0
  have k1 := cell_of_block hk 1
  have k2 := cell_of_block hk 2
  simp at k0 k1 k2
  clear hk
  go_enter Tryz.func90, Tryz.ntmps90
  go_wp2
  go_loopw [8] (fun i wx => ∃ n : Nat, i = .int .i64 (n : Int) ∧ n ≤ 3 ∧ w = wx ∧ OrZ a b c n) (fun i _ => 3 - (intOf i).toNat)
  case atStart => exact ⟨0, rfl, by omega, rfl, ⟨fun h => by omega, fun h => by omega, fun h => by omega⟩⟩
  case round =>
    obtain ⟨n, rfl, hn, rfl, hz⟩ := hrel
    have HZ := Lib.hid (show (0 < n → a = 0) ∧ (1 < n → b = 0) ∧ (2 < n → c = 0) from hz)
    clear hz
    rcases (show n = 0 ∨ n = 1 ∨ n = 2 ∨ n = 3 by omega) with rfl | rfl | rfl | rfl
    · by_cases h : a = 0
      · subst h
        go_wp2
        go_roundw
        case rel => exact ⟨1, rfl, by omega, trivial, ⟨fun _ => rfl, fun h => by omega, fun h => by omega⟩⟩
        case measure => simp [intOf]
      · have HH := Lib.hid h
        have hd : (a == 0) = false := by simpa using h
        go_wp2
        go_ret
        exact ⟨by unfold or3; rw [if_pos HH.out]; rfl, rfl⟩
    · by_cases h : b = 0
      · subst h
        go_wp2
        go_roundw
        case rel => exact ⟨2, rfl, by omega, trivial, ⟨fun _ => HZ.out.1 (by omega), fun _ => rfl, fun h => by omega⟩⟩
        case measure => simp [intOf]
      · have HH := Lib.hid h
        have hd : (b == 0) = false := by simpa using h
        go_wp2
        go_ret
        exact ⟨by unfold or3; rw [if_neg (by simp [HZ.out.1]), if_pos HH.out]; rfl, rfl⟩
    · by_cases h : c = 0
      · subst h
        go_wp2
        go_roundw
        case rel => exact ⟨3, rfl, by omega, trivial, ⟨fun _ => HZ.out.1 (by omega), fun _ => HZ.out.2.1 (by omega), fun _ => rfl⟩⟩
        case measure => simp [intOf]
      · have HH := Lib.hid h
        have hd : (c == 0) = false := by simpa using h
        go_wp2
        go_ret
        exact ⟨by unfold or3; rw [if_neg (by simp [HZ.out.1]), if_neg (by simp [HZ.out.2.1])]; rfl, rfl⟩
    · go_wp2
      go_ret
      exact ⟨by unfold or3; rw [if_neg (by simp [HZ.out.1]), if_neg (by simp [HZ.out.2.1]), HZ.out.2.2 (by omega)]; rfl, rfl⟩
theorem or3_cmp (x y : Tree) : Tree.cmp x y = if or3 (cmpI x.kind y.kind) (cmpI x.num y.num) (cmpS x.text y.text) ≠ 0 then or3 (cmpI x.kind y.kind) (cmpI x.num y.num) (cmpS x.text y.text) else Tree.cmpL (x.kind == 7) x.names x.kids y.names y.kids := by
  rw [Tree.cmp_eq]
  unfold or3
  by_cases h1 : cmpI x.kind y.kind = 0
  · by_cases h2 : cmpI x.num y.num = 0
    · simp [h1, h2]
    · simp [h1, h2]
  · simp [h1]
theorem cmpL_step {map : Bool} {ns ms : List ByteArray} {ks ls : List Tree} {i : Nat} {x y : Tree} (hx : ks[i]? = some x) (hy : ls[i]? = some y) :
    Tree.cmpL map (ns.drop i) (ks.drop i) (ms.drop i) (ls.drop i) = if map = true ∧ cmpS ((ns.drop i).headD emptyB) ((ms.drop i).headD emptyB) ≠ 0 then cmpS ((ns.drop i).headD emptyB) ((ms.drop i).headD emptyB) else if Tree.cmp x y ≠ 0 then Tree.cmp x y else Tree.cmpL map (ns.drop (i + 1)) (ks.drop (i + 1)) (ms.drop (i + 1)) (ls.drop (i + 1)) := by
  obtain ⟨h1, e1⟩ := List.getElem?_eq_some_iff.1 hx
  obtain ⟨h2, e2⟩ := List.getElem?_eq_some_iff.1 hy
  rw [List.drop_eq_getElem_cons h1, List.drop_eq_getElem_cons h2, e1, e2, Tree.cmpL, List.tail_drop, List.tail_drop]
theorem cmpL_end {map : Bool} {ns ms : List ByteArray} {ks ls : List Tree} {i : Nat} (h : i = min ks.length ls.length) :
    Tree.cmpL map (ns.drop i) (ks.drop i) (ms.drop i) (ls.drop i) = cmpI ks.length ls.length := by
  by_cases h1 : ks.length ≤ i
  · rw [List.drop_eq_nil_of_le h1]
    by_cases h2 : ls.length ≤ i
    · rw [List.drop_eq_nil_of_le h2, Tree.cmpL, cmpI_zero.2 (by omega)]
    · obtain ⟨y, r, e⟩ : ∃ y r, ls.drop i = y :: r := by
        rw [List.drop_eq_getElem_cons (by omega)]
        exact ⟨_, _, rfl⟩
      rw [e, Tree.cmpL]
      unfold cmpI
      rw [if_pos (by omega)]
  · obtain ⟨x, r, e⟩ : ∃ y r, ks.drop i = y :: r := by
      rw [List.drop_eq_getElem_cons (by omega)]
      exact ⟨_, _, rfl⟩
    rw [e, List.drop_eq_nil_of_le (by omega : ls.length ≤ i), Tree.cmpL]
    unfold cmpI
    rw [if_neg (by omega), if_pos (by omega)]
end Go.Proofs.YteeppdobeeodiaaGreatDoor
namespace Go.Proofs.YteeppdobeeodiaaGreatDoor
open Go.RowKit
def CmpPost (x y : Tree) (w : World) (e : Ending) (w' : World) : Prop := e = .returned (.int .i64 (Tree.cmp x y)) ∧ Below w.heap.size w w'
def CmpSpec (x : Tree) : Prop := x.ok = true → x.count ≤ 1000000 → ∀ (y : Tree) (F G : Nat → Prop) (xv yv : Value) (w : World), y.ok = true → y.count ≤ 1000000 → TreeAt F w xv x → TreeAt G w yv y → Calls Tryz.prog 55 #[xv, yv] w (CmpPost x y w)
theorem Tree.ok_kids {t : Tree} (h : t.ok = true) : Tree.okL t.kids = true := by
  cases t
  simp [Tree.ok] at h
  exact h.2
theorem headD_drop {α : Type} {l : List α} {i : Nat} {x d : α} (h : l[i]? = some x) : (l.drop i).headD d = x := by
  obtain ⟨h1, e1⟩ := List.getElem?_eq_some_iff.1 h
  rw [List.drop_eq_getElem_cons h1, e1]
  rfl
set_option maxRecDepth 100000 in
set_option maxHeartbeats 8000000 in
theorem compare_any : ∀ x, CmpSpec x := Tree.ind fun x ih hx hxc y F G xv yv w hy hyc htx hty => by
  obtain ⟨b, A1, c1, A2, c2, ps, rfl, hF, hbl, h0, h1, h2, h3, g3, r3, h4, g4, r4, hts⟩ := htx.open
  obtain ⟨b', A1', c1', A2', c2', ps', rfl, hF', hbl', h0', h1', h2', h3', g3', r3', h4', g4', r4', hts'⟩ := hty.open
  have hcx := x.count_eq
  have hcy := y.count_eq
  have hkx := Tree.kids_le_count x.kids
  have hky := Tree.kids_le_count y.kids
  have hlx : x.kids.length ≤ 1000000 := by omega
  have hly : y.kids.length ≤ 1000000 := by omega
  have HR3 := Lib.hid r3
  have HR4 := Lib.hid r4
  have HTS := Lib.hid hts
  have HR3' := Lib.hid r3'
  have HR4' := Lib.hid r4'
  have HTS' := Lib.hid hts'
  have HIH := Lib.hid ih
  have HX := Lib.hid (⟨hx, hxc⟩ : x.ok = true ∧ x.count ≤ 1000000)
  have HY := Lib.hid (⟨hy, hyc⟩ : y.ok = true ∧ y.count ≤ 1000000)
  have HDR := Lib.hid (show Below w.heap.size w w.drew from (Below.refl _ _).drew)
  have HCELL := Lib.hid (fun W (hb : Below w.heap.size w W) (j : Nat) => (⟨World.cell?_of_block (a := ⟨b, j, none⟩) (hb.block b hbl), World.cell?_of_block (a := ⟨b', j, none⟩) (hb.block b' hbl')⟩ : W.cell? ⟨b, j, none⟩ = w.cell? ⟨b, j, none⟩ ∧ W.cell? ⟨b', j, none⟩ = w.cell? ⟨b', j, none⟩))
  clear r3 r4 hts r3' r4' hts' ih hx hxc hy hyc htx hty hcx hcy hkx hky
  go_enter Tryz.func55, Tryz.ntmps55
  go_wp2
  go_still_tail 27, (by kernel_rfl)
  still_call (cmpI_any _ _ _)
  repeat still_step
  still_call (cmpI_any _ _ _)
  repeat still_step
  still_call (cmpS_any _ _ _)
  refine wpStill_nil ?_
  change wpList _ _ _ _ _ w.drew
  have HOR := Lib.hid (or3_any (cmpI x.kind y.kind) (cmpI x.num y.num) (cmpS x.text y.text) w.drew.heap.size (w.drew.alloc (.cells #[.int .i64 (cmpI x.kind y.kind), .int .i64 (cmpI x.num y.num), .int .i64 (cmpS x.text y.text)] 3 (0, 0))) (heap_alloc_new _ _))
  generalize w.drew = wd at HDR HOR ⊢
  have HB1 := Lib.hid (HDR.out.alloc (o := .cells #[.int .i64 (cmpI x.kind y.kind), .int .i64 (cmpI x.num y.num), .int .i64 (cmpS x.text y.text)] 3 (0, 0)) HDR.out.size)
  go_wp2_with fail
  refine HOR.out.mono ?_
  rintro e w' ⟨rfl, rfl⟩
  clear HOR HDR
  generalize wd.alloc (.cells #[.int .i64 (cmpI x.kind y.kind), .int .i64 (cmpI x.num y.num), .int .i64 (cmpS x.text y.text)] 3 (0, 0)) = w1 at HB1 ⊢
  obtain ⟨o, ho⟩ : ∃ o, o = or3 (cmpI x.kind y.kind) (cmpI x.num y.num) (cmpS x.text y.text) := ⟨_, rfl⟩
  rw [← ho]
  have HO := Lib.hid ho
  clear ho
  by_cases hoz : o = 0
  case neg =>
    have HZ := Lib.hid hoz
    have hd : (o == 0) = false := by simpa using hoz
    clear hoz
    go_wp2
    go_ret
    exact ⟨by rw [or3_cmp, ← HO.out, if_pos HZ.out]; rfl, HB1.out⟩
  subst hoz
  have hkk : x.kind = y.kind := by
    have h := HO.out
    unfold or3 at h
    by_cases c : cmpI x.kind y.kind = 0
    · exact cmpI_zero.1 c
    · rw [if_pos c] at h
      exact absurd h.symm c
  have HCMP := Lib.hid (show Tree.cmp x y = Tree.cmpL (x.kind == 7) x.names x.kids y.names y.kids from by rw [or3_cmp, ← HO.out, if_neg (by simp)])
  have z4 := (HCELL.out w1 HB1.out 4).1.trans h4
  have y4 := (HCELL.out w1 HB1.out 4).2.trans h4'
  have HKK := Lib.hid hkk
  clear hkk HO
  go_wp2
  go_region
  obtain ⟨m, hm⟩ : ∃ m, m = min x.kids.length y.kids.length := ⟨_, rfl⟩
  rw [show min (x.kids.length : Int) (y.kids.length : Int) = (m : Int) by omega]
  have HM := Lib.hid hm
  have HB2 := Lib.hid HB1.out.drew
  generalize w1.drew = w2 at HB2 ⊢
  clear hm z4 y4
  go_wp2
  go_loopw [52] (fun iv wx => ∃ i : Nat, iv = .int .i64 (i : Int) ∧ i ≤ m ∧ Hid (Below w.heap.size w wx ∧ Tree.cmp x y = Tree.cmpL (x.kind == 7) (x.names.drop i) (x.kids.drop i) (y.names.drop i) (y.kids.drop i))) (fun iv _ => m - (intOf iv).toNat)
  case atStart => exact ⟨0, rfl, Nat.zero_le _, HB2.out, HCMP.out⟩
  case round =>
    clear HB1 HB2
    obtain ⟨i, rfl, hi, hinv⟩ := hrel
    have HI := Lib.hid (show Below w.heap.size w wr ∧ Tree.cmp x y = Tree.cmpL (x.kind == 7) (x.names.drop i) (x.kids.drop i) (y.names.drop i) (y.kids.drop i) from hinv)
    have hbx := HI.out.1
    have HBX := Lib.hid hbx
    have hsz := hbx.size
    clear hinv
    have hmx := HM.out
    by_cases hlt : i < m
    · obtain ⟨bk, ok, xp, xk, rfl, hkl, k0w, hxtw, hxk, hxm⟩ := kid_at2 HR4.out HTS.out i (by omega)
      obtain ⟨bl, ol, yp, yk, rfl, hll, l0w, hytw, hyk, hym⟩ := kid_at2 HR4'.out HTS'.out i (by omega)
      have HXK := Lib.hid hxk
      have HYK := Lib.hid hyk
      have HCX := Lib.hid (Tree.countL_mem x.kids xk hxm)
      have HCY := Lib.hid (Tree.countL_mem y.kids yk hym)
      have HEX := Lib.hid x.count_eq
      have HEY := Lib.hid y.count_eq
      have HXKO := Lib.hid (show xk.ok = true from (okL_iff x.kids).1 (Tree.ok_kids HX.out.1) xk hxm)
      have HYKO := Lib.hid (show yk.ok = true from (okL_iff y.kids).1 (Tree.ok_kids HY.out.1) yk hym)
      have hltx : i < x.kids.length := by omega
      have hlty : i < y.kids.length := by omega
      have HREC := Lib.hid (fun W (hb : Below w.heap.size w W) => HIH.out xk hxm HXKO.out (by have h1 := HX.out.2; have h2 := HEX.out; have h3 := HCX.out; omega) yk _ _ _ _ W HYKO.out (by have h1 := HY.out.2; have h2 := HEY.out; have h3 := HCY.out; omega) (hxtw.below hb) (hytw.below hb))
      have HK0 := Lib.hid (fun W (hb : Below w.heap.size w W) => (World.cell?_of_block (a := ⟨bk, ok + i, none⟩) (hb.block bk hkl)).trans k0w)
      have HL0 := Lib.hid (fun W (hb : Below w.heap.size w W) => (World.cell?_of_block (a := ⟨bl, ol + i, none⟩) (hb.block bl hll)).trans l0w)
      have z0 := (HCELL.out wr hbx 0).1.trans h0
      clear k0w l0w hxtw hytw hxk hyk hxm hym hmx
      by_cases h7 : x.kind = 7
      · have hmp := Tree.ok_map HX.out.1 h7
        have hmq := Tree.ok_map HY.out.1 (show y.kind = 7 by rw [← HKK.out]; exact h7)
        have hlen1 := hmp.len
        have hlen2 := hmq.len
        obtain ⟨bn, on, s, rfl, hnl, n0w, hs, _⟩ := name_at HR3.out i (by omega)
        obtain ⟨bo, oo, u, rfl, hol, o0w, hu, _⟩ := name_at HR3'.out i (by omega)
        have hn1 : i < x.names.length := by omega
        have hn2 : i < y.names.length := by omega
        have n0 := (World.cell?_of_block (a := ⟨bn, on + i, none⟩) (hbx.block bn hnl)).trans n0w
        have o0 := (World.cell?_of_block (a := ⟨bo, oo + i, none⟩) (hbx.block bo hol)).trans o0w
        have z3 := (HCELL.out wr hbx 3).1.trans h3
        have y3 := (HCELL.out wr hbx 3).2.trans h3'
        have hxl : x.names.length ≤ 1000000 := by omega
        have hyl : y.names.length ≤ 1000000 := by omega
        have HST := Lib.hid (cmpL_step (map := x.kind == 7) (ns := x.names) (ms := y.names) HXK.out HYK.out)
        rw [headD_drop hs, headD_drop hu] at HST
        have HSE := Lib.hid (HI.out.2.trans HST.out)
        have h7b : (x.kind == 7) = true := by simpa using h7
        have H7B := Lib.hid h7b
        rw [h7] at z0
        clear hmp hmq hs hu HST n0w o0w h7
        go_wp2
        go_still_tail 14, (by kernel_rfl)
        have HBD := Lib.hid HBX.out.drew
        change wpList _ _ _ _ _ wr.drew
        generalize wr.drew = wd at HBD ⊢
        go_wp2_with fail
        refine (cmpS_any _ _ _).mono ?_
        rintro e w' ⟨rfl, rfl⟩
        by_cases hc : cmpS s u = 0
        case neg =>
          have HC := Lib.hid hc
          have hcb : (cmpS s u == 0) = false := by simpa using hc
          clear hc
          go_wp2
          go_ret
          exact ⟨by rw [HSE.out, if_pos ⟨H7B.out, HC.out⟩]; rfl, HBD.out⟩
        have HC := Lib.hid hc
        rw [hc]
        clear hc z0 z3 y3 n0 o0
        have HS2 := Lib.hid (HSE.out.trans (if_neg (fun c => c.2 HC.out)))
        clear HSE HC
        have z4 := (HCELL.out _ HBD.out 4).1.trans h4
        have y4 := (HCELL.out _ HBD.out 4).2.trans h4'
        have k0 := HK0.out _ HBD.out
        have l0 := HL0.out _ HBD.out
        go_wp2
        go_still_tail 14, (by kernel_rfl)
        have HBE := Lib.hid HBD.out.drew
        change wpList _ _ _ _ _ w'.drew
        generalize w'.drew = we at HBE ⊢
        go_wp2_with fail
        refine (HREC.out we HBE.out).mono ?_
        rintro e w5 ⟨rfl, hb5⟩
        have HB5 := Lib.hid (below_then HBE.out HBE.out.size hb5)
        clear hb5 z4 y4 k0 l0
        by_cases hr : Tree.cmp xk yk = 0
        case neg =>
          have HC := Lib.hid hr
          have hcb : (Tree.cmp xk yk == 0) = false := by simpa using hr
          clear hr
          go_wp2
          go_ret
          exact ⟨by rw [HS2.out, if_pos HC.out]; rfl, HB5.out⟩
        have HC := Lib.hid hr
        rw [hr]
        clear hr
        go_wp2
        go_roundw
        case rel => exact ⟨i + 1, by go_num, by omega, HB5.out, by rw [HS2.out, if_neg (by simp [HC.out])]⟩
        case measure => simp [intOf]; omega
      · have h7b : (x.kind == 7) = false := by simpa using h7
        have HS2 := Lib.hid (HI.out.2.trans ((cmpL_step (map := x.kind == 7) (ns := x.names) (ms := y.names) HXK.out HYK.out).trans (if_neg (fun c => by rw [h7b] at c; exact absurd c.1 (by decide)))))
        have HBD := HBX
        have z4 := (HCELL.out _ HBD.out 4).1.trans h4
        have y4 := (HCELL.out _ HBD.out 4).2.trans h4'
        have k0 := HK0.out _ HBD.out
        have l0 := HL0.out _ HBD.out
        go_wp2
        clear h7 h7b z0
        go_still_tail 14, (by kernel_rfl)
        have HBE := Lib.hid HBD.out.drew
        change wpList _ _ _ _ _ wr.drew
        generalize wr.drew = we at HBE ⊢
        go_wp2_with fail
        refine (HREC.out we HBE.out).mono ?_
        rintro e w5 ⟨rfl, hb5⟩
        have HB5 := Lib.hid (below_then HBE.out HBE.out.size hb5)
        clear hb5 z4 y4 k0 l0
        by_cases hr : Tree.cmp xk yk = 0
        case neg =>
          have HC := Lib.hid hr
          have hcb : (Tree.cmp xk yk == 0) = false := by simpa using hr
          clear hr
          go_wp2
          go_ret
          exact ⟨by rw [HS2.out, if_pos HC.out]; rfl, HB5.out⟩
        have HC := Lib.hid hr
        rw [hr]
        clear hr
        go_wp2
        go_roundw
        case rel => exact ⟨i + 1, by go_num, by omega, HB5.out, by rw [HS2.out, if_neg (by simp [HC.out])]⟩
        case measure => simp [intOf]; omega
    · obtain rfl : i = m := by omega
      have z4 := (HCELL.out wr hbx 4).1.trans h4
      have y4 := (HCELL.out wr hbx 4).2.trans h4'
      have HFIN := Lib.hid (HI.out.2.trans (cmpL_end HM.out))
      clear hbx
      go_wp2
      go_still_tail 10, (by kernel_rfl)
      have HBE := Lib.hid HBX.out.drew
      change wpList _ _ _ _ _ wr.drew
      generalize wr.drew = we at HBE ⊢
      go_wp2_with fail
      refine (cmpI_any _ _ _).mono ?_
      rintro e w' ⟨rfl, rfl⟩
      go_wp2
      go_ret
      exact ⟨by rw [HFIN.out]; rfl, HBE.out⟩
theorem same_any (x y : Tree) (F G : Nat → Prop) (xv yv : Value) (w : World) (hx : x.ok = true) (hxc : x.count ≤ 1000000) (hy : y.ok = true) (hyc : y.count ≤ 1000000) (htx : TreeAt F w xv x) (hty : TreeAt G w yv y) :
    Calls Tryz.prog 30 #[xv, yv] w fun e w' => e = .returned (.bool (decide (Tree.cmp x y = 0))) ∧ Below w.heap.size w w' := by
  have HC := Lib.hid (compare_any x hx hxc y F G xv yv w hy hyc htx hty)
  clear hx hxc hy hyc htx hty
  go_enter Tryz.func30, Tryz.ntmps30
  go_wp2_with fail
  refine HC.out.mono ?_
  rintro e w2 ⟨rfl, hb⟩
  have HB := Lib.hid hb
  clear hb
  by_cases h : Tree.cmp x y = 0
  · have HE := Lib.hid h
    rw [h]
    clear h
    go_wp2
    go_ret
    exact ⟨by rw [decide_eq_true HE.out]; rfl, HB.out⟩
  · have HE := Lib.hid h
    have hb : (Tree.cmp x y == 0) = false := by simpa using h
    clear h
    go_wp2
    go_ret
    exact ⟨by rw [decide_eq_false HE.out]; rfl, HB.out⟩
end Go.Proofs.YteeppdobeeodiaaGreatDoor
namespace Go.Proofs.YteeppdobeeodiaaGreatDoor
open Go.RowKit
/-- A map of the call's own, in the making. -/
structure OuInv (F : Nat → Prop) (w wx : World) (g : Nat) (A : Option Addr) (c : Nat) (ps : List Value) (on : List ByteArray) (ot : List Tree) : Prop where
  made : Made w.heap.size wx g 7 0 emptyB on A c ps
  trees : TreesAt (Fk F w.heap.size A) wx ps ot
  ok : MapOK on ot
  bel : Below w.heap.size w wx
section
variable {F : Nat → Prop} {w wx w3 w4 : World} {g g4 : Nat} {A A4 : Option Addr} {c c4 : Nat} {ps ps4 : List Value} {on : List ByteArray} {ot : List Tree} {s : ByteArray} {z : Tree}
theorem OuInv.below (h : OuInv F w wx g A c ps on ot) (hb : Below wx.heap.size wx w4) : OuInv F w w4 g A c ps on ot :=
  ⟨h.made.below hb, h.trees.below hb, h.ok, below_then h.bel h.bel.size hb⟩
theorem OuInv.put (h : OuInv F w wx g A c ps on ot) (hf : on[insPos on s]? ≠ some s) (hso : strOK s = true) (hzo : z.ok = true) (hb : Below wx.heap.size wx w4)
    (hm : Made wx.heap.size w4 g4 7 0 emptyB (ins (insPos on s) s on) A4 c4 ps4) (ht : TreesAt (fun b => Fg F w.heap.size b ∧ b < wx.heap.size) w4 ps4 (ins (insPos on s) z ot)) :
    OuInv F w w4 g4 A4 c4 ps4 (ins (insPos on s) s on) (ins (insPos on s) z ot) := by
  have hsz := h.bel.size
  have hr := hm.row
  exact ⟨hm.weaken hsz, ht.frame (Agree.refl _ _) (fun b hb _ => fk_of_new hsz (fun a ha => (hr a ha).1) b hb), h.ok.ins hf hso hzo, below_then h.bel hsz hb⟩
theorem OuInv.tree (h : OuInv F w wx g A c ps on ot) : TreeAt (Fg F w.heap.size) wx (.pointer (some ⟨g, 0, none⟩)) (.mk 7 0 emptyB on ot) := h.made.tree h.trees
end
theorem OuInv.start {F : Nat → Prop} {w w1 : World} (hb : Below w.heap.size w w1) (hk : w1.heap[w.heap.size]? = some (.cells #[.int .i64 7, .int .i64 0, .string ⟨#[]⟩, .slice none 0 0, .slice none 0 0] 69 (0, 0))) : OuInv F w w1 w.heap.size none 0 [] [] [] :=
  ⟨⟨none, 0, Nat.le_refl _, hk, Nat.le_refl _, Nat.le_refl _, World.ownsRow_nil _ _ _ _, World.ownsRow_nil _ _ _ _⟩, by simp [TreesAt], MapOK.nil, hb⟩
/-- What the first loop of diff keeps. -/
structure D1 (v q : Tree) (i : Nat) (on : List ByteArray) (ot : List Tree) : Prop where
  eq : Tree.diffL q.names q.kids v.names v.kids [] [] = Tree.diffL q.names q.kids (v.names.drop i) (v.kids.drop i) on ot
  new : ∀ s ∈ on, s ∈ v.names.take i
  cnt : Tree.countL ot + Tree.countL (v.kids.drop i) * 81 ≤ Tree.countL v.kids * 81
theorem D1.start (v q : Tree) : D1 v q 0 [] [] := ⟨rfl, fun s h => (by cases h), by simp [Tree.countL]⟩
theorem sorted_fresh {ns : List ByteArray} (hs : sortedB ns = true) {i : Nat} {s : ByteArray} (h : ns[i]? = some s) : s ∉ ns.take i := by
  intro hm
  obtain ⟨j, hj, e⟩ := List.getElem_of_mem hm
  have hj' : j < i := by
    simp at hj
    omega
  have e' : ns[j]? = some s := by
    rw [List.getElem_take] at e
    have : j < ns.length := by simp at hj; omega
    rw [List.getElem?_eq_getElem this, e]
  have := sortedB_lt hs j i s s hj' e' h
  rw [ltS_irrefl] at this
  cases this
section
variable {v q : Tree} {i : Nat} {on : List ByteArray} {ot : List Tree} {s : ByteArray} {x y z : Tree}
theorem D1.fresh (h : D1 v q i on ot) (hs : sortedB v.names = true) (hn : v.names[i]? = some s) : on[insPos on s]? ≠ some s :=
  fun e => sorted_fresh hs hn (h.new s (List.mem_of_getElem? e))
theorem D1.step (h : D1 v q i on ot) (hn : v.names[i]? = some s) (hx : v.kids[i]? = some x) (hc : z.count ≤ x.count * 81)
    (he : Tree.diffL q.names q.kids (v.names.drop i) (v.kids.drop i) on ot = Tree.diffL q.names q.kids (v.names.drop (i + 1)) (v.kids.drop (i + 1)) (ins (insPos on s) s on) (ins (insPos on s) z ot)) :
    D1 v q (i + 1) (ins (insPos on s) s on) (ins (insPos on s) z ot) := by
  refine ⟨h.eq.trans he, fun u hu => ?_, ?_⟩
  · obtain ⟨h1, e1⟩ := List.getElem?_eq_some_iff.1 hn
    rw [List.take_add_one, hn]
    rcases mem_ins hu with rfl | hu
    · simp
    · exact List.mem_append_left _ (h.new u hu)
  · have h1 := h.cnt
    rw [countL_drop hx, Nat.add_mul] at h1
    rw [countL_ins]
    omega
theorem D1.null (h : D1 v q i on ot) (hn : v.names[i]? = some s) (hx : v.kids[i]? = some x) (hf : ¬ q.names[insPos q.names s]? = some s) : D1 v q (i + 1) (ins (insPos on s) s on) (ins (insPos on s) nullT ot) := by
  refine h.step hn hx ?_ (by rw [diff_step hn hx, if_neg hf])
  have := x.count_eq
  have := null_count
  omega
theorem D1.same (h : D1 v q i on ot) (hn : v.names[i]? = some s) (hx : v.kids[i]? = some x) (hf : q.names[insPos q.names s]? = some s) (hy : q.kids[insPos q.names s]? = some y) (hc : Tree.cmp x y = 0) : D1 v q (i + 1) on ot := by
  refine ⟨by rw [h.eq, diff_step hn hx, if_pos hf, hy]; simp only; rw [if_pos hc], fun u hu => ?_, ?_⟩
  · rw [List.take_add_one]
    exact List.mem_append_left _ (h.new u hu)
  · have h1 := h.cnt
    rw [countL_drop hx, Nat.add_mul] at h1
    omega
theorem D1.differ (h : D1 v q i on ot) (hn : v.names[i]? = some s) (hx : v.kids[i]? = some x) (hf : q.names[insPos q.names s]? = some s) (hy : q.kids[insPos q.names s]? = some y) (hc : ¬ Tree.cmp x y = 0) (hxo : x.ok = true) (hyo : y.ok = true) (hyc : y.count ≤ 80) :
    D1 v q (i + 1) (ins (insPos on s) s on) (ins (insPos on s) (Tree.diff x y) ot) := by
  refine h.step hn hx (Nat.le_trans (diff_ok x y hxo hyo).2 (Nat.mul_le_mul_left _ (by omega))) ?_
  rw [diff_step hn hx, if_pos hf, hy]
  simp only
  rw [if_neg hc]
end
/-- What the second loop of diff keeps. -/
structure D2 (v q : Tree) (i : Nat) (on : List ByteArray) (ot : List Tree) : Prop where
  eq : Tree.diff v q = .mk 7 0 emptyB (Tree.addL v.names (q.names.drop i) (q.kids.drop i) on ot).1 (Tree.addL v.names (q.names.drop i) (q.kids.drop i) on ot).2
  new : ∀ s ∈ on, s ∈ v.names ∨ s ∈ q.names.take i
  cnt : Tree.countL ot + Tree.countL (q.kids.drop i) ≤ Tree.countL v.kids * 81 + Tree.countL q.kids
section
variable {v q : Tree} {i : Nat} {on : List ByteArray} {ot : List Tree} {s : ByteArray} {x : Tree}
theorem D1.last (h : D1 v q i on ot) (hv : v.kind = 7) (hq : q.kind = 7) (hi : v.names.length ≤ i) : D2 v q 0 on ot := by
  have e := h.eq
  rw [diff_end hi] at e
  refine ⟨by rw [Tree.diff_eq, if_pos ⟨hv, hq⟩, e]; rfl, fun s hs => .inl (List.mem_of_mem_take (h.new s hs)), ?_⟩
  have := h.cnt
  rw [List.drop_zero]
  omega
theorem D2.fresh (h : D2 v q i on ot) (hvs : sortedB v.names = true) (hqs : sortedB q.names = true) (hn : q.names[i]? = some s) (hf : ¬ v.names[insPos v.names s]? = some s) : on[insPos on s]? ≠ some s := by
  intro e
  rcases h.new s (List.mem_of_getElem? e) with c | c
  · exact hf ((found_iff hvs).2 c)
  · exact sorted_fresh hqs hn c
theorem D2.skip (h : D2 v q i on ot) (hn : q.names[i]? = some s) (hx : q.kids[i]? = some x) (hf : v.names[insPos v.names s]? = some s) : D2 v q (i + 1) on ot := by
  refine ⟨by rw [h.eq, add_step hn hx, if_pos hf], fun u hu => ?_, ?_⟩
  · rcases h.new u hu with c | c
    · exact .inl c
    · rw [List.take_add_one]
      exact .inr (List.mem_append_left _ c)
  · have h1 := h.cnt
    rw [countL_drop hx] at h1
    omega
theorem D2.add (h : D2 v q i on ot) (hn : q.names[i]? = some s) (hx : q.kids[i]? = some x) (hf : ¬ v.names[insPos v.names s]? = some s) : D2 v q (i + 1) (ins (insPos on s) s on) (ins (insPos on s) x ot) := by
  refine ⟨by rw [h.eq, add_step hn hx, if_neg hf], fun u hu => ?_, ?_⟩
  · rw [List.take_add_one, hn]
    rcases mem_ins hu with rfl | hu
    · exact .inr (by simp)
    · rcases h.new u hu with c | c
      · exact .inl c
      · exact .inr (List.mem_append_left _ c)
  · have h1 := h.cnt
    rw [countL_drop hx] at h1
    rw [countL_ins]
    omega
theorem D2.done (h : D2 v q i on ot) (hi : q.names.length ≤ i) : Tree.diff v q = .mk 7 0 emptyB on ot := by
  rw [h.eq, add_end hi]
end
def DiffPost (F : Nat → Prop) (v q : Tree) (w : World) (e : Ending) (w' : World) : Prop :=
  ∃ rv, e = .returned rv ∧ Below w.heap.size w w' ∧ TreeAt (Fg F w.heap.size) w' rv (Tree.diff v q)
def DiffSpec (v : Tree) : Prop := v.ok = true → v.count ≤ 80 → ∀ (q : Tree) (F : Nat → Prop) (vv qv : Value) (w : World), q.ok = true → q.count ≤ 80 → TreeAt F w vv v → TreeAt F w qv q → Calls Tryz.prog 35 #[vv, qv] w (DiffPost F v q w)
set_option maxRecDepth 100000 in
set_option maxHeartbeats 8000000 in
theorem diff_any : ∀ v, DiffSpec v := Tree.ind fun v ih hv hvc q F vv qv w hq hqc htv htq => by
  have HV0 := Lib.hid htv
  have HQ0 := Lib.hid htq
  obtain ⟨b, A1, c1, A2, c2, ps, rfl, hF, hbl, h0, h1, h2, h3, g3, r3, h4, g4, r4, hts⟩ := htv.open
  obtain ⟨b', A1', c1', A2', c2', ps', rfl, hF', hbl', h0', h1', h2', h3', g3', r3', h4', g4', r4', hts'⟩ := htq.open
  by_cases hk : v.kind = 7 ∧ q.kind = 7
  case neg =>
    have hd : Tree.diff v q = q := by rw [Tree.diff_eq, if_neg hk]
    have HD := Lib.hid hd
    by_cases hvk : v.kind = 7
    · have hqb : (q.kind == 7) = false := by simpa using fun c => hk ⟨hvk, c⟩
      rw [hvk] at h0
      clear hd hk hvk
      go_enter Tryz.func35, Tryz.ntmps35
      go_wp2
      go_ret
      exact ⟨_, rfl, Below.refl _ _, by rw [HD.out]; exact HQ0.out.frame (Agree.refl _ _) (fun b h h' => .inl ⟨h, h'⟩)⟩
    · have hvb : (v.kind == 7) = false := by simpa using hvk
      clear hd hk hvk
      go_enter Tryz.func35, Tryz.ntmps35
      go_wp2
      go_ret
      exact ⟨_, rfl, Below.refl _ _, by rw [HD.out]; exact HQ0.out.frame (Agree.refl _ _) (fun b h h' => .inl ⟨h, h'⟩)⟩
  obtain ⟨hvk, hqk⟩ := hk
  have hmv := Tree.ok_map hv hvk
  have hmq := Tree.ok_map hq hqk
  have hcv := v.count_eq
  have hcq := q.count_eq
  have hkv := Tree.kids_le_count v.kids
  have hkq := Tree.kids_le_count q.kids
  have hlv := hmv.len
  have hlq := hmq.len
  have hnv : v.names.length ≤ 80 := by omega
  have hnq : q.names.length ≤ 80 := by omega
  have hb1 : Below w.heap.size w (w.alloc (.cells #[.int .i64 7, .int .i64 0, .string ⟨#[]⟩, .slice none 0 0, .slice none 0 0] 69 (0, 0))) := (Below.refl _ _).alloc (Nat.le_refl _) _
  have k1 := heap_alloc_new w (.cells #[.int .i64 7, .int .i64 0, .string ⟨#[]⟩, .slice none 0 0, .slice none 0 0] 69 (0, 0))
  have HCELL := Lib.hid (fun W (hb : Below w.heap.size w W) (j : Nat) => (⟨World.cell?_of_block (a := ⟨b, j, none⟩) (hb.block b hbl), World.cell?_of_block (a := ⟨b', j, none⟩) (hb.block b' hbl')⟩ : W.cell? ⟨b, j, none⟩ = w.cell? ⟨b, j, none⟩ ∧ W.cell? ⟨b', j, none⟩ = w.cell? ⟨b', j, none⟩))
  have z3 := (HCELL.out _ hb1 3).1.trans h3
  rw [hvk] at h0
  rw [hqk] at h0'
  have HB1 := Lib.hid hb1
  have HINV0 := Lib.hid (OuInv.start (F := F) hb1 k1)
  have HMV := Lib.hid hmv
  have HMQ := Lib.hid hmq
  have HVK := Lib.hid hvk
  have HQK := Lib.hid hqk
  have HL := Lib.hid (⟨hlv, hlq⟩ : v.names.length = v.kids.length ∧ q.names.length = q.kids.length)
  have HCV := Lib.hid (⟨hcv, hcq⟩ : v.count = 1 + Tree.countL v.kids ∧ q.count = 1 + Tree.countL q.kids)
  have HVO := Lib.hid (⟨hv, hvc⟩ : v.ok = true ∧ v.count ≤ 80)
  have HQO := Lib.hid (⟨hq, hqc⟩ : q.ok = true ∧ q.count ≤ 80)
  have HIH := Lib.hid ih
  have HR3 := Lib.hid r3
  have HR4 := Lib.hid r4
  have HTS := Lib.hid hts
  have HR3' := Lib.hid r3'
  have HR4' := Lib.hid r4'
  have HTS' := Lib.hid hts'
  clear hvk hqk hmv hmq hcv hcq hkv hkq hlv hlq hv hvc hq hqc ih r3 r4 hts r3' r4' hts' hb1 k1 htv htq
  go_enter Tryz.func35, Tryz.ntmps35
  go_wp2
  generalize w.alloc (.cells #[.int .i64 7, .int .i64 0, .string ⟨#[]⟩, .slice none 0 0, .slice none 0 0] 69 (0, 0)) = w1 at HINV0 HB1 z3 ⊢
  go_loopw [5, 34] (fun ov iv wx => ∃ (i g : Nat) (A : Option Addr) (c : Nat) (ps : List Value) (on : List ByteArray) (ot : List Tree), ov = .pointer (some ⟨g, 0, none⟩) ∧ iv = .int .i64 (i : Int) ∧ i ≤ v.names.length ∧ Hid (OuInv F w wx g A c ps on ot ∧ D1 v q i on ot)) (fun _ iv _ => v.names.length - (intOf iv).toNat)
  case atStart => exact ⟨0, _, _, _, _, _, _, rfl, rfl, Nat.zero_le _, HINV0.out, D1.start v q⟩
  case round =>
    clear HINV0 HB1 z3
    obtain ⟨i, g, A, c, ps, on, ot, rfl, rfl, hi, hinv⟩ := hrel
    have HI := Lib.hid (show OuInv F w wr g A c ps on ot from hinv.1)
    have HD := Lib.hid (show D1 v q i on ot from hinv.2)
    have hbx := HI.out.bel
    have HBX := Lib.hid hbx
    have hsz := hbx.size
    have HTREE := Lib.hid HI.out.tree
    have hol : on.length ≤ 1000000 := by
      have h1 := HD.out.cnt
      have h2 := HVO.out.2
      have h3 := HCV.out.1
      have h4 := Tree.kids_le_count ot
      have h5 := HI.out.ok.len
      omega
    have HOL := Lib.hid hol
    clear hinv hol
    by_cases hlt : i < v.names.length
    · obtain ⟨bn, on', s, rfl, hnl, n0w, hs, hsm⟩ := name_at HR3.out i hlt
      obtain ⟨bk, ok, xp, x, rfl, hkl, k0w, hxtw, hx, hxm⟩ := kid_at2 HR4.out HTS.out i (by have := HL.out.1; omega)
      have n0 := (World.cell?_of_block (a := ⟨bn, on' + i, none⟩) (hbx.block bn hnl)).trans n0w
      have HS := Lib.hid hs
      have HX := Lib.hid hx
      have HXM := Lib.hid hxm
      have HXT := Lib.hid hxtw
      have HK0 := Lib.hid (fun W (hb : Below w.heap.size w W) => (World.cell?_of_block (a := ⟨bk, ok + i, none⟩) (hb.block bk hkl)).trans k0w)
      have HSOK := Lib.hid (show strOK s = true by have := HMV.out.str; rw [List.all_eq_true] at this; exact this s hsm)
      have HXO := Lib.hid (show x.ok = true from (okL_iff v.kids).1 HMV.out.ok x hxm)
      have HXC := Lib.hid (show x.count ≤ 80 by have h1 := Tree.countL_mem v.kids x hxm; have h2 := HCV.out.1; have h3 := HVO.out.2; omega)
      have HNEW := Lib.hid (HD.out.fresh HMV.out.sorted hs)
      have HA := Lib.hid (at_any q (by omega) HMQ.out.sorted s _ _ wr (HQ0.out.below hbx))
      have HPUT := Lib.hid (fun (z : Tree) (zp : Value) (W : World) (hb : Below wr.heap.size wr W) (hz : TreeAt (Fg F w.heap.size) W zp z) => put_any (.mk 7 0 emptyB on ot) rfl HI.out.ok.len HOL.out HI.out.ok.sorted s HNEW.out z (Fg F w.heap.size) _ zp W (HTREE.out.below hb) hz)
      have hltk : i < v.kids.length := by have := HL.out.1; omega
      have hkl80 : v.kids.length ≤ 80 := by have := HL.out.1; omega
      clear hs hx hxm hsm n0w k0w hxtw
      go_wp2_with fail
      refine HA.out.mono ?_
      rintro e w' ⟨rfl, rfl⟩
      clear HA n0
      by_cases hf : q.names[insPos q.names s]? = some s
      case neg =>
        rw [decide_eq_false hf]
        have HF := Lib.hid hf
        clear hf
        go_wp2_with fail
        refine (null_any _).mono ?_
        rintro e w3 ⟨nv, rfl, hb3, hnt⟩
        have HB3 := Lib.hid hb3
        have HP := Lib.hid (HPUT.out nullT nv w3 hb3 (hnt.frame (Agree.refl _ _) (fun b h _ => .inr (by omega))))
        clear hnt hb3
        go_wp2_with fail
        refine HP.out.mono ?_
        rintro e w4 ⟨g4, A4, c4, ps4, rfl, hb4, hmade4, htr4⟩
        have HINV := Lib.hid ((HI.out.below HB3.out).put HNEW.out HSOK.out null_ok hb4 hmade4 htr4)
        have HDN := Lib.hid (HD.out.null HS.out HX.out HF.out)
        clear hb4 hmade4 htr4 HP
        go_wp2
        go_roundw
        case rel => exact ⟨i + 1, g4, A4, c4, ps4, _, _, rfl, by go_num, by omega, HINV.out, HDN.out⟩
        case measure => simp [intOf]; omega
      case pos =>
        rw [decide_eq_true hf]
        have HF := Lib.hid hf
        have hqlt : insPos q.names s < q.kids.length := by
          have := (List.getElem?_eq_some_iff.1 hf).1
          have := HL.out.2
          omega
        obtain ⟨bl, ol, yp, y, rfl, hll, l0w, hytw, hy, hym⟩ := kid_at2 HR4'.out HTS'.out (insPos q.names s) hqlt
        have HY := Lib.hid hy
        have HYT := Lib.hid hytw
        have HL0 := Lib.hid (fun W (hb : Below w.heap.size w W) => (World.cell?_of_block (a := ⟨bl, ol + insPos q.names s, none⟩) (hb.block bl hll)).trans l0w)
        have HYO := Lib.hid (show y.ok = true from (okL_iff q.kids).1 HMQ.out.ok y hym)
        have HYC := Lib.hid (show y.count ≤ 80 by have h1 := Tree.countL_mem q.kids y hym; have h2 := HCV.out.2; have h3 := HQO.out.2; omega)
        have HSAME := Lib.hid (fun W (hb : Below w.heap.size w W) => same_any x y _ _ _ _ W HXO.out (by have := HXC.out; omega) HYO.out (by have := HYC.out; omega) (HXT.out.below hb) (HYT.out.below hb))
        have hqk80 : q.kids.length ≤ 80 := by have := HL.out.2; omega
        obtain ⟨k, hk⟩ : ∃ k, k = insPos q.names s := ⟨_, rfl⟩
        rw [← hk] at HL0 HY HF hqlt ⊢
        have HKP := Lib.hid hk
        have z4 := (HCELL.out wr hbx 4).1.trans h4
        have y4 := (HCELL.out wr hbx 4).2.trans h4'
        have k0 := HK0.out wr hbx
        have l0 := HL0.out wr hbx
        clear hf hy hym l0w hytw hk
        go_wp2
        go_still_tail 14, (by kernel_rfl)
        have HBD := Lib.hid HBX.out.drew
        change wpList _ _ _ _ _ wr.drew
        have HBW := Lib.hid (show Below wr.heap.size wr wr.drew from (Below.refl _ _).drew)
        generalize wr.drew = wd at HBD HBW ⊢
        go_wp2_with fail
        refine (HSAME.out wd HBD.out).mono ?_
        rintro e w4 ⟨rfl, hb4⟩
        have HB4 := Lib.hid (below_then HBD.out HBD.out.size hb4)
        have HBW4 := Lib.hid (below_then HBW.out HBW.out.size hb4)
        clear hb4 z4 y4 k0 l0
        by_cases hc : Tree.cmp x y = 0
        · rw [decide_eq_true hc]
          have HDN := Lib.hid (HD.out.same HS.out HX.out (by rw [← HKP.out]; exact HF.out) (by rw [← HKP.out]; exact HY.out) hc)
          have HIN := Lib.hid (HI.out.below HBW4.out)
          clear hc
          go_wp2
          go_roundw
          case rel => exact ⟨i + 1, g, A, c, ps, _, _, rfl, by go_num, by omega, HIN.out, HDN.out⟩
          case measure => simp [intOf]; omega
        · rw [decide_eq_false hc]
          have HDN := Lib.hid (HD.out.differ HS.out HX.out (by rw [← HKP.out]; exact HF.out) (by rw [← HKP.out]; exact HY.out) hc HXO.out HYO.out HYC.out)
          have hzo := (diff_ok x y HXO.out HYO.out).1
          have HZO := Lib.hid hzo
          have z4 := (HCELL.out w4 HB4.out 4).1.trans h4
          have y4 := (HCELL.out w4 HB4.out 4).2.trans h4'
          have k0 := HK0.out w4 HB4.out
          have l0 := HL0.out w4 HB4.out
          have HDF := Lib.hid (fun W (hb : Below w.heap.size w W) => HIH.out x HXM.out HXO.out HXC.out y (fun b => F b ∧ b < w.heap.size) _ _ W HYO.out HYC.out (HXT.out.frame (Agree.of_below hb) (fun b h h' => ⟨h, h'⟩)) (HYT.out.frame (Agree.of_below hb) (fun b h h' => ⟨h, h'⟩)))
          have HBE := Lib.hid HB4.out.drew
          have HBWE := Lib.hid HBW4.out.drew
          have hse := HBE.out.size
          have HP := Lib.hid (fun (W : World) (zp : Value) (hb : Below w4.drew.heap.size w4.drew W) (hz : TreeAt (Fg (fun b => F b ∧ b < w.heap.size) w4.drew.heap.size) W zp (Tree.diff x y)) => HPUT.out (Tree.diff x y) zp W (below_then HBWE.out HBWE.out.size hb) (hz.frame (Agree.refl _ _) (fun b h _ => by
            rcases h with h | h
            · exact .inl h.1
            · exact .inr (by omega))))
          have HKEEP := Lib.hid (fun W (hb : Below w.heap.size w W) => show W.cell? ⟨b, 4, none⟩ = some (.slice (some ⟨bk, ok, none⟩) v.kids.length c2) ∧ W.cell? ⟨b', 4, none⟩ = some (.slice (some ⟨bl, ol, none⟩) q.kids.length c2') ∧ W.cell? ⟨bk, ok + i, none⟩ = some xp ∧ W.cell? ⟨bl, ol + k, none⟩ = some yp from
            ⟨(HCELL.out W hb 4).1.trans h4, (HCELL.out W hb 4).2.trans h4', HK0.out W hb, HL0.out W hb⟩)
          clear hc hzo
          go_wp2
          go_region_held3 (fun W => W.cell? ⟨b, 4, none⟩ = some (.slice (some ⟨bk, ok, none⟩) v.kids.length c2) ∧ W.cell? ⟨b', 4, none⟩ = some (.slice (some ⟨bl, ol, none⟩) q.kids.length c2') ∧ W.cell? ⟨bk, ok + i, none⟩ = some xp ∧ W.cell? ⟨bl, ol + k, none⟩ = some yp)
            (first | exact HKEEP.out _ hq6 | exact HKEEP.out _ hq5 | exact HKEEP.out _ HBE.out)
            (first
              | (go_at_call 35; refine (HDF.out _ HBE.out).mono ?_; rintro e w5 ⟨zp, rfl, hb5, hzt⟩; have hq5 : Below w.heap.size w w5 := below_then HBE.out HBE.out.size hb5)
              | (go_at_call 43; refine (HP.out w5 zp hb5 hzt).mono ?_; rintro e w6 ⟨g4, A4, c4, ps4, rfl, hb6, hmade4, htr4⟩; have hq6 : Below w.heap.size w w6 := below_then hq5 hq5.size hb6))
          have HINV := Lib.hid ((HI.out.below (below_then HBWE.out HBWE.out.size hb5)).put HNEW.out HSOK.out HZO.out hb6 hmade4 htr4)
          clear hb5 hzt hq5 hb6 hq6 hmade4 htr4 HP HKEEP HDF HBE HBWE hse z4 y4 k0 l0
          go_wp2
          go_roundw
          case rel => exact ⟨i + 1, g4, A4, c4, ps4, _, _, rfl, by go_num, by omega, HINV.out, HDN.out⟩
          case measure => simp [intOf]; omega
    · obtain rfl : i = v.names.length := by omega
      have HD2 := Lib.hid (HD.out.last HVK.out HQK.out (Nat.le_refl _))
      have y3 := (HCELL.out wr hbx 3).2.trans h3'
      clear hbx HTREE HOL HBX
      go_wp2
      go_loopw [5, 93] (fun ov iv wx => ∃ (i g : Nat) (A : Option Addr) (c : Nat) (ps : List Value) (on : List ByteArray) (ot : List Tree), ov = .pointer (some ⟨g, 0, none⟩) ∧ iv = .int .i64 (i : Int) ∧ i ≤ q.names.length ∧ Hid (OuInv F w wx g A c ps on ot ∧ D2 v q i on ot)) (fun _ iv _ => q.names.length - (intOf iv).toNat)
      case atStart => exact ⟨0, _, _, _, _, _, _, rfl, rfl, Nat.zero_le _, HI.out, HD2.out⟩
      case round =>
        clear HI HD HD2 y3 hsz hi
        obtain ⟨i, g, A, c, ps, on, ot, rfl, rfl, hi, hinv⟩ := hrel
        have HI := Lib.hid (show OuInv F w wr g A c ps on ot from hinv.1)
        have HD := Lib.hid (show D2 v q i on ot from hinv.2)
        have hbx := HI.out.bel
        have HBX := Lib.hid hbx
        have hsz := hbx.size
        have HTREE := Lib.hid HI.out.tree
        have hol : on.length ≤ 1000000 := by
          have h1 := HD.out.cnt
          have h2 := HVO.out.2
          have h3 := HCV.out
          have h4 := Tree.kids_le_count ot
          have h5 := HI.out.ok.len
          have h6 := HQO.out.2
          omega
        have HOL := Lib.hid hol
        clear hinv hol
        by_cases hlt : i < q.names.length
        · obtain ⟨bn, on', s, rfl, hnl, n0w, hs, hsm⟩ := name_at HR3'.out i hlt
          obtain ⟨bk, ok, xp, x, rfl, hkl, k0w, hxtw, hx, hxm⟩ := kid_at2 HR4'.out HTS'.out i (by have := HL.out.2; omega)
          have n0 := (World.cell?_of_block (a := ⟨bn, on' + i, none⟩) (hbx.block bn hnl)).trans n0w
          have HS := Lib.hid hs
          have HX := Lib.hid hx
          have HXT := Lib.hid hxtw
          have HK0 := Lib.hid (fun W (hb : Below w.heap.size w W) => (World.cell?_of_block (a := ⟨bk, ok + i, none⟩) (hb.block bk hkl)).trans k0w)
          have HSOK := Lib.hid (show strOK s = true by have := HMQ.out.str; rw [List.all_eq_true] at this; exact this s hsm)
          have HXO := Lib.hid (show x.ok = true from (okL_iff q.kids).1 HMQ.out.ok x hxm)
          have HA := Lib.hid (at_any v (by omega) HMV.out.sorted s _ _ wr (HV0.out.below hbx))
          have hltk : i < q.kids.length := by have := HL.out.2; omega
          have hkl80 : q.kids.length ≤ 80 := by have := HL.out.2; omega
          clear hs hx hxm hsm n0w k0w hxtw
          go_wp2_with fail
          refine HA.out.mono ?_
          rintro e w' ⟨rfl, rfl⟩
          clear HA n0
          by_cases hf : v.names[insPos v.names s]? = some s
          · rw [decide_eq_true hf]
            have HDN := Lib.hid (HD.out.skip HS.out HX.out hf)
            clear hf
            go_wp2
            go_roundw
            case rel => exact ⟨i + 1, g, A, c, ps, _, _, rfl, by go_num, by omega, HI.out, HDN.out⟩
            case measure => simp [intOf]; omega
          · rw [decide_eq_false hf]
            have HNEW := Lib.hid (HD.out.fresh HMV.out.sorted HMQ.out.sorted HS.out hf)
            have HDN := Lib.hid (HD.out.add HS.out HX.out hf)
            have y4 := (HCELL.out wr hbx 4).2.trans h4'
            have k0 := HK0.out wr hbx
            have HPUT := Lib.hid (put_any (.mk 7 0 emptyB on ot) rfl HI.out.ok.len HOL.out HI.out.ok.sorted s HNEW.out x (Fg F w.heap.size) _ xp wr HTREE.out (HXT.out.frame (Agree.of_below hbx) (fun b h h' => .inl ⟨h, h'⟩)))
            clear hf hbx
            go_wp2_with fail
            refine HPUT.out.mono ?_
            rintro e w4 ⟨g4, A4, c4, ps4, rfl, hb4, hmade4, htr4⟩
            have HINV := Lib.hid (HI.out.put HNEW.out HSOK.out HXO.out hb4 hmade4 htr4)
            clear hb4 hmade4 htr4 HPUT y4 k0
            go_wp2
            go_roundw
            case rel => exact ⟨i + 1, g4, A4, c4, ps4, _, _, rfl, by go_num, by omega, HINV.out, HDN.out⟩
            case measure => simp [intOf]; omega
        · obtain rfl : i = q.names.length := by omega
          have HE := Lib.hid (HD.out.done (Nat.le_refl _))
          clear hbx
          go_wp2
          go_ret
          exact ⟨_, rfl, HI.out.bel, by rw [HE.out]; exact HTREE.out⟩
end Go.Proofs.YteeppdobeeodiaaGreatDoor
namespace Go.Proofs.YteeppdobeeodiaaGreatDoor
open Go.RowKit
theorem step_append_hat {P : Program} {ops : Array Oper} {o : Oper} {a : Act} {W : World} {K : Act → World → Prop} {Q : Exit → Act → World → Prop} {E : Prop} (base : Nat) (hgd : o.guard = none) (s x : Operand) (t e : TypeId) (z : Value) (size bytes : Nat)
    (ho : o.op = .call { callee := .builtin .append, args := #[s, x], argTypes := #[t, t] }) (ht : P.underlying t = some (.slice e)) (hinfo : (P.info? e).map (fun i => (i.zero, i.size, i.bytes)) = some (some z, size, bytes)) (hz : z.cells.size = size) (hs0 : 0 < size)
    (v : Value) (n : Nat) (xs cs : List Value) (hs : a.eval s = v) {g : Nat} (hx : a.eval x = .slice (some ⟨g, 0, none⟩) 1 1) {T : TypeId} (hg : W.heap[g]? = some (.cells cs.toArray T (0, 0))) (h1 : ∀ u ∈ cs, u.oneCell' = true) (hcs : cs.length = size)
    (HO : W.ownsRow base e size v n xs) (hbase : base ≤ W.heap.size) (hm : n + 1 ≤ maxLen) (hl : (n + 1) * bytes ≤ 140737488355328)
    (h : ∀ A1 c1 w1, n + 1 ≤ c1 → w1.ownsRow base e size (.slice A1 (n + 1) c1) (n + 1) (xs ++ cs) → W.grownBy w1 v.ownBlock → ((Value.slice A1 (n + 1) c1).ownBlock = v.ownBlock ∨ (Value.slice A1 (n + 1) c1).ownBlock = some W.heap.size) → K (a.put o.dst (.slice A1 (n + 1) c1)) w1) :
    if Region.wanted o (yielded ops a.tmps) = true then Oper.wp P o a W K Q else E := by
  have hw : Region.wanted o (yielded ops a.tmps) = true := by simp [Region.wanted, hgd]
  rw [if_pos hw]
  obtain ⟨v', w', hrun, h2, h3, h4⟩ := append_run (P := P) base t o.type e z size bytes ht hinfo hz hs0 v n xs HO (some ⟨g, 0, none⟩) 1 1 cs (by rw [hcs, Nat.one_mul]) (rds_blk hg) h1 hm hl hbase
  unfold Oper.wp execOp
  simp only [ho, resolve, invoke, builtin, Sem.run_bind, Sem.run_pure, Result.andThen_ok, List.map_toArray, List.map_cons, List.map_nil, hs, hx, hrun]
  obtain ⟨A1, c1, rfl, hc1⟩ := own_slice h2
  exact h A1 c1 w' hc1 h2 h3 h4
/-- The blocks that the parts of a map in the making may lie in. -/
def Fc (F : Nat → Prop) (B g : Nat) (A1 A2 : Option Addr) : Nat → Prop := fun b => (F b ∧ b < B ∨ B ≤ b) ∧ b ≠ g ∧ (∀ a, A1 = some a → b ≠ a.block) ∧ ∀ a, A2 = some a → b ≠ a.block
theorem fc_hat {A A' : Option Addr} {n n' c c' b N : Nat} (hat : (Value.slice A' n' c').ownBlock = (Value.slice A n c).ownBlock ∨ (Value.slice A' n' c').ownBlock = some N) (h : ∀ a, A = some a → b ≠ a.block) (hb : b < N) : ∀ a, A' = some a → b ≠ a.block := by
  rintro a rfl e
  have ea : (Value.slice (some a) n' c').ownBlock = some a.block := rfl
  rw [ea] at hat
  rcases hat with hat | hat
  · cases A with
    | none => exact absurd hat (by simp [Value.ownBlock])
    | some a' =>
      have ea' : (Value.slice (some a') n c).ownBlock = some a'.block := rfl
      rw [ea'] at hat
      injection hat with hat
      exact h a' rfl (by rw [e, hat])
  · injection hat with hat
    omega
theorem not_own {A : Option Addr} {n c b : Nat} (h : ∀ a, A = some a → b ≠ a.block) : (Value.slice A n c).ownBlock ≠ some b := by
  intro e
  cases A with
  | none => exact absurd e (by simp [Value.ownBlock])
  | some a =>
    have ea : (Value.slice (some a) n c).ownBlock = some a.block := rfl
    rw [ea] at e
    injection e with e
    exact h a rfl e.symm
/-- A map in the making, between two rounds (m = n: the names' row is the one that the map tells), or behind a name (the names' row is one ahead). -/
structure CMem (F : Nat → Prop) (w wx : World) (g : Nat) (A1 A2 A3 : Option Addr) (c1 c2 c3 n : Nat) (ps : List Value) (on : List ByteArray) (ot : List Tree) : Prop where
  hg : w.heap.size ≤ g
  hk : wx.heap[g]? = some (.cells #[.int .i64 7, .int .i64 0, .string ⟨#[]⟩, .slice A1 n c1, .slice A2 ps.length c2] 69 (0, 0))
  l1 : on.length ≤ c3
  l2 : ps.length ≤ c2
  o1 : wx.ownsRow w.heap.size 9 1 (.slice A3 on.length c3) on.length (strs on)
  o2 : wx.ownsRow w.heap.size 36 1 (.slice A2 ps.length c2) ps.length ps
  trees : TreesAt (Fc F w.heap.size g A3 A2) wx ps ot
  bel : Below w.heap.size w wx
section
variable {F : Nat → Prop} {w wx w2 : World} {g : Nat} {A1 A2 A3 A4 : Option Addr} {c1 c2 c3 c4 n : Nat} {ps : List Value} {on : List ByteArray} {ot : List Tree} {s : ByteArray} {z : Tree} {zp : Value}
theorem CMem.below (h : CMem F w wx g A1 A2 A3 c1 c2 c3 n ps on ot) (hb : Below wx.heap.size wx w2) : CMem F w w2 g A1 A2 A3 c1 c2 c3 n ps on ot :=
  ⟨h.hg, block_below h.hk hb, h.l1, h.l2, own_below h.o1 hb, own_below h.o2 hb, h.trees.below hb, below_then h.bel h.bel.size hb⟩
theorem CMem.name (h : CMem F w wx g A1 A2 A3 c1 c2 c3 n ps on ot) (hg : wx.grownBy w2 (Value.slice A3 on.length c3).ownBlock) (hc : on.length + 1 ≤ c4) (ho : w2.ownsRow w.heap.size 9 1 (.slice A4 (on.length + 1) c4) (on.length + 1) (strs on ++ [.string s]))
    (hat : (Value.slice A4 (on.length + 1) c4).ownBlock = (Value.slice A3 on.length c3).ownBlock ∨ (Value.slice A4 (on.length + 1) c4).ownBlock = some wx.heap.size) : CMem F w w2 g A1 A2 A4 c1 c2 c4 n ps (on ++ [s]) ot := by
  have hl : (on ++ [s]).length = on.length + 1 := by simp
  have hs : strs (on ++ [s]) = strs on ++ [.string s] := by simp [strs]
  have hnot := own_not_at h.o1 h.hk (by decide)
  refine ⟨h.hg, (hg.block g (lt_of_block h.hk) (fun e => hnot g e.symm rfl)).trans h.hk, by rw [hl]; exact hc, h.l2, by rw [hl, hs]; exact ho, h.o2.kept hg (own_apart h.o1 h.o2 (by decide)), ?_, h.bel.grown hg h.bel.size (fun k hk => (own_base h.o1 k hk).1)⟩
  exact h.trees.frame (Agree.of_grown hg (fun b hb => not_own hb.2.2.1)) (fun b hb hl => ⟨hb.1, hb.2.1, fc_hat hat hb.2.2.1 hl, hb.2.2.2⟩)
theorem CMem.part (h : CMem F w wx g A1 A2 A3 c1 c2 c3 n ps on ot) (hg : wx.grownBy w2 (Value.slice A2 ps.length c2).ownBlock) (hc : ps.length + 1 ≤ c4) (ho : w2.ownsRow w.heap.size 36 1 (.slice A4 (ps.length + 1) c4) (ps.length + 1) (ps ++ [zp]))
    (hat : (Value.slice A4 (ps.length + 1) c4).ownBlock = (Value.slice A2 ps.length c2).ownBlock ∨ (Value.slice A4 (ps.length + 1) c4).ownBlock = some wx.heap.size) (hz : TreeAt (Fc F w.heap.size g A3 A2) wx zp z) :
    CMem F w ((w2.setCell ⟨g, 3, none⟩ (.slice A3 on.length c3)).setCell ⟨g, 4, none⟩ (.slice A4 (ps.length + 1) c4)) g A3 A4 A3 c3 c4 c3 on.length (ps ++ [zp]) on (ot ++ [z]) := by
  have hl : (ps ++ [zp]).length = ps.length + 1 := by simp
  have hnot := own_not_at h.o2 h.hk (by decide)
  have hk2 := (hg.block g (lt_of_block h.hk) (fun e => hnot g e.symm rfl)).trans h.hk
  have hA : ∀ G : Nat → Prop, (∀ c, G c → c ≠ g) → Agree G w2 ((w2.setCell ⟨g, 3, none⟩ (.slice A3 on.length c3)).setCell ⟨g, 4, none⟩ (.slice A4 (ps.length + 1) c4)) := fun G hG => (Agree.of_setCell w2 ⟨g, 3, none⟩ _ hG).set hG 4 _
  have n1 := own_not_at (names_kept hg h.o1 h.o2) hk2 (by decide)
  have n2 := own_not_at ho hk2 (by decide)
  have hle : ∀ j, w.heap.size ≤ (⟨g, j, none⟩ : Addr).block := fun _ => h.hg
  refine ⟨h.hg, by rw [hl, block_setCell (block_setCell hk2 _ _) _ _]; rfl, h.l1, by rw [hl]; exact hc, own_agree (names_kept hg h.o1 h.o2) (hA (fun c => c ≠ g) (fun _ h => h)) (fun k hk e => n1 k hk e.symm), by rw [hl]; exact own_agree ho (hA (fun c => c ≠ g) (fun _ h => h)) (fun k hk e => n2 k hk e.symm), ?_, ((h.bel.grown hg h.bel.size (fun k hk => (own_base h.o2 k hk).1)).setCell (hle 3) _).setCell (hle 4) _⟩
  have ht : TreesAt (Fc F w.heap.size g A3 A2) wx (ps ++ [zp]) (ot ++ [z]) := h.trees.app (by simp only [TreesAt]; exact ⟨hz, trivial⟩)
  refine (ht.frame (G := Fc F w.heap.size g A3 A4) (Agree.of_grown hg (fun b hb => not_own hb.2.2.2)) (fun b hb hl => ⟨hb.1, hb.2.1, hb.2.2.1, fc_hat hat hb.2.2.2 hl⟩)).frame (hA _ (fun c hc => hc.2.1)) (fun b hb _ => hb)
theorem CMem.new (h : CMem F w wx g A1 A2 A3 c1 c2 c3 n ps on ot) (hz : TreeAt (Fg (fun b => F b ∧ b < w.heap.size) wx.heap.size) w2 zp z) : TreeAt (Fc F w.heap.size g A3 A2) w2 zp z := by
  have hgl := lt_of_block h.hk
  have hgb := h.hg
  refine hz.frame (Agree.refl _ _) (fun b hb _ => ?_)
  rcases hb with hb | hb
  · have hlt := hb.2
    exact ⟨.inl hb.1, by have := hb.1.2; omega, fun a ha e => by subst ha; have := (own_base h.o1 a.block rfl).1; have := hb.1.2; omega, fun a ha e => by subst ha; have := (own_base h.o2 a.block rfl).1; have := hb.1.2; omega⟩
  · exact ⟨.inr (by omega), by omega, fun a ha e => by subst ha; have := (own_base h.o1 a.block rfl).2; omega, fun a ha e => by subst ha; have := (own_base h.o2 a.block rfl).2; omega⟩
theorem CMem.parts (h : CMem F w wx g A1 A2 A3 c1 c2 c3 n ps on ot) (hg : wx.grownBy w2 (Value.slice A2 ps.length c2).ownBlock) : Below w.heap.size w w2 ∧ w2.heap[g]? = some (.cells #[.int .i64 7, .int .i64 0, .string ⟨#[]⟩, .slice A1 n c1, .slice A2 ps.length c2] 69 (0, 0)) :=
  have hnot := own_not_at h.o2 h.hk (by decide)
  ⟨h.bel.grown hg h.bel.size (fun k hk => (own_base h.o2 k hk).1), (hg.block g (lt_of_block h.hk) (fun e => hnot g e.symm rfl)).trans h.hk⟩
theorem CMem.tree (h : CMem F w wx g A1 A2 A1 c1 c2 c1 on.length ps on ot) : TreeAt (Fg F w.heap.size) wx (.pointer (some ⟨g, 0, none⟩)) (.mk 7 0 emptyB on ot) := by
  have hl := h.trees.length
  have hcell : ∀ j, wx.cell? ⟨g, j, none⟩ = _ := cell_of_block h.hk
  simp only [TreeAt]
  refine ⟨g, A1, c1, A2, c2, ps, rfl, .inr h.hg, lt_of_block h.hk, by rw [hcell]; rfl, by rw [hcell]; rfl, by rw [hcell]; rfl, by rw [hcell]; rfl, h.l1, (Rds.of_own h.o1).mono (fun b hb _ => .inr hb), by rw [hcell, ← hl]; rfl, by have := h.l2; omega, (Rds.of_own h.o2).mono (fun b hb _ => .inr hb), h.trees.frame (Agree.refl _ _) (fun b hb _ => hb.1)⟩
end
/-- What the loop of clean keeps of the rows. -/
structure CEq (v : Tree) (i : Nat) (on : List ByteArray) (ot : List Tree) : Prop where
  e1 : (Tree.cleanL v.names v.kids).1 = on ++ (Tree.cleanL (v.names.drop i) (v.kids.drop i)).1
  e2 : (Tree.cleanL v.names v.kids).2 = ot ++ (Tree.cleanL (v.names.drop i) (v.kids.drop i)).2
  n1 : on.length ≤ i
  n2 : ot.length ≤ i
theorem CEq.skip {v : Tree} {i : Nat} {on : List ByteArray} {ot : List Tree} {x : Tree} (h : CEq v i on ot) (hx : v.kids[i]? = some x) (hn : x.kind = 1) : CEq v (i + 1) on ot := by
  obtain ⟨h1, h2⟩ := List.getElem?_eq_some_iff.1 hx
  have e := h.e1
  have e' := h.e2
  rw [List.drop_eq_getElem_cons h1, h2, Tree.cleanL, if_pos hn, List.tail_drop] at e e'
  exact ⟨e, e', by have := h.n1; omega, by have := h.n2; omega⟩
theorem CEq.more {v : Tree} {i : Nat} {on : List ByteArray} {ot : List Tree} {x : Tree} {s : ByteArray} (h : CEq v i on ot) (hx : v.kids[i]? = some x) (hs : v.names[i]? = some s) (hn : x.kind ≠ 1) : CEq v (i + 1) (on ++ [s]) (ot ++ [x.clean]) := by
  obtain ⟨h1, h2⟩ := List.getElem?_eq_some_iff.1 hx
  have e := h.e1
  have e' := h.e2
  rw [List.drop_eq_getElem_cons h1, h2, Tree.cleanL, if_neg hn, List.tail_drop, headD_drop hs] at e e'
  exact ⟨by rw [e]; simp, by rw [e']; simp, by have := h.n1; simp; omega, by have := h.n2; simp; omega⟩
theorem CEq.done {v : Tree} {i : Nat} {on : List ByteArray} {ot : List Tree} (h : CEq v i on ot) (hi : v.kids.length ≤ i) (hk : v.kind = 7) : v.clean = .mk 7 0 emptyB on ot := by
  have e := h.e1
  have e' := h.e2
  rw [List.drop_eq_nil_of_le hi, Tree.cleanL, List.append_nil] at e e'
  rw [Tree.clean_eq, if_pos hk, e, e']
end Go.Proofs.YteeppdobeeodiaaGreatDoor
namespace Go.Proofs.YteeppdobeeodiaaGreatDoor
open Go.RowKit
def CleanPost (F : Nat → Prop) (v : Tree) (w : World) (e : Ending) (w' : World) : Prop := ∃ rv, e = .returned rv ∧ Below w.heap.size w w' ∧ TreeAt (Fg F w.heap.size) w' rv v.clean
def CleanSpec (v : Tree) : Prop := v.ok = true → v.count ≤ 80 → ∀ (F : Nat → Prop) (vv : Value) (w : World), TreeAt F w vv v → Calls Tryz.prog 29 #[vv] w (CleanPost F v w)
set_option maxRecDepth 100000 in
set_option maxHeartbeats 8000000 in
theorem clean_any : ∀ v, CleanSpec v := Tree.ind fun v ih hv hvc F vv w htv => by
  have HV0 := Lib.hid htv
  obtain ⟨b, A1, c1, A2, c2, ps, rfl, hF, hbl, h0, h1, h2, h3, g3, r3, h4, g4, r4, hts⟩ := htv.open
  by_cases hvk : v.kind = 7
  case neg =>
    have hd : v.clean = v := by rw [Tree.clean_eq, if_neg hvk]
    have HD := Lib.hid hd
    have hvb : (v.kind == 7) = false := by simpa using hvk
    clear hd hvk
    go_enter Tryz.func29, Tryz.ntmps29
    go_wp2
    go_ret
    exact ⟨_, rfl, Below.refl _ _, by rw [HD.out]; exact HV0.out.frame (Agree.refl _ _) (fun b h h' => .inl ⟨h, h'⟩)⟩
  have hmv := Tree.ok_map hv hvk
  have hcv := v.count_eq
  have hkv := Tree.kids_le_count v.kids
  have hlv := hmv.len
  have hnv : v.names.length ≤ 80 := by omega
  have hnk : v.kids.length ≤ 80 := by omega
  have hb1 : Below w.heap.size w (w.alloc (.cells #[.int .i64 7, .int .i64 0, .string ⟨#[]⟩, .slice none 0 0, .slice none 0 0] 69 (0, 0))) := (Below.refl _ _).alloc (Nat.le_refl _) _
  have k1 := heap_alloc_new w (.cells #[.int .i64 7, .int .i64 0, .string ⟨#[]⟩, .slice none 0 0, .slice none 0 0] 69 (0, 0))
  have HCELL := Lib.hid (fun W (hb : Below w.heap.size w W) (j : Nat) => World.cell?_of_block (a := ⟨b, j, none⟩) (hb.block b hbl))
  have z4 := (HCELL.out _ hb1 4).trans h4
  rw [hvk] at h0
  have HB1 := Lib.hid hb1
  have HINV0 := Lib.hid (show CMem F w (w.alloc (.cells #[.int .i64 7, .int .i64 0, .string ⟨#[]⟩, .slice none 0 0, .slice none 0 0] 69 (0, 0))) w.heap.size none none none 0 0 0 0 [] [] [] from
    ⟨Nat.le_refl _, k1, Nat.le_refl _, Nat.le_refl _, World.ownsRow_nil _ _ _ _, World.ownsRow_nil _ _ _ _, by simp [TreesAt], hb1⟩)
  have HMV := Lib.hid hmv
  have HVK := Lib.hid hvk
  have HL := Lib.hid hlv
  have HCV := Lib.hid hcv
  have HVO := Lib.hid (⟨hv, hvc⟩ : v.ok = true ∧ v.count ≤ 80)
  have HIH := Lib.hid ih
  have HR3 := Lib.hid r3
  have HR4 := Lib.hid r4
  have HTS := Lib.hid hts
  clear hvk hmv hcv hkv hlv hv hvc ih r3 r4 hts hb1 k1 htv
  go_enter Tryz.func29, Tryz.ntmps29
  go_wp2
  generalize w.alloc (.cells #[.int .i64 7, .int .i64 0, .string ⟨#[]⟩, .slice none 0 0, .slice none 0 0] 69 (0, 0)) = w1 at HINV0 HB1 z4 ⊢
  go_loopw [19] (fun iv wx => ∃ (i : Nat) (A1 A2 : Option Addr) (c1 c2 : Nat) (ps : List Value) (on : List ByteArray) (ot : List Tree), iv = .int .i64 (i : Int) ∧ i ≤ v.kids.length ∧ Hid (CMem F w wx w.heap.size A1 A2 A1 c1 c2 c1 on.length ps on ot ∧ CEq v i on ot)) (fun iv _ => v.kids.length - (intOf iv).toNat)
  case atStart => exact ⟨0, none, none, 0, 0, [], [], [], rfl, Nat.zero_le _, HINV0.out, ⟨rfl, rfl, Nat.le_refl _, Nat.le_refl _⟩⟩
  case round =>
    clear HINV0 HB1 z4
    obtain ⟨i, B1, B2, d1, d2, qs, on, ot, rfl, hi, hinv⟩ := hrel
    have HI := Lib.hid (show CMem F w wr w.heap.size B1 B2 B1 d1 d2 d1 on.length qs on ot from hinv.1)
    have HD := Lib.hid (show CEq v i on ot from hinv.2)
    have hbx := HI.out.bel
    have hsz := hbx.size
    clear hinv
    by_cases hlt : i < v.kids.length
    · obtain ⟨bn, on', s, rfl, hnl, n0w, hs, hsm⟩ := name_at HR3.out i (by have := HL.out; omega)
      obtain ⟨bk, ok, xp, x, rfl, hkl, k0w, hxtw, hx, hxm⟩ := kid_at2 HR4.out HTS.out i (by omega)
      obtain ⟨bx, _, _, _, _, _, rfl, _, hbxl, xk, _⟩ := hxtw.open
      have k0 := (World.cell?_of_block (a := ⟨bk, ok + i, none⟩) (hbx.block bk hkl)).trans k0w
      have x0 := (World.cell?_of_block (a := ⟨bx, 0, none⟩) (hbx.block bx hbxl)).trans xk
      have HS := Lib.hid hs
      have HX := Lib.hid hx
      have HXM := Lib.hid hxm
      have HXT := Lib.hid hxtw
      have HXO := Lib.hid (show x.ok = true from (okL_iff v.kids).1 HMV.out.ok x hxm)
      have HXC := Lib.hid (show x.count ≤ 80 by have h1 := Tree.countL_mem v.kids x hxm; have h2 := HCV.out; have h3 := HVO.out.2; omega)
      have HN0 := Lib.hid (fun W (hb : Below w.heap.size w W) => (World.cell?_of_block (a := ⟨bn, on' + i, none⟩) (hb.block bn hnl)).trans n0w)
      have hln : i < v.names.length := by have := HL.out; omega
      have hol : on.length ≤ 80 := by have := HD.out.n1; omega
      have hql : qs.length ≤ 80 := by have := HD.out.n2; have := HI.out.trees.length; omega
      clear hs hx hxm hsm k0w hxtw xk n0w
      by_cases hn : x.kind = 1
      · have HDN := Lib.hid (HD.out.skip HX.out hn)
        rw [hn] at x0
        clear hn
        go_wp2
        go_roundw
        case rel => exact ⟨i + 1, _, _, _, _, _, _, _, by go_num, by omega, HI.out, HDN.out⟩
        case measure => simp [intOf]; omega
      · have HDN := Lib.hid (HD.out.more HX.out HS.out hn)
        have hxb : (x.kind == 1) = false := by simpa using hn
        have HKEEP := Lib.hid (fun (W : World) (hb : Below w.heap.size w W) (hk : W.heap[w.heap.size]? = some (.cells #[.int .i64 7, .int .i64 0, .string ⟨#[]⟩, .slice B1 on.length d1, .slice B2 qs.length d2] 69 (0, 0))) => show W.cell? ⟨w.heap.size, 3, none⟩ = some (.slice B1 on.length d1) ∧ W.cell? ⟨b, 3, none⟩ = some (.slice (some ⟨bn, on', none⟩) v.names.length c1) ∧ W.cell? ⟨bn, on' + i, none⟩ = some (.string s) ∧ W.cell? ⟨w.heap.size, 4, none⟩ = some (.slice B2 qs.length d2) from
          ⟨cell_of_block hk 3, (HCELL.out W hb 3).trans h3, HN0.out W hb, cell_of_block hk 4⟩)
        have HDRW := Lib.hid (show Below wr.heap.size wr wr.drew from (Below.refl _ _).drew)
        have HA1 := Lib.hid (HI.out.below (HDRW.out.alloc (Nat.le_refl _) (.cells #[.string s] 9 (0, 0))))
        have HCL := Lib.hid (fun W (hb : Below w.heap.size w W) => HIH.out x HXM.out HXO.out HXC.out (fun b => F b ∧ b < w.heap.size) _ W (HXT.out.frame (Agree.of_below hb) (fun b h h' => ⟨h, h'⟩)))
        clear hn
        go_wp2
        clear x0 hxb k0
        refine till_region 25 (fun W => W.cell? ⟨w.heap.size, 3, none⟩ = some (.slice B1 on.length d1) ∧ W.cell? ⟨b, 3, none⟩ = some (.slice (some ⟨bn, on', none⟩) v.names.length c1) ∧ W.cell? ⟨bn, on' + i, none⟩ = some (.string s) ∧ W.cell? ⟨w.heap.size, 4, none⟩ = some (.slice B2 qs.length d2)) (by kernel_rfl) ?_ (fun hHeld => ?_)
        · exact HKEEP.out _ (HI.out.below HDRW.out).bel (HI.out.below HDRW.out).hk
        (refine Till.pure (i := 0) (u := ?_) rfl (by kernel_rfl) (by kernel_rfl) (by kernel_rfl) (by decide) (fun _ _ _ h => h) (Or.inl ⟨by rfl, ?_⟩) (fun _ => hHeld) ?_; rotate_left 1; (focus (intro w _; go_simp; try (with_reducible rfl))); change Till _ _ _ _ _ _ _ _ (Act.put _ (some 29) _) _; simp only [Act.put, List.setIfInBounds_toArray, List.set_cons_zero, List.set_cons_succ])
        (refine Till.pure (i := 1) (u := ?_) rfl (by kernel_rfl) (by kernel_rfl) (by kernel_rfl) (by decide) (fun _ _ _ h => h) (Or.inl ⟨by rfl, ?_⟩) (fun _ => hHeld) ?_; rotate_left 1; (focus (intro w _; go_simp; try (with_reducible rfl))); change Till _ _ _ _ _ _ _ _ (Act.put _ (some 30) _) _; simp only [Act.put, List.setIfInBounds_toArray, List.set_cons_zero, List.set_cons_succ])
        (refine Till.pure (i := 2) (u := ?_) rfl (by kernel_rfl) (by kernel_rfl) (by kernel_rfl) (by decide) (fun _ _ _ h => h) (Or.inl ⟨by rfl, ?_⟩) (fun _ => hHeld) ?_; rotate_left 1; (focus (intro w _; go_simp; try (with_reducible rfl))); change Till _ _ _ _ _ _ _ _ (Act.put _ (some 31) _) _; simp only [Act.put, List.setIfInBounds_toArray, List.set_cons_zero, List.set_cons_succ])
        (refine Till.pure (i := 3) (u := ?_) rfl (by kernel_rfl) (by kernel_rfl) (by kernel_rfl) (by decide) (fun _ _ _ h => h) (Or.inl ⟨by rfl, ?_⟩) (fun _ => hHeld) ?_; rotate_left 1; (focus (intro w _; go_simp; try (with_reducible rfl))); change Till _ _ _ _ _ _ _ _ (Act.put _ (some 32) _) _; simp only [Act.put, List.setIfInBounds_toArray, List.set_cons_zero, List.set_cons_succ])
        (refine Till.pure (i := 4) (u := ?_) rfl (by kernel_rfl) (by kernel_rfl) (by kernel_rfl) (by decide) (fun _ _ _ h => h) (Or.inl ⟨by rfl, ?_⟩) (fun _ => hHeld) ?_; rotate_left 1; (focus (intro w _; go_simp; try (with_reducible rfl))); change Till _ _ _ _ _ _ _ _ (Act.put _ (some 33) _) _; simp only [Act.put, List.setIfInBounds_toArray, List.set_cons_zero, List.set_cons_succ])
        (refine Till.load (i := 5) (u := ?_) rfl (by kernel_rfl) (by kernel_rfl) (by kernel_rfl) (by kernel_rfl) (by kernel_rfl) (fun _ _ _ h => h) (Or.inl ⟨by rfl, ?_⟩) hHeld ?_; rotate_left 1; (focus (intro w hSw; (try dsimp only at hSw); go_split_ands; go_simp; try (with_reducible rfl))); change Till _ _ _ _ _ _ _ _ (Act.put _ (some 34) _) _; simp only [Act.put, List.setIfInBounds_toArray, List.set_cons_zero, List.set_cons_succ])
        (refine Till.pure (i := 6) (u := ?_) rfl (by kernel_rfl) (by kernel_rfl) (by kernel_rfl) (by decide) (fun _ _ _ h => h) (Or.inl ⟨by rfl, ?_⟩) (fun _ => hHeld) ?_; rotate_left 1; (focus (intro w _; go_simp; try (with_reducible rfl))); change Till _ _ _ _ _ _ _ _ (Act.put _ (some 35) _) _; simp only [Act.put, List.setIfInBounds_toArray, List.set_cons_zero, List.set_cons_succ])
        (refine Till.pure (i := 7) (u := ?_) rfl (by kernel_rfl) (by kernel_rfl) (by kernel_rfl) (by decide) (fun _ _ _ h => h) (Or.inl ⟨by rfl, ?_⟩) (fun _ => hHeld) ?_; rotate_left 1; (focus (intro w _; go_simp; try (with_reducible rfl))); change Till _ _ _ _ _ _ _ _ (Act.put _ (some 36) _) _; simp only [Act.put, List.setIfInBounds_toArray, List.set_cons_zero, List.set_cons_succ])
        (refine Till.pure (i := 8) (u := ?_) rfl (by kernel_rfl) (by kernel_rfl) (by kernel_rfl) (by decide) (fun _ _ _ h => h) (Or.inl ⟨by rfl, ?_⟩) (fun _ => hHeld) ?_; rotate_left 1; (focus (intro w _; go_simp; try (with_reducible rfl))); change Till _ _ _ _ _ _ _ _ (Act.put _ (some 37) _) _; simp only [Act.put, List.setIfInBounds_toArray, List.set_cons_zero, List.set_cons_succ])
        (refine Till.load (i := 9) (u := ?_) rfl (by kernel_rfl) (by kernel_rfl) (by kernel_rfl) (by kernel_rfl) (by kernel_rfl) (fun _ _ _ h => h) (Or.inl ⟨by rfl, ?_⟩) hHeld ?_; rotate_left 1; (focus (intro w hSw; (try dsimp only at hSw); go_split_ands; go_simp; try (with_reducible rfl))); change Till _ _ _ _ _ _ _ _ (Act.put _ (some 38) _) _; simp only [Act.put, List.setIfInBounds_toArray, List.set_cons_zero, List.set_cons_succ])
        (refine Till.pure (i := 10) (u := ?_) rfl (by kernel_rfl) (by kernel_rfl) (by kernel_rfl) (by decide) (fun _ _ _ h => h) (Or.inl ⟨by rfl, ?_⟩) (fun _ => hHeld) ?_; rotate_left 1; (focus (intro w _; go_simp; try (with_reducible rfl))); change Till _ _ _ _ _ _ _ _ (Act.put _ (some 39) _) _; simp only [Act.put, List.setIfInBounds_toArray, List.set_cons_zero, List.set_cons_succ])
        (refine Till.pure (i := 11) (u := ?_) rfl (by kernel_rfl) (by kernel_rfl) (by kernel_rfl) (by decide) (fun _ _ _ h => h) (Or.inl ⟨by rfl, ?_⟩) (fun _ => hHeld) ?_; rotate_left 1; (focus (intro w _; go_simp; try (with_reducible rfl))); change Till _ _ _ _ _ _ _ _ (Act.put _ (some 40) _) _; simp only [Act.put, List.setIfInBounds_toArray, List.set_cons_zero, List.set_cons_succ])
        (refine Till.load (i := 12) (u := ?_) rfl (by kernel_rfl) (by kernel_rfl) (by kernel_rfl) (by kernel_rfl) (by kernel_rfl) (fun _ _ _ h => h) (Or.inl ⟨by rfl, ?_⟩) hHeld ?_; rotate_left 1; (focus (intro w hSw; (try dsimp only at hSw); go_split_ands; go_simp; try (with_reducible rfl))); change Till _ _ _ _ _ _ _ _ (Act.put _ (some 41) _) _; simp only [Act.put, List.setIfInBounds_toArray, List.set_cons_zero, List.set_cons_succ])
        (refine Till.pure (i := 15) (u := ?_) rfl (by kernel_rfl) (by kernel_rfl) (by kernel_rfl) (by decide) (fun _ _ _ h => h) (Or.inl ⟨by rfl, ?_⟩) (fun _ => hHeld) ?_; rotate_left 1; (focus (intro w _; go_simp; try (with_reducible rfl))); change Till _ _ _ _ _ _ _ _ (Act.put _ (some 44) _) _; simp only [Act.put, List.setIfInBounds_toArray, List.set_cons_zero, List.set_cons_succ])
        (refine Till.pure (i := 16) (u := ?_) rfl (by kernel_rfl) (by kernel_rfl) (by kernel_rfl) (by decide) (fun _ _ _ h => h) (Or.inl ⟨by rfl, ?_⟩) (fun _ => hHeld) ?_; rotate_left 1; (focus (intro w _; go_simp; try (with_reducible rfl))); change Till _ _ _ _ _ _ _ _ (Act.put _ (some 45) _) _; simp only [Act.put, List.setIfInBounds_toArray, List.set_cons_zero, List.set_cons_succ])
        (refine Till.pure (i := 17) (u := ?_) rfl (by kernel_rfl) (by kernel_rfl) (by kernel_rfl) (by decide) (fun _ _ _ h => h) (Or.inl ⟨by rfl, ?_⟩) (fun _ => hHeld) ?_; rotate_left 1; (focus (intro w _; go_simp; try (with_reducible rfl))); change Till _ _ _ _ _ _ _ _ (Act.put _ (some 46) _) _; simp only [Act.put, List.setIfInBounds_toArray, List.set_cons_zero, List.set_cons_succ])
        (refine Till.load (i := 18) (u := ?_) rfl (by kernel_rfl) (by kernel_rfl) (by kernel_rfl) (by kernel_rfl) (by kernel_rfl) (fun _ _ _ h => h) (Or.inl ⟨by rfl, ?_⟩) hHeld ?_; rotate_left 1; (focus (intro w hSw; (try dsimp only at hSw); go_split_ands; go_simp; try (with_reducible rfl))); change Till _ _ _ _ _ _ _ _ (Act.put _ (some 47) _) _; simp only [Act.put, List.setIfInBounds_toArray, List.set_cons_zero, List.set_cons_succ])
        (refine Till.pure (i := 19) (u := ?_) rfl (by kernel_rfl) (by kernel_rfl) (by kernel_rfl) (by decide) (fun _ _ _ h => h) (Or.inl ⟨by rfl, ?_⟩) (fun _ => hHeld) ?_; rotate_left 1; (focus (intro w _; go_simp; try (with_reducible rfl))); change Till _ _ _ _ _ _ _ _ (Act.put _ (some 48) _) _; simp only [Act.put, List.setIfInBounds_toArray, List.set_cons_zero, List.set_cons_succ])
        (refine Till.one (i := 13) (by kernel_rfl) rfl (fun K hK => ?_))
        go_simp
        refine hK.out _ _ (HKEEP.out _ HA1.out.bel HA1.out.hk) (fun hHeld => ?_)
        clear hK K
        (refine Till.one (i := 14) (by kernel_rfl) rfl (fun K hK => ?_))
        refine step_append_hat w.heap.size rfl (.tmp 34) (.tmp 42) 41 9 _ 1 16 rfl Tryz.underlying41 infoStr rfl (by decide) (.slice B1 on.length d1) on.length (strs on) [.string s] rfl rfl (heap_alloc_new _ _) (by simp [Value.oneCell']) rfl HA1.out.o1 HA1.out.bel.size (by simp only [maxLen]; omega) (by omega) ?_
        intro A3 c3 w2 hc3 hown3 hg3 hat3
        have HA2 := Lib.hid (HA1.out.name hg3 hc3 hown3 hat3)
        clear hc3 hown3 hg3 hat3
        refine hK.out _ _ (HKEEP.out _ HA2.out.bel HA2.out.hk) (fun hHeld => ?_)
        clear hK K
        (refine Till.one (i := 20) (by kernel_rfl) rfl (fun K hK => ?_))
        go_simp
        refine (HCL.out w2 HA2.out.bel).mono ?_
        rintro e w3 ⟨zp, rfl, hb3, hzt⟩
        obtain ⟨br, _, _, _, _, _, rfl, _⟩ := hzt.open
        have HA3 := Lib.hid (HA2.out.below hb3)
        have HZ := Lib.hid (HA2.out.new hzt)
        clear hb3 hzt
        go_simp
        refine hK.out _ _ (HKEEP.out _ HA3.out.bel HA3.out.hk) (fun hHeld => ?_)
        clear hK K
        have HB34 := Lib.hid ((Below.refl w3.heap.size w3).alloc (Nat.le_refl _) (.cells #[.pointer (some ⟨br, 0, none⟩)] 36 (0, 0)))
        have HA4 := Lib.hid (HA3.out.below HB34.out)
        (refine Till.one (i := 21) (by kernel_rfl) rfl (fun K hK => ?_))
        go_simp
        refine hK.out _ _ (HKEEP.out _ HA4.out.bel HA4.out.hk) (fun hHeld => ?_)
        clear hK K
        (refine Till.one (i := 22) (by kernel_rfl) rfl (fun K hK => ?_))
        refine step_append_hat w.heap.size rfl (.tmp 47) (.tmp 50) 67 36 _ 1 8 rfl Tryz.underlying67 infoPtr rfl (by decide) (.slice B2 qs.length d2) qs.length qs [.pointer (some ⟨br, 0, none⟩)] rfl rfl (heap_alloc_new _ _) (by simp [Value.oneCell']) rfl HA4.out.o2 HA4.out.bel.size (by simp only [maxLen]; omega) (by omega) ?_
        intro A4 c4 w5 hc4 hown4 hg4 hat4
        have HINV := Lib.hid (HA4.out.part hg4 hc4 hown4 hat4 (HZ.out.below HB34.out))
        have H5 := Lib.hid (HA4.out.parts hg4)
        clear hc4 hown4 hg4 hat4
        refine hK.out _ _ (HKEEP.out _ H5.out.1 H5.out.2) (fun hHeld => ?_)
        clear hK K
        (refine Till.pure (i := 23) (u := ?_) rfl (by kernel_rfl) (by kernel_rfl) (by kernel_rfl) (by decide) (fun _ _ _ h => h) (Or.inl ⟨by rfl, ?_⟩) (fun _ => hHeld) ?_; rotate_left 1; (focus (intro w _; go_simp; try (with_reducible rfl))); change Till _ _ _ _ _ _ _ _ (Act.put _ (some 52) _) _; simp only [Act.put, List.setIfInBounds_toArray])
        (refine Till.pure (i := 24) (u := ?_) rfl (by kernel_rfl) (by kernel_rfl) (by kernel_rfl) (by decide) (fun _ _ _ h => h) (Or.inl ⟨by rfl, ?_⟩) (fun _ => hHeld) ?_; rotate_left 1; (focus (intro w _; go_simp; try (with_reducible rfl))); change Till _ _ _ _ _ _ _ _ (Act.put _ (some 53) _) _; simp only [Act.put])
        have y3 := cell_of_block H5.out.2 3
        have f3 := free_of_block H5.out.2 3
        have y4 := cell_of_block (block_setCell H5.out.2 3 (.slice A3 (on.length + 1) c3)) 4
        have f4 := free_of_block (block_setCell H5.out.2 3 (.slice A3 (on.length + 1) c3)) 4
        simp at y3 y4
        (refine Till.last (by kernel_rfl) rfl (by kernel_rfl) (fun K hK => ?_))
        go_simp
        refine hK.out _ _ ?_
        clear hK K
        (refine wpAny_take (i := 26) (v := ?_) rfl (by kernel_rfl) (by kernel_rfl) (by kernel_rfl) (fun _ _ _ h => h) (Or.inl ⟨rfl, ?_⟩) ?_; rotate_left 1; (focus (intro w; go_simp; try (with_reducible rfl))); change wpAny _ _ _ _ _ _ (Act.put _ (some 54) _) _; simp only [Act.put, List.setIfInBounds_toArray, List.set_cons_zero, List.set_cons_succ])
        (refine wpAny_take (i := 27) (v := ?_) rfl (by kernel_rfl) (by kernel_rfl) (by kernel_rfl) (fun _ _ _ h => h) (Or.inl ⟨rfl, ?_⟩) ?_; rotate_left 1; (focus (intro w; go_simp; try (with_reducible rfl))); change wpAny _ _ _ _ _ _ (Act.put _ (some 55) _) _; simp only [Act.put, List.setIfInBounds_toArray, List.set_cons_zero, List.set_cons_succ])
        (refine wpAny_ready (rs := [28]) (by kernel_rfl) (by simp) ?_; refine AllReady.cons rfl (fun K hK => ?_) (AllReady.nil))
        go_simp
        refine hK _ _ ?_
        clear hK K
        refine wpAny_done (by kernel_rfl) ?_ _
        go_wp2
        go_roundw
        case rel => exact ⟨i + 1, _, _, _, _, _, _, _, by go_num, by omega, by simpa using HINV.out, HDN.out⟩
        case measure => simp [intOf]; omega
    · obtain rfl : i = v.kids.length := by omega
      have HE := Lib.hid (HD.out.done (Nat.le_refl _) HVK.out)
      clear hbx
      go_wp2
      go_ret
      exact ⟨_, rfl, HI.out.bel, by rw [HE.out]; exact HI.out.tree⟩
end Go.Proofs.YteeppdobeeodiaaGreatDoor
namespace Go.Proofs.YteeppdobeeodiaaGreatDoor
open Go.RowKit
def diffOp (a b : Tree) : Option Tree := if b.isClean = true then some (Tree.diff a b) else none
set_option maxRecDepth 100000 in
set_option maxHeartbeats 4000000 in
theorem diffOf_any (lp lq : List Nd) (hp : lp.length ≤ 1000000000) (hq : lq.length ≤ 1000000000) (hsp : SzNd lp) (hsq : SzNd lq) (F : Nat → Prop) (A1 A2 : Option Addr) (c1 c2 : Nat) (hc1 : lp.length ≤ c1) (hc2 : lq.length ≤ c2) (w : World) (hr1 : Rds F w A1 (ndCells lp)) (hr2 : Rds F w A2 (ndCells lq)) (htab : Tabs w.heap.size w) :
    Calls Tryz.prog 16 #[.agg #[.slice A1 lp.length c1], .agg #[.slice A2 lq.length c2]] w (TwoPost diffOp lp lq w) := by
  have H1 := Lib.hid (fun W (hb : Below w.heap.size w W) => valOf_any lp (by omega) hsp F A1 c1 hc1 W (hr1.frame (Agree.of_below hb)) ((htab.below hb).mono hb.size))
  have H2 := Lib.hid (fun W (hb : Below w.heap.size w W) => valOf_any lq (by omega) hsq F A2 c2 hc2 W (hr2.frame (Agree.of_below hb)) ((htab.below hb).mono hb.size))
  have HT := Lib.hid (fun W (hb : Below w.heap.size w W) => (htab.below hb).mono hb.size)
  clear hr1 hr2 htab hsp hsq
  obtain ⟨w1, hw⟩ : ∃ w1, w1 = ((w.alloc (.cells #[.slice A1 lp.length c1] 25 (0, 0))).alloc (.cells #[.slice A2 lq.length c2] 25 (0, 0))).alloc (.cells #[.slice none 0 0] 25 (0, 0)) := ⟨_, rfl⟩
  have hb1 : Below w.heap.size w w1 := by rw [hw]; exact (((Below.refl _ _).alloc (Nat.le_refl _) _).alloc (by simp) _).alloc (by simp <;> omega) _
  have kp : w1.heap[w.heap.size]? = some (.cells #[.slice A1 lp.length c1] 25 (0, 0)) := by rw [hw]; (repeat (first | with_reducible assumption | (with_reducible refine blk_new _ ?_; (first | rfl | (simp; done) | (simp; omega))) | with_reducible apply block_setCell | (with_reducible refine blk_skip _ _ ?_ ?_; rotate_left; (first | (simp; done) | (simp; omega))) | with_reducible refine blk_old ?_))
  have kq : w1.heap[w.heap.size + 1]? = some (.cells #[.slice A2 lq.length c2] 25 (0, 0)) := by rw [hw]; (repeat (first | with_reducible assumption | (with_reducible refine blk_new _ ?_; (first | rfl | (simp; done) | (simp; omega))) | with_reducible apply block_setCell | (with_reducible refine blk_skip _ _ ?_ ?_; rotate_left; (first | (simp; done) | (simp; omega))) | with_reducible refine blk_old ?_))
  have kr : w1.heap[w.heap.size + 1 + 1]? = some (.cells #[.slice none 0 0] 25 (0, 0)) := by rw [hw]; (repeat (first | with_reducible assumption | (with_reducible refine blk_new _ ?_; (first | rfl | (simp; done) | (simp; omega))) | with_reducible apply block_setCell | (with_reducible refine blk_skip _ _ ?_ ?_; rotate_left; (first | (simp; done) | (simp; omega))) | with_reducible refine blk_old ?_))
  have hs1 : w1.heap.size = w.heap.size + 3 := by rw [hw]; simp
  have HW := Lib.hid hw
  have xp : w1.cell? ⟨w.heap.size, 0, none⟩ = some (.slice A1 lp.length c1) := cell_of_block kp 0
  have xq : w1.cell? ⟨w.heap.size + 1, 0, none⟩ = some (.slice A2 lq.length c2) := cell_of_block kq 0
  have HB1 := Lib.hid hb1
  have HKQ := Lib.hid kq
  have HKR := Lib.hid kr
  clear hw hb1 kp kq kr
  go_enter Tryz.func16, Tryz.ntmps16
  go_wp2_with fail
  rw [← HW.out]
  clear HW
  go_cut [6, 7] (fun x y wx => ∃ v1 v2, x = v1 ∧ y = v2 ∧ JpCut lp lq w w1 v1 v2 wx)
  case first =>
    refine wp_region_any (by kernel_rfl) ?_
    change wpAny _ _ _ _ _ _ _ (World.drew _)
    (refine wpAny_ready (rs := [0, 2]) (by kernel_rfl) (by simp) ?_; refine AllReady.cons rfl (fun K hK => ?_) (AllReady.cons rfl (fun K hK => ?_) (AllReady.nil)))
    · go_simp
      refine hK _ _ ?_
      clear hK K
      (refine wpAny_ready (rs := [1, 2]) (by kernel_rfl) (by simp) ?_; refine AllReady.cons rfl (fun K hK => ?_) (AllReady.cons rfl (fun K hK => ?_) (AllReady.nil)))
      · go_simp
        refine (H1.out _ (by exact HB1.out.drew)).mono ?_
        rintro e w2 ⟨hb2, o1, v1, rfl, ho1, hv1⟩
        have hkq2 := (hb2.block _ (lt_of_block HKQ.out)).trans HKQ.out
        have xq2 : w2.cell? ⟨w.heap.size + 1, 0, none⟩ = some (.slice A2 lq.length c2) := cell_of_block hkq2 0
        have hb12 : Below w.heap.size w w2 := below_then HB1.out.drew HB1.out.size hb2
        go_simp
        refine hK _ _ ?_
        clear hK K
        (refine wpAny_ready (rs := [2]) (by kernel_rfl) (by simp) ?_; refine AllReady.cons rfl (fun K hK => ?_) (AllReady.nil))
        go_simp
        refine hK _ _ ?_
        clear hK K
        (refine wpAny_ready (rs := [3]) (by kernel_rfl) (by simp) ?_; refine AllReady.cons rfl (fun K hK => ?_) (AllReady.nil))
        go_simp
        refine (H2.out _ hb12).mono ?_
        rintro e w3 ⟨hb3, o2, v2, rfl, ho2, hv2⟩
        have hcut : JpCut lp lq w w1 v1 v2 w3 := jp_cut HB1.out hb2 hb3 ho1 hv1 ho2 hv2
        clear hb2 hb3 ho1 hv1 ho2 hv2 hb12 hkq2 xq2
        go_simp
        refine hK _ _ ?_
        clear hK K
        (refine wpAny_take (i := 4) (v := ?_) rfl (by kernel_rfl) (by kernel_rfl) (by kernel_rfl) (fun _ _ _ h => h) (Or.inl ⟨rfl, ?_⟩) ?_; rotate_left 1; (focus (intro w; go_simp; try (with_reducible rfl))); change wpAny _ _ _ _ _ _ (Act.put _ (some 6) _) _; simp only [Act.put, List.setIfInBounds_toArray, List.set_cons_zero, List.set_cons_succ])
        (refine wpAny_take (i := 5) (v := ?_) rfl (by kernel_rfl) (by kernel_rfl) (by kernel_rfl) (fun _ _ _ h => h) (Or.inl ⟨rfl, ?_⟩) ?_; rotate_left 1; (focus (intro w; go_simp; try (with_reducible rfl))); change wpAny _ _ _ _ _ _ (Act.put _ (some 7) _) _; simp only [Act.put, List.setIfInBounds_toArray, List.set_cons_zero, List.set_cons_succ])
        refine wpAny_done (by kernel_rfl) ?_ _
        go_wp2
        go_meet
        exact ⟨_, _, rfl, rfl, hcut⟩
      · go_simp
        refine hK _ _ ?_
        clear hK K
        (refine wpAny_ready (rs := [1]) (by kernel_rfl) (by simp) ?_; refine AllReady.cons rfl (fun K hK => ?_) (AllReady.nil))
        go_simp
        refine (H1.out _ (by exact HB1.out.drew)).mono ?_
        rintro e w2 ⟨hb2, o1, v1, rfl, ho1, hv1⟩
        have hkq2 := (hb2.block _ (lt_of_block HKQ.out)).trans HKQ.out
        have xq2 : w2.cell? ⟨w.heap.size + 1, 0, none⟩ = some (.slice A2 lq.length c2) := cell_of_block hkq2 0
        have hb12 : Below w.heap.size w w2 := below_then HB1.out.drew HB1.out.size hb2
        go_simp
        refine hK _ _ ?_
        clear hK K
        (refine wpAny_ready (rs := [3]) (by kernel_rfl) (by simp) ?_; refine AllReady.cons rfl (fun K hK => ?_) (AllReady.nil))
        go_simp
        refine (H2.out _ hb12).mono ?_
        rintro e w3 ⟨hb3, o2, v2, rfl, ho2, hv2⟩
        have hcut : JpCut lp lq w w1 v1 v2 w3 := jp_cut HB1.out hb2 hb3 ho1 hv1 ho2 hv2
        clear hb2 hb3 ho1 hv1 ho2 hv2 hb12 hkq2 xq2
        go_simp
        refine hK _ _ ?_
        clear hK K
        (refine wpAny_take (i := 4) (v := ?_) rfl (by kernel_rfl) (by kernel_rfl) (by kernel_rfl) (fun _ _ _ h => h) (Or.inl ⟨rfl, ?_⟩) ?_; rotate_left 1; (focus (intro w; go_simp; try (with_reducible rfl))); change wpAny _ _ _ _ _ _ (Act.put _ (some 6) _) _; simp only [Act.put, List.setIfInBounds_toArray, List.set_cons_zero, List.set_cons_succ])
        (refine wpAny_take (i := 5) (v := ?_) rfl (by kernel_rfl) (by kernel_rfl) (by kernel_rfl) (fun _ _ _ h => h) (Or.inl ⟨rfl, ?_⟩) ?_; rotate_left 1; (focus (intro w; go_simp; try (with_reducible rfl))); change wpAny _ _ _ _ _ _ (Act.put _ (some 7) _) _; simp only [Act.put, List.setIfInBounds_toArray, List.set_cons_zero, List.set_cons_succ])
        refine wpAny_done (by kernel_rfl) ?_ _
        go_wp2
        go_meet
        exact ⟨_, _, rfl, rfl, hcut⟩
    · go_simp
      refine hK _ _ ?_
      clear hK K
      (refine wpAny_ready (rs := [0]) (by kernel_rfl) (by simp) ?_; refine AllReady.cons rfl (fun K hK => ?_) (AllReady.nil))
      go_simp
      refine hK _ _ ?_
      clear hK K
      (refine wpAny_ready (rs := [1]) (by kernel_rfl) (by simp) ?_; refine AllReady.cons rfl (fun K hK => ?_) (AllReady.nil))
      go_simp
      refine (H1.out _ (by exact HB1.out.drew)).mono ?_
      rintro e w2 ⟨hb2, o1, v1, rfl, ho1, hv1⟩
      have hkq2 := (hb2.block _ (lt_of_block HKQ.out)).trans HKQ.out
      have xq2 : w2.cell? ⟨w.heap.size + 1, 0, none⟩ = some (.slice A2 lq.length c2) := cell_of_block hkq2 0
      have hb12 : Below w.heap.size w w2 := below_then HB1.out.drew HB1.out.size hb2
      go_simp
      refine hK _ _ ?_
      clear hK K
      (refine wpAny_ready (rs := [3]) (by kernel_rfl) (by simp) ?_; refine AllReady.cons rfl (fun K hK => ?_) (AllReady.nil))
      go_simp
      refine (H2.out _ hb12).mono ?_
      rintro e w3 ⟨hb3, o2, v2, rfl, ho2, hv2⟩
      have hcut : JpCut lp lq w w1 v1 v2 w3 := jp_cut HB1.out hb2 hb3 ho1 hv1 ho2 hv2
      clear hb2 hb3 ho1 hv1 ho2 hv2 hb12 hkq2 xq2
      go_simp
      refine hK _ _ ?_
      clear hK K
      (refine wpAny_take (i := 4) (v := ?_) rfl (by kernel_rfl) (by kernel_rfl) (by kernel_rfl) (fun _ _ _ h => h) (Or.inl ⟨rfl, ?_⟩) ?_; rotate_left 1; (focus (intro w; go_simp; try (with_reducible rfl))); change wpAny _ _ _ _ _ _ (Act.put _ (some 6) _) _; simp only [Act.put, List.setIfInBounds_toArray, List.set_cons_zero, List.set_cons_succ])
      (refine wpAny_take (i := 5) (v := ?_) rfl (by kernel_rfl) (by kernel_rfl) (by kernel_rfl) (fun _ _ _ h => h) (Or.inl ⟨rfl, ?_⟩) ?_; rotate_left 1; (focus (intro w; go_simp; try (with_reducible rfl))); change wpAny _ _ _ _ _ _ (Act.put _ (some 7) _) _; simp only [Act.put, List.setIfInBounds_toArray, List.set_cons_zero, List.set_cons_succ])
      refine wpAny_done (by kernel_rfl) ?_ _
      go_wp2
      go_meet
      exact ⟨_, _, rfl, rfl, hcut⟩
  case rest =>
    obtain ⟨v1, v2, e1, e2, o1, o2, ho1, ho2, hv1, hv2, hb3⟩ := hcut
    replace e1 := e1.symm
    replace e2 := e2.symm
    subst e1 e2
    have hb13 : Below w.heap.size w wc := below_then HB1.out HB1.out.size hb3
    have hs3 : w1.heap.size ≤ wc.heap.size := hb3.size
    have hk3 := block_below HKR.out hb3
    have x3 := cell_of_block hk3 0
    have f3 := free_of_block hk3 0
    simp at x3
    have HK3 := Lib.hid hk3
    have HB13 := Lib.hid hb13
    have HO1 := Lib.hid ho1
    have HO2 := Lib.hid ho2
    have HV1 := Lib.hid hv1
    have HV2 := Lib.hid hv2
    clear hb3 hb13 hk3 ho1 ho2 hv1 hv2 xp xq
    have hnone : ((∀ t, ¬ IsGood lp t) ∨ ∀ t, ¬ IsGood lq t) → ∀ u, TwoPost diffOp lp lq w (.returned (.tuple #[.agg #[.slice none 0 0], .bool false])) (wc.setCell ⟨w.heap.size + 1 + 1, 0, none⟩ u) := fun h u =>
      ⟨[], _, false, rfl, two_none h, NdOwn.nil (HB13.out.setCell (p := ⟨w.heap.size + 1 + 1, 0, none⟩) (by show w.heap.size ≤ w.heap.size + 1 + 1; omega) _)⟩
    have HNONE := Lib.hid hnone
    clear hnone
    cases o1 with
    | none =>
      obtain rfl : v1 = .pointer none := HO1.out
      have heq := run_eql_nil_nil_val
      go_wp2
      refine bodyPost_ret (results_row_one rfl _ _ (w.heap.size + 1 + 1) _ _ _ _ rfl (block_setCell HK3.out _ _) Tryz.underlying25 rfl ((info_size infoValue).trans (by simp))) rfl ?_
      exact HNONE.out (.inl (HV1.out.2 rfl)) _
    | some tp =>
      have htp : TreeAt (fun b => w.heap.size ≤ b) wc v1 tp := HO1.out
      obtain ⟨bp, _, _, _, _, _, rfl, _⟩ := htp.open
      have heq1 := run_eql_ptr_nil bp
      have HTP := Lib.hid htp
      clear htp
      cases o2 with
      | none =>
        obtain rfl : v2 = .pointer none := HO2.out
        have heq := run_eql_nil_nil_val
        go_wp2
        refine bodyPost_ret (results_row_one rfl _ _ (w.heap.size + 1 + 1) _ _ _ _ rfl (block_setCell HK3.out _ _) Tryz.underlying25 rfl ((info_size infoValue).trans (by simp))) rfl ?_
        exact HNONE.out (.inr (HV2.out.2 rfl)) _
      | some tq =>
        have htq : TreeAt (fun b => w.heap.size ≤ b) wc v2 tq := HO2.out
        obtain ⟨bq, _, _, _, _, _, rfl, _⟩ := htq.open
        have heq2 := run_eql_ptr_nil bq
        have gp := HV1.out.1 tp rfl
        have gq := HV2.out.1 tq rfl
        have np := gp.count.2
        have nq := gq.count.2
        have HGP := Lib.hid gp
        have HGQ := Lib.hid gq
        have HTQ := Lib.hid htq
        have hok := clean_ok tq gq.2.1
        have HOK := Lib.hid hok
        have HCL := Lib.hid (clean_any tq gq.2.1 nq (fun b => w.heap.size ≤ b) _ wc htq)
        clear htq gp gq hok
        go_wp2_with fail
        refine HCL.out.mono ?_
        rintro e w2 ⟨cv, rfl, hb2, hct⟩
        have HB2 := Lib.hid hb2
        have HSM := Lib.hid (same_any tq.clean tq _ _ cv _ w2 HOK.out.1 (by have := HOK.out.2; omega) HGQ.out.2.1 (by omega) hct (HTQ.out.below hb2))
        clear hb2 hct HCL
        go_wp2_with fail
        refine HSM.out.mono ?_
        rintro e w3 ⟨rfl, hb3⟩
        have HB3 := Lib.hid (below_then HB2.out HB2.out.size hb3)
        have HB13' := Lib.hid (below_then HB13.out HB13.out.size HB3.out)
        have hk3' := block_below HK3.out HB3.out
        have hs3' := HB3.out.size
        clear hb3 x3 f3 HSM
        have x3 := cell_of_block hk3' 0
        have f3 := free_of_block hk3' 0
        simp at x3
        have HK3' := Lib.hid hk3'
        clear hk3'
        by_cases hcm : Tree.cmp tq.clean tq = 0
        case neg =>
          have HN := Lib.hid (show diffOp tp tq = none from by
            unfold diffOp
            rw [if_neg (fun c => hcm ((cmp_zero _ _ HOK.out.1 HGQ.out.2.1).2 ((clean_same tq HGQ.out.2.1).2 c)))])
          rw [decide_eq_false hcm]
          clear hcm
          go_wp2
          refine bodyPost_ret (results_row_one rfl _ _ (w.heap.size + 1 + 1) _ _ _ _ rfl (block_setCell HK3'.out _ _) Tryz.underlying25 rfl ((info_size infoValue).trans (by simp))) rfl ?_
          exact ⟨[], _, false, rfl, told_res HGP.out HGQ.out (by rw [HN.out]; exact .inr ⟨rfl, rfl, rfl⟩), NdOwn.nil (HB13'.out.setCell (p := ⟨w.heap.size + 1 + 1, 0, none⟩) (by show w.heap.size ≤ w.heap.size + 1 + 1; omega) _)⟩
        have HY := Lib.hid (show diffOp tp tq = some (Tree.diff tp tq) from by
            unfold diffOp
            rw [if_pos ((clean_same tq HGQ.out.2.1).1 ((cmp_zero _ _ HOK.out.1 HGQ.out.2.1).1 hcm))])
        rw [decide_eq_true hcm]
        have HJ := Lib.hid (diff_any tp HGP.out.2.1 np tq (fun b => w.heap.size ≤ b) _ _ w3 HGQ.out.2.1 nq (HTP.out.below HB3.out) (HTQ.out.below HB3.out))
        clear hcm
        go_wp2_with fail
        refine HJ.out.mono ?_
        rintro e w4 ⟨rv, rfl, hb4', hrt⟩
        have hb4 := below_then HB3.out HB3.out.size hb4'
        have hopt : OptAt (Fg (fun b => w.heap.size ≤ b) w3.heap.size) w4 rv (diffOp tp tq) := by rw [HY.out]; exact hrt
        have hok : ∀ t, diffOp tp tq = some t → t.shaped ∧ t.sized ∧ t.count ≤ 1000000000 := fun t ht => by
          obtain ⟨h1, h2⟩ := diff_ok tp tq HGP.out.2.1 HGQ.out.2.1
          rw [HY.out] at ht
          injection ht with ht
          subst ht
          have h3 : tp.count * (tq.count + 1) ≤ 80 * 81 := Nat.mul_le_mul np (by omega)
          exact ⟨Tree.ok_shaped _ h1, Tree.ok_sized _ h1 (by omega), by omega⟩
        have hb14 := below_then HB13.out HB13.out.size hb4
        have HTO := Lib.hid (told_any (diffOp tp tq) hok _ rv w4 hopt (HT.out w4 hb14))
        have hk4 := block_below HK3.out hb4
        have HK4 := Lib.hid hk4
        have HB14 := Lib.hid hb14
        have hs4 := hb4.size
        clear hok hb4 hb4' hrt hopt hb14 hk4 x3 f3 HNONE HJ
        go_wp2_with fail
        refine HTO.out.mono ?_
        rintro e w5 ⟨l, u, f, rfl, htold, hown⟩
        obtain ⟨A5, c5, rfl⟩ := hown.shape
        have hk5 := block_below HK4.out hown.1
        have x5 := cell_of_block hk5 0
        have f5 := free_of_block hk5 0
        simp at x5
        have HK5 := Lib.hid hk5
        have HO5 := Lib.hid hown
        have HTD := Lib.hid htold
        clear hown htold hk5 HTO
        go_wp2
        refine bodyPost_ret (results_row_one rfl _ _ (w.heap.size + 1 + 1) _ _ _ _ rfl (block_setCell HK5.out _ _) Tryz.underlying25 rfl ((info_size infoValue).trans (by simp))) rfl ?_
        exact ⟨l, _, f, rfl, told_res HGP.out HGQ.out HTD.out, NdOwn.cell HB14.out HO5.out (by omega) (by omega) _⟩
end Go.Proofs.YteeppdobeeodiaaGreatDoor
