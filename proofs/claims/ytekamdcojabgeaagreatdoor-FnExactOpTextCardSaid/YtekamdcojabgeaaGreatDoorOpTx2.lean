/- The walks of OpText: the reference's and the program's. -/
import Derived.Test.YtekamdcojabgeaaGreatDoorOpTx
namespace Go.Proofs.YtekamdcojabgeaaGreatDoor
open Go.RowKit
theorem otp_no {p : OpV} {l : List Nd} {w w' : World} {g : Bool} (hg : IsVal l g) (h : opG p l g = false) (hb : Below w.heap.size w w') : OTP p l w (.returned (.tuple #[.string ⟨#[]⟩, .bool false])) w' :=
  ⟨hb, g, ⟨#[]⟩, hg, by rw [h], by rw [h]; simp⟩
theorem otp_yes {p : OpV} {l : List Nd} {w w' : World} {g : Bool} {s : ByteArray} (hg : IsVal l g) (h : opG p l g = true) (hb : Below w.heap.size w w') (hs : OpTxIs p l s) : OTP p l w (.returned (.tuple #[.string s, .bool true])) w' :=
  ⟨hb, g, s, hg, by rw [h], by rw [if_pos h]; exact hs⟩
set_option maxHeartbeats 1000000 in
theorem sOpText_any (p : OpV) (l : List Nd) (hl : l.length ≤ 1000000000) (hsz : ∀ x ∈ l, x.text.size ≤ 9223372036854775807 ∧ x.name.size ≤ 9223372036854775807) (F : Nat → Prop) (A : Option Addr) (c : Nat) (w : World) (hr : Rds F w A (ndCells l)) :
    Calls Tryz.prog 14 #[p.val A l.length c] w (OTP p l w) := by
  have hbn : Below w.heap.size w (w.alloc (.cells #[.int .i64 p.kind, .int .i64 p.id, .slice A l.length c, .int .i64 p.session, .int .i64 p.no] 33 (0, 0))) := (Below.refl _ _).alloc (Nat.le_refl _) _
  have hnb := heap_alloc_new w (.cells #[.int .i64 p.kind, .int .i64 p.id, .slice A l.length c, .int .i64 p.session, .int .i64 p.no] 33 (0, 0))
  have HBN := Lib.hid hbn
  have HNB := Lib.hid hnb
  have HG := Lib.hid (fun W (hb : Below w.heap.size w W) => sGoodOp_any p l hl hsz F A c W (hr.frame (Agree.of_below hb)))
  have HX := Lib.hid (fun W (hb : Below w.heap.size w W) hp hv => sOpTx_any p l hl hp hv F A c W (hr.frame (Agree.of_below hb)))
  clear hbn hnb hr hsz
  unfold OpV.val
  go_enter Tryz.func14, Tryz.ntmps14
  go_wp2_with fail
  generalize w.alloc (.cells #[.int .i64 p.kind, .int .i64 p.id, .slice A l.length c, .int .i64 p.session, .int .i64 p.no] 33 (0, 0)) = w1 at HBN HNB ⊢
  refine (HG.out _ HBN.out).mono ?_
  rintro e w2 ⟨hb2, g, rfl, hg⟩
  have HB2 := Lib.hid (below_then HBN.out HBN.out.size hb2)
  have HGG := Lib.hid hg
  obtain ⟨x0, x1, x2, x3, x4⟩ := cells5 (block_below HNB.out hb2)
  clear hb2 hg
  cases ho : opG p l g
  · have HO := Lib.hid ho
    clear ho
    go_wp2
    go_ret2
    exact otp_no HGG.out HO.out HB2.out
  · have HO := Lib.hid ho
    have hp : opG p l true = true := by
      cases g
      · have := opG_nums ho
        simp at this
        rw [this.2.2.2.2]
        rw [this.2.2.2.2] at ho
        have hk := this.2.2.2.1
        simp only [opG, hk] at ho ⊢
        exact ho
      · exact ho
    have hv : p.kind = 1 → ∃ t, IsGood l t := fun hk => HGG.out.1 (by have := opG_nums ho; simp [hk] at this; exact this.2.2.2)
    have HP := Lib.hid hp
    have HV := Lib.hid hv
    clear ho hp hv
    go_wp2_with fail
    refine (HX.out _ HB2.out HP.out HV.out).mono ?_
    rintro e w3 ⟨hb3, s, rfl, hs⟩
    have HS := Lib.hid hs
    have HB3 := Lib.hid (below_then HB2.out HB2.out.size hb3)
    clear hs hb3
    go_wp2
    go_ret2
    exact otp_yes HGG.out HO.out HB3.out HS.out
def opNums (p : OpV) : List Int := [p.kind, p.id, p.session, p.no]
def txPre (p : OpV) (j : Nat) : List UInt8 := ((opNums p).take j).flatMap fun z => Lib.itoa z ++ [32]
theorem txPre_four (p : OpV) (body : List UInt8) : txPre p 4 ++ body = opTx p body := by
  simp [txPre, opNums, opTx]
theorem txPre_succ (p : OpV) (j : Nat) (z : Int) (h : (opNums p)[j]? = some z) : txPre p (j + 1) = txPre p j ++ (Lib.itoa z ++ [32]) := by
  rw [txPre, List.take_add_one, h]
  simp [txPre]
theorem txPre_len (p : OpV) (h : ∀ z ∈ opNums p, 0 ≤ z ∧ z ≤ 1000) (j : Nat) : (txPre p j).length ≤ 12 * j := by
  induction j with
  | zero => simp [txPre]
  | succ j ih =>
    cases hz : (opNums p)[j]? with
    | none =>
      have hl : (opNums p).length ≤ j := by simpa using hz
      have : txPre p (j + 1) = txPre p j := by rw [txPre, txPre, List.take_of_length_le (by omega), List.take_of_length_le hl]
      rw [this]; omega
    | some z =>
      have := h z (List.mem_of_getElem? hz)
      have := itoa_short z (by omega) (by omega)
      rw [txPre_succ p j z hz]
      simp
      omega
set_option maxRecDepth 100000 in
set_option maxHeartbeats 2000000 in
theorem opText_any (p : OpV) (l : List Nd) (hl : l.length ≤ 1000000000) (hsz : ∀ x ∈ l, x.text.size ≤ 9223372036854775807 ∧ x.name.size ≤ 9223372036854775807) (F : Nat → Prop) (A : Option Addr) (c : Nat) (hc : l.length ≤ c) (w : World) (hr : Rds F w A (ndCells l)) (htab : Tabs w.heap.size w) :
    Calls Tryz.prog 15 #[p.val A l.length c] w (OTP p l w) := by
  have hbn : Below w.heap.size w (w.alloc (.cells #[.int .i64 p.kind, .int .i64 p.id, .slice A l.length c, .int .i64 p.session, .int .i64 p.no] 33 (0, 0))) := (Below.refl _ _).alloc (Nat.le_refl _) _
  have hnb := heap_alloc_new w (.cells #[.int .i64 p.kind, .int .i64 p.id, .slice A l.length c, .int .i64 p.session, .int .i64 p.no] 33 (0, 0))
  have HBN := Lib.hid hbn
  have HNB := Lib.hid hnb
  have HG := Lib.hid (fun W (hb : Below w.heap.size w W) => goodOp_any p l hl hsz F A c hc W (hr.frame (Agree.of_below hb)) ((htab.below hb).mono hb.size))
  have HVO := Lib.hid (fun W (hb : Below w.heap.size w W) => valOf_any l (by omega) hsz F A c hc W (hr.frame (Agree.of_below hb)) ((htab.below hb).mono hb.size))
  have HT := Lib.hid htab
  clear hbn hnb hr hsz htab
  unfold OpV.val
  go_enter Tryz.func15, Tryz.ntmps15
  go_wp2_with fail
  generalize w.alloc (.cells #[.int .i64 p.kind, .int .i64 p.id, .slice A l.length c, .int .i64 p.session, .int .i64 p.no] 33 (0, 0)) = w1 at HBN HNB ⊢
  refine (HG.out _ HBN.out).mono ?_
  rintro e w2 ⟨hb2, g, rfl, hg⟩
  have HB2 := Lib.hid (below_then HBN.out HBN.out.size hb2)
  have HGG := Lib.hid hg
  have HK2 := Lib.hid (block_below HNB.out hb2)
  obtain ⟨x0, x1, x2, x3, x4⟩ := cells5 HK2.out
  clear hb2 hg
  cases ho : opG p l g
  · have HO := Lib.hid ho
    clear ho
    go_wp2
    go_ret2
    exact otp_no HGG.out HO.out HB2.out
  · obtain ⟨⟨i0, i1⟩, ⟨s0, s1⟩, ⟨n0, n1⟩, hk⟩ := opG_nums ho
    have hnums : ∀ z ∈ opNums p, 0 ≤ z ∧ z ≤ 1000 := by
      intro z hz
      simp [opNums] at hz
      omega
    have HO := Lib.hid ho
    have HKK := Lib.hid hk
    have HN := Lib.hid hnums
    have hb3 : Below w2.heap.size w2 (w2.alloc (.cells #[.int .i64 p.kind, .int .i64 p.id, .int .i64 p.session, .int .i64 p.no] 3 (0, 0))) := (Below.refl _ _).alloc (Nat.le_refl _) _
    have hn3 := heap_alloc_new w2 (.cells #[.int .i64 p.kind, .int .i64 p.id, .int .i64 p.session, .int .i64 p.no] 3 (0, 0))
    have HB3 := Lib.hid (below_then HB2.out HB2.out.size hb3)
    have HN3 := Lib.hid hn3
    have HK3 := Lib.hid (block_below HK2.out hb3)
    clear ho hk hnums hb3 hn3
    go_wp2
    generalize w2.alloc (.cells #[.int .i64 p.kind, .int .i64 p.id, .int .i64 p.session, .int .i64 p.no] 3 (0, 0)) = w3 at HB3 HN3 HK3 ⊢
    clear x0 x1 x2 x3 x4
    go_loopw [4, 20] (fun v i wx => ∃ (j : Nat) (R : ByteArray), v = .string R ∧ i = .int .i64 (j : Int) ∧ j ≤ 4 ∧ R.data.toList = txPre p j ∧ Below w3.heap.size w3 wx) (fun _ i _ => 4 - (intOf i).toNat)
    case atStart => exact ⟨0, ⟨#[]⟩, rfl, rfl, by omega, rfl, Below.refl _ _⟩
    case round =>
      obtain ⟨j, R, rfl, rfl, hj, hR, hbx⟩ := hrel
      have hRl : R.size ≤ 48 := by
        have h1 := txPre_len p HN.out j
        rw [← hR] at h1
        simp at h1
        omega
      have HX := Lib.hid hbx
      have HRR := Lib.hid hR
      have HBX := Lib.hid (below_then HB3.out HB3.out.size hbx)
      clear hbx hR
      by_cases hlt : j < 4
      · have hz : (opNums p)[j]? = some (opNums p)[j] := by simp [opNums, hlt]
        generalize (opNums p)[j] = z at hz
        have hzb := HN.out z (List.mem_of_getElem? hz)
        have hcz := cell_of_row (L := (opNums p).map (Value.int .i64)) (block_below HN3.out HX.out) j (.int .i64 z) (by rw [List.getElem?_map, hz]; rfl)
        have hzl := itoa_short z (by omega) (by omega)
        have HZ := Lib.hid hz
        have HI := Lib.hid (fun W (hb : Below w.heap.size w W) => itoa_any w.heap.size z (by omega) (by omega) W (HT.out.below hb))
        clear hz
        generalize hT : Lib.itoa z = T at hzl HI
        have HTT := Lib.hid hT
        have e1 : ¬ 9223372036854775807 < T.length + 1 := by omega
        have e2 : ¬ 9223372036854775807 < R.size + (T.length + 1) := by omega
        clear hT
        go_wp2_with fail
        refine (HI.out _ HBX.out).mono ?_
        rintro e w4 ⟨rfl, hb4⟩
        have HB4 := Lib.hid (below_then HX.out HX.out.size hb4)
        clear hb4
        go_wp2
        go_roundw
        case rel =>
          refine ⟨j + 1, _, rfl, by go_num, by omega, ?_, HB4.out⟩
          rw [txPre_succ p j z HZ.out, HTT.out, app_list, app_list, HRR.out]
        case measure => simp [intOf]; omega
      · obtain rfl : j = 4 := by omega
        obtain ⟨x0, x1, x2, x3, x4⟩ := cells5 (block_below HK3.out HX.out)
        by_cases hk1 : p.kind = 1
        · have kb : (p.kind == 1) = true := by simp [hk1]
          have HK1 := Lib.hid hk1
          clear hk1
          go_wp2_with fail
          refine (HVO.out _ HBX.out).mono ?_
          rintro e w5 ⟨hb5, o, v, rfl, hopt, hvo⟩
          have hgt : g = true := by
            rcases HKK.out with ⟨_, h⟩ | ⟨h, _⟩
            · exact h
            · have := HK1.out; omega
          obtain ⟨t0, ht0⟩ := HGG.out.1 hgt
          rcases o with _ | t
          · exact absurd ht0 (hvo.2 rfl t0)
          have hgood := hvo.1 t rfl
          have hopt' : TreeAt (fun b => wr.heap.size ≤ b) w5 v t := hopt
          obtain ⟨⟨_, hok, hcn, _⟩, hwl⟩ := isGood_iff.1 hgood
          have HB5 := Lib.hid (below_then HBX.out HBX.out.size hb5)
          have HST := Lib.hid (string_any t (t.ok_bounded hok) (t.ok_shaped hok) (by omega) _ v w5 hopt' ((HT.out.below HB5.out).mono HB5.out.size))
          have HGD := Lib.hid hgood
          have e1 : ¬ 9223372036854775807 < R.size + t.wr.length := by omega
          clear hb5 hopt hopt' hvo ht0 hgood hgt
          go_wp2_with fail
          refine HST.out.mono ?_
          rintro e w6 ⟨rfl, hb6⟩
          have HB6 := Lib.hid (below_then HB5.out HB5.out.size hb6)
          clear hb6
          go_wp2
          go_ret2
          exact otp_yes HGG.out HO.out HB6.out ⟨t.wr, bytes_ext (by rw [app_list, HRR.out]; simp [txPre_four]), .inl ⟨HK1.out, t, HGD.out, rfl⟩⟩
        · have kb : (p.kind == 1) = false := by simpa using hk1
          have HK1 := Lib.hid hk1
          clear hk1
          go_wp2
          go_ret2
          exact otp_yes HGG.out HO.out HBX.out ⟨[], bytes_ext (by rw [HRR.out]; simp [← txPre_four]), .inr ⟨HK1.out, rfl⟩⟩
end Go.Proofs.YtekamdcojabgeaaGreatDoor
