/- The walks of the reference's OpText. -/
import Derived.Test.YtekamdcojabgeaaGreatDoorGoodOp
import Derived.Deep.RegionHeld3
import Derived.Deep.DeepCutAuto
namespace Go.Proofs.YtekamdcojabgeaaGreatDoor
open Go.RowKit
theorem cell_keep {W W' : World} {b o : Nat} {v : Value} (h : W.cell? ⟨b, o, none⟩ = some v) (hb : Below W.heap.size W W') : W'.cell? ⟨b, o, none⟩ = some v := by
  have hl : b < W.heap.size := by
    cases hh : W.heap[b]? with
    | none => simp [World.cell?, hh] at h
    | some o => exact (Array.getElem?_eq_some_iff.1 hh).1
  rw [hb.cell (p := ⟨b, o, none⟩) hl]; exact h
theorem keep4 {w1 W W' : World} {b o0 o1 o2 o3 : Nat} {v0 v1 v2 v3 : Value} (h : Below w1.heap.size w1 W ∧ W.cell? ⟨b, o0, none⟩ = some v0 ∧ W.cell? ⟨b, o1, none⟩ = some v1 ∧ W.cell? ⟨b, o2, none⟩ = some v2 ∧ W.cell? ⟨b, o3, none⟩ = some v3) (hb : Below W.heap.size W W') :
    Below w1.heap.size w1 W' ∧ W'.cell? ⟨b, o0, none⟩ = some v0 ∧ W'.cell? ⟨b, o1, none⟩ = some v1 ∧ W'.cell? ⟨b, o2, none⟩ = some v2 ∧ W'.cell? ⟨b, o3, none⟩ = some v3 :=
  ⟨below_then h.1 h.1.size hb, cell_keep h.2.1 hb, cell_keep h.2.2.1 hb, cell_keep h.2.2.2.1 hb, cell_keep h.2.2.2.2 hb⟩
theorem keepB {w1 W : World} {p : Prop} (h : Below w1.heap.size w1 W ∧ p) : Below w1.heap.size w1 W := h.1
theorem isGood_inj {l : List Nd} {t t' : Tree} (h : IsGood l t) (h' : IsGood l t') : t = t' := by
  obtain ⟨⟨h1, h2, _, _⟩, _⟩ := isGood_iff.1 h
  obtain ⟨⟨h3, h4, _, _⟩, _⟩ := isGood_iff.1 h'
  exact flat_inj h1 h2 h3 h4
def opTx (p : OpV) (body : List UInt8) : List UInt8 := Lib.itoa p.kind ++ 32 :: (Lib.itoa p.id ++ 32 :: (Lib.itoa p.session ++ 32 :: (Lib.itoa p.no ++ 32 :: body)))
def OpTxIs (p : OpV) (l : List Nd) (s : ByteArray) : Prop := ∃ body, s = ⟨(opTx p body).toArray⟩ ∧ ((p.kind = 1 ∧ ∃ t, IsGood l t ∧ body = t.wr) ∨ (p.kind ≠ 1 ∧ body = []))
theorem OpTxIs.eq {p : OpV} {l : List Nd} {s s' : ByteArray} (h : OpTxIs p l s) (h' : OpTxIs p l s') : s = s' := by
  obtain ⟨b, rfl, h⟩ := h
  obtain ⟨b', rfl, h'⟩ := h'
  have : b = b' := by
    rcases h with ⟨_, t, h1, rfl⟩ | ⟨h1, rfl⟩ <;> rcases h' with ⟨_, t', h2, rfl⟩ | ⟨h2, rfl⟩
    · rw [isGood_inj h1 h2]
    · exact absurd ‹_› h2
    · exact absurd ‹_› h1
    · rfl
  rw [this]
def OTP (p : OpV) (l : List Nd) (w : World) (e : Ending) (w' : World) : Prop := Below w.heap.size w w' ∧ ∃ g s, IsVal l g ∧ e = .returned (.tuple #[.string s, .bool (opG p l g)]) ∧ (if opG p l g then OpTxIs p l s else s = ⟨#[]⟩)
/-- What a good operation's fields are. -/
theorem opG_nums {p : OpV} {l : List Nd} {g : Bool} (h : opG p l g = true) : (0 ≤ p.id ∧ p.id ≤ 100) ∧ (0 ≤ p.session ∧ p.session ≤ 100) ∧ (1 ≤ p.no ∧ p.no ≤ 1000) ∧ ((p.kind = 1 ∧ g = true) ∨ (p.kind = 2 ∧ l = [])) := by
  simp only [opG, opR, inB, Bool.and_eq_true, decide_eq_true_eq] at h
  obtain ⟨⟨h1, h2, h3⟩, h4⟩ := h
  refine ⟨h1, h2, h3, ?_⟩
  by_cases k1 : p.kind = 1
  · rw [if_pos k1] at h4
    exact .inl ⟨k1, h4⟩
  · rw [if_neg k1] at h4
    by_cases k2 : p.kind = 2
    · rw [if_pos k2] at h4
      exact .inr ⟨k2, by simpa using h4⟩
    · rw [if_neg k2] at h4
      cases h4
theorem sNumZ_any (z : Int) (h0 : 0 ≤ z) (h1 : z ≤ 1000000000) (w : World) : Calls Tryz.prog 74 #[.int .i64 z] w fun e w' => e = .returned (.string ⟨(Lib.itoa z).toArray⟩) ∧ Below w.heap.size w w' := by
  obtain ⟨n, rfl⟩ : ∃ n : Nat, z = (n : Int) := ⟨z.toNat, by omega⟩
  have hi : Lib.itoa (n : Int) = Lib.decDigits n := by rw [Lib.itoa, if_neg (by omega)]; simp
  rw [hi]
  exact sNum_any n (by omega) w
theorem itoa_short (z : Int) (h0 : -1000000000 ≤ z) (h1 : z ≤ 1000000000) : (Lib.itoa z).length ≤ 11 := itoa_len z (by simp [numOK, h0, h1])
theorem tx_join (a b c d e : List UInt8) : (⟨a.toArray⟩ : ByteArray) ++ ⟨#[32]⟩ ++ ⟨b.toArray⟩ ++ ⟨#[32]⟩ ++ ⟨c.toArray⟩ ++ ⟨#[32]⟩ ++ ⟨d.toArray⟩ ++ ⟨#[32]⟩ ++ ⟨e.toArray⟩ = ⟨(a ++ 32 :: (b ++ 32 :: (c ++ 32 :: (d ++ 32 :: e)))).toArray⟩ := by
  apply bytes_ext
  simp only [app_list]
  simp
theorem tx_join0 (a b c d : List UInt8) : (⟨a.toArray⟩ : ByteArray) ++ ⟨#[32]⟩ ++ ⟨b.toArray⟩ ++ ⟨#[32]⟩ ++ ⟨c.toArray⟩ ++ ⟨#[32]⟩ ++ ⟨d.toArray⟩ ++ ⟨#[32]⟩ = ⟨(a ++ 32 :: (b ++ 32 :: (c ++ 32 :: (d ++ 32 :: [])))).toArray⟩ := by
  apply bytes_ext
  simp only [app_list]
  simp
set_option maxRecDepth 100000 in
set_option maxHeartbeats 4000000 in
theorem sOpTx_any (p : OpV) (l : List Nd) (_hl : l.length ≤ 1000000000) (hp : opG p l true = true) (hv : p.kind = 1 → ∃ t, IsGood l t) (F : Nat → Prop) (A : Option Addr) (c : Nat) (w : World) (hr : Rds F w A (ndCells l)) :
    Calls Tryz.prog 43 #[p.val A l.length c] w fun e w' => Below w.heap.size w w' ∧ ∃ s, e = .returned (.string s) ∧ OpTxIs p l s := by
  obtain ⟨⟨i0, i1⟩, ⟨s0, s1⟩, ⟨n0, n1⟩, hk⟩ := opG_nums hp
  have hk2 : 0 ≤ p.kind ∧ p.kind ≤ 2 := by omega
  obtain ⟨k0, k1⟩ := hk2
  have HK := Lib.hid hk
  have L1 := itoa_short p.kind (by omega) (by omega)
  have L2 := itoa_short p.id (by omega) (by omega)
  have L3 := itoa_short p.session (by omega) (by omega)
  have L4 := itoa_short p.no (by omega) (by omega)
  have N1 := Lib.hid (fun W => sNumZ_any p.kind k0 (by omega) W)
  have N2 := Lib.hid (fun W => sNumZ_any p.id i0 (by omega) W)
  have N3 := Lib.hid (fun W => sNumZ_any p.session s0 (by omega) W)
  have N4 := Lib.hid (fun W => sNumZ_any p.no (by omega) (by omega) W)
  have HJ := Lib.hid (fun e => tx_join (Lib.itoa p.kind) (Lib.itoa p.id) (Lib.itoa p.session) (Lib.itoa p.no) e)
  have HJ0 := Lib.hid (tx_join0 (Lib.itoa p.kind) (Lib.itoa p.id) (Lib.itoa p.session) (Lib.itoa p.no))
  have HR := Lib.hid hr
  have HV := Lib.hid hv
  have hbn : Below w.heap.size w (w.alloc (.cells #[.int .i64 p.kind, .int .i64 p.id, .slice A l.length c, .int .i64 p.session, .int .i64 p.no] 33 (0, 0))) := (Below.refl _ _).alloc (Nat.le_refl _) _
  have hnb := heap_alloc_new w (.cells #[.int .i64 p.kind, .int .i64 p.id, .slice A l.length c, .int .i64 p.session, .int .i64 p.no] 33 (0, 0))
  clear hr hv hk hp
  generalize hT1 : Lib.itoa p.kind = T1 at L1 N1 HJ HJ0
  have HT1 := Lib.hid hT1
  clear hT1
  generalize hT2 : Lib.itoa p.id = T2 at L2 N2 HJ HJ0
  have HT2 := Lib.hid hT2
  clear hT2
  generalize hT3 : Lib.itoa p.session = T3 at L3 N3 HJ HJ0
  have HT3 := Lib.hid hT3
  clear hT3
  generalize hT4 : Lib.itoa p.no = T4 at L4 N4 HJ HJ0
  have HT4 := Lib.hid hT4
  clear hT4
  unfold OpV.val
  go_enter Tryz.func43, Tryz.ntmps43
  go_wp2
  generalize w.alloc (.cells #[.int .i64 p.kind, .int .i64 p.id, .slice A l.length c, .int .i64 p.session, .int .i64 p.no] 33 (0, 0)) = w1 at hbn hnb ⊢
  obtain ⟨d0, d1, d2, d3, d4⟩ := cells5 hnb
  have HBN := Lib.hid hbn
  have HNB := Lib.hid hnb
  have z1 : ¬ 9223372036854775807 < T1.length + 1 := by omega
  have z2 : ¬ 9223372036854775807 < T1.length + 1 + T2.length := by omega
  have z3 : ¬ 9223372036854775807 < T1.length + 1 + T2.length + 1 := by omega
  have z4 : ¬ 9223372036854775807 < T1.length + 1 + T2.length + 1 + T3.length := by omega
  have z5 : ¬ 9223372036854775807 < T1.length + 1 + T2.length + 1 + T3.length + 1 := by omega
  have z6 : ¬ 9223372036854775807 < T1.length + 1 + T2.length + 1 + T3.length + 1 + T4.length := by omega
  have z7 : ¬ 9223372036854775807 < T1.length + 1 + T2.length + 1 + T3.length + 1 + T4.length + 1 := by omega
  clear hbn hnb
  go_cut [3] (fun s3 wx => s3 = .string ((⟨T1.toArray⟩ : ByteArray) ++ ⟨#[32]⟩ ++ ⟨T2.toArray⟩ ++ ⟨#[32]⟩ ++ ⟨T3.toArray⟩ ++ ⟨#[32]⟩ ++ ⟨T4.toArray⟩ ++ ⟨#[32]⟩) ∧ Below w1.heap.size w1 wx)
  case first =>
    go_region_held3 (fun W' => Below w1.heap.size w1 W' ∧ W'.cell? ⟨w.heap.size, 0, none⟩ = some (.int .i64 p.kind) ∧ W'.cell? ⟨w.heap.size, 1, none⟩ = some (.int .i64 p.id) ∧ W'.cell? ⟨w.heap.size, 3, none⟩ = some (.int .i64 p.session) ∧ W'.cell? ⟨w.heap.size, 4, none⟩ = some (.int .i64 p.no))
      (first
        | exact ⟨(Below.refl _ _).drew, d0, d1, d3, d4⟩
        | exact keep4 (by assumption) hbb)
      ((first
        | (go_at_call_of 74 (Value.int .i64 p.kind); refine (N1.out _).mono ?_; rintro e w' ⟨rfl, hbb⟩)
        | (go_at_call_of 74 (Value.int .i64 p.id); refine (N2.out _).mono ?_; rintro e w' ⟨rfl, hbb⟩)
        | (go_at_call_of 74 (Value.int .i64 p.session); refine (N3.out _).mono ?_; rintro e w' ⟨rfl, hbb⟩)
        | (go_at_call_of 74 (Value.int .i64 p.no); refine (N4.out _).mono ?_; rintro e w' ⟨rfl, hbb⟩)))
    all_goals
      go_wp2_with fail
      go_meet
      exact ⟨rfl, keepB (by assumption)⟩
  case rest =>
    obtain ⟨rfl, hbx⟩ := hcut
    have HBX := Lib.hid (below_then HBN.out HBN.out.size hbx)
    obtain ⟨x0, x1, x2, x3, x4⟩ := cells5 (block_below HNB.out hbx)
    clear d0 d1 d2 d3 d4 hbx
    by_cases hk1 : p.kind = 1
    · have kb : (p.kind == 1) = true := by simp [hk1]
      have HK1 := Lib.hid hk1
      obtain ⟨t, ht⟩ := HV.out hk1
      obtain ⟨⟨hfl, hok, hcn, _⟩, hwl⟩ := isGood_iff.1 ht
      have HTX := Lib.hid (sText_any t hok (by omega) l (by have := Tree.flat_length t emptyB (-1) 0; rw [← hfl] at this; omega) 0 (Sub.of_flat hfl) F A c wc (HR.out.frame (Agree.of_below HBX.out)))
      have HG := Lib.hid ht
      have e1 : ¬ 9223372036854775807 < T1.length + 1 + T2.length + 1 + T3.length + 1 + T4.length + 1 + t.wr.length := by omega
      clear hk1 ht hfl hok
      go_wp2_with fail
      refine HTX.out.mono ?_
      rintro e w4 ⟨rfl, hb4⟩
      have HB4 := Lib.hid (below_then HBX.out HBX.out.size hb4)
      clear hb4
      go_wp2
      go_ret
      refine ⟨HB4.out, _, rfl, t.wr, ?_, .inl ⟨HK1.out, t, HG.out, rfl⟩⟩
      rw [opTx, HT1.out, HT2.out, HT3.out, HT4.out, ← HJ.out]
    · have kb : (p.kind == 1) = false := by simpa using hk1
      have HK1 := Lib.hid hk1
      clear hk1
      go_wp2
      go_ret
      refine ⟨HBX.out, _, rfl, [], ?_, .inr ⟨HK1.out, rfl⟩⟩
      rw [opTx, HT1.out, HT2.out, HT3.out, HT4.out, ← HJ0.out]
end Go.Proofs.YtekamdcojabgeaaGreatDoor
