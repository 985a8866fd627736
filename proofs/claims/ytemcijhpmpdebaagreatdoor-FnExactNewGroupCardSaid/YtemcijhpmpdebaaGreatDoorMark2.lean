/- What the laws write into rows of nodes and look for there: markText, markNodeS, heldNodeS. What is written into the blocks of F whose types are of K, and into no other block: plain words. What the laws write into rows of nodes and look for there: markNodeS, heldNodeS, markValue, heldValue. -/
import Derived.Test.YtemcijhpmpdebaaGreatDoorSpec2
import Derived.Test.YtemcijhpmpdebaaGreatDoorBs2
import Derived.Deep.RegionWith
import Derived.Test.YtemcijhpmpdebaaGreatDoorBase
import Derived.StillTailTactics
namespace Go.Proofs.YtemcijhpmpdebaaGreatDoor
open Go.RowKit
def mtext (k : Nat) : ByteArray := if k = 0 then ⟨#[109, 48]⟩ else ⟨(109 :: Lib.decDigits k).toArray⟩
theorem decDigits_step (n : Nat) (h : 0 < n) (tail : List UInt8) : (if n / 10 = 0 then [] else Lib.decDigits (n / 10)) ++ (UInt8.ofNat (48 + n % 10) :: tail) = Lib.decDigits n ++ tail := by
  by_cases h10 : n < 10
  · rw [if_pos (by omega), Lib.decDigits, dif_pos h10]
    simp [Nat.mod_eq_of_lt h10]
  · rw [if_neg (by omega)]
    conv => rhs; rw [Lib.decDigits, dif_neg h10]
    simp
set_option maxRecDepth 100000 in
set_option maxHeartbeats 2000000 in
theorem markText_any (k : Nat) (hk : k ≤ 1000000000000000) (w : World) :
    Calls Tryz.prog 59 #[.int .i64 (k : Int)] w fun e w' => e = .returned (.string (mtext k)) ∧ Below w.heap.size w w' := by
  by_cases h0 : k = 0
  · subst h0
    go_enter Tryz.func59, Tryz.ntmps59
    go_wp2
    go_ret
    exact ⟨rfl, Below.refl _ _⟩
  · have hpos : ¬ ((k : Int) ≤ 0) := by omega
    go_enter Tryz.func59, Tryz.ntmps59
    go_wp2
    go_loopw [0, 3] (fun v s wx => ∃ (n : Nat) (R : ByteArray), v = .int .i64 (n : Int) ∧ s = .string R ∧ n ≤ k ∧ (if n = 0 then [] else Lib.decDigits n) ++ R.data.toList = Lib.decDigits k ∧ Below w.heap.size w wx) (fun v _ _ => (intOf v).toNat)
    case atStart => exact ⟨k, ⟨#[]⟩, rfl, rfl, Nat.le_refl _, by rw [if_neg h0]; simp, Below.refl _ _⟩
    case round =>
      obtain ⟨n, R, rfl, rfl, hn, hR, hb⟩ := hrel
      have hlen := digits_len k 15 (by omega)
      have hRl : R.size ≤ 16 := by
        have := congrArg List.length hR
        simp at this
        omega
      have HR := Lib.hid hR
      have HB := Lib.hid hb
      clear hR hb
      by_cases hn0 : n = 0
      · subst hn0
        have HR0 := Lib.hid (show R.data.toList = Lib.decDigits k by simpa using HR.out)
        have e1 : ¬ 9223372036854775807 < 1 + R.size := by omega
        go_wp2
        go_ret
        refine ⟨congrArg (fun x => Ending.returned (Value.string x)) ?_, HB.out⟩
        rw [mtext, if_neg h0]
        exact bytes_ext (by rw [app_list, HR0.out]; simp)
      · have HQ := Lib.hid (show (n : Int) / 10 = ((n / 10 : Nat) : Int) by omega)
        have hcv := conv_one (48 + n % 10) (by omega) wr
        have hce : ((48 + n % 10 : Nat) : Int) = 48 + (n : Int) % 10 := by omega
        rw [hce] at hcv
        clear hce
        have hpn : (0 : Int) < (n : Int) := by omega
        have e1 : ¬ 9223372036854775807 < 1 + R.size := by omega
        have HST := Lib.hid (decDigits_step n (by omega) R.data.toList)
        go_wp2
        go_roundw
        case rel =>
          refine ⟨n / 10, _, by rw [← HQ.out], rfl, by omega, ?_, HB.out.alloc HB.out.size _⟩
          have h := HST.out
          rw [app_list]
          have h2 := HR.out
          rw [if_neg hn0] at h2
          rw [← h2, ← h]
          by_cases hz : n / 10 = 0 <;> simp [hz]
        case measure => simp [intOf]; omega
end Go.Proofs.YtemcijhpmpdebaaGreatDoor
namespace Go.Proofs.YtemcijhpmpdebaaGreatDoor
open Go.RowKit
structure Wrote (K : TypeId → Prop) (F : Nat → Prop) (w w' : World) : Prop where
  size : w.heap.size ≤ w'.heap.size
  blk : ∀ b, b < w.heap.size → (F b ∧ ∃ cs cs' T, K T ∧ w.heap[b]? = some (.cells cs T (0, 0)) ∧ w'.heap[b]? = some (.cells cs' T (0, 0)) ∧ cs'.size = cs.size) ∨ w'.heap[b]? = w.heap[b]?
  bel : ∀ B, B ≤ w.heap.size → (∀ b, F b → B ≤ b) → Below B w w'
variable {K : TypeId → Prop} {F : Nat → Prop} {w w1 w2 : World}
theorem Wrote.of_below (h : Below w.heap.size w w1) : Wrote K F w w1 := ⟨h.size, fun b hb => .inr (h.block b hb), fun _ hB _ => h.mono hB⟩
theorem Wrote.refl (K : TypeId → Prop) (F : Nat → Prop) (w : World) : Wrote K F w w := .of_below (Below.refl _ _)
theorem Wrote.trans (h : Wrote K F w w1) (h' : Wrote K F w1 w2) : Wrote K F w w2 := by
  refine ⟨Nat.le_trans h.size h'.size, fun b hb => ?_, fun B hB hF => (h.bel B hB hF).trans (h'.bel B (Nat.le_trans hB h.size) hF)⟩
  rcases h.blk b hb with ⟨hF, cs, cs1, T, hT, e, e1, s1⟩ | e1
  · rcases h'.blk b (Nat.lt_of_lt_of_le hb h.size) with ⟨_, d, d1, T', _, e2, e3, s2⟩ | e2
    · rw [e1] at e2
      injection e2 with e2
      injection e2 with e4 e5
      subst e4 e5
      exact .inl ⟨hF, cs, d1, T, hT, e, e3, s2.trans s1⟩
    · exact .inl ⟨hF, cs, cs1, T, hT, e, e2.trans e1, s1⟩
  · rcases h'.blk b (Nat.lt_of_lt_of_le hb h.size) with ⟨hF, d, d1, T', hT, e2, e3, s2⟩ | e2
    · exact .inl ⟨hF, d, d1, T', hT, e1.symm.trans e2, e3, s2⟩
    · exact .inr (e2.trans e1)
theorem Wrote.then (h : Wrote K F w w1) (h' : Below w1.heap.size w1 w2) : Wrote K F w w2 := h.trans (.of_below h')
theorem Wrote.set (h : Wrote K F w w1) {g : Nat} {cs : Array Value} {T : TypeId} (hb : w1.heap[g]? = some (.cells cs T (0, 0))) (hT : K T) (hF : F g) (j : Nat) (v : Value) : Wrote K F w (w1.setCell ⟨g, j, none⟩ v) := by
  refine h.trans ⟨by simp [World.setCell], fun b hb' => ?_, fun B hB hF' => (Below.refl _ _).setCell (hF' g hF) _⟩
  by_cases e : b = g
  · subst e
    exact .inl ⟨hF, cs, cs.setIfInBounds j v, T, hT, hb, block_setCell hb j v, by simp⟩
  · exact .inr (Below.heap_setCell w1 ⟨g, j, none⟩ v b e)
theorem Wrote.mono {K' : TypeId → Prop} {F' : Nat → Prop} (h : Wrote K F w w1) (hK : ∀ T, K T → K' T) (hF : ∀ b, F b → F' b) : Wrote K' F' w w1 :=
  ⟨h.size, fun b hb => (h.blk b hb).imp (fun ⟨a, cs, cs', T, k, r⟩ => ⟨hF b a, cs, cs', T, hK T k, r⟩) id, fun B hB hB' => h.bel B hB fun b hb => hB' b (hF b hb)⟩
theorem Wrote.agree (h : Wrote K F w w1) {G : Nat → Prop} (hG : ∀ b, F b → ¬ G b) : Agree G w w1 :=
  ⟨h.size, fun b hg hb => by
    rcases h.blk b hb with ⟨hF, _⟩ | e
    · exact absurd hg (hG b hF)
    · exact e⟩
/-- A block of a type that is not written is as it was. -/
theorem Wrote.other (h : Wrote K F w w1) {b : Nat} {cs : Array Value} {T : TypeId} {fr : Nat × Nat} (hb : w.heap[b]? = some (.cells cs T fr)) (hT : ¬ K T) : w1.heap[b]? = some (.cells cs T fr) := by
  rcases h.blk b (lt_of_block hb) with ⟨_, cs1, _, T1, hK, e, _⟩ | e
  · rw [hb] at e
    injection e with e
    injection e with _ e2
    subst e2
    exact absurd hK hT
  · exact e.trans hb
theorem WRow.wrote {K' : TypeId → Prop} {F' G : Nat → Prop} {T : TypeId} {m : Nat} {A : Option Addr} (h : WRow G w T m A) (hw : Wrote K' F' w w1) : WRow G w1 T m A := by
  intro hm
  obtain ⟨g, o, cs, e, hG, hh, hs⟩ := h hm
  rcases hw.blk g (lt_of_block hh) with ⟨_, cs1, cs2, T1, _, e1, e2, s⟩ | e1
  · rw [hh] at e1
    injection e1 with e1
    injection e1 with e3 e4
    subst e3 e4
    exact ⟨g, o, cs2, e, hG, e2, by omega⟩
  · exact ⟨g, o, cs, e, hG, e1.trans hh, hs⟩
theorem some_at {cs : Array Value} {j : Nat} (h : j < cs.size) : ∃ v, cs[j]? = some v := ⟨cs[j], by simp [h]⟩
theorem five_at {k : Nat} {cs : Array Value} (h : k + 5 ≤ cs.size) (v0 v1 v2 v3 v4 : Value) :
    (∀ i, i < k ∨ k + 5 ≤ i → (((((cs.setIfInBounds k v0).setIfInBounds (k+1) v1).setIfInBounds (k+2) v2).setIfInBounds (k+3) v3).setIfInBounds (k+4) v4)[i]? = cs[i]?) ∧
    ∀ j v, [v0, v1, v2, v3, v4][j]? = some v → (((((cs.setIfInBounds k v0).setIfInBounds (k+1) v1).setIfInBounds (k+2) v2).setIfInBounds (k+3) v3).setIfInBounds (k+4) v4)[k + j]? = some v := by
  constructor
  · intro i hi
    simp only [Array.getElem?_setIfInBounds]
    rw [if_neg (by omega), if_neg (by omega), if_neg (by omega), if_neg (by omega), if_neg (by omega)]
  · intro j v hj
    simp only [Array.getElem?_setIfInBounds, Array.size_setIfInBounds]
    match j, hj with
    | 0, hj => rw [if_neg (by omega), if_neg (by omega), if_neg (by omega), if_neg (by omega), if_pos (by omega), if_pos (by omega)]; exact hj
    | 1, hj => rw [if_neg (by omega), if_neg (by omega), if_neg (by omega), if_pos (by omega), if_pos (by omega)]; exact hj
    | 2, hj => rw [if_neg (by omega), if_neg (by omega), if_pos (by omega), if_pos (by omega)]; exact hj
    | 3, hj => rw [if_neg (by omega), if_pos (by omega), if_pos (by omega)]; exact hj
    | 4, hj => rw [if_pos (by omega), if_pos (by omega)]; exact hj
    | j + 5, hj => simp at hj
end Go.Proofs.YtemcijhpmpdebaaGreatDoor
namespace Go.Proofs.YtemcijhpmpdebaaGreatDoor
open Go.RowKit
def mkNd (k : Nat) : Nd := ⟨(k : Int), (k : Int) + 1, mtext (k + 2), mtext (k + 3), (k : Int) + 4⟩
def mkRow (k n : Nat) : List Nd := (List.range n).map fun i => mkNd (k + 5 * i)
theorem mkRow_length (k n : Nat) : (mkRow k n).length = n := by simp [mkRow]
theorem mkRow_get (k n i : Nat) (h : i < n) : (mkRow k n)[i]? = some (mkNd (k + 5 * i)) := by simp [mkRow, h]
def MkDone (cs : Array Value) (o k n : Nat) : Prop := ∀ i, i < n → ∀ j v, (mkNd (k + 5 * i)).cells[j]? = some v → cs[o + i * 5 + j]? = some v
theorem MkDone.rds {w : World} {g o k n : Nat} {cs : Array Value} {T : TypeId} (h : w.heap[g]? = some (.cells cs T (0, 0))) (hd : MkDone cs o k n) : Rds (fun b => b = g) w (some ⟨g, o, none⟩) (ndCells (mkRow k n)) := fun _ =>
  ⟨g, o, rfl, rfl, lt_of_block h, fun j v hj => by
    rw [cell_of_block h]
    have hlen : j < n * 5 := by
      have := (List.getElem?_eq_some_iff.1 hj).1
      rw [ndCells_length, mkRow_length] at this
      exact this
    have e : j / 5 * 5 + j % 5 = j := by omega
    have hget := flat_get Nd.cells 5 (fun _ => rfl) (mkRow k n) (j / 5) _ (mkRow_get k n (j / 5) (by omega)) (j % 5) (by omega)
    rw [e] at hget
    have := hd (j / 5) (by omega) (j % 5) v (hget.symm.trans hj)
    rwa [Nat.add_assoc, e] at this⟩
theorem MkDone.step {cs : Array Value} {o k n : Nat} (h : MkDone cs o k n) (hs : o + (n + 1) * 5 ≤ cs.size) {m : Nat} (hm : m = k + 5 * n) :
    MkDone (((((cs.setIfInBounds (o + n * 5) (.int .i64 (m : Int))).setIfInBounds (o + n * 5 + 1) (.int .i64 ((m : Int) + 1))).setIfInBounds (o + n * 5 + 2) (.string (mtext (m + 2)))).setIfInBounds (o + n * 5 + 3) (.string (mtext (m + 3)))).setIfInBounds (o + n * 5 + 4) (.int .i64 ((m : Int) + 4))) o k (n + 1) := by
  subst hm
  intro i hi j v hv
  obtain ⟨h1, h2⟩ := five_at (k := o + n * 5) (cs := cs) (by omega) (.int .i64 ((k + 5 * n : Nat) : Int)) (.int .i64 (((k + 5 * n : Nat) : Int) + 1)) (.string (mtext (k + 5 * n + 2))) (.string (mtext (k + 5 * n + 3))) (.int .i64 (((k + 5 * n : Nat) : Int) + 4))
  by_cases c : i = n
  · subst c
    exact h2 j v hv
  · have hj : j < 5 := (List.getElem?_eq_some_iff.1 hv).1
    rw [h1 _ (by omega)]
    exact h i (by omega) j v hv
def MkPost (F : Nat → Prop) (n k : Nat) (A : Option Addr) (w : World) (e : Ending) (w' : World) : Prop :=
  e = .returned (.int .i64 ((k + 5 * n : Nat) : Int)) ∧ Own F w' 100 A (ndCells (mkRow k n)) ∧ Wrote (fun T => T = 100) F w w'
def MkInv (F : Nat → Prop) (n k i : Nat) (A : Option Addr) (w : World) : Prop := 0 < n → ∃ g o cs, A = some ⟨g, o, none⟩ ∧ F g ∧ w.heap[g]? = some (.cells cs 100 (0, 0)) ∧ o + n * 5 ≤ cs.size ∧ MkDone cs o k i
set_option maxRecDepth 100000 in
set_option maxHeartbeats 1600000 in
theorem markNodeS_any (n k c : Nat) (hn : n ≤ 1000000000) (hk : k ≤ 900000000000000) (F : Nat → Prop) (A : Option Addr) (w : World) (hw : WRow F w 100 (n * 5) A) :
    Calls Tryz.prog 26 #[.slice A n c, .int .i64 (k : Int)] w (MkPost F n k A w) := by
  have hi0 : MkInv F n k 0 A w := fun h0 => by
    obtain ⟨g, o, cs, e, hF, hh, hs⟩ := hw (by omega)
    exact ⟨g, o, cs, e, hF, hh, hs, fun i hi => by omega⟩
  have HI0 := Lib.hid hi0
  clear hi0 hw
  go_enter Tryz.func26, Tryz.ntmps26
  go_wp2
  go_loopw [1, 5] (fun kv iv wx => ∃ i m : Nat, kv = .int .i64 (m : Int) ∧ iv = .int .i64 (i : Int) ∧ i ≤ n ∧ m = k + 5 * i ∧ Hid (MkInv F n k i A wx) ∧ Hid (Wrote (fun T => T = 100) F w wx)) (fun _ i _ => n - (intOf i).toNat)
  case atStart => exact ⟨0, k, rfl, rfl, Nat.zero_le _, rfl, HI0.out, Wrote.refl _ _ _⟩
  case round =>
    obtain ⟨i, m, rfl, rfl, hi, hm, hinv, hwr⟩ := hrel
    have HMM := Lib.hid hm
    have hmb : m ≤ 910000000000000 := by omega
    have HI := Lib.hid hinv
    have HW := Lib.hid hwr
    clear hinv hwr HI0 hm
    by_cases hlt : i < n
    · obtain ⟨g, o, cs, rfl, hF, hh, hs, hd⟩ := HI.out (by omega)
      obtain ⟨u0, e0⟩ := some_at (cs := cs) (j := o + i * 5) (by omega)
      obtain ⟨u1, e1⟩ := some_at (cs := cs) (j := o + i * 5 + 1) (by omega)
      have q0 := (cell_of_block hh _).trans e0
      have q1 := (cell_of_block hh _).trans e1
      have f0 := free_of_block hh (o + i * 5)
      have f1 := free_of_block hh (o + i * 5 + 1)
      have HH := Lib.hid hh
      have HD := Lib.hid hd
      have HF := Lib.hid hF
      clear hh hd hF e0 e1 HI
      go_wp2_with fail
      obtain ⟨w1, hw1⟩ : ∃ w1, w1 = (wr.setCell ⟨g, o + i * 5, none⟩ (.int .i64 (m : Int))).setCell ⟨g, o + i * 5 + 1, none⟩ (.int .i64 ((m : Int) + 1)) := ⟨_, rfl⟩
      have K1 := block_setCell (block_setCell HH.out (o + i * 5) (.int .i64 (m : Int))) (o + i * 5 + 1) (.int .i64 ((m : Int) + 1))
      rw [← hw1] at K1
      have W1 : Wrote (fun T => T = 100) F w w1 := by rw [hw1]; exact (HW.out.set HH.out rfl HF.out _ _).set (block_setCell HH.out _ _) rfl HF.out _ _
      rw [← hw1]
      clear hw1 q0 q1 f0 f1
      refine (markText_any (m + 2) (by omega) w1).mono ?_
      rintro e w2 ⟨rfl, hb2⟩
      have K2 := block_below K1 hb2
      obtain ⟨u2, e2⟩ := some_at (cs := (cs.setIfInBounds (o + i * 5) (.int .i64 (m : Int))).setIfInBounds (o + i * 5 + 1) (.int .i64 ((m : Int) + 1))) (j := o + i * 5 + 2) (by simp; omega)
      have q2 := (cell_of_block K2 _).trans e2
      have f2 := free_of_block K2 (o + i * 5 + 2)
      have HK2 := Lib.hid K2
      have W2 := Lib.hid (W1.then hb2)
      clear K1 K2 W1 hb2 e2 HH HW
      go_wp2_with fail
      obtain ⟨w3, hw3⟩ : ∃ w3, w3 = w2.setCell ⟨g, o + i * 5 + 2, none⟩ (.string (mtext (m + 2))) := ⟨_, rfl⟩
      have K3 := block_setCell HK2.out (o + i * 5 + 2) (.string (mtext (m + 2)))
      rw [← hw3] at K3
      have W3 : Wrote (fun T => T = 100) F w w3 := by rw [hw3]; exact W2.out.set HK2.out rfl HF.out _ _
      rw [← hw3]
      clear hw3 q2 f2
      refine (markText_any (m + 3) (by omega) w3).mono ?_
      rintro e w4 ⟨rfl, hb4⟩
      have K4 := block_below K3 hb4
      obtain ⟨u3, e3⟩ := some_at (cs := ((cs.setIfInBounds (o + i * 5) (.int .i64 (m : Int))).setIfInBounds (o + i * 5 + 1) (.int .i64 ((m : Int) + 1))).setIfInBounds (o + i * 5 + 2) (.string (mtext (m + 2)))) (j := o + i * 5 + 3) (by simp; omega)
      obtain ⟨u4, e4⟩ := some_at (cs := ((cs.setIfInBounds (o + i * 5) (.int .i64 (m : Int))).setIfInBounds (o + i * 5 + 1) (.int .i64 ((m : Int) + 1))).setIfInBounds (o + i * 5 + 2) (.string (mtext (m + 2)))) (j := o + i * 5 + 4) (by simp; omega)
      have q3 := (cell_of_block K4 _).trans e3
      have q4 := (cell_of_block K4 _).trans e4
      have f3 := free_of_block K4 (o + i * 5 + 3)
      have f4 := free_of_block K4 (o + i * 5 + 4)
      have HK4 := Lib.hid K4
      have W4 := Lib.hid (W3.then hb4)
      clear K3 K4 W3 hb4 e3 e4 HK2 W2
      go_wp2
      go_roundw
      case rel =>
        have K5 := block_setCell (block_setCell HK4.out (o + i * 5 + 3) (.string (mtext (m + 3)))) (o + i * 5 + 4) (.int .i64 ((m : Int) + 1 + 1 + 1 + 1))
        have W5 := (W4.out.set HK4.out rfl HF.out (o + i * 5 + 3) (.string (mtext (m + 3)))).set (block_setCell HK4.out _ _) rfl HF.out (o + i * 5 + 4) (.int .i64 ((m : Int) + 1 + 1 + 1 + 1))
        refine ⟨i + 1, m + 5, by go_num, by go_num, by omega, by have := HMM.out; omega, fun _ => ⟨g, o, _, rfl, HF.out, K5, by simpa using hs, ?_⟩, W5⟩
        have hst := HD.out.step (by omega) HMM.out
        rw [show (m : Int) + 4 = (m : Int) + 1 + 1 + 1 + 1 by omega] at hst
        exact hst
      case measure => simp [intOf]; omega
    · go_wp2
      go_ret
      obtain rfl : i = n := by omega
      refine ⟨by have h := HMM.out; subst h; rfl, ⟨?_, ?_⟩, HW.out⟩
      · intro hne
        have h0 : 0 < i := by
          rcases Nat.eq_zero_or_pos i with h | h
          · subst h; exact absurd rfl hne
          · exact h
        obtain ⟨g, o, cs, rfl, hF, hh, hs, hd⟩ := HI.out h0
        exact (hd.rds hh).mono (fun b hb _ => by subst hb; exact hF) hne
      · intro h0
        rw [ndCells_length, mkRow_length] at h0 ⊢
        obtain ⟨g, o, cs, rfl, hF, hh, hs, hd⟩ := HI.out (by omega)
        exact ⟨g, o, cs, rfl, hF, hh, hs⟩
set_option maxRecDepth 100000 in
set_option maxHeartbeats 1600000 in
theorem heldNodeS_any (n k c : Nat) (hn : n ≤ 1000000000) (hk : k ≤ 900000000000000) (F : Nat → Prop) (A : Option Addr) (w : World) (hr : Rds F w A (ndCells (mkRow k n))) :
    Calls Tryz.prog 60 #[.slice A n c, .int .i64 (k : Int)] w fun e w' => e = .returned (.int .i64 ((k + 5 * n : Nat) : Int)) ∧ Below w.heap.size w w' := by
  have HR := Lib.hid hr
  clear hr
  go_enter Tryz.func60, Tryz.ntmps60
  go_wp2
  go_loopw [1, 5] (fun kv iv wx => ∃ i m : Nat, kv = .int .i64 (m : Int) ∧ iv = .int .i64 (i : Int) ∧ i ≤ n ∧ m = k + 5 * i ∧ Below w.heap.size w wx) (fun _ i _ => n - (intOf i).toNat)
  case atStart => exact ⟨0, k, rfl, rfl, Nat.zero_le _, rfl, Below.refl _ _⟩
  case round =>
    obtain ⟨i, m, rfl, rfl, hi, hm, hbx⟩ := hrel
    have HMM := Lib.hid hm
    have hmb : m ≤ 910000000000000 := by omega
    have HB := Lib.hid hbx
    clear hbx
    by_cases hlt : i < n
    · obtain ⟨b, o, x, rfl, hF, hbl, hx, g0, g1, g2, g3, g4⟩ := nd_at (HR.out.frame (Agree.of_below HB.out)) i (by rw [mkRow_length]; exact hlt)
      rw [mkRow_get k n i hlt, ← hm] at hx
      injection hx with hx
      subst hx
      have HG := Lib.hid (And.intro g2 g3)
      clear hm
      replace g0 : wr.cell? ⟨b, o + i * 5, none⟩ = some (.int .i64 (m : Int)) := g0
      replace g1 : wr.cell? ⟨b, o + i * 5 + 1, none⟩ = some (.int .i64 ((m : Int) + 1)) := g1
      replace g2 : wr.cell? ⟨b, o + i * 5 + 2, none⟩ = some (.string (mtext (m + 2))) := g2
      replace g3 : wr.cell? ⟨b, o + i * 5 + 3, none⟩ = some (.string (mtext (m + 3))) := g3
      replace g4 : wr.cell? ⟨b, o + i * 5 + 4, none⟩ = some (.int .i64 ((m : Int) + 1 + 1 + 1 + 1)) := by rw [show (m : Int) + 1 + 1 + 1 + 1 = (m : Int) + 4 by omega]; exact g4
      have HG4 := Lib.hid g4
      have HG3 := Lib.hid g3
      go_wp2
      go_region_with (go_at_call 59; refine (markText_any (m + 2) (by omega) _).mono ?_; rintro e w2 ⟨rfl, hb2⟩; have z3 := (World.cell?_of_block (a := ⟨b, o + i * 5 + 3, none⟩) (hb2.block b hbl)).trans HG3.out; have z4 := (World.cell?_of_block (a := ⟨b, o + i * 5 + 4, none⟩) (hb2.block b hbl)).trans HG4.out; have z2 := (World.cell?_of_block (a := ⟨b, o + i * 5 + 2, none⟩) (hb2.block b hbl)).trans g2)
      all_goals
        have hbl2 : b < w2.heap.size := Nat.lt_of_lt_of_le hbl hb2.size
        have HB2 := Lib.hid (below_then HB.out.drew HB.out.size hb2)
        have Z4 := Lib.hid z4
        clear g0 g1 g2 g3 g4 HG3 HG4 HG hb2 z2 hbl
        go_wp2
        go_region_with (go_at_call 59; refine (markText_any (m + 3) (by omega) _).mono ?_; rintro e w4 ⟨rfl, hb4⟩; have y4 := (World.cell?_of_block (a := ⟨b, o + i * 5 + 4, none⟩) (hb4.block b hbl2)).trans Z4.out; have y3 := (World.cell?_of_block (a := ⟨b, o + i * 5 + 3, none⟩) (hb4.block b hbl2)).trans z3)
        all_goals
          have HB4 := Lib.hid (below_then HB2.out.drew HB2.out.size hb4)
          clear z3 z4 Z4 hb4
          go_wp2
          go_roundw
          case rel => exact ⟨i + 1, m + 5, by go_num, by go_num, by omega, by have := HMM.out; omega, HB4.out⟩
          case measure => simp [intOf]; omega
    · go_wp2
      go_ret
      obtain rfl : i = n := by omega
      exact ⟨by have h := HMM.out; subst h; rfl, HB.out⟩
end Go.Proofs.YtemcijhpmpdebaaGreatDoor
