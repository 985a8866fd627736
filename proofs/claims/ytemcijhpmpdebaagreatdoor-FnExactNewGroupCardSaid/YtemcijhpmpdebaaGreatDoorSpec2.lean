/- The walks of the specification's small functions: l1In, l1Number, l1Holds, l1Printed, l5Zero. The walks of the specification's text: l1Num, l1Int, l1Quote. -/
import Derived.Test.YtemcijhpmpdebaaGreatDoorVal2
import Derived.Test.YtemcijhpmpdebaaGreatDoorWr
namespace Go.Proofs.YtemcijhpmpdebaaGreatDoor
open Go.RowKit
set_option maxHeartbeats 400000 in
theorem sIn_any (n lo hi : Int) (w : World) :
    Calls Tryz.prog 33 #[.int .i64 n, .int .i64 lo, .int .i64 hi] w fun e w' => e = .returned (.bool (decide (lo ≤ n) && decide (n ≤ hi))) ∧ w = w' := by
  by_cases h1 : lo ≤ n <;> by_cases h2 : n ≤ hi
  all_goals
    go_enter Tryz.func33, Tryz.ntmps33
    go_wp2
    go_ret
    exact ⟨by simp [h1, h2], rfl⟩
theorem sNumber_any (n : Int) (w : World) :
    Calls Tryz.prog 106 #[.int .i64 n] w fun e w' => e = .returned (.bool (decide (-1000000000 ≤ n) && decide (n ≤ 1000000000))) ∧ w = w' := by
  go_enter Tryz.func106, Tryz.ntmps106
  go_wp2_with (go_at_call 33; refine (sIn_any _ _ _ _).mono ?_; rintro e w' ⟨rfl, rfl⟩)
  go_ret
  exact ⟨rfl, rfl⟩
theorem sHolds_any (n : Int) (w : World) :
    Calls Tryz.prog 108 #[.int .i64 n] w fun e w' => e = .returned (.bool (holdsB n)) ∧ w = w' := by
  go_enter Tryz.func108, Tryz.ntmps108
  go_wp2
  all_goals
    go_ret
    exact ⟨by simp [holdsB, *], rfl⟩
set_option maxHeartbeats 400000 in
theorem sPrinted_any (s : ByteArray) (w : World) (hs : s.size ≤ 9223372036854775807) :
    Calls Tryz.prog 107 #[.string s] w fun e w' => e = .returned (.bool (strOK s)) ∧ w = w' := by
  go_enter Tryz.func107, Tryz.ntmps107
  go_wp2
  go_loop [3] (fun i => ∃ k : Nat, k ≤ s.size ∧ i = .int .i64 k ∧ (s.data.toList.take k).all byteOK = true) (fun i => s.size - (intOf i).toNat)
  case atStart => exact ⟨0, Nat.zero_le _, rfl, rfl⟩
  case round =>
    obtain ⟨k, hk, rfl, hall⟩ := hrel
    have Hall := Lib.hid hall
    clear hall
    by_cases hlt : k < s.size
    · by_cases hb : 32 ≤ s[k].toNat
      · by_cases hc : s[k].toNat ≤ 126
        · go_wp2
          go_round
          case rel => exact ⟨k+1, by omega, by go_num, take_all s k hlt Hall.out (by simp [byteOK, hb, hc])⟩
          case measure => simp [intOf]; omega
        · go_wp2
          go_ret
          exact ⟨by simp [strOK, not_all s k hlt (by simp [byteOK, hc])], rfl⟩
      · go_wp2
        go_ret
        exact ⟨by simp [strOK, not_all s k hlt (by simp [byteOK, hb])], rfl⟩
    · have : (s.data.toList.take k) = s.data.toList := List.take_of_length_le (by simp; omega)
      have hall := Lib.hid Hall.out
      rw [this] at hall
      clear this
      by_cases h0 : s.size ≤ 24
      · go_wp2
        go_ret
        exact ⟨by simp [strOK, h0, hall.out]; omega, rfl⟩
      · go_wp2
        go_ret
        exact ⟨by simp [strOK, h0]; omega, rfl⟩
theorem sZero_any (A : Option Addr) (n c : Nat) (w : World) :
    Calls Tryz.prog 62 #[.agg #[.slice A n c]] w fun e w' => e = .returned (.bool (decide (n = 0))) ∧ Below w.heap.size w w' := by
  by_cases h : n = 0
  all_goals
    go_enter Tryz.func62, Tryz.ntmps62
    go_wp2
    go_ret
    exact ⟨by simp [h], (Below.refl _ _).alloc (Nat.le_refl _) _⟩
end Go.Proofs.YtemcijhpmpdebaaGreatDoor
namespace Go.Proofs.YtemcijhpmpdebaaGreatDoor
open Go.RowKit
theorem app_list (a b : ByteArray) : (a ++ b).data.toList = a.data.toList ++ b.data.toList := by simp
theorem one_list (s : ByteArray) (k : Nat) (h : k < s.size) : (s.extract k (k + 1)).data.toList = [s[k]] := by
  have e : s[k] = s.data.toList[k]'(by simpa using h) := by rw [Array.getElem_toList]; rfl
  rw [e]
  simp only [ByteArray.data_extract, Array.toList_extract]
  rw [List.extract_eq_take_drop, List.drop_eq_getElem_cons (by simpa using h)]
  simp
theorem take_one (s : ByteArray) (k : Nat) (h : k < s.size) : s.data.toList.take (k + 1) = s.data.toList.take k ++ [s[k]] := by
  rw [List.take_succ_eq_append_getElem (by simpa using h)]; rfl
theorem quote_hit (s R : ByteArray) (k : Nat) (h : k < s.size) (hR : R.data.toList = 34 :: repl 34 92 [92, 34] [92, 92] (s.data.toList.take k)) (hq : s[k].toNat = 34 ∨ s[k].toNat = 92) :
    (R ++ ⟨#[92]⟩ ++ s.extract k (k + 1)).data.toList = 34 :: repl 34 92 [92, 34] [92, 92] (s.data.toList.take (k + 1)) := by
  rw [app_list, app_list, one_list s k h, hR, take_one s k h]
  have e : s[k] = 34 ∨ s[k] = 92 := by
    rcases hq with hq | hq
    · exact .inl (UInt8.toNat_inj.1 hq)
    · exact .inr (UInt8.toNat_inj.1 hq)
  simp only [repl, List.flatMap_append]
  rcases e with e | e <;> simp [e, rep1]
theorem quote_miss (s R : ByteArray) (k : Nat) (h : k < s.size) (hR : R.data.toList = 34 :: repl 34 92 [92, 34] [92, 92] (s.data.toList.take k)) (hq : s[k].toNat ≠ 34) (hq2 : s[k].toNat ≠ 92) :
    (R ++ s.extract k (k + 1)).data.toList = 34 :: repl 34 92 [92, 34] [92, 92] (s.data.toList.take (k + 1)) := by
  rw [app_list, one_list s k h, hR, take_one s k h]
  have e : s[k] ≠ 34 := fun e => hq (by rw [e]; rfl)
  have e2 : s[k] ≠ 92 := fun e => hq2 (by rw [e]; rfl)
  simp only [repl, List.flatMap_append]
  simp [e, e2, rep1]
theorem quote_size (s R : ByteArray) (k : Nat) (hR : R.data.toList = 34 :: repl 34 92 [92, 34] [92, 92] (s.data.toList.take k)) : R.size ≤ 1 + 2 * s.size := by
  have h1 := repl_length 34 92 [92, 34] [92, 92] (s.data.toList.take k) rfl rfl
  have h2 := hits_le 34 92 (s.data.toList.take k)
  have h3 : R.size = R.data.toList.length := by simp
  have h4 : (s.data.toList.take k).length ≤ s.size := by simp; omega
  rw [h3, hR, List.length_cons]
  omega
set_option maxHeartbeats 800000 in
theorem sQuote_any (s : ByteArray) (hs : s.size ≤ 1000000000) (w : World) :
    Calls Tryz.prog 110 #[.string s] w fun e w' => e = .returned (.string ⟨(quoted s.data.toList).toArray⟩) ∧ w = w' := by
  go_enter Tryz.func110, Tryz.ntmps110
  go_wp2
  go_loop [3, 4] (fun r i => ∃ k : Nat, ∃ R : ByteArray, k ≤ s.size ∧ i = .int .i64 k ∧ r = .string R ∧ R.data.toList = 34 :: repl 34 92 [92, 34] [92, 92] (s.data.toList.take k)) (fun _ i => s.size - (intOf i).toNat)
  case atStart => exact ⟨0, _, Nat.zero_le _, rfl, rfl, rfl⟩
  case round =>
    obtain ⟨k, R, hk, rfl, rfl, hR⟩ := hrel
    have HR := Lib.hid hR
    clear hR
    have hRs := quote_size s R k HR.out
    have b1 : ¬ 9223372036854775807 < R.size + 1 := by omega
    have b2 : ¬ 9223372036854775807 < R.size + 1 + (min (k + 1) s.size - k) := by omega
    have b3 : ¬ 9223372036854775807 < R.size + (min (k + 1) s.size - k) := by omega
    by_cases hlt : k < s.size
    · have e1 : wrap64 ((k : Int) + 1) = (k : Int) + 1 := by unfold wrap64; omega
      by_cases hq : s[k].toNat = 34
      · have HQ := Lib.hid (quote_hit s R k hlt HR.out (.inl hq))
        go_wp2
        exact ⟨⟨k+1, _, by omega, by go_num, rfl, HQ.out⟩, by simp [intOf]; omega⟩
      · by_cases hq2 : s[k].toNat = 92
        · have HQ := Lib.hid (quote_hit s R k hlt HR.out (.inr hq2))
          go_wp2
          exact ⟨⟨k+1, _, by omega, by go_num, rfl, HQ.out⟩, by simp [intOf]; omega⟩
        · have c1 : ((s[k].toNat : Int) == 34) = false := by simp; omega
          have c2 : ((s[k].toNat : Int) == 92) = false := by simp; omega
          have HQ := Lib.hid (quote_miss s R k hlt HR.out hq hq2)
          go_wp2
          exact ⟨⟨k+1, _, by omega, by go_num, rfl, HQ.out⟩, by simp [intOf]; omega⟩
    · go_wp2
      go_ret
      refine ⟨congrArg (fun x => Ending.returned (Value.string x)) (bytes_ext ?_), rfl⟩
      rw [app_list, HR.out, List.take_of_length_le (by simp; omega)]
      simp [quoted]
theorem conv_one (d : Nat) (hd : d < 256) (w : World) : (convert 121 9 (.slice (some ⟨w.heap.size, 0, none⟩) 1 1)).run Tryz.prog (w.alloc (.cells #[.int .u8 (d : Int)] 5)) = .ok (.string ⟨#[UInt8.ofNat d]⟩) (w.alloc (.cells #[.int .u8 (d : Int)] 5)) := by
  have := conv_bytes (w.alloc (.cells #[.int .u8 (d : Int)] 5)) w.heap.size [UInt8.ofNat d] (by
    have h := heap_alloc_new w (.cells #[.int .u8 (d : Int)] 5)
    rw [h]
    simp [bv]
    omega) 1
  simpa using this
set_option maxRecDepth 100000 in
set_option maxHeartbeats 800000 in
theorem sNum_small (n : Nat) (hn : n < 10) (w : World) :
    Calls Tryz.prog 123 #[.int .i64 (n : Int)] w fun e w' => e = .returned (.string ⟨(Lib.decDigits n).toArray⟩) ∧ Below w.heap.size w w' := by
  have c1 : (n : Int) < 10 := by omega
  have hcv := conv_one (48 + n) (by omega) w
  rw [show ((48 + n : Nat) : Int) = 48 + (n : Int) by omega] at hcv
  go_enter Tryz.func123, Tryz.ntmps123
  go_wp2
  go_ret
  refine ⟨congrArg (fun x => Ending.returned (Value.string x)) ?_, (Below.refl _ _).alloc (Nat.le_refl _) _⟩
  rw [Lib.decDigits, dif_pos hn]
  simp [UInt8.ofNat_add]
theorem conv_kept (d : Nat) (hd : d < 256) (w w1 : World) (hb : Below (w.alloc (.cells #[.int .u8 (d : Int)] 5)).drew.heap.size (w.alloc (.cells #[.int .u8 (d : Int)] 5)).drew w1) : (convert 121 9 (.slice (some ⟨w.heap.size, 0, none⟩) 1 1)).run Tryz.prog w1 = .ok (.string ⟨#[UInt8.ofNat d]⟩) w1 := by
  have := conv_bytes w1 w.heap.size [UInt8.ofNat d] (by
    have h := block_below (w := (w.alloc (.cells #[.int .u8 (d : Int)] 5)).drew) (heap_alloc_new w (.cells #[.int .u8 (d : Int)] 5)) hb
    rw [h]
    simp [bv]
    omega) 1
  simpa using this
theorem cat_bytes (a b : List UInt8) : (⟨a.toArray⟩ : ByteArray) ++ ⟨b.toArray⟩ = ⟨(a ++ b).toArray⟩ := bytes_ext (by simp)
set_option maxRecDepth 100000 in
set_option maxHeartbeats 1600000 in
theorem sNum_any (n : Nat) : ∀ (_ : n ≤ 1000000000) (w : World), Calls Tryz.prog 123 #[.int .i64 (n : Int)] w fun e w' => e = .returned (.string ⟨(Lib.decDigits n).toArray⟩) ∧ Below w.heap.size w w' := by
  induction n using Nat.strongRecOn with
  | _ n ih =>
    intro hn w
    by_cases h10 : n < 10
    · exact sNum_small n h10 w
    have c1 : ¬ (n : Int) < 10 := by omega
    have hq : IntKind.i64.wrap ((n : Int) / 10) = ((n / 10 : Nat) : Int) := by rw [IntKind.wrap_i64]; omega
    have hd : IntKind.u8.wrap (IntKind.i64.wrap (48 + (n : Int).tmod 10)) = ((48 + n % 10 : Nat) : Int) := by
      rw [Int.tmod_eq_emod_of_nonneg (by omega), IntKind.wrap_i64]
      simp [IntKind.wrap, IntKind.bits, IntKind.signed]
      omega
    have hih := ih (n / 10) (by omega) (by omega)
    have hcv := fun w => conv_one (48 + n % 10) (by omega) w
    have hck' := conv_kept (48 + n % 10) (by omega)
    have hcv2 := fun w => conv_kept (48 + n % 10) (by omega) w _ (Below.refl _ _)
    rw [← hq] at hih
    rw [← hd] at hcv hck' hcv2
    have IH := Lib.hid hih
    have hck := Lib.hid hck'
    have hlen := digits_len (n / 10) 9 (by omega)
    have HD := Lib.hid (show Lib.decDigits n = Lib.decDigits (n / 10) ++ [UInt8.ofNat (48 + n % 10)] by rw [Lib.decDigits, dif_neg h10])
    clear ih hih hck' hq hd
    have hsz : ¬ 9223372036854775807 < (Lib.decDigits (n / 10)).length + 1 := by omega
    go_enter Tryz.func123, Tryz.ntmps123
    go_wp2
    go_region_with (go_at_call 123; refine (IH.out _).mono ?_; rintro e w1 ⟨rfl, hb1⟩; try (have hck1 : (convert 121 9 (.slice (some ⟨w.heap.size, 0, none⟩) 1 1)).run Tryz.prog w1 = _ := hck.out _ _ hb1))
    all_goals
      go_wp2
      go_ret
      refine ⟨congrArg (fun x => Ending.returned (Value.string x)) (bytes_ext (by rw [HD.out]; simp [UInt8.ofNat_add])), ?_⟩
      have hbd : Below w.heap.size w w.drew := (Below.refl _ _).drew
      have hbc : ∀ c, Below w.heap.size w (w.alloc c).drew := fun c => ((Below.refl _ _).alloc (Nat.le_refl _) _).drew
      first
        | exact below_then (hbc _) (hbc _).size hb1
        | exact (below_then hbd hbd.size hb1).alloc (Nat.le_trans hbd.size hb1.size) _
set_option maxHeartbeats 800000 in
theorem sInt_any (n : Int) (h0 : -1000000000 ≤ n) (h1 : n ≤ 1000000000) (w : World) :
    Calls Tryz.prog 109 #[.int .i64 n] w fun e w' => e = .returned (.string ⟨(Lib.itoa n).toArray⟩) ∧ Below w.heap.size w w' := by
  by_cases hn : n < 0
  · obtain ⟨m, rfl⟩ : ∃ m : Nat, n = -(m : Int) := ⟨n.natAbs, by omega⟩
    have hm := Lib.hid (sNum_any m (by omega) w)
    have e1 : wrap64 (-(-(m : Int))) = (m : Int) := by unfold wrap64; omega
    have hlen := digits_len m 9 (by omega)
    have hsz : ¬ 9223372036854775807 < 1 + (Lib.decDigits m).length := by omega
    have hi : Lib.itoa (-(m : Int)) = 45 :: Lib.decDigits m := by rw [Lib.itoa, if_pos hn]; simp
    have HI := Lib.hid hi
    clear hi hlen
    go_enter Tryz.func109, Tryz.ntmps109
    go_wp2_with fail
    refine hm.out.mono ?_
    rintro e w1 ⟨rfl, hb1⟩
    have HB := Lib.hid hb1
    clear hb1
    go_wp2
    go_ret
    refine ⟨congrArg (fun x => Ending.returned (Value.string x)) (bytes_ext (by rw [HI.out]; simp)), HB.out⟩
  · obtain ⟨m, rfl⟩ : ∃ m : Nat, n = (m : Int) := ⟨n.natAbs, by omega⟩
    have hm := Lib.hid (sNum_any m (by omega) w)
    have hi : Lib.itoa (m : Int) = Lib.decDigits m := by rw [Lib.itoa, if_neg hn]; simp
    have HI := Lib.hid hi
    clear hi
    go_enter Tryz.func109, Tryz.ntmps109
    go_wp2_with fail
    refine hm.out.mono ?_
    rintro e w1 ⟨rfl, hb1⟩
    have HB := Lib.hid hb1
    clear hb1
    go_wp2
    go_ret
    exact ⟨by rw [HI.out]; rfl, HB.out⟩
end Go.Proofs.YtemcijhpmpdebaaGreatDoor
