/- The walks of strings.NewReplacer and (*strings.Replacer).Replace, and of what uses them: written, escaped. -/
import Derived.Test.YtemcijhpmpdebaaGreatDoorRepl2
namespace Go.Proofs.YtemcijhpmpdebaaGreatDoor
open Go.RowKit
theorem nil_ahead_bs (a : Addr) (w : World) : (nilAhead 406 242 (.pointer (some a)) "Replace").run Tryz.prog w = .ok (some false) w := by kernel_rfl
theorem method_bs (a : Addr) (w : World) : (method 406 242 (.pointer (some a)) "Replace").run Tryz.prog w = .ok (231, .pointer (some a)) w := by kernel_rfl
set_option maxRecDepth 100000 in
set_option maxHeartbeats 1000000 in
/-- NewReplacer of four texts that lie in a row. -/
theorem newReplacer_any (x0 x1 x2 x3 : ByteArray) (ob c : Nat) (w : World) (h0 : w.cell? ⟨ob, 0, none⟩ = some (.string x0)) (h1 : w.cell? ⟨ob, 1, none⟩ = some (.string x1)) (h2 : w.cell? ⟨ob, 2, none⟩ = some (.string x2)) (h3 : w.cell? ⟨ob, 3, none⟩ = some (.string x3)) :
    Calls Tryz.prog 153 #[.slice (some ⟨ob, 0, none⟩) 4 c] w fun e w' => ∃ rb nb k, e = .returned (.pointer (some ⟨rb, 0, none⟩)) ∧ Below w.heap.size w w' ∧ w.heap.size ≤ rb ∧ w'.heap[rb]? = some (.cells #[.int .u32 0, .int .i32 0, .int .u32 0, .nilIface, .slice (some ⟨nb, 0, none⟩) 4 k] 213 (0, 0)) ∧ w.heap.size ≤ nb ∧
      w'.cell? ⟨nb, 0, none⟩ = some (.string x0) ∧ w'.cell? ⟨nb, 1, none⟩ = some (.string x1) ∧ w'.cell? ⟨nb, 2, none⟩ = some (.string x2) ∧ w'.cell? ⟨nb, 3, none⟩ = some (.string x3) := by
  obtain ⟨i0, hi, hz0, hz1, hz2⟩ := info_parts Tryz.infoStr0
  go_enter Tryz.func153, Tryz.ntmps153
  go_wp2_with (at_builtin; refine wpList_append_own_at _ rfl (.const (.slice none 0 0)) (.tmp 8) 78 rfl w.heap.size 9 i0 (.string ⟨#[]⟩) 1 16 Tryz.underlying78 hi hz0 hz1 hz2 rfl (by decide) (.slice none 0 0) 0 [] rfl (World.ownsRow_nil _ _ _ _) ⟨ob, 0, none⟩ 4 c [.string x0, .string x1, .string x2, .string x3] rfl rfl ?_ (by simp [Value.oneCell']) (by decide) (by decide) (Nat.le_refl _) ?_)
  · intro j u hj
    rw [Addr.add_lit, Nat.zero_add]
    match j, hj with
    | 0, hj => simp at hj; subst hj; exact h0
    | 1, hj => simp at hj; subst hj; exact h1
    | 2, hj => simp at hj; subst hj; exact h2
    | 3, hj => simp at hj; subst hj; exact h3
    | j + 4, hj => simp at hj
  intro v1 w1 hown hg _ _
  obtain ⟨A1, k, rfl, hk⟩ := own_slice hown
  obtain ⟨nb, rfl, hnb, hnl, hcs⟩ := own_open hown (by decide)
  have hb1 : Below w.heap.size w w1 := (Below.refl _ _).grown hg (Nat.le_refl _) (fun k hk => by simp [Value.ownBlock] at hk)
  have g0 := hcs 0 _ rfl
  have g1 := hcs 1 _ rfl
  have g2 := hcs 2 _ rfl
  have g3 := hcs 3 _ rfl
  have HCS := Lib.hid hcs
  have HO := Lib.hid hown
  have HG := Lib.hid hg
  clear hcs hown hg
  go_wp2
  go_ret
  refine ⟨w1.heap.size, nb, k, rfl, hb1.alloc hb1.size _, hb1.size, heap_alloc_new _ _, hnb, ?_, ?_, ?_, ?_⟩
  · rw [World.cell?_alloc_past _ _ _ hnl]; exact g0
  · rw [World.cell?_alloc_past _ _ _ hnl]; exact g1
  · rw [World.cell?_alloc_past _ _ _ hnl]; exact g2
  · rw [World.cell?_alloc_past _ _ _ hnl]; exact g3
set_option maxRecDepth 100000 in
set_option maxHeartbeats 1000000 in
theorem buildOnce_quote (rb nb k : Nat) (w : World) (hrb : w.heap[rb]? = some (.cells #[.int .u32 0, .int .i32 1, .int .u32 0, .nilIface, .slice (some ⟨nb, 0, none⟩) 4 k] 213 (0, 0)))
    (s0 : w.cell? ⟨nb, 0, none⟩ = some (.string ⟨#[34]⟩)) (s1 : w.cell? ⟨nb, 1, none⟩ = some (.string ⟨#[92, 34]⟩)) (s2 : w.cell? ⟨nb, 2, none⟩ = some (.string ⟨#[92]⟩)) (s3 : w.cell? ⟨nb, 3, none⟩ = some (.string ⟨#[92, 92]⟩)) :
    Calls Tryz.prog 158 #[.pointer (some ⟨rb, 0, none⟩)] w fun e w' => e = .returned (.tuple #[]) ∧ ∃ bs g1 g2 t, w'.heap[rb]? = some (.cells #[.int .u32 0, .int .i32 1, .int .u32 0, .iface 242 (.pointer (some ⟨bs, 0, none⟩)), .slice none 0 0] 213 (0, 0)) ∧
      BSR w.heap.size w' bs g1 g2 t 34 92 #[92, 34].toList #[92, 92].toList ⟨#[34]⟩ ⟨#[92]⟩ ∧ w.heap.size ≤ w'.heap.size ∧ (∀ b, b < w.heap.size → b ≠ rb → w'.heap[b]? = w.heap[b]?) ∧ w'.os = w.os ∧ w'.tape = w.tape ∧ w'.output = w.output := by
  have c4 := cell_of_block hrb 4
  have hlr := lt_of_block hrb
  have HRB := Lib.hid hrb
  clear hrb
  simp at c4
  have hb := Lib.hid (build_quote rb nb k w c4 s0 s1 s2 s3)
  go_enter Tryz.func158, Tryz.ntmps158
  go_wp2_with fail
  refine hb.out.mono ?_
  rintro e w1 ⟨bs, g1, g2, t, rfl, hb1, hbs⟩
  have HBS := Lib.hid hbs
  have hrb1 := block_below HRB.out hb1
  have d3 := cell_of_block hrb1 3
  have d4 := cell_of_block hrb1 4
  have z3 := free_of_block hrb1 3
  have z4 := free_of_block hrb1 4
  simp at d3 d4
  have HRB1 := Lib.hid hrb1
  have HB1 := Lib.hid hb1
  clear hbs hrb1 hb1
  go_wp2
  go_end0
  have e1 := block_setCell HRB1.out 3 (.iface 242 (.pointer (some ⟨bs, 0, none⟩)))
  have e2 := block_setCell e1 4 (.slice none 0 0)
  have hne : ∀ b, w.heap.size ≤ b → b ≠ rb := fun b h e => by omega
  have ag : Agree (fun b => b ≠ rb) w1 ((w1.setCell ⟨rb, 3, none⟩ (.iface 242 (.pointer (some ⟨bs, 0, none⟩)))).setCell ⟨rb, 4, none⟩ (.slice none 0 0)) := (Agree.of_setCell w1 ⟨rb, 3, none⟩ _ (fun b hb => hb)).trans (Agree.of_setCell _ ⟨rb, 4, none⟩ _ (fun b hb => hb))
  refine ⟨rfl, bs, g1, g2, t, by simpa using e2, HBS.out.frame ag (hne _ HBS.out.base.1) (hne _ HBS.out.base.2.1) (hne _ HBS.out.base.2.2.1) (hne _ HBS.out.base.2.2.2), Nat.le_trans HB1.out.size ag.size, fun b hb hn => (ag.block b hn (Nat.lt_of_lt_of_le hb HB1.out.size)).trans (HB1.out.block b hb), HB1.out.os, HB1.out.tape, HB1.out.output⟩
set_option maxRecDepth 100000 in
set_option maxHeartbeats 1000000 in
theorem replace_quote (B rb nb k : Nat) (s : ByteArray) (hs : s.size ≤ 1000000000) (w : World) (hB : B ≤ rb) (_hBw : B ≤ w.heap.size) (hnb : nb < w.heap.size ∧ nb ≠ rb) (hrb : w.heap[rb]? = some (.cells #[.int .u32 0, .int .i32 0, .int .u32 0, .nilIface, .slice (some ⟨nb, 0, none⟩) 4 k] 213 (0, 0)))
    (s0 : w.cell? ⟨nb, 0, none⟩ = some (.string ⟨#[34]⟩)) (s1 : w.cell? ⟨nb, 1, none⟩ = some (.string ⟨#[92, 34]⟩)) (s2 : w.cell? ⟨nb, 2, none⟩ = some (.string ⟨#[92]⟩)) (s3 : w.cell? ⟨nb, 3, none⟩ = some (.string ⟨#[92, 92]⟩)) :
    Calls Tryz.prog 154 #[.pointer (some ⟨rb, 0, none⟩), .string s] w fun e w' => e = .returned (.string ⟨(repl 34 92 #[92, 34].toList #[92, 92].toList s.data.toList).toArray⟩) ∧ Below B w w' := by
  have hmf : ∀ (fn : Fn) (first cap : Array Value) (w : World), (Instr.makeFunc fn first cap).run Tryz.prog w = .ok (.func fn first cap) w := fun _ _ _ _ => rfl
  have hrb1 := block_setCell hrb 1 (.int .i32 1)
  have hlr := lt_of_block hrb
  have hag1 : Agree (fun b => b ≠ rb) w (w.setCell ⟨rb, 1, none⟩ (.int .i32 1)) := Agree.of_setCell w ⟨rb, 1, none⟩ _ (fun b hb => hb)
  have hdo := onceDo_first rb 158 #[.pointer (some ⟨rb, 0, none⟩)] #[] Tryz.call158 (fun w' => ∃ bs g1 g2 t, w'.heap[rb]? = some (.cells #[.int .u32 0, .int .i32 1, .int .u32 0, .iface 242 (.pointer (some ⟨bs, 0, none⟩)), .slice none 0 0] 213 (0, 0)) ∧
      BSR w.heap.size w' bs g1 g2 t 34 92 #[92, 34].toList #[92, 92].toList ⟨#[34]⟩ ⟨#[92]⟩ ∧ w.heap.size ≤ w'.heap.size ∧ (∀ b, b < w.heap.size → b ≠ rb → w'.heap[b]? = w.heap[b]?) ∧ w'.os = w.os ∧ w'.tape = w.tape ∧ w'.output = w.output) w
    ((cell_of_block hrb 0).trans rfl) ((cell_of_block hrb 1).trans rfl) (free_of_block hrb 1)
    ((buildOnce_quote rb nb k _ (by simpa using hrb1) ((hag1.cell hnb.2 hnb.1 _).trans s0) ((hag1.cell hnb.2 hnb.1 _).trans s1) ((hag1.cell hnb.2 hnb.1 _).trans s2) ((hag1.cell hnb.2 hnb.1 _).trans s3)).mono (by
      rintro e w' ⟨he, bs, g1, g2, t, h1, h2, h3, h4, h5, h6, h7⟩
      have hsz : (w.setCell ⟨rb, 1, none⟩ (.int .i32 1)).heap.size = w.heap.size := by simp [World.setCell]
      rw [hsz] at h2 h3 h4
      exact ⟨he, bs, g1, g2, t, h1, h2, h3, fun b hb hn => (h4 b hb hn).trans (hag1.block b hn hb), h5, h6, h7⟩))
    (by
      rintro w2 ⟨bs, g1, g2, t, h1, _⟩
      exact ⟨(cell_of_block h1 0).trans rfl, (cell_of_block h1 1).trans rfl, free_of_block h1 0, free_of_block h1 1⟩)
  have HDO := Lib.hid hdo
  clear hdo s0 s1 s2 s3 hrb1 hag1 hrb
  have hna := nil_ahead_bs
  have hme := method_bs
  go_enter Tryz.func154, Tryz.ntmps154
  go_wp2_with fail
  refine HDO.out.mono ?_
  rintro e w' ⟨rfl, w2, ⟨bs, g1, g2, t, h1, h2, h3, h4, h5, h6, h7⟩, rfl⟩
  have e1 := block_setCell (w := w2.drew) h1 0 (.int .u32 1)
  have e2 := block_setCell e1 1 (.int .i32 0)
  have hne : ∀ b, w.heap.size ≤ b → b ≠ rb := fun b h e => by omega
  have ag : Agree (fun b => b ≠ rb) w2 ((w2.drew.setCell ⟨rb, 0, none⟩ (.int .u32 1)).setCell ⟨rb, 1, none⟩ (.int .i32 0)) := (show Agree (fun b => b ≠ rb) w2 (w2.drew.setCell ⟨rb, 0, none⟩ (.int .u32 1)) from ⟨(Agree.of_setCell (F := fun b => b ≠ rb) w2.drew ⟨rb, 0, none⟩ (.int .u32 1) (fun b hb => hb)).size, (Agree.of_setCell (F := fun b => b ≠ rb) w2.drew ⟨rb, 0, none⟩ (.int .u32 1) (fun b hb => hb)).block⟩).trans (Agree.of_setCell _ ⟨rb, 1, none⟩ _ (fun b hb => hb))
  have hbs := h2.frame ag (hne _ h2.base.1) (hne _ h2.base.2.1) (hne _ h2.base.2.2.1) (hne _ h2.base.2.2.2)
  have hbel : Below B w ((w2.drew.setCell ⟨rb, 0, none⟩ (.int .u32 1)).setCell ⟨rb, 1, none⟩ (.int .i32 0)) := ⟨h5, h6, h7, Nat.le_trans h3 ag.size, fun b hb => (ag.block b (by omega) (by omega)).trans (h4 b (by omega) (by omega))⟩
  have k3 := cell_of_block e2 3
  simp at k3
  generalize hW : (w2.drew.setCell ⟨rb, 0, none⟩ (.int .u32 1)).setCell ⟨rb, 1, none⟩ (.int .i32 0) = w3 at *
  have HBS := Lib.hid hbs
  clear hbs h1 h2 h3 h4 h5 h6 h7 e1 e2 ag hW
  go_wp2_with fail
  refine (replaceBS_any w.heap.size bs g1 g2 t (34 : UInt8) (92 : UInt8) #[92, 34].toList #[92, 92].toList rfl rfl (by decide) s hs w3 HBS.out).mono ?_
  rintro e w4 ⟨rfl, hb4⟩
  go_wp2
  go_ret
  exact ⟨rfl, hbel.trans (hb4.mono (by have := hbel.size; omega))⟩
def quoted (l : List UInt8) : List UInt8 := 34 :: (repl 34 92 [92, 34] [92, 92] l ++ [34])
def escapedL (l : List UInt8) : List UInt8 := repl 126 47 [126, 48] [126, 49] l
theorem bytes_ext {a b : ByteArray} (h : a.data.toList = b.data.toList) : a = b := by
  cases a
  cases b
  congr
  exact Array.toList_inj.1 h
set_option maxRecDepth 100000 in
set_option maxHeartbeats 1000000 in
theorem written_any (s : ByteArray) (hs : s.size ≤ 1000000000) (w : World) :
    Calls Tryz.prog 149 #[.string s] w fun e w' => e = .returned (.string ⟨(quoted s.data.toList).toArray⟩) ∧ Below w.heap.size w w' := by
  have hn := newReplacer_any ⟨#[34]⟩ ⟨#[92, 34]⟩ ⟨#[92]⟩ ⟨#[92, 92]⟩ w.heap.size 4 (w.alloc (.cells #[.string ⟨#[34]⟩, .string ⟨#[92, 34]⟩, .string ⟨#[92]⟩, .string ⟨#[92, 92]⟩] 9)) (by simp) (by simp) (by simp) (by simp)
  have HN := Lib.hid hn
  clear hn
  go_enter Tryz.func149, Tryz.ntmps149
  go_wp2_with fail
  refine HN.out.mono ?_
  rintro e w1 ⟨rb, nb, k, rfl, hb1, h1, h2, h3, g0, g1, g2, g3⟩
  have hlb := World.block_lt_of_cell? w1 _ g0
  have hb0 : Below w.heap.size w w1 := ((Below.refl _ _).alloc (Nat.le_refl _) _).trans (hb1.mono (by simp))
  have hsz := hb1.size
  simp at h1 h3 hsz hlb
  have hnr : nb ≠ rb := by
    intro e
    subst e
    have := cell_of_block h2 0
    rw [g0] at this
    simp at this
  have HR := Lib.hid (replace_quote w.heap.size rb nb k s hs w1 (by omega) (by omega) ⟨hlb, hnr⟩ h2 g0 g1 g2 g3)
  obtain ⟨R, hR⟩ : ∃ R : ByteArray, R = ⟨(repl 34 92 #[92, 34].toList #[92, 92].toList s.data.toList).toArray⟩ := ⟨_, rfl⟩
  have hRs : R.size ≤ 2000000000 := by
    have h1 := repl_length 34 92 #[92, 34].toList #[92, 92].toList s.data.toList rfl rfl
    have h2 := hits_le 34 92 s.data.toList
    have h3 : s.data.toList.length = s.size := by simp
    have h4 : R.size = (repl 34 92 #[92, 34].toList #[92, 92].toList s.data.toList).length := by rw [hR]; rfl
    omega
  rw [← hR] at HR
  have HRE := Lib.hid hR
  clear h2 g0 g1 g2 g3 HN hb1 hR
  go_wp2_with fail
  refine HR.out.mono ?_
  rintro e w2 ⟨rfl, hb2⟩
  go_wp2
  go_ret
  exact ⟨congrArg (fun x => Ending.returned (Value.string x)) (bytes_ext (by rw [HRE.out]; simp [quoted])), hb0.trans hb2⟩
end Go.Proofs.YtemcijhpmpdebaaGreatDoor
