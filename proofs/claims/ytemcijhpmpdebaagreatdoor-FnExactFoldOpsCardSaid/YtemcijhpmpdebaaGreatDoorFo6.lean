/- A row of operations done on the empty base: plain words; the program's ReplayOps and FoldOps. -/
import Derived.Test.YtemcijhpmpdebaaGreatDoorFo5
import Derived.Test.YtemcijhpmpdebaaGreatDoorBsG2
import Derived.Laws.ResultCell
namespace Go.Proofs.YtemcijhpmpdebaaGreatDoor
open Go.RowKit
def goodD (d : OpD) : Prop := ∃ g, IsVal d.doc g ∧ opG d.o d.doc g = true
theorem goodD_in {d : OpD} (h : goodD d) : (0 ≤ d.o.id ∧ d.o.id ≤ 100) ∧ (0 ≤ d.o.session ∧ d.o.session ≤ 100) ∧ (d.o.kind = 1 → ∃ t, IsGood d.doc t) := by
  obtain ⟨g, hg, h⟩ := h
  unfold opG opR inB at h
  simp only [Bool.and_eq_true, decide_eq_true_eq] at h
  obtain ⟨⟨h1, h2, h3⟩, h4⟩ := h
  refine ⟨h1, h2, fun hk => ?_⟩
  rw [if_pos hk] at h4
  exact hg.1 h4
theorem gop_good {d : OpD} {w : World} {e : Ending} {w' : World} (h : GOP d.o d.doc w e w') : Below w.heap.size w w' ∧ ∃ r, e = .returned (.bool r) ∧ (r = true ↔ goodD d) := by
  obtain ⟨hb, g, he, hg⟩ := h
  refine ⟨hb, _, he, fun h => ⟨g, hg, h⟩, fun ⟨g', hg', h'⟩ => ?_⟩
  rw [hg.eq hg']
  exact h'
def foldB (ds : List OpD) : BsV := ds.foldl (fun b d => stepV b d.o d.doc) ⟨0, [], []⟩
theorem foldB_snoc {ds : List OpD} {k : Nat} {d : OpD} (h : ds[k]? = some d) : foldB (ds.take (k + 1)) = stepV (foldB (ds.take k)) d.o d.doc := by
  unfold foldB
  rw [List.take_add_one, h, Option.toList_some, List.foldl_append]
  rfl
theorem take_each {α : Type} {P : α → Prop} {ds : List α} {k : Nat} {d : α} (h : ds[k]? = some d) : (∀ x ∈ ds.take (k + 1), P x) ↔ (∀ x ∈ ds.take k, P x) ∧ P d := by
  rw [List.take_add_one, h, Option.toList_some]
  constructor
  · exact fun h => ⟨fun x hx => h x (by simp [hx]), h d (by simp)⟩
  · rintro ⟨h1, h2⟩ x hx
    rcases List.mem_append.1 hx with hx | hx
    · exact h1 x hx
    · simp at hx; subst hx; exact h2
theorem foldOK {ds : List OpD} : ∀ (k : Nat), k ≤ ds.length → (∀ d ∈ ds.take k, goodD d) → FoldOK k (foldB (ds.take k))
  | 0, _, _ => by simp only [List.take_zero]; exact FoldOK.zero
  | k + 1, hk, h => by
    have hd : ds[k]? = some ds[k] := by simp
    generalize ds[k] = d at hd
    obtain ⟨h1, h2⟩ := (take_each hd).1 h
    obtain ⟨g1, g2, g3⟩ := goodD_in h2
    rw [foldB_snoc hd]
    exact (foldOK k (by omega) h1).step g1 g2 g3
def FoldRes (ds : List OpD) (r : Bool) (b : BsV) : Prop := (r = true ↔ ds.length ≤ 60 ∧ ∀ d ∈ ds, goodD d) ∧ b = if r = true then foldB ds else ⟨0, [], []⟩
theorem FoldRes.eq {ds : List OpD} {r r' : Bool} {b b' : BsV} (h : FoldRes ds r b) (h' : FoldRes ds r' b') : r = r' ∧ b = b' := by
  have e : r = r' := by
    have := h.1.trans h'.1.symm
    cases r <;> cases r' <;> simp_all
  subst e
  exact ⟨rfl, h.2.trans h'.2.symm⟩
theorem FoldRes.no {ds : List OpD} (h : ¬ (ds.length ≤ 60 ∧ ∀ d ∈ ds, goodD d)) : FoldRes ds false ⟨0, [], []⟩ := ⟨⟨fun e => (by cases e), fun e => absurd e h⟩, rfl⟩
theorem FoldRes.yes {ds : List OpD} (h : ds.length ≤ 60 ∧ ∀ d ∈ ds, goodD d) : FoldRes ds true (foldB ds) := ⟨⟨fun _ => h, fun _ => rfl⟩, rfl⟩
/-- What is in a base that was folded. -/
theorem FoldRes.small {ds : List OpD} {r : Bool} {b : BsV} (h : FoldRes ds r b) : b.docs.length ≤ 20 ∧ b.sess.length ≤ 8 ∧ ∀ d ∈ b.docs, d.doc = [] ∨ ∃ t, IsGood d.doc t := by
  obtain ⟨h1, h2⟩ := h
  cases r
  · rw [h2]
    exact ⟨by simp, by simp, fun d hd => by simp at hd⟩
  · have h3 := foldOK ds.length (Nat.le_refl _) (by rw [List.take_length]; exact (h1.1 rfl).2)
    rw [List.take_length] at h3
    rw [h2, if_pos rfl]
    exact ⟨h3.dl, h3.sl, fun d hd => .inr (h3.di d hd).2⟩
theorem StF.frame {F : Nat → Prop} {w w1 : World} {A : Option Addr} {rs : List StR} (h : StF F w A rs) (ha : Agree F w w1) : StF F w1 A rs :=
  ⟨fun h0 => by
    obtain ⟨g, o, cs, e, hF, hh, hs, hc⟩ := h.top h0
    exact ⟨g, o, cs, e, hF, block_agree hh ha hF, hs, hc⟩, fun r hr => (h.docs r hr).frame ha, h.apart⟩
theorem StF.mono {F G : Nat → Prop} {w : World} {A : Option Addr} {rs : List StR} (h : StF F w A rs) (hG : ∀ b, F b → b < w.heap.size → G b) : StF G w A rs :=
  ⟨fun h0 => by
    obtain ⟨g, o, cs, e, hF, hh, hs, hc⟩ := h.top h0
    exact ⟨g, o, cs, e, hG g hF (lt_of_block hh), hh, hs, hc⟩, fun r hr => (h.docs r hr).mono hG, h.apart⟩
theorem StF.zero (F : Nat → Prop) (w : World) (A : Option Addr) : StF F w A [] := ⟨fun h => by simp at h, fun r hr => by simp at hr, fun i j r s a b _ h => by simp at h⟩
theorem Own.zero (F : Nat → Prop) (w : World) (T : TypeId) (A : Option Addr) : Own F w T A [] := ⟨Rds.nil _ _ _, fun h => by simp at h⟩
theorem results_cell_row2 {P : Program} {fn : Func} {p u : Tmp} {ty : TypeId} (h : fn.results = #[.cell p ty, .tmp u]) (tmps : Array Value) (w : World) (g : Nat) (t : TypeId) (cs : Array Value) (fr : Nat × Nat) (d : TypeDesc)
    (hp : tmps.getD p undef = .pointer (some ⟨g, 0, none⟩)) (hg : w.heap[g]? = some (.cells cs t fr))
    (hu : P.underlying ty = some d) (hd : (match d with | .struct _ | .array _ _ => true | _ => false) = true) (hi : (P.info? ty).map (·.size) = some cs.size) :
    (results fn tmps).run P w = .ok (.tuple #[.agg cs, tmps.getD u undef]) w := by
  rw [results_cell_tmp h]
  simp only [hp, asAddr, Sem.run_pure, Result.andThen_ok, run_loadVar_row w g t ty cs fr d hg hu hd hi]
/-- What FoldOps leaves. -/
def FoldP (ds : List OpD) (w : World) (e : Ending) (w' : World) : Prop :=
  ∃ r b rs A1 c1 A2 c2, e = .returned (.tuple #[.agg #[.int .i64 b.applied, .slice A1 rs.length c1, .slice A2 b.sess.length c2], .bool r]) ∧ Below w.heap.size w w' ∧ FoldRes ds r b ∧ rs.map StR.d = b.docs ∧ (∀ r ∈ rs, r.d.doc.length ≤ r.cap) ∧ StF (fun k => w.heap.size ≤ k) w' A1 rs ∧ Own (fun k => w.heap.size ≤ k) w' 97 A2 (ssCells b.sess)
theorem foldP_no {ds : List OpD} {w w' : World} (h : ¬ (ds.length ≤ 60 ∧ ∀ d ∈ ds, goodD d)) (hb : Below w.heap.size w w') : FoldP ds w (.returned (.tuple #[.agg #[.int .i64 0, .slice none 0 0, .slice none 0 0], .bool false])) w' :=
  ⟨false, ⟨0, [], []⟩, [], none, 0, none, 0, rfl, hb, .no h, rfl, fun r hr => by simp at hr, .zero _ _ _, .zero _ _ _ _⟩
theorem bsGood_zero : BsGood ⟨0, [], []⟩ := ⟨⟨Int.le_refl _, by decide⟩, by simp, by simp, fun k d h => by simp at h, fun k s h => by simp at h⟩
set_option maxRecDepth 100000 in
set_option maxHeartbeats 16000000 in
theorem replay_any (ds : List OpD) (hl : ds.length ≤ 60) (hsz : ∀ d ∈ ds, d.doc.length ≤ 1000000000 ∧ ∀ x ∈ d.doc, x.text.size ≤ 9223372036854775807 ∧ x.name.size ≤ 9223372036854775807) (F : Nat → Prop) (A : Option Addr) (c : Nat) (w : World) (hr : OpAt F w A ds) (htab : Tabs w.heap.size w) :
    Calls Tryz.prog 22 #[.agg #[.int .i64 0, .slice none 0 0, .slice none 0 0], .int .i64 0, .slice A ds.length c] w (FoldP ds w) := by
  have HR := Lib.hid (show OpAt (fun k => k < w.heap.size) w A ds from hr.mono (fun b _ h => h))
  have HSZ := Lib.hid hsz
  have HT := Lib.hid htab
  have hb2 : Below w.heap.size w ((w.alloc (.cells #[.int .i64 0, .slice none 0 0, .slice none 0 0] 27 (0, 0))).alloc (.cells #[.int .i64 0, .slice none 0 0, .slice none 0 0] 27 (0, 0))) := bl_alloc (bl_alloc (Below.refl _ _))
  have hs2 : ((w.alloc (.cells #[.int .i64 0, .slice none 0 0, .slice none 0 0] 27 (0, 0))).alloc (.cells #[.int .i64 0, .slice none 0 0, .slice none 0 0] 27 (0, 0))).heap.size = w.heap.size + 1 + 1 := by simp
  have k0 : ((w.alloc (.cells #[.int .i64 0, .slice none 0 0, .slice none 0 0] 27 (0, 0))).alloc (.cells #[.int .i64 0, .slice none 0 0, .slice none 0 0] 27 (0, 0))).heap[w.heap.size]? = some (.cells #[.int .i64 0, .slice none 0 0, .slice none 0 0] 27 (0, 0)) := by (repeat (first | with_reducible assumption | (with_reducible refine blk_new _ ?_; (first | rfl | (simp; done) | (simp; omega))) | with_reducible apply block_setCell | (with_reducible refine blk_skip _ _ ?_ ?_; rotate_left; (first | (simp; done) | (simp; omega))) | with_reducible refine blk_old ?_))
  have k1 : ((w.alloc (.cells #[.int .i64 0, .slice none 0 0, .slice none 0 0] 27 (0, 0))).alloc (.cells #[.int .i64 0, .slice none 0 0, .slice none 0 0] 27 (0, 0))).heap[w.heap.size + 1]? = some (.cells #[.int .i64 0, .slice none 0 0, .slice none 0 0] 27 (0, 0)) := by (repeat (first | with_reducible assumption | (with_reducible refine blk_new _ ?_; (first | rfl | (simp; done) | (simp; omega))) | with_reducible apply block_setCell | (with_reducible refine blk_skip _ _ ?_ ?_; rotate_left; (first | (simp; done) | (simp; omega))) | with_reducible refine blk_old ?_))
  have HB2 := Lib.hid hb2
  have HK0 := Lib.hid k0
  have HK1 := Lib.hid k1
  have HGB := Lib.hid (goodBase_any ⟨0, [], []⟩ ⟨by simp, by simp, fun d hd => by simp at hd⟩ (fun _ => True) none none 0 0 ((w.alloc (.cells #[.int .i64 0, .slice none 0 0, .slice none 0 0] 27 (0, 0))).alloc (.cells #[.int .i64 0, .slice none 0 0, .slice none 0 0] 27 (0, 0))) ⟨[], rfl, Rds.nil _ _ _, fun r hr => by simp at hr⟩ (Rds.nil _ _ _) ((htab.below hb2).mono hb2.size))
  clear hr hsz htab hb2 k0 k1
  go_enter Tryz.func22, Tryz.ntmps22
  go_upto_region 1 with fail
  generalize (w.alloc (.cells #[.int .i64 0, .slice none 0 0, .slice none 0 0] 27 (0, 0))).alloc (.cells #[.int .i64 0, .slice none 0 0, .slice none 0 0] 27 (0, 0)) = w1 at HB2 HK0 HK1 HGB hs2 ⊢
  obtain ⟨x0, x1, x2⟩ := cells3 HK0.out
  go_cut [26] (fun v wx => v = .bool false ∧ Below w1.heap.size w1 wx)
  case first =>
    go_wp2_with fail
    refine HGB.out.mono ?_
    rintro e w2 ⟨hb, r, rfl, hr⟩
    obtain rfl := hr.2 bsGood_zero
    have HB := Lib.hid hb
    clear hb hr
    go_wp2
    all_goals
      go_meet
      exact ⟨rfl, HB.out⟩
  case rest =>
    obtain ⟨rfl, hbc⟩ := hcut
    have HBC := Lib.hid (HB2.out.trans (hbc.mono (by omega) : Below w.heap.size w1 wc))
    have HC0 := Lib.hid (block_below HK0.out hbc)
    have HC1 := Lib.hid (block_below HK1.out hbc)
    have hsc := hbc.size
    have HZ := Lib.hid (cloneZ_any wc)
    clear hbc x0 x1 x2 HGB HK0 HK1 HB2
    obtain ⟨x0, x1, x2⟩ := cells3 HC0.out
    go_wp2_with fail
    refine HZ.out.mono ?_
    rintro e w3 ⟨A0, c0, rfl, hb3, ho3⟩
    have hs3 := hb3.size
    have HO3 := Lib.hid ho3
    have HB3 := Lib.hid (below_then HBC.out (by have := HBC.out.size; omega) hb3)
    have HD1 := Lib.hid (block_below HC1.out hb3)
    have HWC := Lib.hid hb3
    clear hb3 ho3 HZ x0 x1 x2
    go_wp2
    have hk8 := heap_alloc_new w3 (.cells #[.int .i64 0, .slice A0 0 c0, .slice none 0 0] 27 (0, 0))
    have hb4 : Below w3.heap.size w3 (w3.alloc (.cells #[.int .i64 0, .slice A0 0 c0, .slice none 0 0] 27 (0, 0))) := (Below.refl _ _).alloc (Nat.le_refl _) _
    have HM0 := Lib.hid (show BMem wc.heap.size w3.heap.size ⟨0, [], []⟩ [] A0 c0 none 0 (w3.alloc (.cells #[.int .i64 0, .slice A0 0 c0, .slice none 0 0] 27 (0, 0))) from
      ⟨hs3, hk8, rfl, own_below HO3.out hb4, World.ownsRow_nil _ _ _ _, fun r hr => by simp at hr, fun i j r s a b _ h => by simp at h⟩)
    have HB4 := Lib.hid (show Below wc.heap.size wc (w3.alloc (.cells #[.int .i64 0, .slice A0 0 c0, .slice none 0 0] 27 (0, 0))) from HWC.out.alloc hs3 _)
    generalize hbs : wc.heap.size = base at HM0 HB4 hs3 hsc
    have HBS := Lib.hid hbs
    clear hk8 hb4 HO3 HD1 HWC HB3 hbs
    go_loopw [32] (fun iv wx => ∃ (i : Nat) (rs : List StR) (A1 : Option Addr) (c1 : Nat) (A2 : Option Addr) (c2 : Nat), iv = .int .i64 (i : Int) ∧ i ≤ ds.length ∧ Hid (∀ d ∈ ds.take i, goodD d) ∧ Hid (BMem base w3.heap.size (foldB (ds.take i)) rs A1 c1 A2 c2 wx) ∧ Hid (Below base wc wx)) (fun iv _ => ds.length - (intOf iv).toNat)
    case atStart => exact ⟨0, [], A0, c0, none, 0, rfl, Nat.zero_le _, Lib.hid (fun d hd => by simp at hd), HM0, HB4⟩
    case round =>
      obtain ⟨i, rs, A1, c1, A2, c2, rfl, hi, HAL, HM, HBX⟩ := hrel
      have hwi : IntKind.i64.wrap (i : Int) = (i : Int) := by rw [IntKind.wrap_i64]; omega
      have hbwx : Below w.heap.size w wr := HBC.out.trans (HBX.out.mono (by omega))
      have HBW := Lib.hid hbwx
      have hres := HBX.out.block (w.heap.size + 1) (by omega)
      rw [HC1.out] at hres
      have HRES := Lib.hid hres
      have hbwr : base ≤ wr.heap.size := by have := HBX.out.size; have := HBS.out; omega
      have r0 := cell_of_block hres 0
      have r1 := cell_of_block hres 1
      have r2 := cell_of_block hres 2
      have f0 := free_of_block hres 0
      have f1 := free_of_block hres 1
      have f2 := free_of_block hres 2
      simp at r0 r1 r2
      by_cases hlt : i < ds.length
      · obtain ⟨b, o, r, rfl, hF, hbl, hx, g0, g1, g2, g3, g4, hcp, hrr⟩ := op_at (HR.out.frame (Agree.of_below hbwx)) i hlt
        have hmem : r.d ∈ ds := List.mem_of_getElem? hx
        have HX := Lib.hid hx
        have HRR := Lib.hid hrr
        have ha0 := (Below.refl wr.heap.size wr).alloc (Nat.le_refl _) (.cells #[.int .i64 r.d.o.kind, .int .i64 r.d.o.id, .slice r.adr r.d.doc.length r.cap, .int .i64 r.d.o.session, .int .i64 r.d.o.no] 57 (0, 0))
        have hc := goodOp_any r.d.o r.d.doc (HSZ.out r.d hmem).1 (HSZ.out r.d hmem).2 _ r.adr r.cap hcp _ (hrr.below ha0) ((HT.out.below (below_then hbwx hbwx.size ha0)).mono (below_then hbwx hbwx.size ha0).size)
        unfold OpV.val at hc
        have HGO := Lib.hid hc
        have HA0 := Lib.hid ha0
        have hop := heap_alloc_new wr (.cells #[.int .i64 r.d.o.kind, .int .i64 r.d.o.id, .slice r.adr r.d.doc.length r.cap, .int .i64 r.d.o.session, .int .i64 r.d.o.no] 57 (0, 0))
        have HOP := Lib.hid hop
        clear hx hrr hc ha0 hop hres hbwx
        go_wp2_with fail
        refine HGO.out.mono ?_
        rintro e w5 hg5
        obtain ⟨hb5, rg, rfl, hr1⟩ := gop_good hg5
        have hb15 : Below wr.heap.size wr w5 := below_then HA0.out HA0.out.size hb5
        have k5 := block_below HRES.out hb15
        have r0' := cell_of_block k5 0
        have r1' := cell_of_block k5 1
        have r2' := cell_of_block k5 2
        have f0' := free_of_block k5 0
        have f1' := free_of_block k5 1
        have f2' := free_of_block k5 2
        simp at r0' r1' r2'
        have p5 := block_below HOP.out hb5
        have p0 := cell_of_block p5 0
        have p1 := cell_of_block p5 1
        have p2 := cell_of_block p5 2
        have p3 := cell_of_block p5 3
        have p4 := cell_of_block p5 4
        simp at p0 p1 p2 p3 p4
        have HK5 := Lib.hid k5
        have HB15 := Lib.hid hb15
        have HR1 := Lib.hid hr1
        have hw5 : wr.heap.size ≤ w5.heap.size := hb15.size
        clear k5 p5 hg5 hb5 hb15 hr1 HGO HA0 HOP g0 g1 g2 g3 g4 r0 r1 r2 f0 f1 f2
        cases rg
        · go_wp2
          refine bodyPost_ret (results_cell_row2 rfl _ _ (w.heap.size + 1) _ _ _ _ rfl (block_setCell (block_setCell (block_setCell HK5.out _ _) _ _) _ _) Tryz.underlying27 rfl ((info_size infoBase).trans (by simp))) rfl ?_
          refine foldP_no (fun h => ?_) ?_
          · have := h.2 _ hmem
            rw [← HR1.out] at this
            cases this
          · have hs1 : w.heap.size ≤ w.heap.size + 1 := by omega
            exact (((HBW.out.trans (HB15.out.mono (by have := HBW.out.size; omega))).setCell (p := ⟨w.heap.size + 1, 0, none⟩) hs1 _).setCell (p := ⟨w.heap.size + 1, 1, none⟩) hs1 _).setCell (p := ⟨w.heap.size + 1, 2, none⟩) hs1 _
        · have hgd := HR1.out.1 rfl
          obtain ⟨q1, q2, q3⟩ := goodD_in hgd
          have hca := apply_any base w3.heap.size i (foldB (ds.take i)) rs A1 c1 A2 c2 r.d.o r.d.doc r.adr r.cap w5 (HM.out.below HB15.out) (foldOK i hi HAL.out) (by omega) q1 q2 (HSZ.out r.d hmem).1 ((HRR.out.below HB15.out).mono (fun k hk _ => by have h : k < w.heap.size := hk; omega))
          unfold OpV.val at hca
          have HCA := Lib.hid hca
          have HGD := Lib.hid hgd
          clear hca hgd q3
          go_wp2_with fail
          refine HCA.out.mono ?_
          rintro e w6 ⟨rfl, hb6, rs', A1', c1', A2', c2', hm6⟩
          have HM6 := Lib.hid hm6
          have HB6 := Lib.hid hb6
          clear hb6 hm6
          go_wp2
          go_roundw
          case rel => exact ⟨i + 1, rs', A1', c1', A2', c2', rfl, by omega, Lib.hid ((take_each HX.out).2 ⟨HAL.out, HGD.out⟩), Lib.hid (by rw [foldB_snoc HX.out]; exact HM6.out), Lib.hid ((HBX.out.trans (HB15.out.mono hbwr)).trans HB6.out)⟩
          case measure => simp [intOf]; omega
      · obtain rfl : i = ds.length := by omega
        have HFA := Lib.hid (show ∀ d ∈ ds, goodD d from by have := HAL.out; rwa [List.take_length] at this)
        have hm := HM.out
        rw [List.take_length] at hm
        obtain ⟨x0, x1, x2⟩ := cells3 hm.blk
        have HMF := Lib.hid hm
        have hne : w3.heap.size ≠ w.heap.size + 1 := by omega
        clear hm hres hbwx
        go_wp2
        refine bodyPost_ret (results_cell_row2 rfl _ _ (w.heap.size + 1) _ _ _ _ rfl (block_setCell (block_setCell (block_setCell HRES.out _ _) _ _) _ _) Tryz.underlying27 rfl ((info_size infoBase).trans (by simp))) rfl ?_
        have hs1 : w.heap.size ≤ w.heap.size + 1 := by omega
        have hne2 : ∀ b, base ≤ b → b ≠ w.heap.size + 1 := fun b h => by omega
        obtain ⟨m1, m2⟩ := HMF.out.marks
        have haW : ∀ (v0 v1 v2 : Value), Agree (fun b => base ≤ b) wr (((wr.setCell ⟨w.heap.size + 1, 0, none⟩ v0).setCell ⟨w.heap.size + 1, 1, none⟩ v1).setCell ⟨w.heap.size + 1, 2, none⟩ v2) := fun v0 v1 v2 => (((Agree.refl _ _).set hne2 _ _).set hne2 _ _).set hne2 _ _
        refine ⟨true, foldB ds, rs, A1, c1, A2, c2, rfl, ?_, .yes ⟨hl, HFA.out⟩, HMF.out.map, fun r hr => (HMF.out.docs r hr).1, (m1.frame (haW _ _ _)).mono (fun b hb _ => by have h : base ≤ b := hb; show w.heap.size ≤ b; omega), (m2.frame (haW _ _ _)).mono (fun b hb _ => by have h : base ≤ b := hb; show w.heap.size ≤ b; omega)⟩
        exact ((HBW.out.setCell (p := ⟨w.heap.size + 1, 0, none⟩) hs1 _).setCell (p := ⟨w.heap.size + 1, 1, none⟩) hs1 _).setCell (p := ⟨w.heap.size + 1, 2, none⟩) hs1 _
set_option maxRecDepth 100000 in
set_option maxHeartbeats 4000000 in
theorem foldOps_any (ds : List OpD) (hl : ds.length ≤ 1000000000) (hsz : ∀ d ∈ ds, d.doc.length ≤ 1000000000 ∧ ∀ x ∈ d.doc, x.text.size ≤ 9223372036854775807 ∧ x.name.size ≤ 9223372036854775807) (F : Nat → Prop) (A : Option Addr) (c : Nat) (w : World) (hr : OpAt F w A ds) (htab : Tabs w.heap.size w) :
    Calls Tryz.prog 8 #[.slice A ds.length c] w (FoldP ds w) := by
  have hb1 : Below w.heap.size w (w.alloc (.cells #[.int .i64 0, .slice none 0 0, .slice none 0 0] 27 (0, 0))) := bl_alloc (Below.refl _ _)
  have k0 := heap_alloc_new w (.cells #[.int .i64 0, .slice none 0 0, .slice none 0 0] 27 (0, 0))
  have HB1 := Lib.hid hb1
  have HK0 := Lib.hid k0
  have HRP := Lib.hid (fun hl => replay_any ds hl hsz F A c (w.alloc (.cells #[.int .i64 0, .slice none 0 0, .slice none 0 0] 27 (0, 0))) (hr.frame (Agree.of_below hb1)) ((htab.below hb1).mono hb1.size))
  clear hr htab hsz hb1 k0
  by_cases h60 : ds.length ≤ 60
  · have d60 : decide (60 < (ds.length : Int)) = false := by simp; omega
    go_enter Tryz.func8, Tryz.ntmps8
    go_wp2_with fail
    generalize w.alloc (.cells #[.int .i64 0, .slice none 0 0, .slice none 0 0] 27 (0, 0)) = w1 at HB1 HK0 HRP ⊢
    refine (HRP.out h60).mono ?_
    rintro e w2 ⟨r, b, rs, A1, c1, A2, c2, rfl, hb2, hres, hmap, hcp, hsf, hso⟩
    have k2 := block_below HK0.out hb2
    have f0 := free_of_block k2 0
    have f1 := free_of_block k2 1
    have f2 := free_of_block k2 2
    have r0 := cell_of_block k2 0
    have r1 := cell_of_block k2 1
    have r2 := cell_of_block k2 2
    simp at r0 r1 r2
    have HK2 := Lib.hid k2
    have HB2 := Lib.hid (below_then HB1.out HB1.out.size hb2)
    have HS1 := Lib.hid hsf
    have HS2 := Lib.hid hso
    have HRS := Lib.hid hres
    have HMP := Lib.hid hmap
    have HCP := Lib.hid hcp
    have hs1 := HB1.out.size
    have hlw : w.heap.size < w1.heap.size := lt_of_block HK0.out
    clear hb2 hres hmap hcp hsf hso k2
    go_wp2
    refine bodyPost_ret (results_cell_row2 rfl _ _ w.heap.size _ _ _ _ rfl (block_setCell (block_setCell (block_setCell HK2.out _ _) _ _) _ _) Tryz.underlying27 rfl ((info_size infoBase).trans (by simp))) rfl ?_
    have hne2 : ∀ b, w1.heap.size ≤ b → b ≠ w.heap.size := fun b h => by omega
    have hs0 : w.heap.size ≤ w.heap.size := Nat.le_refl _
    have haW : ∀ (v0 v1 v2 : Value), Agree (fun b => w1.heap.size ≤ b) w2 (((w2.setCell ⟨w.heap.size, 0, none⟩ v0).setCell ⟨w.heap.size, 1, none⟩ v1).setCell ⟨w.heap.size, 2, none⟩ v2) := fun v0 v1 v2 => (((Agree.refl _ _).set hne2 _ _).set hne2 _ _).set hne2 _ _
    refine ⟨r, b, rs, A1, c1, A2, c2, rfl, ?_, HRS.out, HMP.out, HCP.out, (HS1.out.frame (haW _ _ _)).mono (fun b hb _ => by have h : w1.heap.size ≤ b := hb; show w.heap.size ≤ b; omega), (HS2.out.frame (haW _ _ _)).mono (fun b hb _ => by have h : w1.heap.size ≤ b := hb; show w.heap.size ≤ b; omega)⟩
    exact ((HB2.out.setCell (p := ⟨w.heap.size, 0, none⟩) hs0 _).setCell (p := ⟨w.heap.size, 1, none⟩) hs0 _).setCell (p := ⟨w.heap.size, 2, none⟩) hs0 _
  · have d60 : decide (60 < (ds.length : Int)) = true := by simp; omega
    go_enter Tryz.func8, Tryz.ntmps8
    go_wp2_with fail
    refine bodyPost_ret (results_cell_row2 rfl _ _ w.heap.size _ _ _ _ rfl HK0.out Tryz.underlying27 rfl ((info_size infoBase).trans (by simp))) rfl ?_
    exact foldP_no (fun h => h60 h.1) HB1.out
end Go.Proofs.YtemcijhpmpdebaaGreatDoor
