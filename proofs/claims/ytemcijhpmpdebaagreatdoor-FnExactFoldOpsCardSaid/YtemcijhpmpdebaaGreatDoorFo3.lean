/- (*Base).cut, (*Base).put on a base of the program's own. -/
import Derived.Test.YtemcijhpmpdebaaGreatDoorFo2
import Derived.Test.YtemcijhpmpdebaaGreatDoorBinS
import Derived.Test.YtemcijhpmpdebaaGreatDoorDel2
import Derived.Test.YtemcijhpmpdebaaGreatDoorHk
import Derived.Deep.RegionHeld3
import Derived.Deep.DeepCutAuto
import Derived.Deep.CutBlock
namespace Go.Proofs.YtemcijhpmpdebaaGreatDoor
open Go.RowKit
theorem bin_pos {ds : List StV} {id : Int} {i : Nat} {f : Bool} (h : BinAt ds id i f) (hr : RiseI (dIds ds)) (hd : ∀ d ∈ ds, 0 ≤ d.id ∧ d.id ≤ 100) (hid : 0 ≤ id ∧ id ≤ 100) : i = posI (dIds ds) id ∧ f = hasI (dIds ds) id := by
  obtain ⟨h1, h2, h3⟩ := h
  have hget : ∀ (k : Nat) (a : Int), (dIds ds)[k]? = some a → ∃ d, ds[k]? = some d ∧ d.id = a := fun k a e => by
    unfold dIds at e
    rw [List.getElem?_map] at e
    obtain ⟨d, hd, he⟩ := Option.map_eq_some_iff.1 e
    exact ⟨d, hd, he⟩
  have hris : Rising ds id := ⟨hid, fun k d hk => hd d (List.mem_of_getElem? hk), fun i j d e hi hj hij => by
    have hr' := hr
    unfold RiseI at hr'
    rw [List.pairwise_iff_getElem] at hr'
    have l1 := (List.getElem?_eq_some_iff.1 hi).1
    have l2 := (List.getElem?_eq_some_iff.1 hj).1
    have := hr' i j (by simpa [dIds] using l1) (by simpa [dIds] using l2) hij
    simp only [dIds, List.getElem_map] at this
    rw [(List.getElem?_eq_some_iff.1 hi).2, (List.getElem?_eq_some_iff.1 hj).2] at this
    exact this⟩
  obtain ⟨p1, p2⟩ := h3 hris
  have hi : i = posI (dIds ds) id := posI_of hr (by simpa [dIds] using h1) (fun k a hk e => by obtain ⟨d, e1, rfl⟩ := hget k a e; exact p1 k d hk e1) (fun k a hk e => by obtain ⟨d, e1, rfl⟩ := hget k a e; exact p2 k d hk e1)
  refine ⟨hi, ?_⟩
  rw [Bool.eq_iff_iff, h2, hasI_iff, ← hi]
  constructor
  · rintro ⟨d, e1, e2⟩
    have := (wrap_zero (hd d (List.mem_of_getElem? e1)) (by omega)).1 e2
    unfold dIds
    rw [List.getElem?_map, e1, ← this]
    rfl
  · intro e
    obtain ⟨d, e1, e2⟩ := hget i id e
    exact ⟨d, e1, (wrap_zero (hd d (List.mem_of_getElem? e1)) (by omega)).2 e2⟩
theorem binS_pos {ds : List SsV} {id : Int} {i : Nat} {f : Bool} (h : BinAtS ds id i f) (hr : RiseI (sIds ds)) (hd : ∀ d ∈ ds, 0 ≤ d.id ∧ d.id ≤ 100) (hid : 0 ≤ id ∧ id ≤ 100) : i = posI (sIds ds) id ∧ f = hasI (sIds ds) id := by
  obtain ⟨h1, h2, h3⟩ := h
  have hget : ∀ (k : Nat) (a : Int), (sIds ds)[k]? = some a → ∃ d, ds[k]? = some d ∧ d.id = a := fun k a e => by
    unfold sIds at e
    rw [List.getElem?_map] at e
    obtain ⟨d, hd, he⟩ := Option.map_eq_some_iff.1 e
    exact ⟨d, hd, he⟩
  have hris : RisingS ds id := ⟨hid, fun k d hk => hd d (List.mem_of_getElem? hk), fun i j d e hi hj hij => by
    have hr' := hr
    unfold RiseI at hr'
    rw [List.pairwise_iff_getElem] at hr'
    have l1 := (List.getElem?_eq_some_iff.1 hi).1
    have l2 := (List.getElem?_eq_some_iff.1 hj).1
    have := hr' i j (by simpa [sIds] using l1) (by simpa [sIds] using l2) hij
    simp only [sIds, List.getElem_map] at this
    rw [(List.getElem?_eq_some_iff.1 hi).2, (List.getElem?_eq_some_iff.1 hj).2] at this
    exact this⟩
  obtain ⟨p1, p2⟩ := h3 hris
  have hi : i = posI (sIds ds) id := posI_of hr (by simpa [sIds] using h1) (fun k a hk e => by obtain ⟨d, e1, rfl⟩ := hget k a e; exact p1 k d hk e1) (fun k a hk e => by obtain ⟨d, e1, rfl⟩ := hget k a e; exact p2 k d hk e1)
  refine ⟨hi, ?_⟩
  rw [Bool.eq_iff_iff, h2, hasI_iff, ← hi]
  constructor
  · rintro ⟨d, e1, e2⟩
    have := (wrap_zero (hd d (List.mem_of_getElem? e1)) (by omega)).1 e2
    unfold sIds
    rw [List.getElem?_map, e1, ← this]
    rfl
  · intro e
    obtain ⟨d, e1, e2⟩ := hget i id e
    exact ⟨d, e1, (wrap_zero (hd d (List.mem_of_getElem? e1)) (by omega)).2 e2⟩
theorem stCells_one (rs : List StR) : ∀ v ∈ stCells rs, v.oneCell' = true := fun v hv => by
  unfold stCells at hv
  obtain ⟨r, _, hv⟩ := List.mem_flatMap.1 hv
  simp [StR.cells] at hv
  rcases hv with rfl | rfl <;> rfl
theorem ssCells_one (l : List SsV) : ∀ v ∈ ssCells l, v.oneCell' = true := fun v hv => by
  unfold ssCells at hv
  obtain ⟨r, _, hv⟩ := List.mem_flatMap.1 hv
  simp [SsV.cells] at hv
  rcases hv with rfl | rfl | rfl <;> rfl
theorem grown_at {w w1 : World} {r : Option Nat} (h : w.grownBy w1 r) : ∀ k, k < w.heap.size → r ≠ some k → w1.heap[k]? = w.heap[k]? := fun k hk hne => h.block k hk (fun e => hne e.symm)
/-- All but block g and the block of a row is as it was. -/
def Keep (g : Nat) (v : Value) (w w' : World) : Prop := ∀ k, k < w.heap.size → k ≠ g → v.ownBlock ≠ some k → w'.heap[k]? = w.heap[k]?
theorem Keep.of_below {g : Nat} {v : Value} {w w' : World} (h : Below w.heap.size w w') : Keep g v w w' := fun k hk _ _ => h.block k hk
theorem Keep.write {g j : Nat} {v u : Value} {w w' : World} (h : Keep g v w w') (hs : w.heap.size ≤ w'.heap.size) : Keep g v w (w'.setCell ⟨g, j, none⟩ u) := fun k hk hg hv =>
  ((Agree.of_setCell (F := fun k => k ≠ g) w' ⟨g, j, none⟩ u (fun _ h => h)).block k hg (by omega)).trans (h k hk hg hv)
theorem Keep.grown {g : Nat} {v : Value} {w w1 w' : World} (h : Below w.heap.size w w1) (hg : w1.grownBy w' v.ownBlock) : Keep g v w w' := fun k hk _ hv => (grown_at hg k (by have := h.size; omega) hv).trans (h.block k hk)
/-- What put and cut leave of a base. -/
def DocsPost (base g : Nat) (b : BsV) (v1 : Value) (A2 : Option Addr) (c2 : Nat) (r : List StV × Bool) (w : World) (e : Ending) (w' : World) : Prop :=
  e = .returned (.bool r.2) ∧ (Below base w w' ∧ Keep g v1 w w') ∧ ∃ rs' A1' c1', BMem base g ⟨b.applied, r.1, b.sess⟩ rs' A1' c1' A2 c2 w'
set_option maxRecDepth 100000 in
set_option maxHeartbeats 4000000 in
theorem cut_any (base g : Nat) (b : BsV) (rs : List StR) (A1 : Option Addr) (c1 : Nat) (A2 : Option Addr) (c2 : Nat) (o : OpV) (OA : Option Addr) (on oc : Nat) (w : World) (h : BMem base g b rs A1 c1 A2 c2 w) (hl : b.docs.length ≤ 20) (hr : RiseI (dIds b.docs)) (hd : ∀ d ∈ b.docs, 0 ≤ d.id ∧ d.id ≤ 100) (hid : 0 ≤ o.id ∧ o.id ≤ 100) :
    Calls Tryz.prog 85 #[.pointer (some ⟨g, 0, none⟩), o.val OA on oc] w (DocsPost base g b (.slice A1 rs.length c1) A2 c2 (cutD b.docs o.id) w) := by
  have hlen := h.len
  have hgl := lt_of_block h.blk
  have hge := h.hg
  have hb1 := (Below.refl w.heap.size w).alloc (Nat.le_refl _) (.cells #[.int .i64 o.kind, .int .i64 o.id, .slice OA on oc, .int .i64 o.session, .int .i64 o.no] 57 (0, 0))
  have HM1 := Lib.hid (h.below hb1)
  have HD1 := Lib.hid (doc_any b.docs (by omega) o.id _ g _ _ _ A1 c1 _ (by have h1 := (h.below hb1).blk; rw [← hlen] at h1; exact h1) (h.below hb1).at)
  have HB1 := Lib.hid hb1
  clear h hb1
  unfold OpV.val
  go_enter Tryz.func85, Tryz.ntmps85
  go_wp2_with fail
  generalize w.alloc (.cells #[.int .i64 o.kind, .int .i64 o.id, .slice OA on oc, .int .i64 o.session, .int .i64 o.no] 57 (0, 0)) = w1 at HM1 HD1 HB1 ⊢
  refine HD1.out.mono ?_
  rintro e w2 ⟨hb2, i, f, rfl, hbin⟩
  obtain ⟨hi, hf⟩ := bin_pos hbin hr hd hid
  have HM2 := Lib.hid (HM1.out.below hb2)
  have HB2 := Lib.hid (below_then HB1.out HB1.out.size hb2)
  clear hb2 hbin HD1 HM1 HB1
  cases f
  · have HC := Lib.hid (show cutD b.docs o.id = (b.docs, false) from by unfold cutD; rw [if_neg (by rw [← hf]; decide)])
    clear hf hi
    go_wp2
    go_ret
    exact ⟨by rw [HC.out]; rfl, ⟨HB2.out.mono (by omega), .of_below HB2.out⟩, rs, A1, c1, by rw [HC.out]; exact HM2.out⟩
  · have HC := Lib.hid (show cutD b.docs o.id = (del i b.docs, true) from by unfold cutD; rw [if_pos hf.symm, ← hi])
    have hil : i < rs.length := by
      have h1 := hasI_iff.1 hf.symm
      rw [← hi] at h1
      have := (List.getElem?_eq_some_iff.1 h1).1
      simp [dIds] at this
      omega
    clear hf hi
    have x1 := cell_of_block HM2.out.blk 1
    simp at x1
    have hw1 : IntKind.i64.wrap ((i : Int) + 1) = (i : Int) + 1 := by rw [IntKind.wrap_i64]; omega
    have HDL := Lib.hid (delSt_any base (stCells rs) rs.length c1 i A1 w2 hil (by omega) HM2.out.own1 (stCells_one rs))
    go_wp2_with fail
    refine HDL.out.mono ?_
    rintro e w3 ⟨rfl, ho3, hg3⟩
    have HO3 := Lib.hid ho3
    have HG3 := Lib.hid hg3
    obtain ⟨k1, _, _⟩ := HM2.out.docs_at hg3.size (grown_at hg3)
    have y1 := cell_of_block k1 1
    have f1 := free_of_block k1 1
    simp at y1
    have HK1 := Lib.hid k1
    clear ho3 hg3 k1 x1 HDL
    go_wp2
    go_ret
    have hdl : (del i rs).length = rs.length - 1 := by have := del_length i rs hil; omega
    have e1 : (stCells rs).take (i * 2) ++ (stCells rs).drop ((i + 1) * 2) = stCells (del i rs) := by
      unfold stCells
      rw [flat_take StR.cells 2 (fun _ => rfl) rs i (by omega), flat_drop StR.cells 2 (fun _ => rfl) rs (i + 1) (by omega), ← List.flatMap_append]
      rfl
    have h4 := HM2.out.docs_to (rs' := del i rs) (A1' := A1) (c1' := c1) HG3.out.size (grown_at HG3.out) (by have h5 := HO3.out; rw [e1, ← hdl] at h5; exact h5) (fun r hr => .inl (mem_del hr)) (HM2.out.apart.del i)
    rw [map_del, HM2.out.map, hdl] at h4
    refine ⟨by rw [HC.out]; rfl, ⟨?_, (Keep.grown HB2.out HG3.out).write (by have := HB2.out.size; have := HG3.out.size; omega)⟩, del i rs, A1, c1, by rw [HC.out]; exact h4⟩
    have hB := (HB2.out.mono (by omega : base ≤ w.heap.size)).grown HG3.out (by have := HB2.out.size; omega) (fun k hk => (own_base HM2.out.own1 k hk).1)
    exact hB.setCell (p := ⟨g, 1, none⟩) hge _
theorem st_set {rs : List StR} {i : Nat} (r : StR) (hi : i < rs.length) : stCells (rs.set i r) = ((stCells rs).set (i * 2) (.int .i64 r.d.id)).set (i * 2 + 1) (.slice r.adr r.d.doc.length r.cap) := by
  have hl : (stCells (rs.take i)).length = i * 2 := by rw [stCells_length, List.length_take, Nat.min_eq_left (by omega)]
  have e : stCells rs = stCells (rs.take i) ++ (rs[i].cells ++ stCells (rs.drop (i + 1))) := by
    have h : rs = rs.take i ++ rs[i] :: rs.drop (i + 1) := by rw [← List.drop_eq_getElem_cons hi, List.take_append_drop]
    have h2 : stCells rs = stCells (rs.take i ++ rs[i] :: rs.drop (i + 1)) := by rw [← h]
    rw [h2]
    unfold stCells
    rw [List.flatMap_append, List.flatMap_cons]
  rw [set_mid' hi, e, show (stCells (rs.take i) ++ (rs[i].cells ++ stCells (rs.drop (i + 1)))).set (i * 2) (.int .i64 r.d.id) = _ from set_off (j := 0) hl (by simp [StR.cells]), set_off hl (by simp [StR.cells])]
  simp [stCells, StR.cells]
/-- The document that put lays: its block. -/
def DocCut (o : OpV) (doc : List Nd) (w2 : World) (v7 : Value) (wx : World) : Prop :=
  ∃ g2 A c, v7 = .pointer (some ⟨g2, 0, none⟩) ∧ w2.heap.size ≤ g2 ∧ Below w2.heap.size w2 wx ∧ wx.heap[g2]? = some (.cells #[.int .i64 o.id, .slice A doc.length c] 94 (0, 0)) ∧ doc.length ≤ c ∧ wx.ownsRow w2.heap.size 100 5 (.slice A doc.length c) doc.length (ndCells doc)
theorem docCut_late {o : OpV} {doc : List Nd} {w2 W w5 : World} {A : Option Addr} {c : Nat} (hb : Below w2.heap.size w2 w5) (hW : w2.heap.size ≤ W.heap.size) (hc : doc.length ≤ c) (ho : w5.ownsRow W.heap.size 100 5 (.slice A doc.length c) doc.length (ndCells doc)) :
    DocCut o doc w2 (.pointer (some ⟨w5.heap.size, 0, none⟩)) (w5.alloc (.cells #[.int .i64 o.id, .slice A doc.length c] 94 (0, 0))) :=
  ⟨w5.heap.size, A, c, rfl, hb.size, hb.alloc hb.size _, heap_alloc_new _ _, hc, own_below (own_weaken ho hW) ((Below.refl _ _).alloc (Nat.le_refl _) _)⟩
theorem docCut_early {o : OpV} {doc : List Nd} {w2 W w5 : World} {A : Option Addr} {c g2 : Nat} (hz : w5.heap[g2]? = some (.cells #[.int .i64 0, .slice none 0 0] 94 (0, 0))) (hb : Below w2.heap.size w2 w5) (hg : w2.heap.size ≤ g2) (hW : w2.heap.size ≤ W.heap.size) (hc : doc.length ≤ c) (ho : w5.ownsRow W.heap.size 100 5 (.slice A doc.length c) doc.length (ndCells doc)) :
    DocCut o doc w2 (.pointer (some ⟨g2, 0, none⟩)) ((w5.setCell ⟨g2, 0, none⟩ (.int .i64 o.id)).setCell ⟨g2, 1, none⟩ (.slice A doc.length c)) := by
  refine ⟨g2, A, c, rfl, hg, (hb.setCell hg _).setCell hg _, block_setCell (block_setCell hz 0 _) 1 _, hc, own_agree (own_weaken ho hW) (F := fun k => k ≠ g2) (((Agree.refl _ _).set (fun _ h => h) 0 _).set (fun _ h => h) 1 _) (fun k hk e => own_not_at ho hz (by decide) k hk e.symm)⟩
set_option maxRecDepth 100000 in
set_option maxHeartbeats 16000000 in
theorem put_any (base g : Nat) (b : BsV) (rs : List StR) (A1 : Option Addr) (c1 : Nat) (A2 : Option Addr) (c2 : Nat) (o : OpV) (doc : List Nd) (OA : Option Addr) (oc : Nat) (F : Nat → Prop) (w : World) (h : BMem base g b rs A1 c1 A2 c2 w) (hl : b.docs.length ≤ 20) (hr : RiseI (dIds b.docs)) (hd : ∀ d ∈ b.docs, 0 ≤ d.id ∧ d.id ≤ 100) (hid : 0 ≤ o.id ∧ o.id ≤ 100)
    (hdl : doc.length ≤ 1000000000) (hdr : Rds F w OA (ndCells doc)) :
    Calls Tryz.prog 84 #[.pointer (some ⟨g, 0, none⟩), o.val OA doc.length oc] w (DocsPost base g b (.slice A1 rs.length c1) A2 c2 (putD b.docs ⟨o.id, doc⟩) w) := by
  have hlen := h.len
  have hgl := lt_of_block h.blk
  have hge := h.hg
  have hb1 := (Below.refl w.heap.size w).alloc (Nat.le_refl _) (.cells #[.int .i64 o.kind, .int .i64 o.id, .slice OA doc.length oc, .int .i64 o.session, .int .i64 o.no] 57 (0, 0))
  have HM1 := Lib.hid (h.below hb1)
  have HO1 := Lib.hid (heap_alloc_new w (.cells #[.int .i64 o.kind, .int .i64 o.id, .slice OA doc.length oc, .int .i64 o.session, .int .i64 o.no] 57 (0, 0)))
  have HD1 := Lib.hid (doc_any b.docs (by omega) o.id _ g _ _ _ A1 c1 _ (by have h1 := (h.below hb1).blk; rw [← hlen] at h1; exact h1) (h.below hb1).at)
  have HR := Lib.hid (fun W (hb : Below w.heap.size w W) => cloneVal_any doc hdl F OA oc W (hdr.below hb))
  have HB1 := Lib.hid hb1
  clear h hb1 hdr
  unfold OpV.val
  go_enter Tryz.func84, Tryz.ntmps84
  go_wp2_with fail
  generalize w.alloc (.cells #[.int .i64 o.kind, .int .i64 o.id, .slice OA doc.length oc, .int .i64 o.session, .int .i64 o.no] 57 (0, 0)) = w1 at HM1 HO1 HD1 HB1 ⊢
  refine HD1.out.mono ?_
  rintro e w2 ⟨hb2, i, f, rfl, hbin⟩
  obtain ⟨hi, hf⟩ := bin_pos hbin hr hd hid
  have HM2 := Lib.hid (HM1.out.below hb2)
  have HO2 := Lib.hid (block_below HO1.out hb2)
  have HB2 := Lib.hid (below_then HB1.out HB1.out.size hb2)
  have HI := Lib.hid hi
  have HF := Lib.hid hf
  clear hb2 hbin HD1 HM1 HB1 HO1 hi hf
  have HKEEP := Lib.hid (fun W (hb : Below w2.heap.size w2 W) => show W.cell? ⟨w.heap.size, 1, none⟩ = some (.int .i64 o.id) ∧ W.cell? ⟨w.heap.size, 2, none⟩ = some (.slice OA doc.length oc) from ⟨cell_of_block (block_below HO2.out hb) 1, cell_of_block (block_below HO2.out hb) 2⟩)
  go_upto_region 2 with fail

  go_cut [7] (fun x wx => DocCut o doc w2 x wx)
  case first =>
    have HD0 := Lib.hid (show Below w2.heap.size w2 w2.drew from (Below.refl _ _).drew)
    have HDA := Lib.hid (fun o => show Below w2.heap.size w2 (w2.drew.alloc o) from (Below.refl _ _).drew.alloc (Nat.le_refl _) o)
    have HDB := Lib.hid (fun o => show Below w2.heap.size w2 (w2.alloc o).drew from ((Below.refl _ _).alloc (Nat.le_refl _) o).drew)
    have HD3 := Lib.hid (fun (W : World) (o : Obj) (W' : World) (hb : Below (W.alloc o).heap.size (W.alloc o) W') => show W'.heap[W.heap.size]? = some o from (hb.block _ (by simp)).trans (heap_alloc_new W o))
    have HD6 := Lib.hid (fun (W : World) (o : Obj) (W' : World) (hb : Below (W.alloc o).drew.heap.size (W.alloc o).drew W') => show W'.heap[W.heap.size]? = some o from (hb.block _ (by show W.heap.size < (W.alloc o).heap.size; simp)).trans (heap_alloc_new W o))
    go_region_held3 (fun W => W.cell? ⟨w.heap.size, 1, none⟩ = some (.int .i64 o.id) ∧ W.cell? ⟨w.heap.size, 2, none⟩ = some (.slice OA doc.length oc))
      (exact HKEEP.out _ (by with_reducible first | exact hx1 | exact hx1.alloc hx1.size _ | exact (hx1.setCell (p := ⟨_, 0, none⟩) (Nat.le_refl _) _).setCell (p := ⟨_, 1, none⟩) (Nat.le_refl _) _ | exact HD0.out | exact HDA.out _ | exact HDB.out _))
      (first
        | (go_at_call 39; refine (HR.out _ (below_then HB2.out HB2.out.size (by with_reducible first | exact HD0.out | exact HDA.out _ | exact HDB.out _))).mono ?_; rintro e w5 ⟨v5, rfl, hb5, A5, c5, rfl, hc5, hr5, ho5⟩; have hx1 : Below w2.heap.size w2 w5 := (by with_reducible first | exact below_then HD0.out (Nat.le_refl _) hb5 | exact below_then (HDA.out _) (HDA.out _).size hb5 | exact below_then (HDB.out _) (HDB.out _).size hb5); (first | (have hz5 := HD3.out _ _ _ hb5; have z0 := cell_of_block hz5 0; have z1 := cell_of_block hz5 1; have f0 := free_of_block hz5 0; have f1 := free_of_block hz5 1; simp at z0 z1) | (have hz5 := HD6.out _ _ _ hb5; have z0 := cell_of_block hz5 0; have z1 := cell_of_block hz5 1; have f0 := free_of_block hz5 0; have f1 := free_of_block hz5 1; simp at z0 z1) | skip)))
    all_goals
      go_wp2
      go_meet
      first
        | exact docCut_late (W := w2.drew) hx1 (Nat.le_refl _) hc5 ho5
        | exact docCut_early hz5 hx1 (Nat.le_refl _) (HDA.out (.cells #[.int .i64 0, .slice none 0 0] 94 (0, 0))).size hc5 ho5
  case rest =>
    obtain ⟨g2, A, c, rfl, hg2, hbc, hkd, hcc, hoc⟩ := hcut
    have HM := Lib.hid (HM2.out.below hbc)
    have HKD := Lib.hid hkd
    have HOC := Lib.hid hoc
    have HBC := Lib.hid (below_then HB2.out HB2.out.size hbc)
    have hs2 := HB2.out.size
    have HOLD := Lib.hid (show ∀ r ∈ rs, ∀ a, 0 < r.d.doc.length → r.adr = some a → a.block < w2.heap.size from fun r hr a _ ha => (own_base (HM2.out.docs r hr).2 a.block (by rw [ha]; rfl)).2)
    have HNEW := Lib.hid (show ∀ a, A = some a → w2.heap.size ≤ a.block from fun a ha => (own_base hoc a.block (by rw [ha]; rfl)).1)
    have hgw : g < w2.heap.size := lt_of_block HM2.out.blk
    have HROW := Lib.hid (show ∀ k, (Value.slice A1 rs.length c1).ownBlock = some k → k < w2.heap.size from fun k hk => (own_base HM2.out.own1 k hk).2)
    have hbw : base ≤ w2.heap.size := by omega
    clear hbc hkd hoc HM2 HKEEP HR HO2 HB2
    obtain ⟨x0, x1, x2⟩ := cells3 HM.out.blk
    obtain ⟨y0, y1⟩ := cells2 HKD.out
    cases f
    · -- a new document
      have hno : hasI (dIds b.docs) o.id = false := HF.out.symm
      have hi : i = posI (dIds b.docs) o.id := HI.out
      by_cases h20 : rs.length = 20
      · have HC := Lib.hid (show putD b.docs ⟨o.id, doc⟩ = (b.docs, false) from by unfold putD; rw [if_neg (by simp [hno]), if_pos (by omega)])
        have hd20 : ((rs.length : Int) == 20) = true := by simp; omega
        clear hno hi h20
        go_wp2
        go_ret
        exact ⟨by rw [HC.out]; rfl, ⟨HBC.out.mono (by omega), .of_below HBC.out⟩, rs, A1, c1, by rw [HC.out]; exact HM.out⟩
      · have HC := Lib.hid (show putD b.docs ⟨o.id, doc⟩ = (ins i ⟨o.id, doc⟩ b.docs, true) from by unfold putD; rw [if_neg (by simp [hno]), if_neg (by omega), hi])
        have hd20 : ((rs.length : Int) == 20) = false := by simp; omega
        have hil : i ≤ rs.length := by
          have := posI_le (dIds b.docs) o.id
          rw [show (dIds b.docs).length = b.docs.length by simp [dIds]] at this
          omega
        have hrl : rs.length ≤ 20 := by omega
        have hgc : g < wc.heap.size := lt_of_block HM.out.blk
        have hg2c : g2 < wc.heap.size := lt_of_block HKD.out
        clear hno hi h20 hlen
        go_wp2
        have HDRW := Lib.hid (show Below wc.heap.size wc wc.drew from (Below.refl _ _).drew)
        have HKEEP := Lib.hid (fun (W : World) (hk : W.heap[g]? = some (.cells #[.int .i64 b.applied, .slice A1 rs.length c1, .slice A2 b.sess.length c2] 27 (0, 0))) (hd : W.heap[g2]? = some (.cells #[.int .i64 o.id, .slice A doc.length c] 94 (0, 0))) => show W.cell? ⟨g, 1, none⟩ = some (.slice A1 rs.length c1) ∧ W.cell? ⟨g2, 0, none⟩ = some (.int .i64 o.id) ∧ W.cell? ⟨g2, 1, none⟩ = some (.slice A doc.length c) from
          ⟨cell_of_block hk 1, cell_of_block hd 0, cell_of_block hd 1⟩)
        refine till_region 11 (fun W => W.cell? ⟨g, 1, none⟩ = some (.slice A1 rs.length c1) ∧ W.cell? ⟨g2, 0, none⟩ = some (.int .i64 o.id) ∧ W.cell? ⟨g2, 1, none⟩ = some (.slice A doc.length c)) (by kernel_rfl) ?_ (fun hHeld => ?_)
        · exact HKEEP.out _ (block_below HM.out.blk HDRW.out) (block_below HKD.out HDRW.out)
        (refine Till.pure (i := 0) (u := ?_) rfl (by kernel_rfl) (by kernel_rfl) (by kernel_rfl) (by decide) (fun _ _ _ h => h) (Or.inl ⟨by rfl, ?_⟩) (fun _ => hHeld) ?_; rotate_left 1; (focus (intro w _; go_simp; try (with_reducible rfl))); change Till _ _ _ _ _ _ _ _ (Act.put _ (some 21) _) _; simp only [Act.put, List.setIfInBounds_toArray, List.set_cons_zero, List.set_cons_succ])
        (refine Till.pure (i := 1) (u := ?_) rfl (by kernel_rfl) (by kernel_rfl) (by kernel_rfl) (by decide) (fun _ _ _ h => h) (Or.inl ⟨by rfl, ?_⟩) (fun _ => hHeld) ?_; rotate_left 1; (focus (intro w _; go_simp; try (with_reducible rfl))); change Till _ _ _ _ _ _ _ _ (Act.put _ (some 22) _) _; simp only [Act.put, List.setIfInBounds_toArray, List.set_cons_zero, List.set_cons_succ])
        (refine Till.pure (i := 2) (u := ?_) rfl (by kernel_rfl) (by kernel_rfl) (by kernel_rfl) (by decide) (fun _ _ _ h => h) (Or.inl ⟨by rfl, ?_⟩) (fun _ => hHeld) ?_; rotate_left 1; (focus (intro w _; go_simp; try (with_reducible rfl))); change Till _ _ _ _ _ _ _ _ (Act.put _ (some 23) _) _; simp only [Act.put, List.setIfInBounds_toArray, List.set_cons_zero, List.set_cons_succ])
        (refine Till.pure (i := 3) (u := ?_) rfl (by kernel_rfl) (by kernel_rfl) (by kernel_rfl) (by decide) (fun _ _ _ h => h) (Or.inl ⟨by rfl, ?_⟩) (fun _ => hHeld) ?_; rotate_left 1; (focus (intro w _; go_simp; try (with_reducible rfl))); change Till _ _ _ _ _ _ _ _ (Act.put _ (some 24) _) _; simp only [Act.put, List.setIfInBounds_toArray, List.set_cons_zero, List.set_cons_succ])
        (refine Till.load (i := 4) (u := ?_) rfl (by kernel_rfl) (by kernel_rfl) (by kernel_rfl) (by kernel_rfl) (by kernel_rfl) (fun _ _ _ h => h) (Or.inl ⟨by rfl, ?_⟩) hHeld ?_; rotate_left 1; (focus (intro w hSw; (try dsimp only at hSw); go_split_ands; go_simp; try (with_reducible rfl))); change Till _ _ _ _ _ _ _ _ (Act.put _ (some 25) _) _; simp only [Act.put, List.setIfInBounds_toArray, List.set_cons_zero, List.set_cons_succ])
        (refine Till.pure (i := 5) (u := ?_) rfl (by kernel_rfl) (by kernel_rfl) (by kernel_rfl) (by decide) (fun _ _ _ h => h) (Or.inl ⟨by rfl, ?_⟩) (fun _ => hHeld) ?_; rotate_left 1; (focus (intro w _; go_simp; try (with_reducible rfl))); change Till _ _ _ _ _ _ _ _ (Act.put _ (some 26) _) _; simp only [Act.put, List.setIfInBounds_toArray, List.set_cons_zero, List.set_cons_succ])
        (refine Till.load (i := 6) (u := ?_) rfl (by kernel_rfl) (by kernel_rfl) (by kernel_rfl) (by kernel_rfl) (by kernel_rfl) (fun _ _ _ h => h) (Or.inl ⟨by rfl, ?_⟩) hHeld ?_; rotate_left 1; (focus (intro w hSw; (try dsimp only at hSw); go_split_ands; go_simp; try (with_reducible rfl))); change Till _ _ _ _ _ _ _ _ (Act.put _ (some 27) _) _; simp only [Act.put, List.setIfInBounds_toArray, List.set_cons_zero, List.set_cons_succ])
        (refine Till.one (i := 7) (by kernel_rfl) rfl (fun K hK => ?_))
        go_simp
        have hba := HDRW.out.alloc HDRW.out.size (.cells #[.int .i64 o.id, .slice A doc.length c] 94 (0, 0))
        have HMA := Lib.hid (HM.out.below hba)
        have HKA := Lib.hid (block_below HKD.out hba)
        have HOA := Lib.hid (own_below HOC.out hba)
        have HVA := Lib.hid (heap_alloc_new wc.drew (.cells #[.int .i64 o.id, .slice A doc.length c] 94 (0, 0)))
        have HBA := Lib.hid hba
        refine hK.out _ _ (HKEEP.out _ HMA.out.blk HKA.out) (fun hHeld => ?_)
        clear hK K hba
        (refine Till.one (i := 8) (by kernel_rfl) rfl (fun K hK => ?_))
        go_simp
        have hsa : (wc.drew.alloc (.cells #[.int .i64 o.id, .slice A doc.length c] 94 (0, 0))).heap.size = wc.heap.size + 1 := by
          rw [show wc.heap.size = wc.drew.heap.size from rfl]
          simp
        refine (insertSt_any base (stCells rs) [.int .i64 o.id, .slice A doc.length c] rs.length i c1 wc.heap.size A1 _ hil (by omega) (by omega) (stCells_length rs) rfl HMA.out.own1 HVA.out (fun k hk e => by have := HROW.out k hk; omega) (stCells_one rs) (by intro v hv; simp at hv; rcases hv with rfl | rfl <;> rfl)).mono ?_
        rintro e w5 ⟨A5, c5, rfl, hc5, hown5, hg5, hat5⟩
        have HO5 := Lib.hid hown5
        have HG5 := Lib.hid hg5
        have k5 := (HMA.out.docs_at hg5.size (grown_at hg5)).1
        have kd5 : w5.heap[g2]? = some (.cells #[.int .i64 o.id, .slice A doc.length c] 94 (0, 0)) := (grown_at hg5 g2 (by omega) (fun e => by have := HROW.out g2 e; omega)).trans HKA.out
        have HK5 := Lib.hid k5
        go_simp
        refine hK.out _ _ (HKEEP.out _ k5 kd5) (fun hHeld => ?_)
        clear hK K hown5 hg5 hat5 kd5
        have z1 := cell_of_block k5 1
        have f1 := free_of_block k5 1
        simp at z1
        clear k5
        (refine Till.pure (i := 9) (u := ?_) rfl (by kernel_rfl) (by kernel_rfl) (by kernel_rfl) (by decide) (fun _ _ _ h => h) (Or.inl ⟨by rfl, ?_⟩) (fun _ => hHeld) ?_; rotate_left 1; (focus (intro w _; go_simp; try (with_reducible rfl))); change Till _ _ _ _ _ _ _ _ (Act.put _ (some 30) _) _; simp only [Act.put, List.setIfInBounds_toArray, List.set_cons_zero, List.set_cons_succ])
        (refine Till.pure (i := 10) (u := ?_) rfl (by kernel_rfl) (by kernel_rfl) (by kernel_rfl) (by decide) (fun _ _ _ h => h) (Or.inl ⟨by rfl, ?_⟩) (fun _ => hHeld) ?_; rotate_left 1; (focus (intro w _; go_simp; try (with_reducible rfl))); change Till _ _ _ _ _ _ _ _ (Act.put _ (some 31) _) _; simp only [Act.put, List.setIfInBounds_toArray, List.set_cons_zero, List.set_cons_succ])
        (refine Till.last (by kernel_rfl) rfl (by kernel_rfl) (fun K hK => ?_))
        go_simp
        refine hK.out _ _ ?_
        clear hK K
        refine wpAny_done (by kernel_rfl) ?_ _
        go_wp2
        go_ret
        have e1 : insN (i * 2) [.int .i64 o.id, .slice A doc.length c] (stCells rs) = stCells (ins i ⟨⟨o.id, doc⟩, A, c⟩ rs) := flat_ins StR.cells 2 (fun _ => rfl) rs i hil ⟨⟨o.id, doc⟩, A, c⟩
        have e2 : (ins i (⟨⟨o.id, doc⟩, A, c⟩ : StR) rs).length = rs.length + 1 := ins_length _ _ _ hil
        have haW : Agree (fun k => (Value.slice A1 rs.length c1).ownBlock ≠ some k) (wc.drew.alloc (.cells #[.int .i64 o.id, .slice A doc.length c] 94 (0, 0))) w5 := ⟨HG5.out.size, fun k hk hl => grown_at HG5.out k hl hk⟩
        have h4 := HMA.out.docs_to (w1 := w5) (rs' := ins i ⟨⟨o.id, doc⟩, A, c⟩ rs) (A1' := A5) (c1' := c5) HG5.out.size (grown_at HG5.out) (by have h5 := HO5.out; rw [e1, ← e2] at h5; exact h5) (fun r hr => by
          rcases mem_ins2 hr with rfl | hr
          · exact .inr ⟨hcc, own_weaken (own_agree HOA.out haW (fun k hk => own_ne HOA.out HMA.out.own1 (by decide) k hk)) hbw⟩
          · exact .inl hr) (HM.out.apart.fresh HOLD.out HNEW.out i).1
        rw [map_ins, HM.out.map, e2] at h4
        refine ⟨by rw [HC.out]; rfl, ⟨?_, (Keep.grown (below_then HBC.out HBC.out.size HBA.out) HG5.out).write (by have := HBC.out.size; have := HBA.out.size; have := HG5.out.size; omega)⟩, ins i ⟨⟨o.id, doc⟩, A, c⟩ rs, A5, c5, by rw [HC.out]; exact h4⟩
        have hB := ((HBC.out.mono (by omega : base ≤ w.heap.size)).trans (HBA.out.mono (by omega : base ≤ wc.heap.size))).grown HG5.out (by omega) (fun k hk => (own_base HMA.out.own1 k hk).1)
        exact hB.setCell (p := ⟨g, 1, none⟩) hge _
    · have hyes : hasI (dIds b.docs) o.id = true := HF.out.symm
      have hi : i = posI (dIds b.docs) o.id := HI.out
      have HC := Lib.hid (show putD b.docs ⟨o.id, doc⟩ = (b.docs.set i ⟨o.id, doc⟩, true) from by unfold putD; rw [if_pos hyes, hi])
      have hil : i < rs.length := by
        have h1 := hasI_iff.1 hyes
        rw [← hi] at h1
        have := (List.getElem?_eq_some_iff.1 h1).1
        simp [dIds] at this
        omega
      rcases HM.out.own1.2 with ⟨_, h0⟩ | ⟨g1, cap, cur, e, hg1, hk1, hnc, hcm, hcs, htk⟩
      · omega
      injection e with e1 _ e3
      subst e1 e3
      have hne1 : g1 ≠ g := fun e => own_not_at HM.out.own1 HM.out.blk (by decide) g1 rfl e.symm
      have hne2 : g1 ≠ g2 := fun e => by have := HROW.out g1 rfl; omega
      obtain ⟨u0, e0⟩ := some_at (cs := cur) (j := i * 2) (by omega)
      obtain ⟨u1, e1⟩ := some_at (cs := cur) (j := i * 2 + 1) (by omega)
      have q0 := (cell_of_block hk1 _).trans e0
      have q1 := (cell_of_block hk1 _).trans e1
      have f0 := free_of_block hk1 (i * 2)
      have f1 := free_of_block hk1 (i * 2 + 1)
      have HK1 := Lib.hid hk1
      have hbb : (i : Int) < (rs.length : Int) := by omega
      clear hyes hi hlen hk1 e0 e1 htk hcs
      go_wp2
      go_region
      go_wp2
      go_ret
      have haW : Agree (fun k => k ≠ g1) wc ((wc.setCell ⟨g1, i * 2, none⟩ (.int .i64 o.id)).setCell ⟨g1, i * 2 + 1, none⟩ (.slice A doc.length c)) := ((Agree.refl _ _).set (fun _ h => h) _ _).set (fun _ h => h) _ _
      have h4 := HM.out.docs_in (w1 := (wc.setCell ⟨g1, i * 2, none⟩ (.int .i64 o.id)).setCell ⟨g1, i * 2 + 1, none⟩ (.slice A doc.length c)) (rs' := rs.set i ⟨⟨o.id, doc⟩, A, c⟩) haW.size (fun k hk hne => haW.block k (fun e => hne (by rw [e]; rfl)) hk) (by simp) (by
        have h5 := own_set (j := i * 2 + 1) (own_set (j := i * 2) HM.out.own1 (.int .i64 o.id)) (.slice A doc.length c)
        rw [List.length_set, st_set ⟨⟨o.id, doc⟩, A, c⟩ hil]
        exact h5) (fun r hr => by
          rcases mem_set' hr with rfl | hr
          · exact .inr ⟨hcc, own_weaken (own_agree HOC.out haW (fun k hk e => own_not_at HOC.out HK1.out (by decide) k hk e.symm)) hbw⟩
          · exact .inl hr) (HM.out.apart.fresh HOLD.out HNEW.out i).2
      rw [List.map_set, HM.out.map] at h4
      refine ⟨by rw [HC.out]; rfl, ⟨?_, fun k hk _ hv => (haW.block k (fun e => hv (by rw [e]; rfl)) (by have := HBC.out.size; omega)).trans (HBC.out.block k hk)⟩, rs.set i ⟨⟨o.id, doc⟩, A, c⟩, some ⟨g1, 0, none⟩, c1, by rw [HC.out]; exact h4.below (Below.refl _ _).drew⟩
      exact (((HBC.out.mono (by omega : base ≤ w.heap.size)).setCell (p := ⟨g1, i * 2, none⟩) hg1 _).setCell (p := ⟨g1, i * 2 + 1, none⟩) hg1 _).drew
end Go.Proofs.YtemcijhpmpdebaaGreatDoor
