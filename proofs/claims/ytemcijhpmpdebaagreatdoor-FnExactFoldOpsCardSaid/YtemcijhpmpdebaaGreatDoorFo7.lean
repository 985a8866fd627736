/- The reference's l16Cut and l16Put. -/
import Derived.Test.YtemcijhpmpdebaaGreatDoorFo6
import Derived.Deep.RegionLaw
namespace Go.Proofs.YtemcijhpmpdebaaGreatDoor
open Go.RowKit
/-- append of a row that is read, as one step of a region that draws its order. -/
theorem step_rows {P : Program} {ops : Array Oper} {o : Oper} {a : Act} {W : World} {K : Act → World → Prop} {Q : Exit → Act → World → Prop} {E : Prop} (base : Nat) (hgd : o.guard = none) (s x : Operand) (t e : TypeId) (z : Value) (size bytes : Nat)
    (ho : o.op = .call { callee := .builtin .append, args := #[s, x], argTypes := #[t, t] }) (ht : P.underlying t = some (.slice e)) (hinfo : (P.info? e).map (fun i => (i.zero, i.size, i.bytes)) = some (some z, size, bytes)) (hz : z.cells.size = size) (hs0 : 0 < size)
    (v : Value) (n : Nat) (xs : List Value) (hs : a.eval s = v) (HO : W.ownsRow base e size v n xs) {F : Nat → Prop} (A : Option Addr) (m c : Nat) (news : List Value) (hx : a.eval x = .slice A m c) (hl : news.length = m * size) (hr : Rds F W A news) (h1 : ∀ u ∈ news, u.oneCell' = true)
    (hm : n + m ≤ maxLen) (hb : (n + m) * bytes ≤ 140737488355328) (hbase : base ≤ W.heap.size)
    (h : ∀ A1 c1 w1, n + m ≤ c1 → w1.ownsRow base e size (.slice A1 (n + m) c1) (n + m) (xs ++ news) → W.grownBy w1 v.ownBlock → K (a.put o.dst (.slice A1 (n + m) c1)) w1) :
    if Region.wanted o (yielded ops a.tmps) = true then Oper.wp P o a W K Q else E := by
  have hw : Region.wanted o (yielded ops a.tmps) = true := by simp [Region.wanted, hgd]
  rw [if_pos hw]
  obtain ⟨v', w', hrun, h2, h3, _⟩ := append_run (P := P) base t o.type e z size bytes ht hinfo hz hs0 v n xs HO A m c news hl hr h1 hm hb hbase
  unfold Oper.wp execOp
  simp only [ho, resolve, invoke, builtin, Sem.run_bind, Sem.run_pure, Result.andThen_ok, List.map_toArray, List.map_cons, List.map_nil, hs, hx, hrun]
  obtain ⟨A1, c1, rfl, hc1⟩ := own_slice h2
  exact h A1 c1 w' hc1 h2 h3
theorem rds_take {F : Nat → Prop} {w : World} {A : Option Addr} {vs : List Value} (h : Rds F w A vs) (k : Nat) : Rds F w A (vs.take k) := by
  intro hx
  obtain ⟨b, o, e, hF, hl, hc⟩ := h (fun h0 => hx (by rw [h0]; simp))
  refine ⟨b, o, e, hF, hl, fun j v hj => hc j v ?_⟩
  rw [List.getElem?_take] at hj
  split at hj
  · exact hj
  · cases hj
theorem rds_drop {F : Nat → Prop} {w : World} {A : Option Addr} {vs : List Value} (h : Rds F w A vs) (k c p : Nat) (hc0 : c = p → vs.drop k = []) : Rds F w (if c = p then A else A.map (fun x => x.add k)) (vs.drop k) := by
  intro hx
  have hcp : ¬ c = p := fun e => hx (hc0 e)
  rw [if_neg hcp]
  obtain ⟨b, o, e, hF, hl, hc⟩ := h (fun h0 => hx (by rw [h0]; simp))
  subst e
  refine ⟨b, o + k, by simp [Addr.add_lit], hF, hl, fun j v hj => ?_⟩
  rw [List.getElem?_drop] at hj
  have := hc _ v hj
  rw [Nat.add_assoc]
  exact this
/-- Stored documents that are read. -/
structure SAt (F : Nat → Prop) (w : World) (A : Option Addr) (c : Nat) (rs : List StR) : Prop where
  cap : rs.length ≤ c
  row : Rds F w A (stCells rs)
  docs : ∀ r ∈ rs, r.d.doc.length ≤ r.cap ∧ Rds F w r.adr (ndCells r.d.doc)
theorem SAt.frame {F : Nat → Prop} {w w1 : World} {A : Option Addr} {c : Nat} {rs : List StR} (h : SAt F w A c rs) (ha : Agree F w w1) : SAt F w1 A c rs := ⟨h.cap, h.row.frame ha, fun r hr => ⟨(h.docs r hr).1, (h.docs r hr).2.frame ha⟩⟩
theorem SAt.below {F : Nat → Prop} {w w1 : World} {A : Option Addr} {c : Nat} {rs : List StR} (h : SAt F w A c rs) (hb : Below w.heap.size w w1) : SAt F w1 A c rs := h.frame (Agree.of_below hb)
theorem SAt.mono {F G : Nat → Prop} {w : World} {A : Option Addr} {c : Nat} {rs : List StR} (h : SAt F w A c rs) (hG : ∀ b, F b → b < w.heap.size → G b) : SAt G w A c rs := ⟨h.cap, h.row.mono hG, fun r hr => ⟨(h.docs r hr).1, (h.docs r hr).2.mono hG⟩⟩
theorem SAt.zero (F : Nat → Prop) (w : World) (A : Option Addr) (c : Nat) : SAt F w A c [] := ⟨Nat.zero_le _, Rds.nil _ _ _, fun r hr => by simp at hr⟩
theorem SAt.at {F : Nat → Prop} {w : World} {A : Option Addr} {c : Nat} {rs : List StR} (h : SAt F w A c rs) (k : Nat) (r : StR) (hk : rs[k]? = some r) :
    ∃ b o, A = some ⟨b, o, none⟩ ∧ w.cell? ⟨b, o + k * 2, none⟩ = some (.int .i64 r.d.id) ∧ w.cell? ⟨b, o + k * 2 + 1, none⟩ = some (.slice r.adr r.d.doc.length r.cap) := by
  have e0 : (stCells rs)[k * 2]? = some (.int .i64 r.d.id) := by
    have := flat_get StR.cells 2 (fun _ => rfl) rs k r hk 0 (by omega)
    rw [Nat.add_zero] at this
    unfold stCells
    rw [this]
    rfl
  have e1 : (stCells rs)[k * 2 + 1]? = some (.slice r.adr r.d.doc.length r.cap) := by unfold stCells; rw [flat_get StR.cells 2 (fun _ => rfl) rs k r hk 1 (by omega)]; rfl
  obtain ⟨b, o, rfl, _, _⟩ := h.row.open (by intro e; rw [e] at e0; cases e0)
  exact ⟨b, o, rfl, h.row.at _ _ e0, by rw [Nat.add_assoc]; exact h.row.at _ _ e1⟩
/-- What l16Put and l16Cut leave. -/
def SDocs (F : Nat → Prop) (q : List StV × Bool) (w : World) (e : Ending) (w' : World) : Prop :=
  ∃ rs A c, rs.map StR.d = q.1 ∧ e = .returned (.tuple #[.slice A rs.length c, .bool q.2]) ∧ Below w.heap.size w w' ∧ SAt (fun k => F k ∨ w.heap.size ≤ k) w' A c rs
theorem st_take (rs : List StR) (i : Nat) (hi : i ≤ rs.length) : (stCells rs).take (i * 2) = stCells (rs.take i) := flat_take StR.cells 2 (fun _ => rfl) rs i hi
theorem st_drop (rs : List StR) (i : Nat) (hi : i ≤ rs.length) : (stCells rs).drop (i * 2) = stCells (rs.drop i) := flat_drop StR.cells 2 (fun _ => rfl) rs i hi
theorem st_app (a b : List StR) : stCells (a ++ b) = stCells a ++ stCells b := by unfold stCells; exact List.flatMap_append
set_option maxRecDepth 100000 in
set_option maxHeartbeats 4000000 in
theorem sCut_any (rs : List StR) (hl : rs.length ≤ 1000000) (hri : RiseI (dIds (rs.map StR.d))) (id : Int) (F : Nat → Prop) (A : Option Addr) (c : Nat) (w : World) (h : SAt F w A c rs) :
    Calls Tryz.prog 96 #[.slice A rs.length c, .int .i64 id] w (SDocs F (cutD (rs.map StR.d) id) w) := by
  have hcap := h.cap
  have HS := Lib.hid h
  have HRI := Lib.hid hri
  clear h hri
  go_enter Tryz.func96, Tryz.ntmps96
  go_wp2
  go_loopw [10] (fun iv wx => ∃ k : Nat, iv = .int .i64 (k : Int) ∧ k ≤ rs.length ∧ Hid (∀ (j : Nat) (r : StR), j < k → rs[j]? = some r → r.d.id ≠ id) ∧ Below w.heap.size w wx) (fun iv _ => rs.length - (intOf iv).toNat)
  case atStart => exact ⟨0, rfl, Nat.zero_le _, Lib.hid (fun j r h => by omega), Below.refl _ _⟩
  case round =>
    obtain ⟨k, rfl, hk, HN, hbx⟩ := hrel
    have HB := Lib.hid hbx
    by_cases hlt : k < rs.length
    · have hrk : rs[k]? = some rs[k] := by simp [hlt]
      generalize rs[k] = r at hrk
      obtain ⟨b, o, rfl, y0, y1⟩ := (HS.out.below hbx).at k r hrk
      have HRK := Lib.hid hrk
      clear hbx hrk
      by_cases he : r.d.id = id
      · have de : (r.d.id == id) = true := by simp [he]
        have HE := Lib.hid he
        clear he
        go_upto_region 5 with fail
        have HB4 := Lib.hid (show Below w.heap.size w (wr.alloc (.cells #[.int .i64 r.d.id, .slice r.adr r.d.doc.length r.cap] 94 (0, 0))) from bl_alloc HB.out)
        generalize wr.alloc (.cells #[.int .i64 r.d.id, .slice r.adr r.d.doc.length r.cap] 94 (0, 0)) = w4 at HB4 ⊢
        have hs4 := HB4.out.size
        have HOWN := Lib.hid (show (w4.alloc (.cells #[] 94 (0, 0))).drew.ownsRow w4.heap.size 94 2 (.slice (some ⟨w4.heap.size, 0, none⟩) 0 0) 0 [] from own_empty w4.drew 94 2)
        have HBA := Lib.hid (show Below w4.heap.size w4 (w4.alloc (.cells #[] 94 (0, 0))).drew from bl_drew (bl_alloc (Below.refl _ _)))
        have HRF := Lib.hid (fun (W : World) (hb : Below w4.heap.size w4 W) => show Rds F W (some ⟨b, o, none⟩) (stCells (rs.take k)) from by
          rw [← st_take rs k (by omega)]
          exact rds_take ((HS.out.below HB4.out).row.below hb) _)
        have HRB := Lib.hid (fun (W : World) (hb : Below w4.heap.size w4 W) => show Rds F W (if c = k + 1 then some ⟨b, o, none⟩ else some ⟨b, o + (k + 1) * 2, none⟩) (stCells (rs.drop (k + 1))) from by
          rw [← st_drop rs (k + 1) (by omega)]
          have h := rds_drop ((HS.out.below HB4.out).row.below hb) ((k + 1) * 2) (c * 2) ((k + 1) * 2) (fun e => List.drop_eq_nil_of_le (by rw [stCells_length]; omega))
          by_cases hc : c = k + 1
          · rw [if_pos hc]; rw [if_pos (by omega)] at h; exact h
          · rw [if_neg hc]; rw [if_neg (by omega)] at h; simpa [Addr.add_lit] using h)
        have HLF := Lib.hid (show (stCells (rs.take k)).length = k * 2 from by rw [stCells_length, List.length_take, Nat.min_eq_left (by omega)])
        have HLB := Lib.hid (show (stCells (rs.drop (k + 1))).length = (rs.length - (k + 1)) * 2 from by rw [stCells_length, List.length_drop])
        have HAPP := Lib.hid (fun (A3 : Option Addr) (c3 : Nat) (w5 : World) (ho : w5.ownsRow w4.heap.size 94 2 (.slice A3 (0 + k) c3) (0 + k) ([] ++ stCells (rs.take k))) => show w5.ownsRow w4.heap.size 94 2 (.slice A3 k c3) k (stCells (rs.take k)) from by rw [List.nil_append, Nat.zero_add] at ho; exact ho)
        have hw1 : IntKind.i64.wrap ((k : Int) + 1) = (k : Int) + 1 := by rw [IntKind.wrap_i64]; omega
        have hin1 : (k : Int) + 1 ≤ (rs.length : Int) := by omega
        have hin2 : (0 : Int) ≤ (k : Int) + 1 := by omega
        have htn : ((k : Int) + 1).toNat = k + 1 := by omega
        have hkc : k ≤ c := by omega
        have hkc1 : k + 1 ≤ c := by omega
        clear y0 y1
        go_region_law (first
          | (refine step_rows w4.heap.size rfl (.tmp 19) (.tmp 22) 24 94 _ 2 32 rfl Tryz.underlying24 infoStored rfl (by decide) (.slice (some ⟨w4.heap.size, 0, none⟩) 0 0) 0 [] rfl HOWN.out (some ⟨b, o, none⟩) k c (stCells (rs.take k)) rfl HLF.out (HRF.out _ HBA.out) (stCells_one _) (by simp only [maxLen]; omega) (by omega) (by simp) ?_; intro A3 c3 w5 hc3 ho3 hg3; have hb5 : Below w4.heap.size w4 w5 := HBA.out.grown hg3 HBA.out.size (fun k hk => (own_base HOWN.out k hk).1); have hown3 := HAPP.out A3 c3 w5 ho3; clear ho3 hg3)
          | (refine step_rows w4.heap.size rfl (.tmp 23) (.tmp 27) 24 94 _ 2 32 rfl Tryz.underlying24 infoStored rfl (by decide) (.slice A3 k c3) k (stCells (rs.take k)) rfl hown3 _ (rs.length - (k + 1)) _ (stCells (rs.drop (k + 1))) rfl HLB.out (HRB.out _ hb5) (stCells_one _) (by simp only [maxLen]; omega) (by omega) (by have := hb5.size; omega) ?_; intro A5 c5 w6 hc5 ho5 hg5))
        all_goals
          have HB6 := Lib.hid (show Below w4.heap.size w4 w6 from hb5.grown hg5 (by have := hb5.size; omega) (fun k hk => (own_base hown3 k hk).1))
          have HO5 := Lib.hid ho5
          clear hb5 hg5 ho5 hown3 hc3
          generalize (if c = k + 1 then some (⟨b, o, none⟩ : Addr) else some ⟨b, o + (k + 1) * 2, none⟩) = Asl
          go_wp2
          go_ret2
          have hg : (dIds (rs.map StR.d))[k]? = some id := by unfold dIds; rw [List.getElem?_map, List.getElem?_map, HRK.out]; exact congrArg some HE.out
          obtain ⟨h1, h2⟩ := found_pos HRI.out hg
          have hcd : cutD (rs.map StR.d) id = (del k (rs.map StR.d), true) := by unfold cutD; rw [if_pos h1, ← h2]
          have hdl : (del k rs).length = k + (rs.length - (k + 1)) := by simp [del]; omega
          have ho := HO5.out
          rw [← st_app, ← hdl] at ho
          refine ⟨del k rs, A5, c5, by rw [hcd, map_del], by rw [hcd, hdl]; rfl, HB4.out.trans (HB6.out.mono hs4), by omega, (Rds.of_own ho).mono (fun b h _ => .inr (by have h' : w4.heap.size ≤ b := h; omega)), fun r hr => ?_⟩
          have h3 := ((HS.out.below HB4.out).below HB6.out).docs r (mem_del hr)
          exact ⟨h3.1, h3.2.mono (fun b h _ => .inl h)⟩
      · have de : (r.d.id == id) = false := by simp [he]
        have HE := Lib.hid he
        clear he
        go_wp2
        go_roundw
        case rel => exact ⟨k + 1, by go_num, by omega, Lib.hid (fun j r' hj hr' => by
          by_cases e : j = k
          · subst e; rw [HRK.out] at hr'; injection hr' with hr'; subst hr'; exact HE.out
          · exact HN.out j r' (by omega) hr'), bl_alloc HB.out⟩
        case measure => simp [intOf]; omega
    · obtain rfl : k = rs.length := by omega
      clear hbx
      go_wp2
      go_ret2
      have hno : hasI (dIds (rs.map StR.d)) id = false := by
        rw [Bool.eq_false_iff]
        intro hh
        rw [hasI_mem HRI.out] at hh
        simp [dIds] at hh
        obtain ⟨r, hr, he⟩ := hh
        obtain ⟨j, hj⟩ := List.mem_iff_getElem?.1 hr
        exact HN.out j r (List.getElem?_eq_some_iff.1 hj).1 hj he
      refine ⟨rs, A, c, by unfold cutD; rw [hno]; rfl, by unfold cutD; rw [hno]; rfl, HB.out, (HS.out.below HB.out).mono (fun b h _ => .inl h)⟩
end Go.Proofs.YtemcijhpmpdebaaGreatDoor
