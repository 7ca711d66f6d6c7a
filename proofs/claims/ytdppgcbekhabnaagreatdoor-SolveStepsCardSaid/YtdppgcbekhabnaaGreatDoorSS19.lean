/- Texts of one proof, put together: T1 T7 ZW ZX ZY. -/
import Derived.Test.YtdppgcbekhabnaaGreatDoorSS07
import Derived.Test.YtdppgcbekhabnaaGreatDoorSS11
import Derived.Test.YtdppgcbekhabnaaGreatDoorSS13
import Derived.Test.YtdppgcbekhabnaaGreatDoorSS15
import Derived.Test.YtdppgcbekhabnaaGreatDoorSS17
import Derived.Test.YtdppgcbekhabnaaGreatDoorSS18

/- The reference: is a list a set (SetError); is each of one list one of another (within). -/
namespace Go.Proofs.YtdppgcbekhabnaaGreatDoor
set_option linter.unusedSimpArgs false
set_option linter.unusedVariables false
open Go Go.RowKit

set_option maxRecDepth 100000 in
set_option maxHeartbeats 1600000 in
theorem rseterror_any (v : Value) (l : List Int) (w : World) (n0 : Nat) (h : IntsR w n0 v l) :
    Calls Tryz.prog 19 #[v] w fun e w' => e = .returned (.int .i64 (chkE l : Int)) ∧ Ext w w' := by
  obtain ⟨a, cap, rfl, h2, h3, h4, h5⟩ := id h
  have H4 := hid h4
  have H5 := hid h5
  have hml : (l.length : Int) ≤ 9223372036854775807 := by omega
  clear h h2 h3 h4 h5
  go_enter Tryz.func19, Tryz.ntmps19
  go_wp2
  go_loop [3] (fun t3 => ∃ k : Nat, t3 = .int .i64 (k : Int) ∧ k ≤ l.length ∧ ∀ j t, j < k → l[j]? = some t → 0 ≤ t ∧ t < 1000) (fun t3 => l.length - (intOf t3).toNat)
  case atStart => exact ⟨0, rfl, Nat.zero_le _, fun j t h => by omega⟩
  case round =>
    obtain ⟨k, rfl, hk, hp⟩ := hrel
    have Hp := hid hp
    clear hp
    by_cases hlt : k < l.length
    · obtain ⟨y, rfl⟩ := H4.out (by omega)
      obtain ⟨q, hq⟩ : ∃ q, l[k]? = some q := ⟨_, List.getElem?_eq_getElem hlt⟩
      have hc := (H5.out y rfl (by omega)).2 k hlt q hq
      have Hq := hid hq
      clear hq
      by_cases hq0 : q < 0
      · have Hr := hid (chkE_two (List.mem_of_getElem? Hq.out) (by omega))
        go_wp2
        go_ret
        exact ⟨by rw [Hr.out]; rfl, Ext.refl _⟩
      · by_cases hq1 : 1000 ≤ q
        · have Hr := hid (chkE_two (List.mem_of_getElem? Hq.out) (by omega))
          go_wp2
          go_ret
          exact ⟨by rw [Hr.out]; rfl, Ext.refl _⟩
        · have Hb : Hid (0 ≤ q ∧ q < 1000) := hid (by omega)
          go_wp2
          refine ⟨⟨k + 1, by go_num, by omega, fun j t hj ht => ?_⟩, by simp [intOf]; omega⟩
          by_cases hjk : j = k
          · subst hjk
            obtain rfl := Option.some.inj (Hq.out.symm.trans ht)
            exact Hb.out
          · exact Hp.out j t (by omega) ht
    · obtain rfl : k = l.length := by omega
      have Hin : Hid (InR l) := hid fun t ht => by
        obtain ⟨j, hj, e⟩ := List.mem_iff_getElem.1 ht
        exact Hp.out j t hj (by rw [List.getElem?_eq_getElem hj, e])
      go_wp2
      go_loopw [4] (fun t4 wr => ∃ i : Nat, t4 = .int .i64 ((i : Int) + 1) ∧ i ≤ l.length ∧ (∀ j, j < i → j + 1 < l.length → l.getD j 0 < l.getD (j + 1) 0) ∧ Ext w wr) (fun t4 _ => l.length + 1 - (intOf t4).toNat)
      case atStart => exact ⟨0, rfl, Nat.zero_le _, fun j hj => by omega, Ext.refl _⟩
      case round =>
        obtain ⟨i, rfl, hi, hp, hx⟩ := hrel
        have Hs := hid hp
        have Hx := hid hx
        clear hp hx
        by_cases hlt : i + 1 < l.length
        · obtain ⟨y, rfl⟩ := H4.out (by omega)
          obtain ⟨p, hp⟩ : ∃ p, l[i]? = some p := ⟨_, List.getElem?_eq_getElem (by omega)⟩
          obtain ⟨q, hq⟩ : ∃ q, l[i + 1]? = some q := ⟨_, List.getElem?_eq_getElem hlt⟩
          have hcp := (H5.out y rfl (by omega)).2 i (by omega) p hp
          have hcq := (H5.out y rfl (by omega)).2 (i + 1) hlt q hq
          rw [add_posU y (i + 1) (by omega)] at hcq
          have c0 : ∀ w1, Keep (fun _ => False) wr w1 → w1.cell? (y.add i) = some (.int .i64 p) := fun w1 k => (Hx.out.trans k.ext).cellx hcp
          have c1 : ∀ w1, Keep (fun _ => False) wr w1 → w1.cell? ⟨y.block, y.off + (i + 1), none⟩ = some (.int .i64 q) := fun w1 k => (Hx.out.trans k.ext).cellx hcq
          have Hp : Hid (l.getD i 0 = p) := hid (by rw [List.getD_eq_getElem?_getD, hp]; rfl)
          have Hq : Hid (l.getD (i + 1) 0 = q) := hid (by rw [List.getD_eq_getElem?_getD, hq]; rfl)
          clear hp hq hcp hcq
          by_cases hpq : q ≤ p
          · have Hr := hid (chkE_ten Hin.out hlt (by rw [Hp.out, Hq.out]; exact hpq))
            go_wp2
            refine wp_flowT (fun _ => False) (by kernel_rfl) (by kernel_rfl) ?_
            repeat (apply FlowT.d; (intro w1 hk; unfold does; go_simp; (try go_ints); (first | exact DetR.mk | (simp only [↓IntWalk.iteOmega, Oper.doesUpon_value]; exact DetR.mk) | (simp only [↓IntWalk.iteOmega]; go_simp; (try go_ints); exact DetR.mk))); simp only [Act.put, List.setIfInBounds_toArray, List.set_cons_zero, List.set_cons_succ])
            refine FlowT.fin fun w1 hx1 hk1 => ?_
            have Hx1 := hid (Hx.out.trans hx1)
            clear hx1 hk1 c0 c1
            go_wp2
            go_ret
            exact ⟨by rw [Hr.out]; rfl, Hx1.out⟩
          · have Hn : Hid (l.getD i 0 < l.getD (i + 1) 0) := hid (by rw [Hp.out, Hq.out]; omega)
            go_wp2
            refine wp_flowT (fun _ => False) (by kernel_rfl) (by kernel_rfl) ?_
            repeat (apply FlowT.d; (intro w1 hk; unfold does; go_simp; (try go_ints); (first | exact DetR.mk | (simp only [↓IntWalk.iteOmega, Oper.doesUpon_value]; exact DetR.mk) | (simp only [↓IntWalk.iteOmega]; go_simp; (try go_ints); exact DetR.mk))); simp only [Act.put, List.setIfInBounds_toArray, List.set_cons_zero, List.set_cons_succ])
            refine FlowT.fin fun w1 hx1 hk1 => ?_
            have Hx1 := hid (Hx.out.trans hx1)
            clear hx1 hk1 c0 c1
            go_wp2
            go_roundw
            case rel =>
              refine ⟨i + 1, by go_num, by omega, fun j hj hl => ?_, Hx1.out⟩
              by_cases hji : j = i
              · subst hji; exact Hn.out
              · exact Hs.out j (by omega) hl
            case measure => simp [intOf]; omega
        · have Hok : Hid (chkE l = 0) := hid (chkE_ok Hin.out fun j hj => Hs.out j (by omega) hj)
          go_wp2
          go_ret
          exact ⟨by rw [Hok.out]; rfl, Hx.out⟩
end Go.Proofs.YtdppgcbekhabnaaGreatDoor



/- The reference: are sets an answer (IsClosed). -/
namespace Go.Proofs.YtdppgcbekhabnaaGreatDoor
set_option linter.unusedSimpArgs false
set_option linter.unusedVariables false
open Go Go.RowKit

theorem own_e2 {w : World} {base g n cap : Nat} {t : TypeId} {R : List (Int × Int)} (h : w.ownsRow base t 2 (.slice (some ⟨g, 0, none⟩) n cap) n (R.flatMap eCells)) {i : Nat} {x : Int × Int} (hx : R[i]? = some x) :
    w.cell? ⟨g, i * 2, none⟩ = some (.int .i64 x.1) ∧ w.cell? ⟨g, i * 2 + 1, none⟩ = some (.int .i64 x.2) := own_e h hx
end Go.Proofs.YtdppgcbekhabnaaGreatDoor



/- The solver: a rule's pivot; a rule is fired. -/
namespace Go.Proofs.YtdppgcbekhabnaaGreatDoor
set_option linter.unusedSimpArgs false
set_option linter.unusedVariables false
open Go Go.RowKit

set_option maxRecDepth 100000 in
theorem solvepivot_any (r : RV) (aa : Option Addr) (na ca : Nat) (w : World) : Calls Tryz.prog 72 #[r.val (.slice aa na ca)] w fun e w' => e = .returned (.int .i64 r.pivot) ∧ Ext w w' := by
  have HX : Hid (Ext w (w.alloc (.cells #[.string r.kind, .int .i64 r.a, .int .i64 r.b, .int .i64 r.k, .slice aa na ca] 86))) := hid ((Ext.refl _).alloc _)
  unfold RV.val
  cases hk : (r.kind.toList == [115, 116, 111, 114, 101]) with
  | true =>
    have Hr : Hid (r.pivot = r.b) := hid (by unfold RV.pivot kStore; rw [hk]; rfl)
    go_enter Tryz.func72, Tryz.ntmps72
    go_wp2
    go_ret
    exact ⟨by rw [Hr.out]; rfl, HX.out⟩
  | false =>
    have Hr : Hid (r.pivot = r.a) := hid (by unfold RV.pivot kStore; rw [hk]; rfl)
    go_enter Tryz.func72, Tryz.ntmps72
    go_wp2
    go_ret
    exact ⟨by rw [Hr.out]; rfl, HX.out⟩
set_option maxRecDepth 100000 in
set_option maxHeartbeats 3200000 in
theorem solvefire_out (P : PP) (S : List (List Int)) (s : SV) (r : RV) (aa : Option Addr) (ca : Nat) (o : Int) (w : World) (G F : Nat → Prop) (g : Nat) (ad : Nat → Addr) {vr : Value} {rs : List R2} {vh : Value} {hs : List Value} (hS : SolvAt w G F g ad P vr rs vh hs s) (hC : Core P S s) (hB : s.Bnd P) (hg : P.GoodS S) (hc : ClosedP P S) (hr : r ∈ P.rulesV) (hf : r.fired = true) (ho : o ∈ S.getD r.pivot.toNat []) (h0 : 0 ≤ o ∧ o < P.objectsV) (ha : IntsF w F (.slice aa r.args.length ca) r.args) (hkd : (r.kind.toList == [99, 97, 108, 108]) = false) (hout : (P.nodesV : Int) ≤ o) :
    Calls Tryz.prog 73 #[.pointer (some ⟨g, 0, none⟩), r.val (.slice aa r.args.length ca), .int .i64 o] w fun x w' => x = .returned (.tuple #[]) ∧ SolvAt w' G F g ad P vr rs vh hs (s.fire P r o) ∧ Keep (fun b => ¬ F b) w w' := by
  obtain ⟨a1, a2, a3, c1, c2, c3, m1, m2, f1, vw, h⟩ := hS
  have hw := h.pw.well
  obtain ⟨hn1, hn2⟩ := hw.nodes
  obtain ⟨W, hW⟩ : ∃ W, W = w.alloc (.cells #[.string r.kind, .int .i64 r.a, .int .i64 r.b, .int .i64 r.k, .slice aa r.args.length ca] 86) := ⟨_, rfl⟩
  have HX : Hid (Ext w W) := hid (by rw [hW]; exact (Ext.refl _).alloc _)
  have HBx : Hid (Blk W w.heap.size #[.string r.kind, .int .i64 r.a, .int .i64 r.b, .int .i64 r.k, .slice aa r.args.length ca] 86) := hid (by rw [hW]; exact Blk.new _ _ _)
  have HWe : Hid (W = w.alloc (.cells #[.string r.kind, .int .i64 r.a, .int .i64 r.b, .int .i64 r.k, .slice aa r.args.length ca] 86)) := hid hW
  have HSn : ∀ e ∈ P.fires r o, SndE P S e := fun e he => sndE_of hg hc hr (fires_in hf ho he)
  obtain ⟨ah, ch, rfl⟩ := row_form h.hrow
  have HS := hid (h.ext HX.out)
  have Hw := hid hw
  have HC := hid hC
  have HB := hid hB
  have HSn := hid HSn
  have HA := hid (ha.keep (HX.out.keep fun _ => False) (fun _ _ h => h) fun _ h => h)
  have Hlen := hid hC.len
  have al := ha.form
  have hal : (r.args.length : Int) ≤ 9223372036854775807 := by obtain ⟨a, cap, h1, h2, h3, _⟩ := al; omega
  have hsl : s.has.length ≤ 120 := by rw [hC.len]; exact hn1
  unfold RV.val
  clear h hC hB hW ha al hw hr hf ho hg hc
  have Hr : Hid (s.fire P r o = s) := hid (by unfold SV.fire PP.fires kCall; rw [hkd, cond_false, if_pos hout]; rfl)
  rw [Hr.out]
  rw [← Hlen.out] at hout
  have m0 := HBx.out.av 0 rfl
  have b4 := HS.out.blk.av 4 rfl
  simp only [solvCells, List.getElem_toArray, List.getElem_cons_zero, List.getElem_cons_succ] at m0 b4
  generalize P.objectsV = OO at *
  go_enter Tryz.func73, Tryz.ntmps73
  rw [HWe.out] at m0 b4
  go_wp2
  rw [← HWe.out]
  refine bodyPost_ret (v := .tuple #[]) (results_none (by kernel_rfl) _ _ _) rfl ?_
  exact ⟨rfl, ⟨_, _, _, _, _, _, _, _, _, _, HS.out⟩, HX.out.keep _⟩
set_option maxRecDepth 100000 in
set_option maxHeartbeats 3200000 in
theorem solvefire_load (P : PP) (S : List (List Int)) (s : SV) (r : RV) (aa : Option Addr) (ca : Nat) (o : Int) (w : World) (G F : Nat → Prop) (g : Nat) (ad : Nat → Addr) {vr : Value} {rs : List R2} {vh : Value} {hs : List Value} (hS : SolvAt w G F g ad P vr rs vh hs s) (hC : Core P S s) (hB : s.Bnd P) (hg : P.GoodS S) (hc : ClosedP P S) (hr : r ∈ P.rulesV) (hf : r.fired = true) (ho : o ∈ S.getD r.pivot.toNat []) (h0 : 0 ≤ o ∧ o < P.objectsV) (ha : IntsF w F (.slice aa r.args.length ca) r.args) (hkd : (r.kind.toList == [99, 97, 108, 108]) = false) (hkl : (r.kind.toList == [108, 111, 97, 100]) = true) (hin : ¬ (P.nodesV : Int) ≤ o) :
    Calls Tryz.prog 73 #[.pointer (some ⟨g, 0, none⟩), r.val (.slice aa r.args.length ca), .int .i64 o] w fun x w' => x = .returned (.tuple #[]) ∧ SolvAt w' G F g ad P vr rs vh hs (s.fire P r o) ∧ Keep (fun b => ¬ F b) w w' := by
  obtain ⟨a1, a2, a3, c1, c2, c3, m1, m2, f1, vw, h⟩ := hS
  have hw := h.pw.well
  obtain ⟨hn1, hn2⟩ := hw.nodes
  obtain ⟨W, hW⟩ : ∃ W, W = w.alloc (.cells #[.string r.kind, .int .i64 r.a, .int .i64 r.b, .int .i64 r.k, .slice aa r.args.length ca] 86) := ⟨_, rfl⟩
  have HX : Hid (Ext w W) := hid (by rw [hW]; exact (Ext.refl _).alloc _)
  have HBx : Hid (Blk W w.heap.size #[.string r.kind, .int .i64 r.a, .int .i64 r.b, .int .i64 r.k, .slice aa r.args.length ca] 86) := hid (by rw [hW]; exact Blk.new _ _ _)
  have HWe : Hid (W = w.alloc (.cells #[.string r.kind, .int .i64 r.a, .int .i64 r.b, .int .i64 r.k, .slice aa r.args.length ca] 86)) := hid hW
  have HSn : ∀ e ∈ P.fires r o, SndE P S e := fun e he => sndE_of hg hc hr (fires_in hf ho he)
  obtain ⟨ah, ch, rfl⟩ := row_form h.hrow
  have HS := hid (h.ext HX.out)
  have Hw := hid hw
  have HC := hid hC
  have HB := hid hB
  have HSn := hid HSn
  have HA := hid (ha.keep (HX.out.keep fun _ => False) (fun _ _ h => h) fun _ h => h)
  have Hlen := hid hC.len
  have al := ha.form
  have hal : (r.args.length : Int) ≤ 9223372036854775807 := by obtain ⟨a, cap, h1, h2, h3, _⟩ := al; omega
  have hsl : s.has.length ≤ 120 := by rw [hC.len]; exact hn1
  unfold RV.val
  clear h hC hB hW ha al hw hr hf ho hg hc
  have Hfr : Hid (P.fires r o = [(o, r.b)]) := hid (by unfold PP.fires kCall kLoad; rw [hkd, cond_false, if_neg hin, hkl]; rfl)
  have hmem : ((o, r.b) : Int × Int) ∈ P.fires r o := by rw [Hfr.out]; exact List.mem_singleton.2 rfl
  obtain ⟨k1, k2, _⟩ := HSn.out _ hmem
  have HE := hid (solveedge_any P S s (o, r.b) W G F g ad ⟨_, _, _, _, _, _, _, _, _, _, HS.out⟩ HC.out HB.out k1 k2)
  simp only at HE
  have Hr : Hid (s.fire P r o = s.edge (o, r.b)) := hid (by unfold SV.fire; rw [Hfr.out]; rfl)
  rw [Hr.out]
  have hnn : ¬ (s.has.length : Int) ≤ o := by rw [Hlen.out]; exact hin
  have m0 := HBx.out.av 0 rfl
  have m1 := HBx.out.av 1 rfl
  have m2 := HBx.out.av 2 rfl
  have b4 := HS.out.blk.av 4 rfl
  simp only [solvCells, List.getElem_toArray, List.getElem_cons_zero, List.getElem_cons_succ] at m0 m1 m2 b4
  rw [HWe.out] at m0 m1 m2 b4
  clear hmem k1 k2 hin
  generalize P.objectsV = OO at *
  go_enter Tryz.func73, Tryz.ntmps73
  go_wp2_with fail
  rw [← HWe.out]
  refine HE.out.mono ?_
  intro x w1 hx
  obtain ⟨rfl, hS1, hK1⟩ := hx
  have HS1 := hid hS1
  have HK1 := hid hK1
  clear hS1 hK1 HE m0 m1 m2 b4
  go_wp2
  go_end0
  exact ⟨rfl, HS1.out, (HX.out.keep _).trans HK1.out⟩
set_option maxRecDepth 100000 in
set_option maxHeartbeats 3200000 in
theorem solvefire_store (P : PP) (S : List (List Int)) (s : SV) (r : RV) (aa : Option Addr) (ca : Nat) (o : Int) (w : World) (G F : Nat → Prop) (g : Nat) (ad : Nat → Addr) {vr : Value} {rs : List R2} {vh : Value} {hs : List Value} (hS : SolvAt w G F g ad P vr rs vh hs s) (hC : Core P S s) (hB : s.Bnd P) (hg : P.GoodS S) (hc : ClosedP P S) (hr : r ∈ P.rulesV) (hf : r.fired = true) (ho : o ∈ S.getD r.pivot.toNat []) (h0 : 0 ≤ o ∧ o < P.objectsV) (ha : IntsF w F (.slice aa r.args.length ca) r.args) (hkd : (r.kind.toList == [99, 97, 108, 108]) = false) (hkl : (r.kind.toList == [108, 111, 97, 100]) = false) (hin : ¬ (P.nodesV : Int) ≤ o) :
    Calls Tryz.prog 73 #[.pointer (some ⟨g, 0, none⟩), r.val (.slice aa r.args.length ca), .int .i64 o] w fun x w' => x = .returned (.tuple #[]) ∧ SolvAt w' G F g ad P vr rs vh hs (s.fire P r o) ∧ Keep (fun b => ¬ F b) w w' := by
  obtain ⟨a1, a2, a3, c1, c2, c3, m1, m2, f1, vw, h⟩ := hS
  have hw := h.pw.well
  obtain ⟨hn1, hn2⟩ := hw.nodes
  obtain ⟨W, hW⟩ : ∃ W, W = w.alloc (.cells #[.string r.kind, .int .i64 r.a, .int .i64 r.b, .int .i64 r.k, .slice aa r.args.length ca] 86) := ⟨_, rfl⟩
  have HX : Hid (Ext w W) := hid (by rw [hW]; exact (Ext.refl _).alloc _)
  have HBx : Hid (Blk W w.heap.size #[.string r.kind, .int .i64 r.a, .int .i64 r.b, .int .i64 r.k, .slice aa r.args.length ca] 86) := hid (by rw [hW]; exact Blk.new _ _ _)
  have HWe : Hid (W = w.alloc (.cells #[.string r.kind, .int .i64 r.a, .int .i64 r.b, .int .i64 r.k, .slice aa r.args.length ca] 86)) := hid hW
  have HSn : ∀ e ∈ P.fires r o, SndE P S e := fun e he => sndE_of hg hc hr (fires_in hf ho he)
  obtain ⟨ah, ch, rfl⟩ := row_form h.hrow
  have HS := hid (h.ext HX.out)
  have Hw := hid hw
  have HC := hid hC
  have HB := hid hB
  have HSn := hid HSn
  have HA := hid (ha.keep (HX.out.keep fun _ => False) (fun _ _ h => h) fun _ h => h)
  have Hlen := hid hC.len
  have al := ha.form
  have hal : (r.args.length : Int) ≤ 9223372036854775807 := by obtain ⟨a, cap, h1, h2, h3, _⟩ := al; omega
  have hsl : s.has.length ≤ 120 := by rw [hC.len]; exact hn1
  unfold RV.val
  clear h hC hB hW ha al hw hr hf ho hg hc
  have Hfr : Hid (P.fires r o = [(r.a, o)]) := hid (by unfold PP.fires kCall kLoad; rw [hkd, cond_false, if_neg hin, hkl]; rfl)
  have hmem : ((r.a, o) : Int × Int) ∈ P.fires r o := by rw [Hfr.out]; exact List.mem_singleton.2 rfl
  obtain ⟨k1, k2, _⟩ := HSn.out _ hmem
  have HE := hid (solveedge_any P S s (r.a, o) W G F g ad ⟨_, _, _, _, _, _, _, _, _, _, HS.out⟩ HC.out HB.out k1 k2)
  simp only at HE
  have Hr : Hid (s.fire P r o = s.edge (r.a, o)) := hid (by unfold SV.fire; rw [Hfr.out]; rfl)
  rw [Hr.out]
  have hnn : ¬ (s.has.length : Int) ≤ o := by rw [Hlen.out]; exact hin
  have m0 := HBx.out.av 0 rfl
  have m1 := HBx.out.av 1 rfl
  have m2 := HBx.out.av 2 rfl
  have b4 := HS.out.blk.av 4 rfl
  simp only [solvCells, List.getElem_toArray, List.getElem_cons_zero, List.getElem_cons_succ] at m0 m1 m2 b4
  rw [HWe.out] at m0 m1 m2 b4
  clear hmem k1 k2 hin
  generalize P.objectsV = OO at *
  go_enter Tryz.func73, Tryz.ntmps73
  go_wp2_with fail
  rw [← HWe.out]
  refine HE.out.mono ?_
  intro x w1 hx
  obtain ⟨rfl, hS1, hK1⟩ := hx
  have HS1 := hid hS1
  have HK1 := hid hK1
  clear hS1 hK1 HE m0 m1 m2 b4
  go_wp2
  go_end0
  exact ⟨rfl, HS1.out, (HX.out.keep _).trans HK1.out⟩
end Go.Proofs.YtdppgcbekhabnaaGreatDoor



/- The solver: a call's rule is fired. -/
namespace Go.Proofs.YtdppgcbekhabnaaGreatDoor
set_option linter.unusedSimpArgs false
set_option linter.unusedVariables false
open Go Go.RowKit

set_option maxRecDepth 100000 in
set_option maxHeartbeats 3200000 in
theorem solvefire_call (P : PP) (S : List (List Int)) (s : SV) (r : RV) (aa : Option Addr) (ca : Nat) (o : Int) (w : World) (G F : Nat → Prop) (g : Nat) (ad : Nat → Addr) {vr : Value} {rs : List R2} {vh : Value} {hs : List Value} (hS : SolvAt w G F g ad P vr rs vh hs s) (hC : Core P S s) (hB : s.Bnd P) (hg : P.GoodS S) (hc : ClosedP P S) (hr : r ∈ P.rulesV) (hf : r.fired = true) (ho : o ∈ S.getD r.pivot.toNat []) (h0 : 0 ≤ o ∧ o < P.objectsV) (ha : IntsF w F (.slice aa r.args.length ca) r.args) (hkd : (r.kind.toList == [99, 97, 108, 108]) = true) :
    Calls Tryz.prog 73 #[.pointer (some ⟨g, 0, none⟩), r.val (.slice aa r.args.length ca), .int .i64 o] w fun x w' => x = .returned (.tuple #[]) ∧ SolvAt w' G F g ad P vr rs vh hs (s.fire P r o) ∧ Keep (fun b => ¬ F b) w w' := by
  obtain ⟨a1, a2, a3, c1, c2, c3, m1, m2, f1, vw, h⟩ := hS
  have hw := h.pw.well
  obtain ⟨hn1, hn2⟩ := hw.nodes
  obtain ⟨W, hW⟩ : ∃ W, W = w.alloc (.cells #[.string r.kind, .int .i64 r.a, .int .i64 r.b, .int .i64 r.k, .slice aa r.args.length ca] 86) := ⟨_, rfl⟩
  have HX : Hid (Ext w W) := hid (by rw [hW]; exact (Ext.refl _).alloc _)
  have HBx : Hid (Blk W w.heap.size #[.string r.kind, .int .i64 r.a, .int .i64 r.b, .int .i64 r.k, .slice aa r.args.length ca] 86) := hid (by rw [hW]; exact Blk.new _ _ _)
  have HWe : Hid (W = w.alloc (.cells #[.string r.kind, .int .i64 r.a, .int .i64 r.b, .int .i64 r.k, .slice aa r.args.length ca] 86)) := hid hW
  have HSn : ∀ e ∈ P.fires r o, SndE P S e := fun e he => sndE_of hg hc hr (fires_in hf ho he)
  obtain ⟨ah, ch, rfl⟩ := row_form h.hrow
  have HS := hid (h.ext HX.out)
  have Hw := hid hw
  have HC := hid hC
  have HB := hid hB
  have HSn := hid HSn
  have HA := hid (ha.keep (HX.out.keep fun _ => False) (fun _ _ h => h) fun _ h => h)
  have Hlen := hid hC.len
  have al := ha.form
  have hal : (r.args.length : Int) ≤ 9223372036854775807 := by obtain ⟨a, cap, h1, h2, h3, _⟩ := al; omega
  have hsl : s.has.length ≤ 120 := by rw [hC.len]; exact hn1
  unfold RV.val
  clear h hC hB hW ha al hw hr hf ho hg hc
  have Hfr : Hid (P.fires r o = P.callsOf r o) := hid (by unfold PP.fires kCall; rw [hkd, cond_true])
  have HF := hid (progfun_any a1 a2 a3 c1 c2 c3 P o W W.heap.size ad HS.out.pw.pw (by have := hn2; omega))
  unfold pval at HF
  obtain ⟨Fn, hFn⟩ : ∃ Fn, Fn = P.funV o := ⟨_, rfl⟩
  rw [← hFn] at HF
  have HFe := hid hFn
  have m0 := HBx.out.av 0 rfl
  have b0 := HS.out.blk.av 0 rfl
  have b1 := HS.out.blk.av 1 rfl
  have b2 := HS.out.blk.av 2 rfl
  simp only [solvCells, List.getElem_toArray, List.getElem_cons_zero, List.getElem_cons_succ] at m0 b0 b1 b2
  rw [HWe.out] at m0 b0 b1 b2
  clear hFn
  generalize P.objectsV = OO at *
  go_enter Tryz.func73, Tryz.ntmps73
  go_wp2_with fail
  rw [← HWe.out]
  refine HF.out.mono ?_
  intro x w1 hx
  obtain ⟨rfl, hx1⟩ := hx
  have Hx1 := hid hx1
  have HS1 := hid (HS.out.ext hx1)
  have HBx1 := hid (HBx.out.ext hx1)
  have HA1 := hid (HA.out.keep (hx1.keep fun _ => False) (fun _ _ h => h) fun _ h => h)
  clear HF hx1 m0 b0 b1 b2
  by_cases hF0 : 0 ≤ Fn
  · obtain ⟨N, rfl⟩ := Int.eq_ofNat_of_zero_le hF0
    have hN : N < P.funs.length := by have := funV_lt (P := P) (o := o) (by rw [← HFe.out]; exact hF0); rw [← HFe.out] at this; omega
    obtain ⟨yf, f, afp, cfp, hyf, hfk, e0, e1, e2, hIp⟩ := HS1.out.pw.pw.prog.funs.at hN
    subst hyf
    have hfm : f ∈ P.funs := List.mem_of_getElem? hfk
    have hq4 := called_few Hw.out hfm r
    have hpf := (PP.goodF (PP.funs_ok Hw.out.1) hfm).few
    obtain ⟨q, hq⟩ : ∃ q, q = calledV f r := ⟨_, rfl⟩
    have Hq : Hid (P.fires r o = q) := hid (by
      rw [Hfr.out]
      unfold PP.callsOf
      rw [if_pos (by rw [← HFe.out]; omega), ← HFe.out, hq]
      show calledV ((P.funs.getD N _)) r = _
      rw [List.getD_eq_getElem?_getD, hfk]; rfl)
    have HSq : Hid (∀ e ∈ q, SndE P S e) := hid fun e he => HSn.out e (by rw [Hq.out]; exact he)
    have Hr : Hid (s.fire P r o = q.foldl SV.edge s) := hid (by unfold SV.fire; rw [Hq.out])
    have hlt1 := HS1.out.flt
    have HCl := fun wx (x : Ext w1 wx) => hid (conscalled_any f r (.slice afp f.params.length cfp) (.slice aa r.args.length ca) wx w1.heap.size (hIp.old (x.old _)) ((HA1.out.toR hlt1).old (x.old _)) (by omega))
    rw [← hq] at HCl hq4
    unfold RV.val at HCl
    have f0 : ∀ wx, Keep (fun _ => False) w1 wx → wx.cell? (yf.add (N * 3)) = some (.string f.name) := fun wx kk => kk.ext.cellx e0
    have f1' : ∀ wx, Keep (fun _ => False) w1 wx → wx.cell? ⟨(yf.add (N * 3)).block, (yf.add (N * 3)).off + 1, none⟩ = some (.slice afp f.params.length cfp) := fun wx kk => kk.ext.cellx e1
    have f2 : ∀ wx, Keep (fun _ => False) w1 wx → wx.cell? ⟨(yf.add (N * 3)).block, (yf.add (N * 3)).off + 2, none⟩ = some (.int .i64 f.ret) := fun wx kk => kk.ext.cellx e2
    have b1 := HS1.out.blk.kc (X := fun _ => False) (fun e => e) 1 rfl
    have m0 := HBx1.out.kc (X := fun _ => False) (fun e => e) 0 rfl
    have m1' := HBx1.out.kc (X := fun _ => False) (fun e => e) 1 rfl
    have m2' := HBx1.out.kc (X := fun _ => False) (fun e => e) 2 rfl
    have m3 := HBx1.out.kc (X := fun _ => False) (fun e => e) 3 rfl
    have m4 := HBx1.out.kc (X := fun _ => False) (fun e => e) 4 rfl
    simp only [solvCells, List.getElem_toArray, List.getElem_cons_zero, List.getElem_cons_succ] at b1 m0 m1' m2' m3 m4
    clear hfk e0 e1 e2 hIp hfm hq hlt1
    go_wp2
    refine wp_flow (fun _ => False) (by kernel_rfl) (by kernel_rfl) ?_
    apply Flow.d 0 _ rfl (by simp) (by kernel_rfl)
    · intro w1 hk; unfold does; go_simp; (try go_ints); exact DetR.mk
    simp only [List.getElem_toArray, List.getElem_cons_zero, List.getElem_cons_succ, Act.put, List.setIfInBounds_toArray, List.set_cons_zero, List.set_cons_succ]
    apply Flow.d 1 _ rfl (by simp) (by kernel_rfl)
    · intro w1 hk; unfold does; go_simp; (try go_ints); exact DetR.mk
    simp only [List.getElem_toArray, List.getElem_cons_zero, List.getElem_cons_succ, Act.put, List.setIfInBounds_toArray, List.set_cons_zero, List.set_cons_succ]
    apply Flow.d 2 _ rfl (by simp) (by kernel_rfl)
    · intro w1 hk; unfold does; go_simp; (try go_ints); exact DetR.mk
    simp only [List.getElem_toArray, List.getElem_cons_zero, List.getElem_cons_succ, Act.put, List.setIfInBounds_toArray, List.set_cons_zero, List.set_cons_succ]
    apply Flow.d 3 _ rfl (by simp) (by kernel_rfl)
    · intro w1 hk; unfold does; go_simp; (try go_ints); exact DetR.mk
    simp only [List.getElem_toArray, List.getElem_cons_zero, List.getElem_cons_succ, Act.put, List.setIfInBounds_toArray, List.set_cons_zero, List.set_cons_succ]
    apply Flow.d 4 _ rfl (by simp) (by kernel_rfl)
    · intro w1 hk; unfold does; go_simp; (try go_ints); exact DetR.mk
    simp only [List.getElem_toArray, List.getElem_cons_zero, List.getElem_cons_succ, Act.put, List.setIfInBounds_toArray, List.set_cons_zero, List.set_cons_succ]
    apply Flow.d 5 _ rfl (by simp) (by kernel_rfl)
    · intro w1 hk; unfold does; go_simp; (try go_ints); exact DetR.mk
    simp only [List.getElem_toArray, List.getElem_cons_zero, List.getElem_cons_succ, Act.put, List.setIfInBounds_toArray, List.set_cons_zero, List.set_cons_succ]
    apply Flow.d 6 _ rfl (by simp) (by kernel_rfl)
    · intro w1 hk; unfold does; go_simp; (try go_ints); exact DetR.mk
    simp only [List.getElem_toArray, List.getElem_cons_zero, List.getElem_cons_succ, Act.put, List.setIfInBounds_toArray, List.set_cons_zero, List.set_cons_succ]
    apply Flow.d 7 _ rfl (by simp) (by kernel_rfl)
    · intro w1 hk; unfold does; go_simp; (try go_ints); exact DetR.mk
    simp only [List.getElem_toArray, List.getElem_cons_zero, List.getElem_cons_succ, Act.put, List.setIfInBounds_toArray, List.set_cons_zero, List.set_cons_succ]
    apply Flow.d 8 _ rfl (by simp) (by kernel_rfl)
    · intro w1 hk; unfold does; go_simp; (try go_ints); exact DetR.mk
    simp only [List.getElem_toArray, List.getElem_cons_zero, List.getElem_cons_succ, Act.put, List.setIfInBounds_toArray, List.set_cons_zero, List.set_cons_succ]
    apply Flow.d 11 _ rfl (by simp) (by kernel_rfl)
    · intro w1 hk; unfold does; go_simp; (try go_ints); exact DetR.mk
    simp only [List.getElem_toArray, List.getElem_cons_zero, List.getElem_cons_succ, Act.put, List.setIfInBounds_toArray, List.set_cons_zero, List.set_cons_succ]
    refine Flow.one 9 _ rfl (by kernel_rfl) (fun v w' => (∃ a c, v = .slice a q.length c) ∧ ERow w.heap.size w' v q ∧ Ext w1 w') (fun _ _ _ ⟨h1, h2, h3⟩ y => ⟨h1, h2.ext y, h3.trans y⟩) (fun w2 hC hk2 => ?_) ?_
    · unfold does
      go_simp
      refine CallR.act ((HCl w2 hC).out.mono ?_)
      rintro e w3 ⟨v, rfl, hr, hx⟩
      exact ⟨v, rfl, hk2.trans (hx.keep _), row_form hr, hr.low (HX.out.trans (Hx1.out.trans hC)).size, hC.trans hx⟩
    rintro _ ⟨_, ⟨a8, c8, rfl⟩, _, _⟩
    simp only [List.getElem_toArray, List.getElem_cons_zero, List.getElem_cons_succ, Act.put, List.setIfInBounds_toArray, List.set_cons_zero, List.set_cons_succ]
    apply Flow.d 10 _ rfl (by simp) (by kernel_rfl)
    · intro w1 hk; unfold does; go_simp; (try go_ints); exact DetR.mk
    simp only [List.getElem_toArray, List.getElem_cons_zero, List.getElem_cons_succ, Act.put, List.setIfInBounds_toArray, List.set_cons_zero, List.set_cons_succ]
    refine Flow.fin (by kernel_rfl) fun w4 hC4 hk4 => ?_
    obtain ⟨_, h5, h6⟩ := hC4
    have Hx4 := hid (HX.out.trans (Hx1.out.trans h6))
    have H5 := hid h5
    have HS4 : Hid (SolvAt w4 G (fun b => F b ∨ (W.heap.size ≤ b ∧ b < w4.heap.size)) g ad P vr rs (.slice ah s.has.length ch) hs s) := hid (SolvAt.frz ⟨_, _, _, _, _, _, _, _, _, _, HS.out⟩ (Hx1.out.trans h6))
    have Hrf : Hid (∀ b, (Value.slice a8 q.length c8).ownBlock = some b → F b ∨ (W.heap.size ≤ b ∧ b < w4.heap.size)) := hid fun b hb => by
      have h1 := World.ownsRow.lt h5 b hb
      rcases Nat.lt_or_ge b W.heap.size with g1 | g1
      · exact .inr ⟨by
          have h2 : W.heap.size = w.heap.size + 1 := by rw [HWe.out, heap_size_alloc]
          have h3 : b ≠ w.heap.size := by
            rintro rfl
            obtain ⟨c, hc⟩ := own_ty h5 hb
            exact (HBx1.out.ext h6).ty_ne hc (by decide) rfl
          omega, h1.2⟩
      · exact .inr ⟨g1, h1.2⟩
    clear h5 h6 hk4 HCl f0 f1' f2 b1 m0 m1' m2' m3 m4
    generalize hF' : (fun b => F b ∨ (W.heap.size ≤ b ∧ b < w4.heap.size)) = F' at HS4
    have HF1 : Hid (∀ b, F b → F' b) := hid fun b hb => by rw [← hF']; exact .inl hb
    have HrF : Hid (∀ b, (Value.slice a8 q.length c8).ownBlock = some b → F' b) := hid fun b hb => by rw [← hF']; exact Hrf.out b hb
    have HGF := hid HS1.out.gf
    clear hF' Hrf
    go_wp2
    go_loopw [31] (fun t31 wr => ∃ k : Nat, t31 = .int .i64 (k : Int) ∧ k ≤ q.length ∧ SolvAt wr G F' g ad P vr rs (.slice ah s.has.length ch) hs ((q.take k).foldl SV.edge s) ∧ Core P S ((q.take k).foldl SV.edge s) ∧ ((q.take k).foldl SV.edge s).Bnd P ∧ ERow w.heap.size wr (.slice a8 q.length c8) q ∧ Keep (fun b => ¬ F b) w wr) (fun t31 _ => q.length - (intOf t31).toNat)
    case atStart => exact ⟨0, rfl, Nat.zero_le _, HS4.out, HC.out, HB.out, H5.out, Hx4.out.keep _⟩
    case round =>
      obtain ⟨k, rfl, hk, hS, hC, hB, hR, hK⟩ := hrel
      have HR := hid hR
      have HK := hid hK
      by_cases hlt : k < q.length
      · obtain ⟨x, hqx⟩ : ∃ x, q[k]? = some x := ⟨_, List.getElem?_eq_getElem hlt⟩
        obtain ⟨g8, cp8, hge⟩ := own_some hR (by omega)
        simp only [Value.slice.injEq] at hge
        obtain ⟨rfl, -, rfl⟩ := hge
        obtain ⟨q0, q1⟩ := own_e2 hR hqx
        obtain ⟨k1, k2, k3⟩ := HSq.out x (List.mem_of_getElem? hqx)
        obtain ⟨wA, hwA⟩ : ∃ wA, wA = wr.alloc (.cells #[.int .i64 x.1, .int .i64 x.2] 127) := ⟨_, rfl⟩
        have hxA : Ext wr wA := by rw [hwA]; exact (Ext.refl _).alloc _
        have HxA := hid hxA
        have HE := hid (solveedge_any P S ((q.take k).foldl SV.edge s) x wA G F' g ad (hS.ext hxA) hC hB k1 k2)
        have Hn : Hid ((q.take (k + 1)).foldl SV.edge s = ((q.take k).foldl SV.edge s).edge x) := hid (by rw [List.take_add_one, hqx, List.foldl_append]; rfl)
        have HC2 := hid (hC.edgeTo ⟨k1, k2, k3⟩)
        have HB2 := hid (hB.edgeTo hC x)
        have HwA := hid hwA
        clear hS hC hB hR hK hqx k1 k2 k3 hxA hwA
        go_wp2_with fail
        rw [← HwA.out]
        refine HE.out.mono ?_
        intro z w5 hx
        obtain ⟨rfl, hS5, hK5⟩ := hx
        have HS5 := hid hS5
        have HK5 := hid hK5
        clear hS5 hK5 HE q0 q1
        go_wp2
        go_roundw
        case rel =>
          refine ⟨k + 1, by go_num, by omega, ?_, ?_, ?_, ?_, ?_⟩
          · rw [Hn.out]; exact HS5.out
          · rw [Hn.out]; exact HC2.out
          · rw [Hn.out]; exact HB2.out
          · exact row_keep (HR.out.ext HxA.out) HK5.out fun b hb hx => hx (HrF.out b hb)
          · exact (HK.out.ext_r HxA.out).trans (HK5.out.mono fun b _ hx hF => hx (HF1.out b hF))
        case measure => simp [intOf]; omega
      · obtain rfl : k = q.length := by omega
        rw [List.take_length] at hS
        have HSz := hid (hS.less HGF.out HF1.out)
        clear hS hC hB hR hK
        go_wp2
        refine bodyPost_ret (v := .tuple #[]) (results_none (by kernel_rfl) _ _ _) rfl ?_
        exact ⟨rfl, by rw [Hr.out]; exact HSz.out, HK.out⟩
  · have Hr : Hid (s.fire P r o = s) := hid (by
      unfold SV.fire
      rw [Hfr.out]
      unfold PP.callsOf
      rw [if_neg (by rw [← HFe.out]; exact hF0)]; rfl)
    go_wp2
    refine bodyPost_ret (v := .tuple #[]) (results_none (by kernel_rfl) _ _ _) rfl ?_
    exact ⟨rfl, by rw [Hr.out]; exact ⟨_, _, _, _, _, _, _, _, _, _, HS1.out⟩, (HX.out.trans Hx1.out).keep _⟩
/-- A rule is fired. -/
theorem solvefire_any (P : PP) (S : List (List Int)) (s : SV) (r : RV) (aa : Option Addr) (ca : Nat) (o : Int) (w : World) (G F : Nat → Prop) (g : Nat) (ad : Nat → Addr) {vr : Value} {rs : List R2} {vh : Value} {hs : List Value} (hS : SolvAt w G F g ad P vr rs vh hs s) (hC : Core P S s) (hB : s.Bnd P) (hg : P.GoodS S) (hc : ClosedP P S) (hr : r ∈ P.rulesV) (hf : r.fired = true) (ho : o ∈ S.getD r.pivot.toNat []) (h0 : 0 ≤ o ∧ o < P.objectsV) (ha : IntsF w F (.slice aa r.args.length ca) r.args) :
    Calls Tryz.prog 73 #[.pointer (some ⟨g, 0, none⟩), r.val (.slice aa r.args.length ca), .int .i64 o] w fun x w' => x = .returned (.tuple #[]) ∧ SolvAt w' G F g ad P vr rs vh hs (s.fire P r o) ∧ Keep (fun b => ¬ F b) w w' := by
  cases hk : (r.kind.toList == [99, 97, 108, 108]) with
  | true => exact solvefire_call P S s r aa ca o w G F g ad hS hC hB hg hc hr hf ho h0 ha hk
  | false =>
    by_cases hn : (P.nodesV : Int) ≤ o
    · exact solvefire_out P S s r aa ca o w G F g ad hS hC hB hg hc hr hf ho h0 ha hk hn
    · cases hl : (r.kind.toList == [108, 111, 97, 100]) with
      | true => exact solvefire_load P S s r aa ca o w G F g ad hS hC hB hg hc hr hf ho h0 ha hk hl hn
      | false => exact solvefire_store P S s r aa ca o w G F g ad hS hC hB hg hc hr hf ho h0 ha hk hl hn
end Go.Proofs.YtdppgcbekhabnaaGreatDoor



/- The solver: what is there already is let go; is it done? -/
namespace Go.Proofs.YtdppgcbekhabnaaGreatDoor
set_option linter.unusedSimpArgs false
set_option linter.unusedVariables false
open Go Go.RowKit

theorem wait_in {P : PP} {S : List (List Int)} {s : SV} (hg : P.GoodS S) (h : Core P S s) : ∀ f ∈ s.wait, (0 ≤ f.1 ∧ f.1 < P.nodesV) ∧ (0 ≤ f.2 ∧ f.2 < P.objectsV) := fun f hf => by
  have hfw := h.wait f hf
  have hlen := hg.2.1
  have hin : f.2 ∈ S.getD f.1.toNat [] := hfw.2
  rw [List.getD_eq_getElem?_getD, List.getElem?_eq_getElem (show f.1.toNat < S.length by omega)] at hin
  have hk := hg.ok.ok _ (List.getElem_mem (show f.1.toNat < S.length by omega))
  exact ⟨hfw.1, ((chkE_zero.1 hk.1).1 _ hin).1, hk.2 _ hin⟩
/-- How much is to come, out of memory. -/
def lenAt (w : World) (g : Nat) : Nat := match w.cell? ⟨g, 8, none⟩ with
  | some (.slice _ n _) => n
  | _ => 0
theorem lenAt_of {w : World} {G F : Nat → Prop} {g : Nat} {ad : Nat → Addr} {a1 a2 a3 : Option Addr} {c1 c2 c3 : Nat} {P : PP} {vr : Value} {rs : List R2} {vh : Value} {hs : List Value} {m1 m2 : Nat} {f1 : Int → Option Value} {vw : Value} {s : SV}
    (h : SolvB w G F g ad a1 a2 a3 c1 c2 c3 P vr rs vh hs m1 m2 f1 vw s) : lenAt w g = s.wait.length := by
  obtain ⟨a, c, rfl⟩ := h.wrow.form
  have := h.blk.av 8 rfl
  simp only [solvCells, List.getElem_toArray, List.getElem_cons_zero, List.getElem_cons_succ] at this
  unfold lenAt
  rw [this]
set_option maxRecDepth 100000 in
set_option maxHeartbeats 3200000 in
theorem solveclean_any (P : PP) (S : List (List Int)) (s : SV) (w : World) (G F : Nat → Prop) (g : Nat) (ad : Nat → Addr) {vr : Value} {rs : List R2} {vh : Value} {hs : List Value} (hS : SolvAt w G F g ad P vr rs vh hs s) (hC : Core P S s) (hg : P.GoodS S) :
    Calls Tryz.prog 51 #[.pointer (some ⟨g, 0, none⟩)] w fun x w' => x = .returned (.tuple #[]) ∧ SolvAt w' G F g ad P vr rs vh hs s.clean ∧ Keep (fun b => ¬ F b) w w' := by
  obtain ⟨a1, a2, a3, c1, c2, c3, m1, m2, f1, vw, h⟩ := hS
  have hw := h.pw.well
  obtain ⟨hn1, hn2⟩ := hw.nodes
  have HW := hid (wait_in hg hC)
  have HC := hid hC
  have Hlen := hid hC.len
  by_cases hno : P.nodesV = 0
  · -- no nodes: nothing is to come
    have hwe : s.wait = [] := by
      cases hq : s.wait with
      | nil => rfl
      | cons f r =>
        have := (HW.out f (by rw [hq]; exact List.mem_cons_self)).1
        rw [hno] at this
        omega
    have Hcl : Hid (s.clean = s) := hid (by unfold SV.clean; rw [hwe]; cases s; simp only at hwe; subst hwe; rfl)
    obtain ⟨aw, cw, rfl⟩ := h.wrow.form
    have HS := hid h
    have b8 := h.blk.kc (X := fun _ => False) (fun e => e) 8 rfl
    simp only [solvCells, List.getElem_toArray, List.getElem_cons_zero, List.getElem_cons_succ, hwe, List.length_nil] at b8
    clear h hC hg hno hwe
    generalize P.nodesV = NN at *
    generalize P.objectsV = OO at *
    go_enter Tryz.func51, Tryz.ntmps51
    go_wp2
    go_loopw [2] (fun _ wr => Ext w wr) (fun _ _ => 0)
    case atStart => exact Ext.refl _
    case round =>
      have Hx := hid hrel
      have b8' : ∀ w1, Keep (fun _ => False) wr w1 → w1.cell? ⟨g, 8, none⟩ = some (.slice aw 0 cw) := fun w1 k => b8 w1 ((Hx.out.trans k.ext).keep _)
      clear hrel b8
      go_wp2
      refine wp_flowT (fun _ => False) (by kernel_rfl) (by kernel_rfl) ?_
      repeat (apply FlowT.d; (intro w1 hk; unfold does; go_simp; (try go_ints); (first | exact DetR.mk | (simp only [↓IntWalk.iteOmega, Oper.doesUpon_value]; exact DetR.mk) | (simp only [↓IntWalk.iteOmega]; go_simp; (try go_ints); exact DetR.mk))); simp only [Act.put, List.setIfInBounds_toArray, List.set_cons_zero, List.set_cons_succ])
      refine FlowT.fin fun w4 hC4 hk4 => ?_
      have Hx4 := hid (Hx.out.trans hC4)
      clear hC4 hk4 b8'
      go_wp2
      go_end0
      exact ⟨rfl, by rw [Hcl.out]; exact ⟨_, _, _, _, _, _, _, _, _, _, HS.out.ext Hx4.out⟩, Hx4.out.keep _⟩
  obtain ⟨gh, ch, rfl⟩ := own_some h.hrow (by rw [hC.len]; omega)
  have HS := hid h
  have hsl : s.has.length ≤ 120 := by rw [hC.len]; exact hn1
  clear h hC hg
  go_enter Tryz.func51, Tryz.ntmps51
  go_wp2
  go_loopw [2] (fun _ wr => ∃ (vw : Value) (L : List (Int × Int)), L.dropWhile s.bit = s.wait.dropWhile s.bit ∧ (∀ f ∈ L, f ∈ s.wait) ∧ SolvB wr G F g ad a1 a2 a3 c1 c2 c3 P vr rs (.slice (some ⟨gh, 0, none⟩) s.has.length ch) hs m1 m2 f1 vw { s with wait := L } ∧ Keep (fun b => ¬ F b) w wr) (fun _ wr => lenAt wr g)
  case atStart => exact ⟨vw, s.wait, rfl, fun _ h => h, HS.out, Keep.refl _ _⟩
  case round =>
    obtain ⟨vw', L, hD, hM, hS8, hK8⟩ := hrel
    have HS8 := hid hS8
    have HK8 := hid hK8
    have HD := hid hD
    have HM := hid hM
    have Hm := hid (lenAt_of hS8)
    simp only at Hm
    clear hD hM hS8 hK8
    cases L with
    | nil =>
      obtain ⟨aw, cw, rfl⟩ := HS8.out.wrow.form
      have b8 := HS8.out.blk.kc (X := fun _ => False) (fun e => e) 8 rfl
      simp only [solvCells, List.getElem_toArray, List.getElem_cons_zero, List.getElem_cons_succ, List.length_nil] at b8
      have Hcl : Hid (s.clean = { s with wait := [] }) := hid (by unfold SV.clean; rw [← HD.out]; rfl)
      generalize P.nodesV = NN at *
      generalize P.objectsV = OO at *
      go_wp2
      refine wp_flowT (fun _ => False) (by kernel_rfl) (by kernel_rfl) ?_
      repeat (apply FlowT.d; (intro w1 hk; unfold does; go_simp; (try go_ints); (first | exact DetR.mk | (simp only [↓IntWalk.iteOmega, Oper.doesUpon_value]; exact DetR.mk) | (simp only [↓IntWalk.iteOmega]; go_simp; (try go_ints); exact DetR.mk))); simp only [Act.put, List.setIfInBounds_toArray, List.set_cons_zero, List.set_cons_succ])
      refine FlowT.fin fun w4 hC4 hk4 => ?_
      have Hx4 := hid hC4
      clear hC4 hk4 b8
      go_wp2
      go_end0
      exact ⟨rfl, by rw [Hcl.out]; exact ⟨_, _, _, _, _, _, _, _, _, _, HS8.out.ext Hx4.out⟩, HK8.out.ext_r Hx4.out⟩
    | cons f r =>
      have hIn := HW.out f (HM.out f List.mem_cons_self)
      obtain ⟨f1', f2'⟩ := f
      simp only at hIn
      have hk1 := hIn.1
      have hk2 := hIn.2
      obtain ⟨i, rfl⟩ := Int.eq_ofNat_of_zero_le hk1.1
      obtain ⟨j, rfl⟩ := Int.eq_ofNat_of_zero_le hk2.1
      have hin : i < P.nodesV := by omega
      have hjn : j < P.objectsV := by omega
      obtain ⟨vb, lb, hvb, hlb, hrb⟩ := HS8.out.hbag.at (i := i) (by simp only; rw [Hlen.out]; exact hin)
      have hll : lb.length = P.objectsV := HC.out.row lb (List.mem_of_getElem? hlb)
      unfold TrRow at hrb
      rw [hll] at hrb
      obtain ⟨gb, cb, rfl⟩ := own_some hrb (by omega)
      have hbit : s.bit ((i : Int), (j : Int)) = lb.getD j false := by
        unfold SV.bit
        simp only [Int.toNat_natCast]
        rw [show s.has.getD i [] = lb by rw [List.getD_eq_getElem?_getD]; simp only at hlb; rw [hlb]; rfl]
      obtain ⟨gq, off, cap, rfl, hcap⟩ := HS8.out.wrow.pos (by simp)
      have hq0 := HS8.out.wrow.get 0 (u := .int .i64 (i : Int)) rfl
      have hq1 := HS8.out.wrow.get 1 (u := .int .i64 (j : Int)) rfl
      simp only [Nat.add_zero] at hq0
      have q0 : ∀ w1, Keep (fun _ => False) wr w1 → w1.cell? ⟨gq, off, none⟩ = some (.int .i64 (i : Int)) := fun w1 k => k.ext.cellx hq0
      have q1 : ∀ w1, Keep (fun _ => False) wr w1 → w1.cell? ⟨gq, off + 1, none⟩ = some (.int .i64 (j : Int)) := fun w1 k => k.ext.cellx hq1
      have b8 := HS8.out.blk.kc (X := fun _ => False) (fun e => e) 8 rfl
      have b4 := HS8.out.blk.kc (X := fun _ => False) (fun e => e) 4 rfl
      simp only [solvCells, List.getElem_toArray, List.getElem_cons_zero, List.getElem_cons_succ, List.length_cons] at b8 b4
      have h4 : ∀ w1, Keep (fun _ => False) wr w1 → w1.cell? ⟨gh, i, none⟩ = some (.slice (some ⟨gb, 0, none⟩) P.objectsV cb) := fun w1 x => own_get (own_ext HS8.out.hrow x.ext) i hvb
      have h5 : ∀ w1, Keep (fun _ => False) wr w1 → w1.cell? ⟨gb, j, none⟩ = some (.bool (lb.getD j false)) := fun w1 x => own_get (own_ext hrb x.ext) j (trCells_at (by rw [hll]; exact hjn))
      have hcr : r.length + 1 ≤ cap := by
        rcases HS8.out.wrow.2 with ⟨hx, _⟩ | ⟨g', off', cap', cur, hx, _, _, hx4, _⟩
        · cases hx
        · simp only [Value.slice.injEq] at hx
          rw [hx.2.2]; exact hx4
      have hil : i < s.has.length := by rw [Hlen.out]; exact hin
      have Hcut := hid (HS8.out.cutWait (f := ((i : Int), (j : Int))) (l := r) rfl)
      have Hbit := hid hbit
      simp only [List.length_cons] at HS8 Hcut Hm
      clear hq0 hq1 hvb hlb hrb hll hbit hIn
      generalize lb.getD j false = bt at h5 Hbit
      generalize P.nodesV = NN at *
      generalize P.objectsV = OO at *
      cases bt with
      | false =>
        have Hcl : Hid (s.clean = { s with wait := ((i : Int), (j : Int)) :: r }) := hid (by unfold SV.clean; rw [← HD.out, List.dropWhile_cons, Hbit.out]; rfl)
        go_wp2
        refine wp_flowT (fun _ => False) (by kernel_rfl) (by kernel_rfl) ?_
        repeat (apply FlowT.d; (intro w1 hk; unfold does; go_simp; (try go_ints); (first | exact DetR.mk | (simp only [↓IntWalk.iteOmega, Oper.doesUpon_value]; exact DetR.mk) | (simp only [↓IntWalk.iteOmega]; go_simp; (try go_ints); exact DetR.mk))); simp only [Act.put, List.setIfInBounds_toArray, List.set_cons_zero, List.set_cons_succ])
        refine FlowT.fin fun w4 hC4 hk4 => ?_
        have Hx4 := hid hC4
        clear hC4 hk4 b8 b4 h4 h5 q0 q1
        go_wp2
        go_end0
        exact ⟨rfl, by rw [Hcl.out]; exact ⟨_, _, _, _, _, _, _, _, _, _, HS8.out.ext Hx4.out⟩, HK8.out.ext_r Hx4.out⟩
      | true =>
        have HD2 : Hid (r.dropWhile s.bit = s.wait.dropWhile s.bit) := hid (by rw [← HD.out, List.dropWhile_cons, Hbit.out]; rfl)
        have HM2 : Hid (∀ f ∈ r, f ∈ s.wait) := hid fun f hf => HM.out f (List.mem_cons_of_mem _ hf)
        by_cases hc1 : cap = 1
        · subst hc1
          obtain rfl : r = [] := List.eq_nil_of_length_eq_zero (by omega)
          go_wp2
          refine wp_flowT (fun _ => False) (by kernel_rfl) (by kernel_rfl) ?_
          repeat (apply FlowT.d; (intro w1 hk; unfold does; go_simp; (try go_ints); (first | exact DetR.mk | (simp only [↓IntWalk.iteOmega, Oper.doesUpon_value]; exact DetR.mk) | (simp only [↓IntWalk.iteOmega]; go_simp; (try go_ints); exact DetR.mk))); simp only [Act.put, List.setIfInBounds_toArray, List.set_cons_zero, List.set_cons_succ])
          refine FlowT.fin fun w4 hC4 hk4 => ?_
          have Hx4 := hid hC4
          have Hcut4 := hid (((HS8.out.ext hC4).cutWait (f := ((i : Int), (j : Int))) (l := []) rfl))
          have b8 := (HS8.out.blk.ext hC4).av 8 rfl
          have f8 := (HS8.out.blk.ext hC4).free 8
          simp only [solvCells, List.getElem_toArray, List.getElem_cons_zero, List.getElem_cons_succ, List.length_nil] at b8 Hcut4
          clear hC4 hk4 b4 h4 h5 q0 q1
          go_wp2
          go_roundw
          case rel => exact ⟨_, _, HD2.out, HM2.out, Hcut4.out, (HK8.out.ext_r Hx4.out).set HS8.out.fg _⟩
          case measure => exact Nat.lt_of_le_of_lt (Nat.le_of_eq (lenAt_of Hcut4.out)) (by rw [Hm.out]; simp)
        · go_wp2
          refine wp_flowT (fun _ => False) (by kernel_rfl) (by kernel_rfl) ?_
          repeat (apply FlowT.d; (intro w1 hk; unfold does; go_simp; (try go_ints); (first | exact DetR.mk | (simp only [↓IntWalk.iteOmega, Oper.doesUpon_value]; exact DetR.mk) | (simp only [↓IntWalk.iteOmega]; go_simp; (try go_ints); exact DetR.mk))); simp only [Act.put, List.setIfInBounds_toArray, List.set_cons_zero, List.set_cons_succ])
          refine FlowT.fin fun w4 hC4 hk4 => ?_
          have Hx4 := hid hC4
          have Hcut4 := hid (((HS8.out.ext hC4).cutWait (f := ((i : Int), (j : Int))) (l := r) rfl))
          have b8 := (HS8.out.blk.ext hC4).av 8 rfl
          have f8 := (HS8.out.blk.ext hC4).free 8
          simp only [solvCells, List.getElem_toArray, List.getElem_cons_zero, List.getElem_cons_succ, List.length_cons] at b8 Hcut4
          rw [if_neg hc1] at Hcut4
          simp only [Nat.add_sub_cancel] at Hcut4
          clear hC4 hk4 b4 h4 h5 q0 q1
          go_wp2
          go_roundw
          case rel => exact ⟨_, _, HD2.out, HM2.out, Hcut4.out, (HK8.out.ext_r Hx4.out).set HS8.out.fg _⟩
          case measure => exact Nat.lt_of_le_of_lt (Nat.le_of_eq (lenAt_of Hcut4.out)) (by rw [Hm.out]; simp)
end Go.Proofs.YtdppgcbekhabnaaGreatDoor

