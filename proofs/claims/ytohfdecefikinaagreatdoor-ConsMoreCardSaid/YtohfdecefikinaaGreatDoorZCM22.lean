/- Texts of one proof, put together: WE WF SP. -/
import Derived.Test.YtohfdecefikinaaGreatDoorZCM21
import Derived.Lib.SlicesCompact

/- Places and nodes of a program. -/
namespace Go.Proofs.YtohfdecefikinaaGreatDoor
set_option linter.unusedSimpArgs false
set_option linter.unusedVariables false
open Go Go.RowKit

def PP.newsN (P : PP) (k : Nat) : Nat := ((List.range k).filter P.isNew).length
theorem PP.newsN_succ (P : PP) (k : Nat) : P.newsN (k + 1) = P.newsN k + if P.isNew k then 1 else 0 := by
  unfold PP.newsN
  rw [List.range_succ, List.filter_append, List.length_append]
  congr 1
  by_cases h : P.isNew k <;> simp [h]
theorem PP.newsN_le (P : PP) (k : Nat) : P.newsN k ≤ k := by
  unfold PP.newsN
  have := List.length_filter_le P.isNew (List.range k)
  simpa using this
def PP.nodesV (P : PP) : Nat := P.vars.length + P.newsN P.stmts.length
def PP.placeV (P : PP) (k : Int) : Int := if 0 ≤ k ∧ k < P.stmts.length ∧ P.isNew k.toNat = true then ((P.vars.length + P.newsN k.toNat : Nat) : Int) else -1
theorem isNew_at {P : PP} {k : Nat} {x : PS} (h : P.stmts[k]? = some x) : P.isNew k = x.isK kNew := by unfold PP.isNew; rw [h]

set_option maxRecDepth 100000 in
set_option maxHeartbeats 3200000 in
theorem rnodesof_any (a1 a2 a3 : Option Addr) (c1 c2 c3 : Nat) (P : PP) (w : World) (n0 : Nat) (h : ProgR w n0 (.slice a1 P.vars.length c1) (.slice a2 P.funs.length c2) (.slice a3 P.stmts.length c3) P) (hv : P.vars.length ≤ 1000) (hs : P.stmts.length ≤ 1000) :
    Calls Tryz.prog 34 #[pval a1 a2 a3 c1 c2 c3 P] w fun e w' => e = .returned (.int .i64 (P.nodesV : Int)) ∧ Ext w w' := by
  have HP0 := hid h
  have hml1 : (P.vars.length : Int) ≤ 1000 := by omega
  obtain ⟨W, hW⟩ : ∃ W, W = w.alloc (.cells (pcells a1 a2 a3 c1 c2 c3 P) 26) := ⟨_, rfl⟩
  have HX : Hid (Ext w W) := hid (by rw [hW]; exact (Ext.refl _).alloc _)
  have hB : Blk W w.heap.size (pcells a1 a2 a3 c1 c2 c3 P) 26 := by rw [hW]; exact Blk.new _ _ _
  have HP := hid (h.ext HX.out)
  have d0 := hB.av 0 rfl
  have d2 := hB.av 2 rfl
  simp only [pcells, List.getElem_toArray, List.getElem_cons_zero, List.getElem_cons_succ] at d0 d2
  unfold pcells at hW
  have HWe := hid hW
  unfold pval
  clear hW hB h
  go_enter Tryz.func34, Tryz.ntmps34
  go_wp2
  rw [← HWe.out]
  go_loop [3, 4] (fun tn ti => ∃ k : Nat, ti = .int .i64 (k : Int) ∧ k ≤ P.stmts.length ∧ tn = .int .i64 ((P.vars.length + P.newsN k : Nat) : Int)) (fun _ ti => P.stmts.length - (intOf ti).toNat)
  case atStart => exact ⟨0, rfl, Nat.zero_le _, rfl⟩
  case round =>
    obtain ⟨k, rfl, hk, rfl⟩ := hrel
    have Hle := hid (P.newsN_le k)
    have Hsu := hid (P.newsN_succ k)
    by_cases hlt : k < P.stmts.length
    · obtain ⟨yk, x, av, cv, hyk, hxk, e0, e1, e2, e3, _⟩ := HP.out.stmts.at (show k < P.stmts.length by omega)
      first | subst hyk | (obtain rfl := Option.some.inj hyk)
      have hnw := isNew_at hxk
      have hcn : ((P.vars.length + P.newsN k : Nat) : Int) ≤ 100000 := by have := Hle.out; omega
      cases hb : (x.kind.toList == [110, 101, 119]) with
      | true =>
        have Hn2 := hid (show P.newsN (k + 1) = P.newsN k + 1 by rw [Hsu.out, hnw.trans hb]; rfl)
        clear hxk hnw
        generalize P.newsN k = m at *
        go_wp2
        refine ⟨⟨k + 1, by go_num, by omega, ?_⟩, by simp [intOf]; omega⟩
        rw [Hn2.out]
        go_num
      | false =>
        have Hn2 := hid (show P.newsN (k + 1) = P.newsN k by rw [Hsu.out, hnw.trans hb]; rfl)
        clear hxk hnw
        go_wp2
        refine ⟨⟨k + 1, by go_num, by omega, ?_⟩, by simp [intOf]; omega⟩
        rw [Hn2.out]
    · obtain rfl : k = P.stmts.length := by omega
      go_wp2
      go_ret
      exact ⟨rfl, HX.out⟩
set_option maxRecDepth 100000 in
set_option maxHeartbeats 3200000 in
theorem rplaceof_any (a1 a2 a3 : Option Addr) (c1 c2 c3 : Nat) (P : PP) (p : Int) (w : World) (n0 : Nat) (h : ProgR w n0 (.slice a1 P.vars.length c1) (.slice a2 P.funs.length c2) (.slice a3 P.stmts.length c3) P) (hv : P.vars.length ≤ 1000) (hs : P.stmts.length ≤ 1000) :
    Calls Tryz.prog 33 #[pval a1 a2 a3 c1 c2 c3 P, .int .i64 p] w fun e w' => e = .returned (.int .i64 (P.placeV p)) ∧ Ext w w' := by
  have HP0 := hid h
  have hml1 : (P.vars.length : Int) ≤ 1000 := by omega
  obtain ⟨W, hW⟩ : ∃ W, W = w.alloc (.cells (pcells a1 a2 a3 c1 c2 c3 P) 26) := ⟨_, rfl⟩
  have HX : Hid (Ext w W) := hid (by rw [hW]; exact (Ext.refl _).alloc _)
  have hB : Blk W w.heap.size (pcells a1 a2 a3 c1 c2 c3 P) 26 := by rw [hW]; exact Blk.new _ _ _
  have HP := hid (h.ext HX.out)
  have d0 := hB.av 0 rfl
  have d2 := hB.av 2 rfl
  simp only [pcells, List.getElem_toArray, List.getElem_cons_zero, List.getElem_cons_succ] at d0 d2
  unfold pcells at hW
  have HWe := hid hW
  unfold pval
  clear hW hB h
  go_enter Tryz.func33, Tryz.ntmps33
  by_cases h1 : p < 0
  · have Hr := hid (show P.placeV p = -1 by unfold PP.placeV; rw [if_neg (by omega)])
    go_wp2
    go_ret
    exact ⟨by rw [Hr.out]; rfl, (Ext.refl w).alloc _⟩
  · obtain ⟨K, rfl⟩ := Int.eq_ofNat_of_zero_le (show 0 ≤ p by omega)
    by_cases h2 : K < P.stmts.length
    · obtain ⟨y, x, av, cv, rfl, hxk, e0, e1, e2, e3, _⟩ := HP.out.stmts.at h2
      have hnw := isNew_at hxk
      cases hb : (x.kind.toList == [110, 101, 119]) with
      | true =>
        have Hr := hid (show P.placeV (K : Int) = ((P.vars.length + P.newsN K : Nat) : Int) by unfold PP.placeV; rw [if_pos ⟨by omega, by omega, by rw [Int.toNat_natCast]; exact hnw.trans hb⟩, Int.toNat_natCast])
        rw [Hr.out]
        rw [HWe.out] at e0
        clear hnw hxk e1 e2 e3
        go_wp2
        rw [← HWe.out]
        clear e0 hb
        go_loop [5, 6] (fun tn ti => ∃ k : Nat, ti = .int .i64 (k : Int) ∧ k ≤ K ∧ tn = .int .i64 ((P.vars.length + P.newsN k : Nat) : Int)) (fun _ ti => K - (intOf ti).toNat)
        case atStart => exact ⟨0, rfl, Nat.zero_le _, rfl⟩
        case round =>
          obtain ⟨k, rfl, hk, rfl⟩ := hrel
          have Hle := hid (P.newsN_le k)
          have Hsu := hid (P.newsN_succ k)
          by_cases hlt : k < K
          · obtain ⟨yk, x, av, cv, hyk, hxk, e0, e1, e2, e3, _⟩ := HP.out.stmts.at (show k < P.stmts.length by omega)
            first | subst hyk | (obtain rfl := Option.some.inj hyk)
            have hnw := isNew_at hxk
            have hcn : ((P.vars.length + P.newsN k : Nat) : Int) ≤ 100000 := by have := Hle.out; omega
            cases hb : (x.kind.toList == [110, 101, 119]) with
            | true =>
              have Hn2 := hid (show P.newsN (k + 1) = P.newsN k + 1 by rw [Hsu.out, hnw.trans hb]; rfl)
              clear hxk hnw
              generalize P.newsN k = m at *
              go_wp2
              refine ⟨⟨k + 1, by go_num, by omega, ?_⟩, by simp [intOf]; omega⟩
              rw [Hn2.out]
              go_num
            | false =>
              have Hn2 := hid (show P.newsN (k + 1) = P.newsN k by rw [Hsu.out, hnw.trans hb]; rfl)
              clear hxk hnw
              go_wp2
              refine ⟨⟨k + 1, by go_num, by omega, ?_⟩, by simp [intOf]; omega⟩
              rw [Hn2.out]
          · obtain rfl : k = K := by omega
            go_wp2
            go_ret
            exact ⟨rfl, HX.out⟩
      | false =>
        have Hr := hid (show P.placeV (K : Int) = -1 by unfold PP.placeV; rw [if_neg (by rw [Int.toNat_natCast, show P.isNew K = false from hnw.trans hb]; simp)])
        rw [HWe.out] at e0
        clear hnw hxk e1 e2 e3
        go_wp2
        go_ret
        exact ⟨by rw [Hr.out]; rfl, (Ext.refl w).alloc _⟩
    · have Hr := hid (show P.placeV (K : Int) = -1 by unfold PP.placeV; rw [if_neg (by omega)])
      go_wp2
      go_ret
      exact ⟨by rw [Hr.out]; rfl, (Ext.refl w).alloc _⟩
end Go.Proofs.YtohfdecefikinaaGreatDoor


/- prog.Place and prog.Nodes. -/
namespace Go.Proofs.YtohfdecefikinaaGreatDoor
set_option linter.unusedSimpArgs false
set_option linter.unusedVariables false
open Go Go.RowKit

set_option maxRecDepth 100000 in
set_option maxHeartbeats 3200000 in
theorem prognodes2_any (a1 a2 a3 : Option Addr) (c1 c2 c3 : Nat) (P : PP) (w : World) (n0 : Nat) (h : ProgR w n0 (.slice a1 P.vars.length c1) (.slice a2 P.funs.length c2) (.slice a3 P.stmts.length c3) P) (hv : P.vars.length ≤ 1000) (hs : P.stmts.length ≤ 1000) :
    Calls Tryz.prog 50 #[pval a1 a2 a3 c1 c2 c3 P] w fun e w' => e = .returned (.int .i64 (P.nodesV : Int)) ∧ Ext w w' := by
  have HP0 := hid h
  have hml1 : (P.vars.length : Int) ≤ 1000 := by omega
  obtain ⟨W, hW⟩ : ∃ W, W = w.alloc (.cells (pcells a1 a2 a3 c1 c2 c3 P) 26) := ⟨_, rfl⟩
  have HX : Hid (Ext w W) := hid (by rw [hW]; exact (Ext.refl _).alloc _)
  have hB : Blk W w.heap.size (pcells a1 a2 a3 c1 c2 c3 P) 26 := by rw [hW]; exact Blk.new _ _ _
  have HP := hid (h.ext HX.out)
  have d0 := hB.av 0 rfl
  have d2 := hB.av 2 rfl
  simp only [pcells, List.getElem_toArray, List.getElem_cons_zero, List.getElem_cons_succ] at d0 d2
  unfold pcells at hW
  have HWe := hid hW
  unfold pval
  clear hW hB h
  go_enter Tryz.func50, Tryz.ntmps50
  go_wp2
  rw [← HWe.out]
  go_loopw [3, 12] (fun tn ti wr => ∃ k : Nat, ti = .int .i64 (k : Int) ∧ k ≤ P.stmts.length ∧ tn = .int .i64 ((P.vars.length + P.newsN k : Nat) : Int) ∧ Ext W wr) (fun _ ti _ => P.stmts.length - (intOf ti).toNat)
  case atStart => exact ⟨0, rfl, Nat.zero_le _, rfl, Ext.refl _⟩
  case round =>
    obtain ⟨k, rfl, hk, rfl, hx⟩ := hrel
    have Hx := hid hx
    clear hx
    have Hle := hid (P.newsN_le k)
    have Hsu := hid (P.newsN_succ k)
    by_cases hlt : k < P.stmts.length
    · obtain ⟨yk, x, av, cv, hyk, hxk, e0, e1, e2, e3, _⟩ := (HP0.out.ext ((HX).out.trans Hx.out)).stmts.at (show k < P.stmts.length by omega)
      first | subst hyk | (obtain rfl := Option.some.inj hyk)
      have hnw := isNew_at hxk
      have hcn : ((P.vars.length + P.newsN k : Nat) : Int) ≤ 100000 := by have := Hle.out; omega
      cases hb : (x.kind.toList == [110, 101, 119]) with
      | true =>
        have Hn2 := hid (show P.newsN (k + 1) = P.newsN k + 1 by rw [Hsu.out, hnw.trans hb]; rfl)
        clear hxk hnw
        generalize P.newsN k = m at *
        go_wp2
        go_roundw
        case rel => exact ⟨k + 1, by go_num, by omega, by rw [Hn2.out]; go_num, Hx.out.alloc _⟩
        case measure => simp [intOf]; omega
      | false =>
        have Hn2 := hid (show P.newsN (k + 1) = P.newsN k by rw [Hsu.out, hnw.trans hb]; rfl)
        clear hxk hnw
        go_wp2
        go_roundw
        case rel => exact ⟨k + 1, by go_num, by omega, by rw [Hn2.out], Hx.out.alloc _⟩
        case measure => simp [intOf]; omega
    · obtain rfl : k = P.stmts.length := by omega
      go_wp2
      go_ret
      exact ⟨rfl, HX.out.trans Hx.out⟩
/-- A program that is well. -/
def PP.Well (P : PP) : Prop := P.err1 = 0 ∧ P.allWell
theorem PP.Well.few {P : PP} (h : P.Well) : P.vars.length ≤ 40 ∧ P.funs.length ≤ 6 ∧ P.stmts.length ≤ 80 := by
  have h1 := h.1
  unfold PP.err1 at h1
  cases hb : P.big with
  | true => rw [hb] at h1; simp at h1
  | false => unfold PP.big at hb; simp at hb; omega
theorem check_well {a1 a2 a3 : Option Addr} {c1 c2 c3 : Nat} {P : PP} {w : World} {n0 : Nat} {ad : Nat → Addr} (hE : ErrsP w ad) (h : ProgR w n0 (.slice a1 P.vars.length c1) (.slice a2 P.funs.length c2) (.slice a3 P.stmts.length c3) P)
    (hz1 : ∀ s ∈ P.vars, s.size ≤ 1000000) (hz2 : ∀ s ∈ P.names, s.size ≤ 1000000) (hw : P.Well) :
    Calls Tryz.prog 30 #[pval a1 a2 a3 c1 c2 c3 P] w fun e w' => e = .returned .nilIface ∧ Ext w w' := by
  have hml : (P.vars.length : Int) ≤ 9223372036854775807 := by have := hw.few; omega
  refine (pcheck_any a1 a2 a3 c1 c2 c3 P w n0 ad hE h hz1 hz2 hml).mono fun e w' ⟨v, he, hi, hx⟩ => ⟨?_, hx⟩
  rcases hi.form with ⟨rfl, _⟩ | ⟨_, hn⟩
  · exact he
  · exact absurd hw hn
set_option maxRecDepth 100000 in
set_option maxHeartbeats 3200000 in
theorem prognodes_any (a1 a2 a3 : Option Addr) (c1 c2 c3 : Nat) (P : PP) (w : World) (n0 : Nat) (ad : Nat → Addr) (hE : ErrsP w ad) (h : ProgR w n0 (.slice a1 P.vars.length c1) (.slice a2 P.funs.length c2) (.slice a3 P.stmts.length c3) P)
    (hz1 : ∀ s ∈ P.vars, s.size ≤ 1000000) (hz2 : ∀ s ∈ P.names, s.size ≤ 1000000) (hw : P.Well) :
    Calls Tryz.prog 60 #[pval a1 a2 a3 c1 c2 c3 P] w fun e w' => e = .returned (.int .i64 (P.nodesV : Int)) ∧ Ext w w' := by
  have HP00 := hid h
  have hv := hw.few
  obtain ⟨hv1, hv2, hv3⟩ := hv
  have hv : P.vars.length ≤ 1000 := by omega
  have hs : P.stmts.length ≤ 1000 := by omega
  have HP0 := hid h
  have hml1 : (P.vars.length : Int) ≤ 1000 := by omega
  obtain ⟨W, hW⟩ : ∃ W, W = w.alloc (.cells (pcells a1 a2 a3 c1 c2 c3 P) 26) := ⟨_, rfl⟩
  have HX : Hid (Ext w W) := hid (by rw [hW]; exact (Ext.refl _).alloc _)
  have hB : Blk W w.heap.size (pcells a1 a2 a3 c1 c2 c3 P) 26 := by rw [hW]; exact Blk.new _ _ _
  have HP := hid (h.ext HX.out)
  have d0 := hB.av 0 rfl
  have d2 := hB.av 2 rfl
  simp only [pcells, List.getElem_toArray, List.getElem_cons_zero, List.getElem_cons_succ] at d0 d2
  unfold pcells at hW
  have HWe := hid hW
  unfold pval
  clear hW hB h
  have HK := hid (check_well (hE.ext HX.out) HP.out hz1 hz2 hw)
  unfold pval at HK
  have HBx := hid (show Blk W w.heap.size (pcells a1 a2 a3 c1 c2 c3 P) 26 by rw [HWe.out]; exact Blk.new _ _ _)
  have HN := fun w1 (x : Ext w w1) => hid (prognodes2_any a1 a2 a3 c1 c2 c3 P w1 n0 (HP0.out.ext x) hv hs)
  unfold pval at HN
  clear d0 d2
  go_enter Tryz.func60, Tryz.ntmps60
  go_wp2_with fail
  rw [← HWe.out]
  refine HK.out.mono ?_
  intro e w1 hx
  obtain ⟨rfl, hx1⟩ := hx
  have HX1 := hid (HX.out.trans hx1)
  have d0 := (HBx.out.ext hx1).av 0 rfl
  have d1 := (HBx.out.ext hx1).av 1 rfl
  have d2 := (HBx.out.ext hx1).av 2 rfl
  simp only [pcells, List.getElem_toArray, List.getElem_cons_zero, List.getElem_cons_succ] at d0 d1 d2
  clear HK hx1
  go_wp2_with fail
  refine (HN w1 HX1.out).out.mono ?_
  intro e w2 hx
  obtain ⟨rfl, hx2⟩ := hx
  clear HN d0 d1 d2
  go_wp2
  go_ret
  exact ⟨rfl, HX1.out.trans hx2⟩
set_option maxRecDepth 100000 in
set_option maxHeartbeats 3200000 in
theorem progplace_any (a1 a2 a3 : Option Addr) (c1 c2 c3 : Nat) (P : PP) (p : Int) (w : World) (n0 : Nat) (ad : Nat → Addr) (hE : ErrsP w ad) (h : ProgR w n0 (.slice a1 P.vars.length c1) (.slice a2 P.funs.length c2) (.slice a3 P.stmts.length c3) P)
    (hz1 : ∀ s ∈ P.vars, s.size ≤ 1000000) (hz2 : ∀ s ∈ P.names, s.size ≤ 1000000) (hw : P.Well) :
    Calls Tryz.prog 59 #[pval a1 a2 a3 c1 c2 c3 P, .int .i64 p] w fun e w' => e = .returned (.int .i64 (P.placeV p)) ∧ Ext w w' := by
  have hc3 : P.stmts.length ≤ c3 := by
    obtain ⟨_, _, e, h2, _⟩ := h.stmts
    simp only [Value.slice.injEq] at e
    obtain ⟨_, _, rfl⟩ := e
    exact h2
  have HP00 := hid h
  have hv := hw.few
  obtain ⟨hv1, hv2, hv3⟩ := hv
  have hv : P.vars.length ≤ 1000 := by omega
  have hs : P.stmts.length ≤ 1000 := by omega
  have HP0 := hid h
  have hml1 : (P.vars.length : Int) ≤ 1000 := by omega
  obtain ⟨W, hW⟩ : ∃ W, W = w.alloc (.cells (pcells a1 a2 a3 c1 c2 c3 P) 26) := ⟨_, rfl⟩
  have HX : Hid (Ext w W) := hid (by rw [hW]; exact (Ext.refl _).alloc _)
  have hB : Blk W w.heap.size (pcells a1 a2 a3 c1 c2 c3 P) 26 := by rw [hW]; exact Blk.new _ _ _
  have HP := hid (h.ext HX.out)
  have d0 := hB.av 0 rfl
  have d2 := hB.av 2 rfl
  simp only [pcells, List.getElem_toArray, List.getElem_cons_zero, List.getElem_cons_succ] at d0 d2
  unfold pcells at hW
  have HWe := hid hW
  unfold pval
  clear hW hB h
  have HK := hid (check_well (hE.ext HX.out) HP.out hz1 hz2 hw)
  unfold pval at HK
  have HBx := hid (show Blk W w.heap.size (pcells a1 a2 a3 c1 c2 c3 P) 26 by rw [HWe.out]; exact Blk.new _ _ _)
  clear d0 d2
  go_enter Tryz.func59, Tryz.ntmps59
  go_wp2_with fail
  rw [← HWe.out]
  refine HK.out.mono ?_
  intro e w1 hx
  obtain ⟨rfl, hx1⟩ := hx
  have HX1 := hid (HX.out.trans hx1)
  have d0 := (HBx.out.ext hx1).av 0 rfl
  have d1 := (HBx.out.ext hx1).av 1 rfl
  have d2 := (HBx.out.ext hx1).av 2 rfl
  simp only [pcells, List.getElem_toArray, List.getElem_cons_zero, List.getElem_cons_succ] at d0 d1 d2
  clear HK hx1
  by_cases h1 : p < 0
  · have Hr := hid (show PP.placeV P p = -1 by unfold PP.placeV; rw [if_neg (by omega)])
    go_wp2
    go_ret
    exact ⟨by rw [Hr.out]; rfl, HX1.out⟩
  · obtain ⟨K, rfl⟩ := Int.eq_ofNat_of_zero_le (show 0 ≤ p by omega)
    by_cases h2 : K < P.stmts.length
    · obtain ⟨y, x, av, cv, rfl, hxk, e0, e1, e2, e3, _⟩ := (HP0.out.ext HX1.out).stmts.at h2
      have hnw := isNew_at hxk
      have hKc : K ≤ c3 := by omega
      cases hb : (x.kind.toList == [110, 101, 119]) with
      | true =>
        have Hr := hid (show P.placeV (K : Int) = ((P.vars.length + P.newsN K : Nat) : Int) by unfold PP.placeV; rw [if_pos ⟨by omega, by omega, by rw [Int.toNat_natCast]; exact hnw.trans hb⟩, Int.toNat_natCast])
        clear hnw hxk e1 e2 e3
        go_wp2
        clear e0 hb
        go_loopw [5, 39] (fun tn ti wr => ∃ k : Nat, ti = .int .i64 (k : Int) ∧ k ≤ K ∧ tn = .int .i64 ((P.vars.length + P.newsN k : Nat) : Int) ∧ Ext w1 wr) (fun _ ti _ => K - (intOf ti).toNat)
        case atStart => exact ⟨0, rfl, Nat.zero_le _, rfl, Ext.refl _⟩
        case round =>
          obtain ⟨k, rfl, hk, rfl, hx⟩ := hrel
          have Hx := hid hx
          clear hx
          have Hle := hid (P.newsN_le k)
          have Hsu := hid (P.newsN_succ k)
          by_cases hlt : k < K
          · obtain ⟨yk, x, av, cv, hyk, hxk, e0, e1, e2, e3, _⟩ := (HP0.out.ext ((HX1).out.trans Hx.out)).stmts.at (show k < P.stmts.length by omega)
            first | subst hyk | (obtain rfl := Option.some.inj hyk)
            have hnw := isNew_at hxk
            have hcn : ((P.vars.length + P.newsN k : Nat) : Int) ≤ 100000 := by have := Hle.out; omega
            cases hb : (x.kind.toList == [110, 101, 119]) with
            | true =>
              have Hn2 := hid (show P.newsN (k + 1) = P.newsN k + 1 by rw [Hsu.out, hnw.trans hb]; rfl)
              clear hxk hnw
              generalize P.newsN k = m at *
              go_wp2
              go_roundw
              case rel => exact ⟨k + 1, by go_num, by omega, by rw [Hn2.out]; go_num, Hx.out.alloc _⟩
              case measure => simp [intOf]; omega
            | false =>
              have Hn2 := hid (show P.newsN (k + 1) = P.newsN k by rw [Hsu.out, hnw.trans hb]; rfl)
              clear hxk hnw
              go_wp2
              go_roundw
              case rel => exact ⟨k + 1, by go_num, by omega, by rw [Hn2.out], Hx.out.alloc _⟩
              case measure => simp [intOf]; omega
          · obtain rfl : k = K := by omega
            go_wp2
            go_ret
            exact ⟨by rw [Hr.out]; rfl, HX1.out.trans Hx.out⟩
      | false =>
        have hno : ¬ (0 ≤ (K : Int) ∧ (K : Int) < P.stmts.length ∧ P.isNew (K : Int).toNat = true) := by rw [Int.toNat_natCast, show P.isNew K = false from hnw.trans hb]; simp
        have Hno := hid hno
        clear hno hnw hxk e1 e2 e3
        have Hr := hid (show PP.placeV P (K : Int) = -1 by unfold PP.placeV; rw [if_neg (Hno.out)])
        go_wp2
        go_ret
        exact ⟨by rw [Hr.out]; rfl, HX1.out⟩
    · have Hr := hid (show PP.placeV P (K : Int) = -1 by unfold PP.placeV; rw [if_neg (by omega)])
      go_wp2
      go_ret
      exact ⟨by rw [Hr.out]; rfl, HX1.out⟩
end Go.Proofs.YtohfdecefikinaaGreatDoor


/- Sets, plainly: numbers that rise. -/
namespace Go.Proofs.YtohfdecefikinaaGreatDoor
set_option linter.unusedSimpArgs false
set_option linter.unusedVariables false

/-- All of a list are from 0 to below 1000. -/
def InR (l : List Int) : Prop := ∀ x ∈ l, 0 ≤ x ∧ x < 1000
/-- A list that rises. -/
abbrev Srt (l : List Int) : Prop := l.Pairwise (· < ·)
/-- The set of a list's numbers. -/
def sset (l : List Int) : List Int := (((List.range 1000).filter fun n : Nat => decide ((n : Int) ∈ l)) : List Nat).map fun n : Nat => (n : Int)
/-- What a set's check tells: 0, or an error's number. -/
def chkE (l : List Int) : Nat := if l.all (fun x => decide (0 ≤ x ∧ x < 1000)) then (if decide (Srt l) then 0 else 10) else 2

theorem Srt.tail {x : Int} {l : List Int} (h : Srt (x :: l)) : Srt l := (List.pairwise_cons.1 h).2
theorem Srt.head {x : Int} {l : List Int} (h : Srt (x :: l)) : ∀ y ∈ l, x < y := (List.pairwise_cons.1 h).1
theorem srt_uniq : ∀ {a b : List Int}, Srt a → Srt b → (∀ x, x ∈ a ↔ x ∈ b) → a = b
  | [], [], _, _, _ => rfl
  | [], y :: b, _, _, h => absurd ((h y).2 (List.mem_cons_self ..)) (List.not_mem_nil)
  | x :: a, [], _, _, h => absurd ((h x).1 (List.mem_cons_self ..)) (List.not_mem_nil)
  | x :: a, y :: b, ha, hb, h => by
    have hxy : x = y := by
      have h1 : x ∈ y :: b := (h x).1 (List.mem_cons_self ..)
      have h2 : y ∈ x :: a := (h y).2 (List.mem_cons_self ..)
      rcases List.mem_cons.1 h1 with e | e
      · exact e
      · rcases List.mem_cons.1 h2 with f | f
        · exact f.symm
        · have := hb.head x e; have := ha.head y f; omega
    subst hxy
    congr 1
    refine srt_uniq ha.tail hb.tail fun z => ⟨fun hz => ?_, fun hz => ?_⟩
    · rcases List.mem_cons.1 ((h z).1 (List.mem_cons_of_mem _ hz)) with e | e
      · have := ha.head z hz; omega
      · exact e
    · rcases List.mem_cons.1 ((h z).2 (List.mem_cons_of_mem _ hz)) with e | e
      · have := hb.head z hz; omega
      · exact e
theorem range_srt (n : Nat) : ((List.range n).map fun k : Nat => (k : Int)).Pairwise (· < ·) := by
  rw [List.pairwise_map]
  refine List.Pairwise.imp (fun h => by omega) (List.pairwise_lt_range (n := n))
theorem sset_srt (l : List Int) : Srt (sset l) := by
  unfold sset Srt
  rw [List.pairwise_map]
  refine List.Pairwise.imp (R := (· < ·)) (fun h => by omega) ?_
  exact List.Pairwise.sublist List.filter_sublist (List.pairwise_lt_range (n := 1000))
theorem mem_sset0 {l : List Int} {x : Int} : x ∈ sset l ↔ x ∈ l ∧ 0 ≤ x ∧ x < 1000 := by
  unfold sset
  rw [List.mem_map]
  constructor
  · rintro ⟨n, hn, rfl⟩
    obtain ⟨h1, h2⟩ := List.mem_filter.1 hn
    have := List.mem_range.1 h1
    exact ⟨of_decide_eq_true h2, by omega, by omega⟩
  · rintro ⟨h, h0, h1⟩
    refine ⟨x.toNat, List.mem_filter.2 ⟨List.mem_range.2 (by omega), ?_⟩, by omega⟩
    rw [Int.toNat_of_nonneg h0]
    exact decide_eq_true h
theorem mem_sset {l : List Int} (hl : InR l) {x : Int} : x ∈ sset l ↔ x ∈ l := ⟨fun h => (mem_sset0.1 h).1, fun h => mem_sset0.2 ⟨h, hl x h⟩⟩
theorem sset_in (l : List Int) : InR (sset l) := fun _ h => (mem_sset0.1 h).2
theorem InR.app {a b : List Int} (ha : InR a) (hb : InR b) : InR (a ++ b) := fun x h => (List.mem_append.1 h).elim (ha x) (hb x)
theorem InR.filter {a : List Int} (ha : InR a) (p : Int → Bool) : InR (a.filter p) := fun x h => ha x (List.mem_filter.1 h).1
theorem Srt.filter {a : List Int} (ha : Srt a) (p : Int → Bool) : Srt (a.filter p) := List.Pairwise.sublist List.filter_sublist ha
theorem sset_self {l : List Int} (h : Srt l) (hl : InR l) : sset l = l := srt_uniq (sset_srt l) h fun _ => mem_sset hl
theorem chkE_zero {l : List Int} : chkE l = 0 ↔ InR l ∧ Srt l := by
  unfold chkE
  by_cases h1 : l.all (fun x => decide (0 ≤ x ∧ x < 1000)) = true
  · rw [if_pos h1]
    have hin : InR l := fun x hx => of_decide_eq_true (List.all_eq_true.1 h1 x hx)
    by_cases h2 : Srt l
    · rw [decide_eq_true h2, if_pos rfl]; exact ⟨fun _ => ⟨hin, h2⟩, fun _ => rfl⟩
    · rw [decide_eq_false h2, if_neg (by decide)]; exact ⟨fun h => absurd h (by decide), fun h => absurd h.2 h2⟩
  · rw [if_neg h1]
    exact ⟨fun h => absurd h (by decide), fun h => absurd (List.all_eq_true.2 fun x hx => decide_eq_true (h.1 x hx)) h1⟩
theorem chkE_sset (l : List Int) : chkE (sset l) = 0 := chkE_zero.2 ⟨sset_in l, sset_srt l⟩

/-- What rises from place to place rises. -/
theorem srt_adj : ∀ {l : List Int}, (∀ k, k + 1 < l.length → l.getD k 0 < l.getD (k + 1) 0) → Srt l
  | [], _ => List.Pairwise.nil
  | [x], _ => List.pairwise_singleton _ _
  | x :: y :: l, h => by
    have ht : Srt (y :: l) := srt_adj fun k hk => by
      have := h (k + 1) (by simpa using hk)
      simpa using this
    have hxy : x < y := by simpa using h 0 (by simp)
    refine List.pairwise_cons.2 ⟨fun z hz => ?_, ht⟩
    rcases List.mem_cons.1 hz with rfl | hz
    · exact hxy
    · have := ht.head z hz; omega
theorem adj_srt {l : List Int} (h : Srt l) (k : Nat) (hk : k + 1 < l.length) : l.getD k 0 < l.getD (k + 1) 0 := by
  rw [List.getD_eq_getElem?_getD, List.getD_eq_getElem?_getD, List.getElem?_eq_getElem (by omega), List.getElem?_eq_getElem hk]
  exact List.pairwise_iff_getElem.1 h k (k + 1) (by omega) hk (by omega)
theorem chkE_two {l : List Int} {x : Int} (hx : x ∈ l) (h : ¬ (0 ≤ x ∧ x < 1000)) : chkE l = 2 := by
  unfold chkE
  rw [if_neg]
  intro ha
  exact h (of_decide_eq_true (List.all_eq_true.1 ha x hx))
theorem chkE_in {l : List Int} (h : InR l) : chkE l = if decide (Srt l) then 0 else 10 := by
  unfold chkE
  rw [if_pos (List.all_eq_true.2 fun x hx => decide_eq_true (h x hx))]
theorem chkE_ten {l : List Int} (h : InR l) {k : Nat} (hk : k + 1 < l.length) (hb : l.getD (k + 1) 0 ≤ l.getD k 0) : chkE l = 10 := by
  rw [chkE_in h, decide_eq_false (fun hs => by have := adj_srt hs k hk; omega)]; rfl
theorem chkE_ok {l : List Int} (h : InR l) (hk : ∀ k, k + 1 < l.length → l.getD k 0 < l.getD (k + 1) 0) : chkE l = 0 := chkE_zero.2 ⟨h, srt_adj hk⟩
theorem chkE_le (l : List Int) : chkE l ≤ 10 := by
  unfold chkE
  split
  · split <;> omega
  · omega

/-- What is sorted, and compacted, is the set. -/
theorem compact_upto (zs : List Int) (hz : zs.Pairwise (· ≤ ·)) : ∀ m, m ≤ zs.length → (∀ x, x ∈ Go.Lib.compactUpTo zs.toArray m ↔ x ∈ zs.take m) ∧ Srt (Go.Lib.compactUpTo zs.toArray m)
  | 0, _ => ⟨fun x => by simp [Go.Lib.compactUpTo], by simp [Go.Lib.compactUpTo]⟩
  | m + 1, hm => by
    obtain ⟨h1, h2⟩ := compact_upto zs hz m (by omega)
    have hg : zs.toArray[m]! = zs[m]'(by omega) := by simp [getElem!_pos, show m < zs.length by omega]
    have ht : zs.take (m + 1) = zs.take m ++ [zs[m]'(by omega)] := by rw [List.take_add_one, List.getElem?_eq_getElem (by omega)]; rfl
    rw [Go.Lib.compactUpTo_succ]
    by_cases hk : Go.Lib.keeps zs.toArray m = true
    · rw [if_pos hk, hg, ht]
      refine ⟨fun x => by rw [List.mem_append, List.mem_append, h1], ?_⟩
      refine List.pairwise_append.2 ⟨h2, List.pairwise_singleton _ _, fun a ha b hb => ?_⟩
      obtain rfl := List.mem_singleton.1 hb
      have ha' := (h1 a).1 ha
      obtain ⟨i, hi, rfl⟩ := List.getElem_of_mem ha'
      rw [List.length_take] at hi
      rw [List.getElem_take]
      unfold Go.Lib.keeps at hk
      have hk' := of_decide_eq_true hk
      rcases hk' with e | e
      · omega
      · have hg2 : zs.toArray[m - 1]! = zs[m - 1]'(by omega) := by simp [getElem!_pos, show m - 1 < zs.length by omega]
        rw [hg, hg2] at e
        have p1 : zs[m - 1]'(by omega) ≤ zs[m]'(by omega) := List.pairwise_iff_getElem.1 hz (m - 1) m (by omega) (by omega) (by omega)
        have p2 : zs[i]'(by omega) ≤ zs[m - 1]'(by omega) := by
          rcases Nat.lt_or_ge i (m - 1) with h | h
          · exact List.pairwise_iff_getElem.1 hz i (m - 1) (by omega) (by omega) h
          · have : i = m - 1 := by omega
            subst this; exact Int.le_refl _
        omega
    · rw [if_neg hk, List.append_nil]
      refine ⟨fun x => ?_, h2⟩
      rw [h1, ht, List.mem_append]
      refine ⟨.inl, fun h => h.elim id fun hx => ?_⟩
      obtain rfl := List.mem_singleton.1 hx
      unfold Go.Lib.keeps at hk
      have hk' : ¬ (m = 0 ∨ zs.toArray[m]! ≠ zs.toArray[m - 1]!) := fun h => hk (decide_eq_true h)
      have hg2 : zs.toArray[m - 1]! = zs[m - 1]'(by omega) := by simp [getElem!_pos, show m - 1 < zs.length by omega]
      have e : zs[m]'(by omega) = zs[m - 1]'(by omega) := by
        rcases Classical.em (zs[m]'(by omega) = zs[m - 1]'(by omega)) with e | e
        · exact e
        · exact absurd (.inr (by rw [hg, hg2]; exact e)) hk'
      have hm0 : m ≠ 0 := fun h => hk' (.inl h)
      rw [e]
      have : zs[m - 1]'(by omega) = (zs.take m)[m - 1]'(by rw [List.length_take]; omega) := by rw [List.getElem_take]
      rw [this]
      exact List.getElem_mem _
theorem sort_le (l : List Int) : (l.mergeSort fun x y => decide (x ≤ y)).Pairwise (· ≤ ·) := by
  have := List.pairwise_mergeSort (le := fun x y : Int => decide (x ≤ y)) (fun a b c h1 h2 => by simp at h1 h2 ⊢; omega) (fun a b => by simp; omega) l
  exact this.imp fun h => by simpa using h
theorem compact_sort {l : List Int} (hl : InR l) : Go.Lib.compact (l.mergeSort fun x y => decide (x ≤ y)) = sset l := by
  obtain ⟨h1, h2⟩ := compact_upto _ (sort_le l) _ (Nat.le_refl _)
  refine srt_uniq (by unfold Go.Lib.compact; exact h2) (sset_srt l) fun x => ?_
  have := h1 x
  unfold Go.Lib.compact
  rw [this, List.take_of_length_le (Nat.le_refl _), List.mem_mergeSort, mem_sset hl]

/-- Unions of three, put together in any way. -/
theorem union3 {x y z : List Int} (hx : InR x) (hy : InR y) (hz : InR z) : sset (sset (x ++ y) ++ z) = sset (x ++ sset (y ++ z)) :=
  srt_uniq (sset_srt _) (sset_srt _) fun n => by
    rw [mem_sset ((sset_in _).app hz), mem_sset (hx.app (sset_in _)), List.mem_append, List.mem_append, mem_sset (hx.app hy), mem_sset (hy.app hz), List.mem_append, List.mem_append, or_assoc]
theorem both_union {x y z : List Int} (hx : InR x) (sx : Srt x) (hy : InR y) (hz : InR z) : x.filter (fun n => decide (n ∈ sset (y ++ z))) = sset (x.filter (fun n => decide (n ∈ y)) ++ x.filter (fun n => decide (n ∈ z))) :=
  srt_uniq (sx.filter _) (sset_srt _) fun n => by
    rw [mem_sset ((hx.filter _).app (hx.filter _)), List.mem_append, List.mem_filter, List.mem_filter, List.mem_filter, decide_eq_true_iff, decide_eq_true_iff, decide_eq_true_iff, mem_sset (hy.app hz), List.mem_append]
    constructor
    · rintro ⟨h, h1 | h1⟩
      · exact .inl ⟨h, h1⟩
      · exact .inr ⟨h, h1⟩
    · rintro (⟨h, h1⟩ | ⟨h, h1⟩)
      · exact ⟨h, .inl h1⟩
      · exact ⟨h, .inr h1⟩
end Go.Proofs.YtohfdecefikinaaGreatDoor
