/- Texts of one proof, put together: W3 Par2. -/
import Derived.Test.YtkabgmohgjljkaaGreatDoorZRD01
import Derived.Test.YtkabgmohgjljkaaGreatDoorZRD02
import Derived.Test.YtkabgmohgjljkaaGreatDoorZRD07

/- The reference's statements. -/
namespace Go.Proofs.YtkabgmohgjljkaaGreatDoor
set_option linter.unusedSimpArgs false
set_option linter.unusedVariables false
open Go Go.RowKit

set_option maxRecDepth 100000 in
set_option maxHeartbeats 12800000 in
theorem rstmterr_any (a1 a2 a3 : Option Addr) (c1 c2 c3 : Nat) (P : PP) (s : PS) (a : Option Addr) (cap : Nat) (w : World) (n0 : Nat) (h : IntsR w n0 (.slice a s.args.length cap) s.args) (hfl : (P.funs.length : Int) ≤ 9223372036854775807) (hal : (s.args.length : Int) ≤ 9223372036854775807) :
    Calls Tryz.prog 26 #[pval a1 a2 a3 c1 c2 c3 P, sval s a cap] w fun e w' => e = .returned (.int .i64 (P.stmtErr s : Int)) ∧ Ext w w' := by
  have HI := hid h
  clear h
  obtain ⟨W2, hW2⟩ : ∃ W2, W2 = (w.alloc (.cells (pcells a1 a2 a3 c1 c2 c3 P) 26)).alloc (.cells (scells s a cap) 58) := ⟨_, rfl⟩
  have HW2 : Hid (Ext w W2) := hid (by rw [hW2]; exact ((Ext.refl _).alloc _).alloc _)
  have hsz : W2.heap.size = w.heap.size + 1 + 1 := by rw [hW2, heap_size_alloc, heap_size_alloc]
  have HB10 : Hid (Blk W2 w.heap.size (pcells a1 a2 a3 c1 c2 c3 P) 26) := hid (by rw [hW2]; exact (Blk.new _ _ _).alloc _)
  have HB20 : Hid (Blk W2 (w.heap.size + 1) (scells s a cap) 58) := hid (by
    rw [hW2]
    have := Blk.new (w.alloc (.cells (pcells a1 a2 a3 c1 c2 c3 P) 26)) (scells s a cap) 58
    rwa [heap_size_alloc] at this)
  obtain ⟨W3, hW3⟩ : ∃ W3, W3 = W2.alloc (.cells #[.string ⟨#[97, 100, 100, 114]⟩, .string ⟨#[99, 111, 112, 121]⟩, .string ⟨#[108, 111, 97, 100]⟩, .string ⟨#[115, 116, 111, 114, 101]⟩, .string ⟨#[110, 101, 119]⟩, .string ⟨#[102, 117, 110]⟩, .string ⟨#[99, 97, 108, 108]⟩] 9) := ⟨_, rfl⟩
  have hx3 : Ext W2 W3 := by rw [hW3]; exact (Ext.refl _).alloc _
  have H1 : Hid (Calls Tryz.prog 42 #[.slice (some ⟨W2.heap.size, 0, none⟩) 7 7, .string s.kind] W3 fun e w' => e = .returned (.bool (memB s.kind kindsS)) ∧ W3 = w') := hid (by
    refine rhastext_any (.slice (some ⟨W2.heap.size, 0, none⟩) 7 7) kindsS s.kind W3 W3.heap.size (StrsR.blk (l := kindsS) (c := #[.string ⟨#[97, 100, 100, 114]⟩, .string ⟨#[99, 111, 112, 121]⟩, .string ⟨#[108, 111, 97, 100]⟩, .string ⟨#[115, 116, 111, 114, 101]⟩, .string ⟨#[110, 101, 119]⟩, .string ⟨#[102, 117, 110]⟩, .string ⟨#[99, 97, 108, 108]⟩]) (t := 9) ?_ rfl (by decide))
    rw [hW3]; exact Blk.new _ _ _)
  rw [hsz] at H1
  unfold pcells scells at hW2
  rw [hW2] at hW3
  have HW3 := hid hW3
  have HV := fun n w1 => hid (risvar_any a1 a2 a3 c1 c2 c3 P n w1)
  have H4 := hid fun w1 (x : Ext w w1) => rarevars_any a1 a2 a3 c1 c2 c3 P (.slice a s.args.length cap) s.args w1 n0 (HI.out.old (x.old n0))
  unfold pval at HV H4
  clear hW2 hsz hW3
  unfold pval sval
  have Hx3 := hid (HW2.out.trans hx3)
  have HB1 := hid (HB10.out.ext hx3)
  have HB2 := hid (HB20.out.ext hx3)
  have d0 := HB1.out.av 0 rfl
  have k0 := HB2.out.av 0 rfl
  simp only [pcells, scells, List.getElem_toArray, List.getElem_cons_zero, List.getElem_cons_succ] at d0 k0
  rw [HW3.out] at k0
  clear hx3
  go_enter Tryz.func26, Tryz.ntmps26
  go_wp2_with fail
  rw [← HW3.out]
  refine H1.out.mono ?_
  intro e w3 hx
  obtain ⟨rfl, rfl⟩ := hx
  clear H1 d0 k0
  cases hm : memB s.kind kindsS with
  | false =>
    have Hr := hid (show P.stmtErr s = 4 by unfold PP.stmtErr; rw [hm]; rfl)
    clear hm
    go_wp2
    go_ret
    exact ⟨by rw [Hr.out]; rfl, Hx3.out⟩
  | true =>
  have Hm := hid hm
  clear hm
  have d0 := HB1.out.av 0 rfl
  have d1 := HB1.out.av 1 rfl
  have d2 := HB1.out.av 2 rfl
  have k1 := HB2.out.av 1 rfl
  simp only [pcells, scells, List.getElem_toArray, List.getElem_cons_zero, List.getElem_cons_succ] at d0 d1 d2 k1
  go_wp2_with fail
  refine (HV s.x W3).out.mono ?_
  intro e w4 hx
  obtain ⟨rfl, hx4⟩ := hx
  have Hx4 := hid hx4
  clear d0 d1 d2 k1 hx4
  have d0 := (HB1.out.ext Hx4.out).av 0 rfl
  have d1 := (HB1.out.ext Hx4.out).av 1 rfl
  have d2 := (HB1.out.ext Hx4.out).av 2 rfl
  have k2 := (HB2.out.ext Hx4.out).av 2 rfl
  simp only [pcells, scells, List.getElem_toArray, List.getElem_cons_zero, List.getElem_cons_succ] at d0 d1 d2 k2
  go_wp2_with fail
  refine (HV s.y w4).out.mono ?_
  intro e w5 hx
  obtain ⟨rfl, hx5⟩ := hx
  have Hy5 := hid (Hx4.out.trans hx5)
  have Hx5 := hid (Hx3.out.trans Hy5.out)
  clear d0 d1 d2 k2 hx5
  have HB1' := hid (HB1.out.ext Hy5.out)
  have HB2' := hid (HB2.out.ext Hy5.out)
  have d0 := HB1'.out.av 0 rfl
  have d1 := HB1'.out.av 1 rfl
  have d2 := HB1'.out.av 2 rfl
  have k0 := HB2'.out.av 0 rfl
  have k1 := HB2'.out.av 1 rfl
  have k2 := HB2'.out.av 2 rfl
  have k3 := HB2'.out.av 3 rfl
  simp only [pcells, scells, List.getElem_toArray, List.getElem_cons_zero, List.getElem_cons_succ] at d0 d1 d2 k0 k1 k2 k3
  clear HV HB1 HB10 HB20 HB1'
  replace HB2 := HB2'
  cases hf : (s.kind.toList == [102, 117, 110]) with
  | true =>
    have Hf := hid (show s.isK kFun = true from hf)
    have hn : (s.kind.toList == [110, 101, 119]) = false := by rw [eq_of_beq hf]; rfl
    by_cases y1 : 0 ≤ s.y
    · by_cases y2 : s.y < (P.funs.length : Int)
      · have HYv := hid (show P.boundY s = true by unfold PP.boundY; rw [Hf.out, decide_eq_true y1, decide_eq_true y2]; rfl)
        go_wp2_with fail
        refine (H4.out _ Hx5.out).mono ?_
        intro e w6 hx
        obtain ⟨rfl, hx6⟩ := hx
        have Hx6 := hid (Hx5.out.trans hx6)
        clear d0 d1 d2 k0 k1 k2 k3
        have k0 := (HB2.out.ext hx6).av 0 rfl
        have k2 := (HB2.out.ext hx6).av 2 rfl
        have k3 := (HB2.out.ext hx6).av 3 rfl
        simp only [scells, List.getElem_toArray, List.getElem_cons_zero, List.getElem_cons_succ] at k0 k2 k3
        clear hx6 H4
        cases hx0 : P.inV s.x with
        | false =>
          have HX := hid hx0
          have Hr := hid (show P.stmtErr s = 2 by unfold PP.stmtErr PP.bound; rw [Hm.out, HX.out]; rfl)
          clear hx0
          go_wp2
          go_ret
          exact ⟨by rw [Hr.out]; rfl, Hx6.out⟩
        | true =>
          have HX := hid hx0
          clear hx0
          cases ha0 : P.allV s.args with
          | false =>
            have HA := hid ha0
            clear ha0
            have Hr := hid (show P.stmtErr s = 2 by unfold PP.stmtErr PP.bound; rw [Hm.out, HX.out, HYv.out, HA.out]; rfl)
            go_wp2
            go_ret
            exact ⟨by rw [Hr.out]; rfl, Hx6.out⟩
          | true =>
            have HBd := hid (show P.bound s = true by unfold PP.bound; rw [HX.out, HYv.out, ha0]; rfl)
            clear ha0
            have Hn := hid (show s.isK kNew = false from hn)
            cases hc : (s.kind.toList == [99, 97, 108, 108]) with
            | true =>
              have Hc := hid (show s.isK kCall = true from hc)
              by_cases h3 : 3 < s.args.length
              · have Hr := hid (show P.stmtErr s = 9 by unfold PP.stmtErr; rw [Hm.out]; simp only [HBd.out, Hc.out, Hn.out]; simp [*])
                go_wp2
                go_ret
                exact ⟨by rw [Hr.out]; rfl, Hx6.out⟩
              · have Hr := hid (show P.stmtErr s = 0 by unfold PP.stmtErr; rw [Hm.out]; simp only [HBd.out, Hc.out, Hn.out]; simp [*])
                go_wp2
                go_ret
                exact ⟨by rw [Hr.out]; rfl, Hx6.out⟩
            | false =>
              have Hc := hid (show s.isK kCall = false from hc)
              by_cases h0 : 0 < s.args.length
              · have Hr := hid (show P.stmtErr s = 3 by unfold PP.stmtErr; rw [Hm.out]; simp only [HBd.out, Hc.out]; simp [h0])
                go_wp2
                go_ret
                exact ⟨by rw [Hr.out]; rfl, Hx6.out⟩
              · have Hr := hid (show P.stmtErr s = 0 by unfold PP.stmtErr; rw [Hm.out]; simp only [HBd.out, Hc.out, Hn.out]; simp [*])
                go_wp2
                go_ret
                exact ⟨by rw [Hr.out]; rfl, Hx6.out⟩
      · have HYv := hid (show P.boundY s = false by unfold PP.boundY; rw [Hf.out, decide_eq_false y2]; simp)
        go_wp2_with fail
        refine (H4.out _ Hx5.out).mono ?_
        intro e w6 hx
        obtain ⟨rfl, hx6⟩ := hx
        have Hx6 := hid (Hx5.out.trans hx6)
        clear d0 d1 d2 k0 k1 k2 k3
        have k0 := (HB2.out.ext hx6).av 0 rfl
        have k2 := (HB2.out.ext hx6).av 2 rfl
        have k3 := (HB2.out.ext hx6).av 3 rfl
        simp only [scells, List.getElem_toArray, List.getElem_cons_zero, List.getElem_cons_succ] at k0 k2 k3
        clear hx6 H4
        cases hx0 : P.inV s.x with
        | false =>
          have HX := hid hx0
          have Hr := hid (show P.stmtErr s = 2 by unfold PP.stmtErr PP.bound; rw [Hm.out, HX.out]; rfl)
          clear hx0
          go_wp2
          go_ret
          exact ⟨by rw [Hr.out]; rfl, Hx6.out⟩
        | true =>
          have HX := hid hx0
          clear hx0
          have Hr := hid (show P.stmtErr s = 2 by unfold PP.stmtErr PP.bound; rw [Hm.out, HX.out, HYv.out]; rfl)
          go_wp2
          go_ret
          exact ⟨by rw [Hr.out]; rfl, Hx6.out⟩
    · have HYv := hid (show P.boundY s = false by unfold PP.boundY; rw [Hf.out, decide_eq_false y1]; simp)
      go_wp2_with fail
      refine (H4.out _ Hx5.out).mono ?_
      intro e w6 hx
      obtain ⟨rfl, hx6⟩ := hx
      have Hx6 := hid (Hx5.out.trans hx6)
      clear d0 d1 d2 k0 k1 k2 k3
      have k0 := (HB2.out.ext hx6).av 0 rfl
      have k2 := (HB2.out.ext hx6).av 2 rfl
      have k3 := (HB2.out.ext hx6).av 3 rfl
      simp only [scells, List.getElem_toArray, List.getElem_cons_zero, List.getElem_cons_succ] at k0 k2 k3
      clear hx6 H4
      cases hx0 : P.inV s.x with
      | false =>
        have HX := hid hx0
        have Hr := hid (show P.stmtErr s = 2 by unfold PP.stmtErr PP.bound; rw [Hm.out, HX.out]; rfl)
        clear hx0
        go_wp2
        go_ret
        exact ⟨by rw [Hr.out]; rfl, Hx6.out⟩
      | true =>
        have HX := hid hx0
        clear hx0
        have Hr := hid (show P.stmtErr s = 2 by unfold PP.stmtErr PP.bound; rw [Hm.out, HX.out, HYv.out]; rfl)
        go_wp2
        go_ret
        exact ⟨by rw [Hr.out]; rfl, Hx6.out⟩
  | false =>
    have Hf := hid (show s.isK kFun = false from hf)
    cases hn : (s.kind.toList == [110, 101, 119]) with
    | true =>
      have HYv := hid (show P.boundY s = true by unfold PP.boundY; rw [Hf.out, show s.isK kNew = true from hn]; rfl)
      go_wp2_with fail
      refine (H4.out _ Hx5.out).mono ?_
      intro e w6 hx
      obtain ⟨rfl, hx6⟩ := hx
      have Hx6 := hid (Hx5.out.trans hx6)
      clear d0 d1 d2 k0 k1 k2 k3
      have k0 := (HB2.out.ext hx6).av 0 rfl
      have k2 := (HB2.out.ext hx6).av 2 rfl
      have k3 := (HB2.out.ext hx6).av 3 rfl
      simp only [scells, List.getElem_toArray, List.getElem_cons_zero, List.getElem_cons_succ] at k0 k2 k3
      clear hx6 H4
      cases hx0 : P.inV s.x with
      | false =>
        have HX := hid hx0
        have Hr := hid (show P.stmtErr s = 2 by unfold PP.stmtErr PP.bound; rw [Hm.out, HX.out]; rfl)
        clear hx0
        go_wp2
        go_ret
        exact ⟨by rw [Hr.out]; rfl, Hx6.out⟩
      | true =>
        have HX := hid hx0
        clear hx0
        cases ha0 : P.allV s.args with
        | false =>
          have HA := hid ha0
          clear ha0
          have Hr := hid (show P.stmtErr s = 2 by unfold PP.stmtErr PP.bound; rw [Hm.out, HX.out, HYv.out, HA.out]; rfl)
          go_wp2
          go_ret
          exact ⟨by rw [Hr.out]; rfl, Hx6.out⟩
        | true =>
          have HBd := hid (show P.bound s = true by unfold PP.bound; rw [HX.out, HYv.out, ha0]; rfl)
          clear ha0
          have Hn := hid (show s.isK kNew = true from hn)
          have hc : (s.kind.toList == [99, 97, 108, 108]) = false := by rw [eq_of_beq hn]; rfl
          have Hc := hid (show s.isK kCall = false from hc)
          by_cases h0 : 0 < s.args.length
          · have Hr := hid (show P.stmtErr s = 3 by unfold PP.stmtErr; rw [Hm.out]; simp only [HBd.out, Hc.out]; simp [h0])
            go_wp2
            go_ret
            exact ⟨by rw [Hr.out]; rfl, Hx6.out⟩
          · by_cases hy : s.y = 0
            · have hyb : (s.y != 0) = false := by rw [hy]; rfl
              have Hr := hid (show P.stmtErr s = 0 by unfold PP.stmtErr; rw [Hm.out]; simp only [HBd.out, Hc.out, Hn.out]; simp [*])
              go_wp2
              go_ret
              exact ⟨by rw [Hr.out]; rfl, Hx6.out⟩
            · have hyb : (s.y != 0) = true := bne_iff_ne.2 hy
              have Hr := hid (show P.stmtErr s = 3 by unfold PP.stmtErr; rw [Hm.out]; simp only [HBd.out, Hc.out, Hn.out]; simp [*])
              go_wp2
              go_ret
              exact ⟨by rw [Hr.out]; rfl, Hx6.out⟩
    | false =>
      cases hy0 : P.inV s.y with
      | true =>
        have HYv := hid (show P.boundY s = true by unfold PP.boundY; rw [Hf.out, show s.isK kNew = false from hn]; exact hy0)
        go_wp2_with fail
        refine (H4.out _ Hx5.out).mono ?_
        intro e w6 hx
        obtain ⟨rfl, hx6⟩ := hx
        have Hx6 := hid (Hx5.out.trans hx6)
        clear d0 d1 d2 k0 k1 k2 k3
        have k0 := (HB2.out.ext hx6).av 0 rfl
        have k2 := (HB2.out.ext hx6).av 2 rfl
        have k3 := (HB2.out.ext hx6).av 3 rfl
        simp only [scells, List.getElem_toArray, List.getElem_cons_zero, List.getElem_cons_succ] at k0 k2 k3
        clear hx6 H4
        cases hx0 : P.inV s.x with
        | false =>
          have HX := hid hx0
          have Hr := hid (show P.stmtErr s = 2 by unfold PP.stmtErr PP.bound; rw [Hm.out, HX.out]; rfl)
          clear hx0
          go_wp2
          go_ret
          exact ⟨by rw [Hr.out]; rfl, Hx6.out⟩
        | true =>
          have HX := hid hx0
          clear hx0
          cases ha0 : P.allV s.args with
          | false =>
            have HA := hid ha0
            clear ha0
            have Hr := hid (show P.stmtErr s = 2 by unfold PP.stmtErr PP.bound; rw [Hm.out, HX.out, HYv.out, HA.out]; rfl)
            go_wp2
            go_ret
            exact ⟨by rw [Hr.out]; rfl, Hx6.out⟩
          | true =>
            have HBd := hid (show P.bound s = true by unfold PP.bound; rw [HX.out, HYv.out, ha0]; rfl)
            clear ha0
            have Hn := hid (show s.isK kNew = false from hn)
            cases hc : (s.kind.toList == [99, 97, 108, 108]) with
            | true =>
              have Hc := hid (show s.isK kCall = true from hc)
              by_cases h3 : 3 < s.args.length
              · have Hr := hid (show P.stmtErr s = 9 by unfold PP.stmtErr; rw [Hm.out]; simp only [HBd.out, Hc.out, Hn.out]; simp [*])
                go_wp2
                go_ret
                exact ⟨by rw [Hr.out]; rfl, Hx6.out⟩
              · have Hr := hid (show P.stmtErr s = 0 by unfold PP.stmtErr; rw [Hm.out]; simp only [HBd.out, Hc.out, Hn.out]; simp [*])
                go_wp2
                go_ret
                exact ⟨by rw [Hr.out]; rfl, Hx6.out⟩
            | false =>
              have Hc := hid (show s.isK kCall = false from hc)
              by_cases h0 : 0 < s.args.length
              · have Hr := hid (show P.stmtErr s = 3 by unfold PP.stmtErr; rw [Hm.out]; simp only [HBd.out, Hc.out]; simp [h0])
                go_wp2
                go_ret
                exact ⟨by rw [Hr.out]; rfl, Hx6.out⟩
              · have Hr := hid (show P.stmtErr s = 0 by unfold PP.stmtErr; rw [Hm.out]; simp only [HBd.out, Hc.out, Hn.out]; simp [*])
                go_wp2
                go_ret
                exact ⟨by rw [Hr.out]; rfl, Hx6.out⟩
      | false =>
        have HYv := hid (show P.boundY s = false by unfold PP.boundY; rw [Hf.out, show s.isK kNew = false from hn]; exact hy0)
        go_wp2_with fail
        refine (H4.out _ Hx5.out).mono ?_
        intro e w6 hx
        obtain ⟨rfl, hx6⟩ := hx
        have Hx6 := hid (Hx5.out.trans hx6)
        clear d0 d1 d2 k0 k1 k2 k3
        have k0 := (HB2.out.ext hx6).av 0 rfl
        have k2 := (HB2.out.ext hx6).av 2 rfl
        have k3 := (HB2.out.ext hx6).av 3 rfl
        simp only [scells, List.getElem_toArray, List.getElem_cons_zero, List.getElem_cons_succ] at k0 k2 k3
        clear hx6 H4
        cases hx0 : P.inV s.x with
        | false =>
          have HX := hid hx0
          have Hr := hid (show P.stmtErr s = 2 by unfold PP.stmtErr PP.bound; rw [Hm.out, HX.out]; rfl)
          clear hx0
          go_wp2
          go_ret
          exact ⟨by rw [Hr.out]; rfl, Hx6.out⟩
        | true =>
          have HX := hid hx0
          clear hx0
          have Hr := hid (show P.stmtErr s = 2 by unfold PP.stmtErr PP.bound; rw [Hm.out, HX.out, HYv.out]; rfl)
          go_wp2
          go_ret
          exact ⟨by rw [Hr.out]; rfl, Hx6.out⟩
end Go.Proofs.YtkabgmohgjljkaaGreatDoor

/- One that acts floats beside two that act in a row. -/
namespace Go.Proofs.YtkabgmohgjljkaaGreatDoor
set_option linter.unusedSimpArgs false
set_option linter.unusedVariables false
open Go Go.RowKit
section
variable {P : Program} {ops : Array Oper} {X : Nat → Prop} {w0 : World} {Q : Act → World → Prop} {L : List Nat}

/-- j, then m; i whenever. -/
theorem Flow.par3g {listed : Array Bool} {C : World → Prop} {a : Act} (j m i : Nat) (oj om oi : Oper) (hoj : ops[j]? = some oj) (hom : ops[m]? = some om) (hoi : ops[i]? = some oi) (hij : i ≠ j) (him : i ≠ m)
    (hsi : ∀ cs b, oi.op ≠ .select cs b) (hsj : ∀ cs b, oj.op ≠ .select cs b) (hsm : ∀ cs b, om.op ≠ .select cs b) (hap : oi.apart ops oj = true) (hap2 : oi.apart ops om = true)
    (r0 : (Region.ready .any ops listed == [j, i]) = true) (r1 : (Region.ready .any ops (listed.setIfInBounds i true) == [j]) = true) (r2 : (Region.ready .any ops ((listed.setIfInBounds i true).setIfInBounds j true) == [m]) = true)
    (r3 : (Region.ready .any ops (listed.setIfInBounds j true) == [m, i]) = true)
    (A B : Value → World → Prop) (AB D : Value → Value → World → Prop) (F : Value → Value → Value → World → Prop)
    (sA : ∀ v w w', A v w → Ext w w' → A v w') (sB : ∀ v w w', B v w → Ext w w' → B v w') (sAB : ∀ u v w w', AB u v w → Ext w w' → AB u v w') (sD : ∀ u v w w', D u v w → Ext w w' → D u v w') (sF : ∀ t u v w w', F t u v w → Ext w w' → F t u v w')
    (i0 : ∀ w, C w → Keep X w0 w → does P ops oi a w (ActR X w0 A))
    (j0 : ∀ w, C w → Keep X w0 w → does P ops oj a w (ActR X w0 B))
    (i1 : ∀ vj w, B vj w → Keep X w0 w → does P ops oi a w (ActR X w0 fun v => AB v vj))
    (j1 : ∀ vi w, A vi w → Keep X w0 w → does P ops oj a w (ActR X w0 (AB vi)))
    (m1 : ∀ vj w, B vj w → Keep X w0 w → does P ops om (a.put oj.dst vj) w (ActR X w0 (D vj)))
    (m2 : ∀ vi vj w, AB vi vj w → Keep X w0 w → does P ops om (a.put oj.dst vj) w (ActR X w0 (F vi vj)))
    (k1 : ∀ vi vj vm, (∃ w, F vi vj vm w) → Flow P ops w0 Q X L (((listed.setIfInBounds i true).setIfInBounds j true).setIfInBounds m true) (F vi vj vm) (((a.put oi.dst vi).put oj.dst vj).put om.dst vm))
    (k2 : ∀ vj vm, (∃ w, D vj vm w) → Flow P ops w0 Q X L ((listed.setIfInBounds j true).setIfInBounds m true) (D vj vm) ((a.put oj.dst vj).put om.dst vm)) :
    Flow P ops w0 Q X L listed C a := by
  have hs := Oper.apart_spec hap
  have hs2 := Oper.apart_spec hap2
  -- both done, then m
  have both : ∀ vi vj, Flow P ops w0 Q X L ((listed.setIfInBounds i true).setIfInBounds j true) (AB vi vj) ((a.put oi.dst vi).put oj.dst vj) := by
    intro vi vj
    refine Flow.acts [m] r2 (by simp) (fun _ => om) (fun _ u w => F vi vj u w) (fun _ u w w' h hx => sF _ _ _ _ _ h hx) ?_ ?_
    · intro n hn
      obtain rfl : n = m := by simpa using hn
      refine ⟨hom, fun w h h4 => ?_⟩
      rw [Act.put_comm a vi vj hs.2.1, does_put hsm hs2.1]
      exact m2 vi vj w h h4
    · intro n hn u hu
      obtain rfl : n = m := by simpa using hn
      exact k1 vi vj u hu
  refine Flow.acts [j, i] r0 (by simp) (fun n => if n = i then oi else oj) (fun n v w => if n = i then A v w else B v w) ?_ ?_ ?_
  · intro n v w w' h2 hx
    try simp only at h2 ⊢
    split
    · rename_i e; rw [if_pos e] at h2; exact sA _ _ _ h2 hx
    · rename_i e; rw [if_neg e] at h2; exact sB _ _ _ h2 hx
  · intro n hn
    rcases (by simpa using hn : n = j ∨ n = i) with rfl | rfl
    · refine ⟨by simpa [Ne.symm hij] using hoj, fun w h1 h2 => ?_⟩
      simp only [Ne.symm hij, if_false]
      exact j0 w h1 h2
    · refine ⟨by simpa using hoi, fun w h1 h2 => ?_⟩
      simp only [if_true]
      exact i0 w h1 h2
  · intro n hn v hv
    rcases (by simpa using hn : n = j ∨ n = i) with rfl | rfl
    · simp only [Ne.symm hij, if_false] at hv ⊢
      refine Flow.acts [m, i] r3 (by simp) (fun q => if q = i then oi else om) (fun q u w => if q = i then AB u v w else D v u w) ?_ ?_ ?_
      · intro q u w w' h3 hx
        try simp only at h3 ⊢
        split
        · rename_i e; rw [if_pos e] at h3; exact sAB _ _ _ _ h3 hx
        · rename_i e; rw [if_neg e] at h3; exact sD _ _ _ _ h3 hx
      · intro q hq
        rcases (by simpa using hq : q = m ∨ q = i) with rfl | rfl
        · refine ⟨by simpa [Ne.symm him] using hom, fun w h1 h3 => ?_⟩
          simp only [Ne.symm him, if_false]
          exact m1 v w h1 h3
        · refine ⟨by simpa using hoi, fun w h1 h3 => ?_⟩
          simp only [if_true]
          rw [does_put hsi hs.2.2]
          exact i1 v w h1 h3
      · intro q hq u hu
        rcases (by simpa using hq : q = m ∨ q = i) with rfl | rfl
        · simp only [Ne.symm him, if_false] at hu ⊢
          exact k2 v u hu
        · simp only [if_true] at hu ⊢
          have := both u v
          rw [Array.setIfInBounds_comm _ _ hij, Act.put_comm a u v hs.2.1] at this
          exact this
    · simp only [if_true] at hv ⊢
      refine Flow.acts [j] r1 (by simp) (fun _ => oj) (fun _ u w => AB v u w) (fun _ u w w' h hx => sAB _ _ _ _ h hx) ?_ ?_
      · intro n hn
        obtain rfl : n = j := by simpa using hn
        refine ⟨hoj, fun w h2 h3 => ?_⟩
        rw [does_put hsj hs.1]
        exact j1 v w h2 h3
      · intro n hn u hu
        obtain rfl : n = j := by simpa using hn
        exact both v u
end
end Go.Proofs.YtkabgmohgjljkaaGreatDoor
