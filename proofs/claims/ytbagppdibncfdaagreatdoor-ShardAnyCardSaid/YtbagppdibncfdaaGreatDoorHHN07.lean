/- Texts of one proof, put together: W3 Par2 UY UZ V1 V2 W4 W7 W8 W9. -/
import Derived.Test.YtbagppdibncfdaaGreatDoorHHN01
import Derived.Test.YtbagppdibncfdaaGreatDoorHHN03
import Derived.Test.YtbagppdibncfdaaGreatDoorHHN05
import Derived.Test.YtbagppdibncfdaaGreatDoorHHN06
set_option linter.unusedSimpArgs false
set_option linter.unusedVariables false
namespace Go.Proofs.YtbagppdibncfdaaGreatDoor
open Go Go.RowKit
set_option maxRecDepth 100000 in
set_option maxHeartbeats 12800000 in
theorem rstmterr_any (a1 a2 a3 : Option Addr) (c1 c2 c3 : Nat) (P : PP) (s : PS) (a : Option Addr) (cap : Nat) (w : World) (n0 : Nat) (h : IntsR w n0 (.slice a s.args.length cap) s.args) (hfl : (P.funs.length : Int) ≤ 9223372036854775807) (hal : (s.args.length : Int) ≤ 9223372036854775807) :
    Calls Tryz.prog 54 #[pval a1 a2 a3 c1 c2 c3 P, sval s a cap] w fun e w' => e = .returned (.int .i64 (P.stmtErr s : Int)) ∧ Ext w w' := by
  have HI := hid h
  clear h
  obtain ⟨W2, hW2⟩ : ∃ W2, W2 = (w.alloc (.cells (pcells a1 a2 a3 c1 c2 c3 P) 26)).alloc (.cells (scells s a cap) 77) := ⟨_, rfl⟩
  have HW2 : Hid (Ext w W2) := hid (by rw [hW2]; exact ((Ext.refl _).alloc _).alloc _)
  have hsz : W2.heap.size = w.heap.size + 1 + 1 := by rw [hW2, heap_size_alloc, heap_size_alloc]
  have HB10 : Hid (Blk W2 w.heap.size (pcells a1 a2 a3 c1 c2 c3 P) 26) := hid (by rw [hW2]; exact (Blk.new _ _ _).alloc _)
  have HB20 : Hid (Blk W2 (w.heap.size + 1) (scells s a cap) 77) := hid (by
    rw [hW2]
    have := Blk.new (w.alloc (.cells (pcells a1 a2 a3 c1 c2 c3 P) 26)) (scells s a cap) 77
    rwa [heap_size_alloc] at this)
  obtain ⟨W3, hW3⟩ : ∃ W3, W3 = W2.alloc (.cells #[.string ⟨#[97, 100, 100, 114]⟩, .string ⟨#[99, 111, 112, 121]⟩, .string ⟨#[108, 111, 97, 100]⟩, .string ⟨#[115, 116, 111, 114, 101]⟩, .string ⟨#[110, 101, 119]⟩, .string ⟨#[102, 117, 110]⟩, .string ⟨#[99, 97, 108, 108]⟩] 9) := ⟨_, rfl⟩
  have hx3 : Ext W2 W3 := by rw [hW3]; exact (Ext.refl _).alloc _
  have H1 : Hid (Calls Tryz.prog 102 #[.slice (some ⟨W2.heap.size, 0, none⟩) 7 7, .string s.kind] W3 fun e w' => e = .returned (.bool (memB s.kind kindsS)) ∧ W3 = w') := hid (by
    refine rhastext_any (.slice (some ⟨W2.heap.size, 0, none⟩) 7 7) kindsS s.kind W3 W3.heap.size (StrsR.blk (l := kindsS) (c := #[.string ⟨#[97, 100, 100, 114]⟩, .string ⟨#[99, 111, 112, 121]⟩, .string ⟨#[108, 111, 97, 100]⟩, .string ⟨#[115, 116, 111, 114, 101]⟩, .string ⟨#[110, 101, 119]⟩, .string ⟨#[102, 117, 110]⟩, .string ⟨#[99, 97, 108, 108]⟩]) (t := 9) ?_ rfl (by decide))
    rw [hW3]; exact Blk.new _ _ _)
  rw [hsz] at H1
  unfold pcells scells at hW2
  rw [hW2] at hW3
  have HW3 := hid hW3
  have HV := fun n w1 => hid (risvar_any a1 a2 a3 c1 c2 c3 P n w1)
  have H4 := hid fun w1 (x : Ext w w1) => rarevars_any a1 a2 a3 c1 c2 c3 P (.slice a s.args.length cap) s.args w1 n0 (HI.out.old (x.old n0))
  unfold pval at HV H4
  clear hW2 hsz hW3
  unfold pval sval
  have Hx3 := hid (HW2.out.trans hx3)
  have HB1 := hid (HB10.out.ext hx3)
  have HB2 := hid (HB20.out.ext hx3)
  have d0 := HB1.out.av 0 rfl
  have k0 := HB2.out.av 0 rfl
  simp only [pcells, scells, qA0, qA1, qA2] at d0 k0
  rw [HW3.out] at k0
  clear hx3
  go_enter Tryz.func54, Tryz.ntmps54
  go_wp2_with fail
  rw [← HW3.out]
  refine H1.out.mono ?_
  intro e w3 hx
  obtain ⟨rfl, rfl⟩ := hx
  clear H1 d0 k0
  cases hm : memB s.kind kindsS with
  | false =>
    have Hr := hid (show P.stmtErr s = 4 by unfold PP.stmtErr; rw [hm]; rfl)
    clear hm
    go_wp2
    go_ret
    exact ⟨by rw [Hr.out]; rfl, Hx3.out⟩
  | true =>
  have Hm := hid hm
  clear hm
  have d0 := HB1.out.av 0 rfl
  have d1 := HB1.out.av 1 rfl
  have d2 := HB1.out.av 2 rfl
  have k1 := HB2.out.av 1 rfl
  simp only [pcells, scells, qA0, qA1, qA2] at d0 d1 d2 k1
  go_wp2_with fail
  refine (HV s.x W3).out.mono ?_
  intro e w4 hx
  obtain ⟨rfl, hx4⟩ := hx
  have Hx4 := hid hx4
  clear d0 d1 d2 k1 hx4
  have d0 := (HB1.out.ext Hx4.out).av 0 rfl
  have d1 := (HB1.out.ext Hx4.out).av 1 rfl
  have d2 := (HB1.out.ext Hx4.out).av 2 rfl
  have k2 := (HB2.out.ext Hx4.out).av 2 rfl
  simp only [pcells, scells, qA0, qA1, qA2] at d0 d1 d2 k2
  go_wp2_with fail
  refine (HV s.y w4).out.mono ?_
  intro e w5 hx
  obtain ⟨rfl, hx5⟩ := hx
  have Hy5 := hid (Hx4.out.trans hx5)
  have Hx5 := hid (Hx3.out.trans Hy5.out)
  clear d0 d1 d2 k2 hx5
  have HB1' := hid (HB1.out.ext Hy5.out)
  have HB2' := hid (HB2.out.ext Hy5.out)
  have d0 := HB1'.out.av 0 rfl
  have d1 := HB1'.out.av 1 rfl
  have d2 := HB1'.out.av 2 rfl
  have k0 := HB2'.out.av 0 rfl
  have k1 := HB2'.out.av 1 rfl
  have k2 := HB2'.out.av 2 rfl
  have k3 := HB2'.out.av 3 rfl
  simp only [pcells, scells, qA0, qA1, qA2] at d0 d1 d2 k0 k1 k2 k3
  clear HV HB1 HB10 HB20 HB1'
  replace HB2 := HB2'
  cases hf : (s.kind.toList == [102, 117, 110]) with
  | true =>
    have Hf := hid (show s.isK kFun = true from hf)
    have hn : (s.kind.toList == [110, 101, 119]) = false := by rw [eq_of_beq hf]; rfl
    by_cases y1 : 0 ≤ s.y
    · by_cases y2 : s.y < (P.funs.length : Int)
      · have HYv := hid (show P.boundY s = true by unfold PP.boundY; rw [Hf.out, decide_eq_true y1, decide_eq_true y2]; rfl)
        go_wp2_with fail
        refine (H4.out _ Hx5.out).mono ?_
        intro e w6 hx
        obtain ⟨rfl, hx6⟩ := hx
        have Hx6 := hid (Hx5.out.trans hx6)
        clear d0 d1 d2 k0 k1 k2 k3
        have k0 := (HB2.out.ext hx6).av 0 rfl
        have k2 := (HB2.out.ext hx6).av 2 rfl
        have k3 := (HB2.out.ext hx6).av 3 rfl
        simp only [scells, qA0, qA1, qA2] at k0 k2 k3
        clear hx6 H4
        cases hx0 : P.inV s.x with
        | false =>
          have HX := hid hx0
          have Hr := hid (show P.stmtErr s = 2 by unfold PP.stmtErr PP.bound; rw [Hm.out, HX.out]; rfl)
          clear hx0
          go_wp2
          go_ret
          exact ⟨by rw [Hr.out]; rfl, Hx6.out⟩
        | true =>
          have HX := hid hx0
          clear hx0
          cases ha0 : P.allV s.args with
          | false =>
            have HA := hid ha0
            clear ha0
            have Hr := hid (show P.stmtErr s = 2 by unfold PP.stmtErr PP.bound; rw [Hm.out, HX.out, HYv.out, HA.out]; rfl)
            go_wp2
            go_ret
            exact ⟨by rw [Hr.out]; rfl, Hx6.out⟩
          | true =>
            have HBd := hid (show P.bound s = true by unfold PP.bound; rw [HX.out, HYv.out, ha0]; rfl)
            clear ha0
            have Hn := hid (show s.isK kNew = false from hn)
            cases hc : (s.kind.toList == [99, 97, 108, 108]) with
            | true =>
              have Hc := hid (show s.isK kCall = true from hc)
              by_cases h3 : 3 < s.args.length
              · have Hr := hid (show P.stmtErr s = 9 by unfold PP.stmtErr; rw [Hm.out]; simp only [HBd.out, Hc.out, Hn.out]; simp [*])
                go_wp2
                go_ret
                exact ⟨by rw [Hr.out]; rfl, Hx6.out⟩
              · have Hr := hid (show P.stmtErr s = 0 by unfold PP.stmtErr; rw [Hm.out]; simp only [HBd.out, Hc.out, Hn.out]; simp [*])
                go_wp2
                go_ret
                exact ⟨by rw [Hr.out]; rfl, Hx6.out⟩
            | false =>
              have Hc := hid (show s.isK kCall = false from hc)
              by_cases h0 : 0 < s.args.length
              · have Hr := hid (show P.stmtErr s = 3 by unfold PP.stmtErr; rw [Hm.out]; simp only [HBd.out, Hc.out]; simp [h0])
                go_wp2
                go_ret
                exact ⟨by rw [Hr.out]; rfl, Hx6.out⟩
              · have Hr := hid (show P.stmtErr s = 0 by unfold PP.stmtErr; rw [Hm.out]; simp only [HBd.out, Hc.out, Hn.out]; simp [*])
                go_wp2
                go_ret
                exact ⟨by rw [Hr.out]; rfl, Hx6.out⟩
      · have HYv := hid (show P.boundY s = false by unfold PP.boundY; rw [Hf.out, decide_eq_false y2]; simp)
        go_wp2_with fail
        refine (H4.out _ Hx5.out).mono ?_
        intro e w6 hx
        obtain ⟨rfl, hx6⟩ := hx
        have Hx6 := hid (Hx5.out.trans hx6)
        clear d0 d1 d2 k0 k1 k2 k3
        have k0 := (HB2.out.ext hx6).av 0 rfl
        have k2 := (HB2.out.ext hx6).av 2 rfl
        have k3 := (HB2.out.ext hx6).av 3 rfl
        simp only [scells, qA0, qA1, qA2] at k0 k2 k3
        clear hx6 H4
        cases hx0 : P.inV s.x with
        | false =>
          have HX := hid hx0
          have Hr := hid (show P.stmtErr s = 2 by unfold PP.stmtErr PP.bound; rw [Hm.out, HX.out]; rfl)
          clear hx0
          go_wp2
          go_ret
          exact ⟨by rw [Hr.out]; rfl, Hx6.out⟩
        | true =>
          have HX := hid hx0
          clear hx0
          have Hr := hid (show P.stmtErr s = 2 by unfold PP.stmtErr PP.bound; rw [Hm.out, HX.out, HYv.out]; rfl)
          go_wp2
          go_ret
          exact ⟨by rw [Hr.out]; rfl, Hx6.out⟩
    · have HYv := hid (show P.boundY s = false by unfold PP.boundY; rw [Hf.out, decide_eq_false y1]; simp)
      go_wp2_with fail
      refine (H4.out _ Hx5.out).mono ?_
      intro e w6 hx
      obtain ⟨rfl, hx6⟩ := hx
      have Hx6 := hid (Hx5.out.trans hx6)
      clear d0 d1 d2 k0 k1 k2 k3
      have k0 := (HB2.out.ext hx6).av 0 rfl
      have k2 := (HB2.out.ext hx6).av 2 rfl
      have k3 := (HB2.out.ext hx6).av 3 rfl
      simp only [scells, qA0, qA1, qA2] at k0 k2 k3
      clear hx6 H4
      cases hx0 : P.inV s.x with
      | false =>
        have HX := hid hx0
        have Hr := hid (show P.stmtErr s = 2 by unfold PP.stmtErr PP.bound; rw [Hm.out, HX.out]; rfl)
        clear hx0
        go_wp2
        go_ret
        exact ⟨by rw [Hr.out]; rfl, Hx6.out⟩
      | true =>
        have HX := hid hx0
        clear hx0
        have Hr := hid (show P.stmtErr s = 2 by unfold PP.stmtErr PP.bound; rw [Hm.out, HX.out, HYv.out]; rfl)
        go_wp2
        go_ret
        exact ⟨by rw [Hr.out]; rfl, Hx6.out⟩
  | false =>
    have Hf := hid (show s.isK kFun = false from hf)
    cases hn : (s.kind.toList == [110, 101, 119]) with
    | true =>
      have HYv := hid (show P.boundY s = true by unfold PP.boundY; rw [Hf.out, show s.isK kNew = true from hn]; rfl)
      go_wp2_with fail
      refine (H4.out _ Hx5.out).mono ?_
      intro e w6 hx
      obtain ⟨rfl, hx6⟩ := hx
      have Hx6 := hid (Hx5.out.trans hx6)
      clear d0 d1 d2 k0 k1 k2 k3
      have k0 := (HB2.out.ext hx6).av 0 rfl
      have k2 := (HB2.out.ext hx6).av 2 rfl
      have k3 := (HB2.out.ext hx6).av 3 rfl
      simp only [scells, qA0, qA1, qA2] at k0 k2 k3
      clear hx6 H4
      cases hx0 : P.inV s.x with
      | false =>
        have HX := hid hx0
        have Hr := hid (show P.stmtErr s = 2 by unfold PP.stmtErr PP.bound; rw [Hm.out, HX.out]; rfl)
        clear hx0
        go_wp2
        go_ret
        exact ⟨by rw [Hr.out]; rfl, Hx6.out⟩
      | true =>
        have HX := hid hx0
        clear hx0
        cases ha0 : P.allV s.args with
        | false =>
          have HA := hid ha0
          clear ha0
          have Hr := hid (show P.stmtErr s = 2 by unfold PP.stmtErr PP.bound; rw [Hm.out, HX.out, HYv.out, HA.out]; rfl)
          go_wp2
          go_ret
          exact ⟨by rw [Hr.out]; rfl, Hx6.out⟩
        | true =>
          have HBd := hid (show P.bound s = true by unfold PP.bound; rw [HX.out, HYv.out, ha0]; rfl)
          clear ha0
          have Hn := hid (show s.isK kNew = true from hn)
          have hc : (s.kind.toList == [99, 97, 108, 108]) = false := by rw [eq_of_beq hn]; rfl
          have Hc := hid (show s.isK kCall = false from hc)
          by_cases h0 : 0 < s.args.length
          · have Hr := hid (show P.stmtErr s = 3 by unfold PP.stmtErr; rw [Hm.out]; simp only [HBd.out, Hc.out]; simp [h0])
            go_wp2
            go_ret
            exact ⟨by rw [Hr.out]; rfl, Hx6.out⟩
          · by_cases hy : s.y = 0
            · have hyb : (s.y != 0) = false := by rw [hy]; rfl
              have Hr := hid (show P.stmtErr s = 0 by unfold PP.stmtErr; rw [Hm.out]; simp only [HBd.out, Hc.out, Hn.out]; simp [*])
              go_wp2
              go_ret
              exact ⟨by rw [Hr.out]; rfl, Hx6.out⟩
            · have hyb : (s.y != 0) = true := bne_iff_ne.2 hy
              have Hr := hid (show P.stmtErr s = 3 by unfold PP.stmtErr; rw [Hm.out]; simp only [HBd.out, Hc.out, Hn.out]; simp [*])
              go_wp2
              go_ret
              exact ⟨by rw [Hr.out]; rfl, Hx6.out⟩
    | false =>
      cases hy0 : P.inV s.y with
      | true =>
        have HYv := hid (show P.boundY s = true by unfold PP.boundY; rw [Hf.out, show s.isK kNew = false from hn]; exact hy0)
        go_wp2_with fail
        refine (H4.out _ Hx5.out).mono ?_
        intro e w6 hx
        obtain ⟨rfl, hx6⟩ := hx
        have Hx6 := hid (Hx5.out.trans hx6)
        clear d0 d1 d2 k0 k1 k2 k3
        have k0 := (HB2.out.ext hx6).av 0 rfl
        have k2 := (HB2.out.ext hx6).av 2 rfl
        have k3 := (HB2.out.ext hx6).av 3 rfl
        simp only [scells, qA0, qA1, qA2] at k0 k2 k3
        clear hx6 H4
        cases hx0 : P.inV s.x with
        | false =>
          have HX := hid hx0
          have Hr := hid (show P.stmtErr s = 2 by unfold PP.stmtErr PP.bound; rw [Hm.out, HX.out]; rfl)
          clear hx0
          go_wp2
          go_ret
          exact ⟨by rw [Hr.out]; rfl, Hx6.out⟩
        | true =>
          have HX := hid hx0
          clear hx0
          cases ha0 : P.allV s.args with
          | false =>
            have HA := hid ha0
            clear ha0
            have Hr := hid (show P.stmtErr s = 2 by unfold PP.stmtErr PP.bound; rw [Hm.out, HX.out, HYv.out, HA.out]; rfl)
            go_wp2
            go_ret
            exact ⟨by rw [Hr.out]; rfl, Hx6.out⟩
          | true =>
            have HBd := hid (show P.bound s = true by unfold PP.bound; rw [HX.out, HYv.out, ha0]; rfl)
            clear ha0
            have Hn := hid (show s.isK kNew = false from hn)
            cases hc : (s.kind.toList == [99, 97, 108, 108]) with
            | true =>
              have Hc := hid (show s.isK kCall = true from hc)
              by_cases h3 : 3 < s.args.length
              · have Hr := hid (show P.stmtErr s = 9 by unfold PP.stmtErr; rw [Hm.out]; simp only [HBd.out, Hc.out, Hn.out]; simp [*])
                go_wp2
                go_ret
                exact ⟨by rw [Hr.out]; rfl, Hx6.out⟩
              · have Hr := hid (show P.stmtErr s = 0 by unfold PP.stmtErr; rw [Hm.out]; simp only [HBd.out, Hc.out, Hn.out]; simp [*])
                go_wp2
                go_ret
                exact ⟨by rw [Hr.out]; rfl, Hx6.out⟩
            | false =>
              have Hc := hid (show s.isK kCall = false from hc)
              by_cases h0 : 0 < s.args.length
              · have Hr := hid (show P.stmtErr s = 3 by unfold PP.stmtErr; rw [Hm.out]; simp only [HBd.out, Hc.out]; simp [h0])
                go_wp2
                go_ret
                exact ⟨by rw [Hr.out]; rfl, Hx6.out⟩
              · have Hr := hid (show P.stmtErr s = 0 by unfold PP.stmtErr; rw [Hm.out]; simp only [HBd.out, Hc.out, Hn.out]; simp [*])
                go_wp2
                go_ret
                exact ⟨by rw [Hr.out]; rfl, Hx6.out⟩
      | false =>
        have HYv := hid (show P.boundY s = false by unfold PP.boundY; rw [Hf.out, show s.isK kNew = false from hn]; exact hy0)
        go_wp2_with fail
        refine (H4.out _ Hx5.out).mono ?_
        intro e w6 hx
        obtain ⟨rfl, hx6⟩ := hx
        have Hx6 := hid (Hx5.out.trans hx6)
        clear d0 d1 d2 k0 k1 k2 k3
        have k0 := (HB2.out.ext hx6).av 0 rfl
        have k2 := (HB2.out.ext hx6).av 2 rfl
        have k3 := (HB2.out.ext hx6).av 3 rfl
        simp only [scells, qA0, qA1, qA2] at k0 k2 k3
        clear hx6 H4
        cases hx0 : P.inV s.x with
        | false =>
          have HX := hid hx0
          have Hr := hid (show P.stmtErr s = 2 by unfold PP.stmtErr PP.bound; rw [Hm.out, HX.out]; rfl)
          clear hx0
          go_wp2
          go_ret
          exact ⟨by rw [Hr.out]; rfl, Hx6.out⟩
        | true =>
          have HX := hid hx0
          clear hx0
          have Hr := hid (show P.stmtErr s = 2 by unfold PP.stmtErr PP.bound; rw [Hm.out, HX.out, HYv.out]; rfl)
          go_wp2
          go_ret
          exact ⟨by rw [Hr.out]; rfl, Hx6.out⟩
section
variable {P : Program} {ops : Array Oper} {X : Nat → Prop} {w0 : World} {Q : Act → World → Prop} {L : List Nat}
end
theorem does_append_el {ops : Array Oper} {o : Oper} {a : Act} {w : World} {R : Value → World → Prop} (base : Nat) (hbase : base ≤ w.heap.size) (t e : TypeId) (z : Value) (size bytes : Nat) (ht : Tryz.prog.underlying t = some (.slice e)) (hinf : (Tryz.prog.info? e).map (fun i => (i.zero, i.size, i.bytes)) = some (some z, size, bytes)) (hz1 : z.cells.size = size) (hsz : 0 < size)
    (hb8 : bytes ≤ 64) (hg : o.guard = none) (s x : Operand) (ho : o.op = .call { callee := .builtin .append, args := #[s, x], argTypes := #[t, t] })
    (v : Value) (n : Nat) (xs : List Value) (hs : a.eval s = v) (hown : w.ownsRow base e size v n xs) (g : Nat) (us : List Value) (hul : us.length = size) (hu : ∀ u ∈ us, u.oneCell' = true) (hx : a.eval x = .slice (some ⟨g, 0, none⟩) 1 1) (hb : Blk w g us.toArray e) (hl : n ≤ 1000000)
    (h : ∀ v' w', w'.ownsRow base e size v' (n + 1) (xs ++ us) → Keep (fun k => v.ownBlock = some k) w w' → (v'.ownBlock = v.ownBlock ∨ v'.ownBlock = some w.heap.size) → R v' w') : does Tryz.prog ops o a w R := by
  obtain ⟨ti, hi, hz0, hz, hz2⟩ := info_parts hinf
  obtain ⟨v', w', hr, h2, h3, _, h4⟩ := run_append_own_at (P := Tryz.prog) w base t o.type e ti z size bytes ht hi hz0 hz hz2 hz1 hsz v n xs hown ⟨g, 0, none⟩ 1 1 us (by rw [hul]; omega) (fun j q hq => by
    rw [show (⟨g, 0, none⟩ : Addr).add j = ⟨g, j, none⟩ from by by_cases h0 : j = 0 <;> simp [Addr.add, h0], hb.cell j]
    simpa using hq) hu (by simp only [maxLen]; omega) (by
      have : (n + 1) * bytes ≤ (n + 1) * 64 := Nat.mul_le_mul_left _ hb8
      omega) hbase
  exact does_of_run hg (run_exec_append s x t ho hs hx hr) (h v' w' h2 (grown_keep h3) h4)
section
variable {P : Program} {ops : Array Oper} {X : Nat → Prop} {w0 : World} {Q : Act → World → Prop} {L : List Nat}
theorem Flow.l {listed : Array Bool} {C : World → Prop} {a : Act} {v : Value} (i : Nat) (o : Oper) (ho : ops[i]? = some o) (hr : (Region.ready .any ops listed).contains i = true)
    (h : ∀ w, does P ops o a w (DetR v w)) (k : Flow P ops w0 Q X (i :: L) (listed.setIfInBounds i true) C (a.put o.dst v)) : Flow P ops w0 Q X L listed C a :=
  Flow.loose i o v ho (by simpa using hr) h k
end
def IntOne (k : Nat) (u : Value) (w : World) : Prop := ∃ b, u = .slice (some ⟨b, 0, none⟩) 1 1 ∧ Blk w b #[.int .i64 (k : Int)] 3
theorem IntOne.ext {k : Nat} {u : Value} {w w' : World} (h : IntOne k u w) (x : Ext w w') : IntOne k u w' := by
  obtain ⟨b, e, hb⟩ := h
  exact ⟨b, e, hb.ext x⟩
theorem IntOne.mk (k : Nat) (w : World) : IntOne k (.slice (some ⟨w.heap.size, 0, none⟩) 1 1) (w.alloc (.cells #[.int .i64 (k : Int)] 3)) := ⟨_, rfl, Blk.new _ _ _⟩
theorem isK_of {x : PS} {b : ByteArray} {k : List UInt8} (hb : b.toList = k) (h : eqB x.kind b = true) : x.isK k = true := by
  unfold eqB at h
  rw [hb] at h
  exact h
theorem kind_cases {P : PP} {x : PS} (h : P.stmtErr x = 0) : x.isK kAddr = true ∨ x.isK kCopy = true ∨ x.isK kLoad = true ∨ x.isK kStore = true ∨ x.isK kNew = true ∨ x.isK kFun = true ∨ x.isK kCall = true := by
  unfold PP.stmtErr at h
  cases hm : memB x.kind kindsS with
  | false => rw [hm] at h; simp at h
  | true =>
    simp only [memB, kindsS, List.any_cons, List.any_nil, Bool.or_false, Bool.or_eq_true] at hm
    refine hm.imp (fun h => ?_) (Or.imp (fun h => ?_) (Or.imp (fun h => ?_) (Or.imp (fun h => ?_) (Or.imp (fun h => ?_) (Or.imp (fun h => ?_) (fun h => ?_))))))
    · exact isK_of (k := kAddr) (by decide +kernel) h
    · exact isK_of (k := kCopy) (by decide +kernel) h
    · exact isK_of (k := kLoad) (by decide +kernel) h
    · exact isK_of (k := kStore) (by decide +kernel) h
    · exact isK_of (k := kNew) (by decide +kernel) h
    · exact isK_of (k := kFun) (by decide +kernel) h
    · exact isK_of (k := kCall) (by decide +kernel) h
def PP.badk (P : PP) (n : Int) : Bool := decide (n < 0) || decide ((P.stmts.length : Int) ≤ n)
def zeroS : Value := .agg #[.slice none 0 0, .slice none 0 0, .slice none 0 0]
def zcells : Array Value := #[.slice none 0 0, .slice none 0 0, .slice none 0 0]
theorem ErrIs.form {ad : Nat → Addr} {P : PP} {w : World} {v : Value} (h : ErrIs ad P w v) : (v = .nilIface ∧ P.err1 = 0 ∧ P.allWell) ∨ ((∃ t x, v = .iface t (.pointer (some x))) ∧ ¬ (P.err1 = 0 ∧ P.allWell)) := by
  rcases h with ⟨h1, h2⟩ | ⟨h1, h2, h3⟩ | ⟨h1, i, s, b, h2, h3, _⟩
  · refine .inr ⟨?_, fun h => h1 h.1⟩
    obtain ⟨x, hx⟩ : ∃ x, evOf ad P.err1 = .iface 282 (.pointer (some x)) := ⟨_, rfl⟩
    exact ⟨_, _, by rw [h2, hx]⟩
  · exact .inl ⟨h3, h1, h2⟩
  · refine .inr ⟨⟨_, _, h3⟩, fun h => h2.2.1 (h.2 i s ?_ h2.1)⟩
    rcases Nat.lt_or_ge i P.stmts.length with h | h
    · exact h
    · have h3 := h2.1; rw [List.getElem?_eq_none h] at h3; cases h3
def PP.FirstK (P : PP) (l : List Int) (i : Nat) : Prop := ∃ x, l[i]? = some x ∧ P.badk x = true ∧ ∀ j y, j < i → l[j]? = some y → P.badk y = false
def RunNo (ad : Nat → Addr) (P : PP) (l : List Int) (w : World) (v : Value) : Prop :=
  (¬ (P.err1 = 0 ∧ P.allWell) ∧ ErrIs ad P w v) ∨ (P.err1 = 0 ∧ P.allWell ∧ 2000 < l.length ∧ v = evOf ad 8) ∨
  (P.err1 = 0 ∧ P.allWell ∧ l.length ≤ 2000 ∧ ∃ i b, P.FirstK l i ∧ v = .iface 92 (.pointer (some ⟨b, 0, none⟩)) ∧ Blk w b #[.int .i64 (i : Int), evOf ad 2] 94)
def PP.Runs (P : PP) (l : List Int) : Prop := P.err1 = 0 ∧ P.allWell ∧ l.length ≤ 2000 ∧ ∀ x ∈ l, P.badk x = false
theorem store3_keep (w : World) (g : Nat) (v0 v1 v2 : Value) : Keep (fun b => b = g) w (((w.setCell ⟨g, 0, none⟩ v0).setCell ⟨g, 1, none⟩ v1).setCell ⟨g, 2, none⟩ v2) :=
  have k : ∀ (u : World) j v, Keep (fun b => b = g) w u → Keep (fun b => b = g) w (u.setCell ⟨g, j, none⟩ v) := fun _ _ v h => h.set rfl v
  k _ _ _ (k _ _ _ (k _ _ _ (Keep.refl _ w)))
theorem store3 {w : World} {g : Nat} {x0 x1 x2 v0 v1 v2 : Value} {t : TypeId} (h : Blk w g #[x0, x1, x2] t) : Blk (((w.setCell ⟨g, 0, none⟩ v0).setCell ⟨g, 1, none⟩ v1).setCell ⟨g, 2, none⟩ v2) g #[v0, v1, v2] t := by
  have := ((h.set 0 v0).set 1 v1).set 2 v2
  simpa using this
def FtAt (i : Nat) (ev : Value) (v : Value) (w : World) : Prop := ∃ b, v = .pointer (some ⟨b, 0, none⟩) ∧ Blk w b #[.int .i64 (i : Int), ev] 94
theorem FtAt.ext {i : Nat} {ev v : Value} {w w' : World} (h : FtAt i ev v w) (x : Ext w w') : FtAt i ev v w' := by
  obtain ⟨b, e, h⟩ := h
  exact ⟨b, e, h.ext x⟩
theorem Rn.Ok.step {P : PP} {s : Rn} (h : s.Ok P) (hw : P.allWell) (k : Nat) : (s.step P k).Ok P := by
  unfold Rn.step
  cases hx : P.stmts[k]? with
  | none => exact h
  | some x =>
    have hk : k < P.stmts.length := by
      rcases Nat.lt_or_ge k P.stmts.length with h | h
      · exact h
      · rw [List.getElem?_eq_none h] at hx; cases hx
    exact h.stmt k (PP.good (hw k x hk hx))
theorem Rn.Ok.foldl {P : PP} (hw : P.allWell) : ∀ (l : List Nat) {s : Rn}, s.Ok P → (l.foldl (Rn.step P) s).Ok P
  | [], _, h => h
  | k :: l, _, h => Rn.Ok.foldl hw l (h.step hw k)
theorem Rn.Ok.run {P : PP} (hw : P.allWell) (l : List Nat) : (Rn.run P l).Ok P := Rn.Ok.foldl hw l (Rn.Ok.begin P)
theorem ElR.lift {n0 n1 n : Nat} {v : Value} {E : Nat → Addr → Prop} (h : ElR n0 v n E) (hn : n0 ≤ n1) : ElR n1 v n E := h.mono hn fun _ _ _ _ h => h
theorem ProgR.lift {w : World} {n0 n1 : Nat} {v1 v2 v3 : Value} {P : PP} (h : ProgR w n0 v1 v2 v3 P) (hn : n0 ≤ n1) : ProgR w n1 v1 v2 v3 P :=
  ⟨ElR.lift h.vars hn, ElR.mono h.funs hn fun i y _ _ hE f hf => by
    obtain ⟨pv, h1, h2, h3, h4⟩ := hE f hf
    exact ⟨pv, h1, h2, h3, ElR.lift h4 hn⟩, ElR.mono h.stmts hn fun i y _ _ hE f hf => by
    obtain ⟨pv, h1, h2, h3, h4, h5⟩ := hE f hf
    exact ⟨pv, h1, h2, h3, h4, ElR.lift h5 hn⟩⟩
theorem IntsR.at {w : World} {n0 : Nat} {a : Option Addr} {n cap : Nat} {l : List Int} (h : IntsR w n0 (.slice a n cap) l) {k : Nat} (hk : k < l.length) : ∃ y q, a = some y ∧ l[k]? = some q ∧ w.cell? (y.add k) = some (.int .i64 q) := by
  obtain ⟨a', cap', h1, h2, h3, h4, h5⟩ := h
  obtain ⟨rfl, rfl, rfl⟩ : a = a' ∧ n = l.length ∧ cap = cap' := by simpa using h1
  obtain ⟨y, rfl⟩ := h4 (by omega)
  have hx : l[k]? = some (l[k]'hk) := List.getElem?_eq_getElem hk
  exact ⟨y, _, rfl, hx, (h5 y rfl (by omega)).2 k hk _ hx⟩
theorem PP.funs_ok {P : PP} (h : P.err1 = 0) : P.funsErr = 0 := by
  unfold PP.err1 at h
  cases hb : P.big with
  | true => rw [hb] at h; simp at h
  | false =>
    rw [hb] at h
    simp only [cond_false] at h
    split at h
    · omega
    · split at h
      · omega
      · exact h
def FaultIs (P : PP) (c : Nat) (p : Int) : Prop :=
  (P.err1 ≠ 0 ∧ c = P.err1 ∧ p = -1) ∨ (P.err1 = 0 ∧ P.allWell ∧ c = 0 ∧ p = -1) ∨ (P.err1 = 0 ∧ ∃ i s, P.FirstBad i s ∧ c = P.stmtErr s ∧ p = (i : Int))
theorem two_keep (w : World) (g : Nat) (v0 v1 : Value) : Keep (fun b => b = g) w ((w.setCell ⟨g, 0, none⟩ v0).setCell ⟨g, 1, none⟩ v1) :=
  have k : ∀ (u : World) j v, Keep (fun b => b = g) w u → Keep (fun b => b = g) w (u.setCell ⟨g, j, none⟩ v) := fun _ _ v h => h.set rfl v
  k _ _ _ (k _ _ _ (Keep.refl _ w))
theorem two {w : World} {g : Nat} {x0 x1 v0 v1 : Value} {t : TypeId} (h : Blk w g #[x0, x1] t) : Blk ((w.setCell ⟨g, 0, none⟩ v0).setCell ⟨g, 1, none⟩ v1) g #[v0, v1] t := by
  have := (h.set 0 v0).set 1 v1
  simpa using this
set_option maxRecDepth 100000 in
theorem rbare_any (n : Int) (w : World) : Calls Tryz.prog 26 #[.int .i64 n] w fun e w' => e = .returned (.agg #[.int .i64 n, .int .i64 (-1)]) ∧ Ext w w' := by
  have hB := Blk.new w #[.int .i64 0, .int .i64 0] 31
  have c0 := (two (v0 := .int .i64 n) (v1 := .int .i64 (-1)) hB).av 0 rfl
  have c1 := (two (v0 := .int .i64 n) (v1 := .int .i64 (-1)) hB).av 1 rfl
  have z0 := hB.av 0 rfl
  have z1 := hB.av 1 rfl
  have f0 := hB.free 0
  have f1 := hB.free 1
  go_enter Tryz.func26, Tryz.ntmps26
  go_wp2
  refine bodyPost_ret (v := .agg #[.int .i64 n, .int .i64 (-1)]) ?_ rfl ?_
  · simp [results, Tryz.results26, go_sem, c0, c1]
  exact ⟨rfl, (Ext.refl w).alloc _⟩
set_option maxRecDepth 100000 in
theorem rfine_any (w : World) : Calls Tryz.prog 55 #[] w fun e w' => e = .returned (.agg #[.int .i64 0, .int .i64 (-1)]) ∧ Ext w w' := by
  have hB := Blk.new w #[.int .i64 0, .int .i64 0] 31
  have c0 := (two (v0 := .int .i64 0) (v1 := .int .i64 (-1)) hB).av 0 rfl
  have c1 := (two (v0 := .int .i64 0) (v1 := .int .i64 (-1)) hB).av 1 rfl
  have z0 := hB.av 0 rfl
  have z1 := hB.av 1 rfl
  have f0 := hB.free 0
  have f1 := hB.free 1
  go_enter Tryz.func55, Tryz.ntmps55
  go_wp2
  refine bodyPost_ret (v := .agg #[.int .i64 0, .int .i64 (-1)]) ?_ rfl ?_
  · simp [results, Tryz.results55, go_sem, c0, c1]
  exact ⟨rfl, (Ext.refl w).alloc _⟩
theorem anyBad_of {l : List ByteArray} {k : Nat} {s : ByteArray} (h : l[k]? = some s) (hn : nameOk s = false) : anyBad l = true := List.any_eq_true.2 ⟨s, List.mem_of_getElem? h, by rw [hn]; rfl⟩
theorem anyBad_no {l : List ByteArray} (h : ∀ j s, j < l.length → l[j]? = some s → nameOk s = true) : anyBad l = false := List.any_eq_false.2 fun s hs => by
  obtain ⟨j, hj, e⟩ := List.mem_iff_getElem.1 hs
  rw [h j s hj (by rw [List.getElem?_eq_getElem hj, e])]
  decide
theorem dupS_of {l : List ByteArray} {i k : Nat} {s t : ByteArray} (hk : k < i) (h : l[i]? = some s) (h2 : l[k]? = some t) (he : eqB s t = true) : dupS l = true := by
  have hi : i < l.length := by
    rcases Nat.lt_or_ge i l.length with h' | h'
    · exact h'
    · rw [List.getElem?_eq_none h'] at h; cases h
  refine List.any_eq_true.2 ⟨i, List.mem_range.2 hi, List.any_eq_true.2 ⟨t, ?_, ?_⟩⟩
  · exact List.mem_of_getElem? (i := k) (by rw [List.getElem?_take, if_pos hk]; exact h2)
  · rw [List.getD_eq_getElem?_getD, h]; exact he
theorem dupS_no {l : List ByteArray} (h : ∀ (i k : Nat) (s t : ByteArray), i < l.length → k < i → l[i]? = some s → l[k]? = some t → eqB s t = false) : dupS l = false := by
  refine List.any_eq_false.2 fun i hi => ?_
  have hi' := List.mem_range.1 hi
  rw [Bool.not_eq_true]
  refine List.any_eq_false.2 fun t ht => ?_
  obtain ⟨k, hk, e⟩ := List.mem_iff_getElem.1 ht
  have hki : k < i := by rw [List.length_take] at hk; omega
  have e2 : l[k]? = some t := by
    have : (l.take i)[k]? = some t := by rw [List.getElem?_eq_getElem hk, e]
    rwa [List.getElem?_take, if_pos hki] at this
  have e1 : l[i]? = some (l.getD i ⟨#[]⟩) := by simp [List.getD_eq_getElem?_getD, hi']
  rw [h i k _ t hi' hki e1 e2]
  decide
def rgv (s : Rn) : Vl → Value
  | .var n => .tuple #[.agg #[.string (s.vars.getD n .none).kind, .int .i64 ((s.vars.getD n .none).num : Int)], .bool true]
  | .thing n => .tuple #[.agg #[.string (s.things.getD n .none).kind, .int .i64 ((s.things.getD n .none).num : Int)], .bool true]
  | _ => .tuple #[.agg #[.string ⟨#[]⟩, .int .i64 0], .bool false]
end Go.Proofs.YtbagppdibncfdaaGreatDoor
