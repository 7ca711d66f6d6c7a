/- Texts of one proof, put together: X4 VC. -/
import Derived.Test.YtnpnhbfbklibhaaGreatDoorZFO02
import Derived.Test.YtnpnhbfbklibhaaGreatDoorZFO10
import Derived.Test.YtnpnhbfbklibhaaGreatDoorZFO16
import Derived.Test.YtnpnhbfbklibhaaGreatDoorZFO17
import Derived.ProofKit
import Derived.OpenShut
import Derived.Lib.SmallJoins
import Derived.Deep.Slices

/- FixOrder: the law walked. -/
namespace Go.Proofs.YtnpnhbfbklibhaaGreatDoor
set_option linter.unusedSimpArgs false
set_option linter.unusedVariables false
open Go Go.RowKit

theorem own_lo {w : World} {base : Nat} {e : TypeId} {size : Nat} {v : Value} {n : Nat} {xs : List Value} (h : w.ownsRow base e size v n xs) {B : Nat} {c : Array Value} {t : TypeId} (hB : Blk w B c t) (hne : e ≠ t) : ¬ v.ownBlock = some B := fun e => by
  obtain ⟨c', hc'⟩ := own_ty h e
  exact Blk.ty_ne hc' hB hne rfl
/-- What a statement list has that makes a thing. -/
def anyNew (l : List PS) : Bool := l.any fun x => x.isK kNew
theorem anyNew_app (l : List PS) (x : PS) : anyNew (l ++ [x]) = (anyNew l || x.isK kNew) := by
  unfold anyNew
  rw [List.any_append]
  simp
theorem two_app (l : List PS) (x : PS) : (l ++ [x]).flatMap (fun x => [x, x]) = l.flatMap (fun x => [x, x]) ++ [x, x] := by
  rw [List.flatMap_append]; rfl
/-- What the append of one statement leaves. -/
theorem foapp {WW Wc w9 : World} {n1 g : Nat} {o1 o2 o3 o9 : Option Addr} {q1 q2 q3 q9 : Nat} {P : PP} {fs : List F2} {so : List S2} {m : PS} {mv : Value}
    (hO : OwnR Wc n1 (.slice o1 P.vars.length q1) (.slice o2 P.funs.length q2) (.slice o3 P.stmts.length q3) P fs so) (hB : Blk Wc g (pcells o1 o2 o3 q1 q2 q3 P) 26)
    (ho9 : w9.ownsRow n1 29 4 (.slice o9 (P.stmts.length + 1) q9) (P.stmts.length + 1) (so.flatMap S2.cells ++ S2.cells ⟨m, mv⟩)) (hk9 : Keep (fun k => (Value.slice o3 P.stmts.length q3).ownBlock = some k) Wc w9) (hx : Ext WW Wc) (hn1 : WW.heap.size ≤ n1) (hg : WW.heap.size ≤ g) :
    Blk w9 g #[.slice o1 P.vars.length q1, .slice o2 P.funs.length q2, .slice o3 P.stmts.length q3] 26 ∧ Blk (w9.setCell ⟨g, 2, none⟩ (.slice o9 (P.stmts.length + 1) q9)) g #[.slice o1 P.vars.length q1, .slice o2 P.funs.length q2, .slice o9 (P.stmts.length + 1) q9] 26 ∧ Ext WW (w9.setCell ⟨g, 2, none⟩ (.slice o9 (P.stmts.length + 1) q9)) ∧
    (IntsR (w9.setCell ⟨g, 2, none⟩ (.slice o9 (P.stmts.length + 1) q9)) (w9.setCell ⟨g, 2, none⟩ (.slice o9 (P.stmts.length + 1) q9)).heap.size mv m.args → ProgR (w9.setCell ⟨g, 2, none⟩ (.slice o9 (P.stmts.length + 1) q9)) (w9.setCell ⟨g, 2, none⟩ (.slice o9 (P.stmts.length + 1) q9)).heap.size (.slice o1 P.vars.length q1) (.slice o2 P.funs.length q2) (.slice o9 (P.stmts.length + 1) q9) (P.withS (P.stmts ++ [m]))) := by
  have hb9 := hB.keep hk9 (fun e => own_lo hO.stmts hB (by decide) e)
  have hb10 := hb9.set 2 (.slice o9 (P.stmts.length + 1) q9)
  have hk : Keep (fun q => q = g ∨ (Value.slice o3 P.stmts.length q3).ownBlock = some q) Wc (w9.setCell ⟨g, 2, none⟩ (.slice o9 (P.stmts.length + 1) q9)) := (hk9.mono fun _ _ h => .inr h).set (.inl rfl) _
  refine ⟨hb9, by simpa [pcells] using hb10, Keep.new hx hk (fun q h => ?_), fun hI => ?_⟩
  · rcases h with h | h
    · rw [h]; exact hg
    · exact Nat.le_trans hn1 (World.ownsRow.lt hO.stmts q h).1
  · exact OwnR.more hO ⟨m, mv⟩ hI (row_keep ho9 (Keep.set (X := fun q => q = g) (Keep.refl _ _) rfl _) (fun i hi e => own_lo ho9 hb9 (by decide) (by rw [hi, e]))) hk (fun q h => by
      rcases h with rfl | h
      · exact ⟨_, _, hB, by decide, by decide, by decide⟩
      · obtain ⟨c, hc⟩ := own_ty hO.stmts h
        exact ⟨c, _, hc, by decide, by decide, by decide⟩)
set_option maxRecDepth 100000 in
set_option maxHeartbeats 12800000 in
theorem fixorder_any (a1 a2 a3 : Option Addr) (c1 c2 c3 : Nat) (P : PP) (m : PS) (ma : Option Addr) (mc : Nat) (w : World) (ad : Nat → Addr) (hE : ErrsP w ad) (hS : ErrS w ad) (hP : ProgR w w.heap.size (.slice a1 P.vars.length c1) (.slice a2 P.funs.length c2) (.slice a3 P.stmts.length c3) P) (hm : IntsR w w.heap.size (.slice ma m.args.length mc) m.args) :
    Calls Tryz.prog 3 #[pval a1 a2 a3 c1 c2 c3 P, .agg #[.string m.kind, .int .i64 m.x, .int .i64 m.y, .slice ma m.args.length mc]] w fun e w' => e = .returned (.bool true) ∧ Ext w w' := by
  have HE := hid hE
  have HS := hid hS
  have HP := hid hP
  have HMi := hid hm
  obtain ⟨W0, hW0⟩ : ∃ W0, W0 = w.alloc (.cells (pcells a1 a2 a3 c1 c2 c3 P) 26) := ⟨_, rfl⟩
  have hx0 : Ext w W0 := by rw [hW0]; exact (Ext.refl _).alloc _
  have hs0 : W0.heap.size = w.heap.size + 1 := by rw [hW0, heap_size_alloc]
  obtain ⟨W1, hW1⟩ : ∃ W1, W1 = W0.alloc (.cells #[.string m.kind, .int .i64 m.x, .int .i64 m.y, .slice ma m.args.length mc] 29) := ⟨_, rfl⟩
  have hx1 : Ext W0 W1 := by rw [hW1]; exact (Ext.refl _).alloc _
  have HX1 : Hid (Ext w W1) := hid (hx0.trans hx1)
  have HB1 : Hid (Blk W1 w.heap.size (pcells a1 a2 a3 c1 c2 c3 P) 26) := hid (by
    have : Blk W0 w.heap.size (pcells a1 a2 a3 c1 c2 c3 P) 26 := by rw [hW0]; exact Blk.new _ _ _
    exact this.ext hx1)
  have HBm : Hid (Blk W1 (w.heap.size + 1) #[.string m.kind, .int .i64 m.x, .int .i64 m.y, .slice ma m.args.length mc] 29) := hid (by rw [← hs0, hW1]; exact Blk.new _ _ _)
  have HR := hid (fixed_any W1 ad (hE.ext HX1.out) (hS.ext HX1.out))
  have HW1 : Hid (W1 = (w.alloc (.cells #[.slice a1 P.vars.length c1, .slice a2 P.funs.length c2, .slice a3 P.stmts.length c3] 26)).alloc (.cells #[.string m.kind, .int .i64 m.x, .int .i64 m.y, .slice ma m.args.length mc] 29)) := hid (by rw [hW1, hW0]; rfl)
  have hml : (m.args.length : Int) ≤ 9223372036854775807 := by
    obtain ⟨_, _, h1, h2, h3, _⟩ := hm
    obtain ⟨rfl, -, rfl⟩ := Value.slice.inj h1
    omega
  unfold pval
  clear hE hS hP hW1 hW0 hm hx0 hx1 hs0
  go_enter Tryz.func3, Tryz.ntmps3
  go_wp2_with fail
  rw [← HW1.out]
  refine HR.out.mono ?_
  intro e w1 hx
  obtain ⟨rfl, hx1⟩ := hx
  have HL := hid (large_q a1 a2 a3 c1 c2 c3 20 (by omega) P w1 w.heap.size (HP.out.ext (HX1.out.trans hx1)))
  rw [show ((20 : Nat) : Int) = (20 : Int) from rfl] at HL
  unfold pval at HL
  have HX1' := hid (HX1.out.trans hx1)
  have HBp1 := hid (HB1.out.ext hx1)
  have HBm1 := hid (HBm.out.ext hx1)
  have p0 := HBp1.out.av 0 rfl
  have p1 := HBp1.out.av 1 rfl
  have p2 := HBp1.out.av 2 rfl
  simp only [pcells, List.getElem_toArray, List.getElem_cons_zero, List.getElem_cons_succ] at p0 p1 p2
  clear HR hx1
  go_wp2_with fail
  refine HL.out.mono ?_
  intro e w2 hx
  obtain ⟨r, rfl, hr, hsm, hx2⟩ := hx
  have HX2 := hid (HX1'.out.trans hx2)
  have HBp := hid (HBp1.out.ext hx2)
  have HBm2 := hid (HBm1.out.ext hx2)
  clear HL hx2 p0 p1 p2
  rcases (by omega : r = 1 ∨ r = 0) with rfl | rfl
  · clear hsm hr
    go_wp2
    go_ret
    exact ⟨rfl, HX2.out⟩
  have HSm := hid (hsm rfl).1
  have HQl := hid (hsm rfl).2
  clear hsm hr
  have m0 := HBm2.out.av 0 rfl
  have m3 := HBm2.out.av 3 rfl
  simp only [List.getElem_toArray, List.getElem_cons_zero, List.getElem_cons_succ] at m0 m3
  by_cases hA8 : 8 < m.args.length
  · go_wp2
    go_ret
    exact ⟨rfl, HX2.out⟩
  by_cases hK20 : 20 < m.kind.size
  · go_wp2
    go_ret
    exact ⟨rfl, HX2.out⟩
  generalize w2 = w2' at *
  have HX2' := HX2
  have HBp' := HBp
  have hz1 : ∀ s ∈ P.vars, s.size ≤ 1000000 := fun s hs => by have := HSm.out.vs s hs; omega
  have hz2 : ∀ s ∈ P.names, s.size ≤ 1000000 := fun s hs => by
    obtain ⟨f, hf, rfl⟩ := List.mem_map.1 hs
    have := (HSm.out.fs f hf).1
    omega
  have Hz1 := hid hz1
  have Hz2 := hid hz2
  have HPS := hid (show PS0 w2' w2'.heap.size ad a1 a2 a3 c1 c2 c3 P from ⟨HE.out.ext HX2'.out, (HP.out.ext HX2'.out).lift HX2'.out.size, Hz1.out, Hz2.out⟩)
  clear hz1 hz2
  have HQ := hid (ownprogram_any a1 a2 a3 c1 c2 c3 P w2' HPS.out.prog HSm.out)
  have p0 := HBp'.out.av 0 rfl
  have p1 := HBp'.out.av 1 rfl
  have p2 := HBp'.out.av 2 rfl
  simp only [pcells, List.getElem_toArray, List.getElem_cons_zero, List.getElem_cons_succ] at p0 p1 p2
  unfold pval at HQ
  go_wp2_with fail
  refine HQ.out.mono ?_
  intro e w3 hx
  obtain ⟨hx3, b1, b2, b3, d1, d2, d3, rfl, hq⟩ := hx
  have HX3 := hid (HX2'.out.trans hx3)
  have Hx3 := hid hx3
  have Hq3 := hid hq
  clear HQ hx3 hq p0 p1 p2
  obtain ⟨W9, hW9⟩ : ∃ W9, W9 = w3.alloc (.cells (pcells b1 b2 b3 d1 d2 d3 P) 26) := ⟨_, rfl⟩
  have hx9 : Ext w3 W9 := by rw [hW9]; exact (Ext.refl _).alloc _
  have HXw := hid (HX3.out.trans hx9)
  have Hw9 := hid (Hx3.out.trans hx9)
  have HB6 : Hid (Blk W9 w3.heap.size (pcells b1 b2 b3 d1 d2 d3 P) 26) := hid (by rw [hW9]; exact Blk.new _ _ _)
  have HW9 : Hid (W9 = w3.alloc (.cells #[.slice b1 P.vars.length d1, .slice b2 P.funs.length d2, .slice b3 P.stmts.length d3] 26)) := hid (by rw [hW9]; rfl)
  have HPP9 := hid (show PS0 W9 W9.heap.size ad b1 b2 b3 d1 d2 d3 P from ⟨HE.out.ext HXw.out, (Hq3.out.ext hx9).lift hx9.size, Hz1.out, Hz2.out⟩)
  have HS9 := hid (HS.out.ext HXw.out)
  clear hx9 hW9
  have HBm9 := hid (HBm2.out.ext Hw9.out)
  clear m0 m3
  rcases Classical.em P.Well with hw | hw
  · obtain ⟨n, S, hL⟩ := least_exists hw
    have hgood := hL.good hw
    have HSl := hid hgood.2.1
    have HSk := hid (show ∀ l ∈ S, chkE l = 0 from fun l hl => (hgood.ok.ok l hl).1)
    have Hw := hid hw
    have Hgood := hid hgood
    have HLe := hid hL
    have hS126 : S.length ≤ 126 := by
      have h1 := hw.few
      have h2 := nodesV_le P hw
      have := HSl.out
      omega
    have hs20 : P.stmts.length ≤ 20 := by
      have h1 := hw.few
      have := HQl.out
      omega
    have HL := hid (fixleast_ok b1 b2 b3 d1 d2 d3 P W9 ad (HPP9.out.pw hw) HS9.out n S hL)
    rw [← HSl.out] at HL
    unfold pval at HL
    clear hw hgood hL
    go_wp2_with fail
    rw [← HW9.out]
    refine HL.out.mono ?_
    intro e w4 hx
    obtain ⟨a, c, rfl, hs, hx4⟩ := hx
    have Hs4 := hid hs
    have HZ4 := hid hx4
    have g0 := (HB6.out.ext HZ4.out).av 0 rfl
    have g1 := (HB6.out.ext HZ4.out).av 1 rfl
    have g2 := (HB6.out.ext HZ4.out).av 2 rfl
    simp only [pcells, List.getElem_toArray, List.getElem_cons_zero, List.getElem_cons_succ] at g0 g1 g2
    obtain ⟨W10, hW10⟩ : ∃ W10, W10 = w4.alloc (.cells #[.slice b1 P.vars.length d1, .slice b2 P.funs.length d2, .slice none 0 0] 26) := ⟨_, rfl⟩
    have hx10 : Ext w4 W10 := by rw [hW10]; exact (Ext.refl _).alloc _
    have HB10 : Hid (Blk W10 w4.heap.size #[.slice b1 P.vars.length d1, .slice b2 P.funs.length d2, .slice none 0 0] 26) := hid (by rw [hW10]; exact Blk.new _ _ _)
    have HW10s : Hid (W10.heap.size = w4.heap.size + 1) := hid (by rw [hW10, heap_size_alloc])
    have HW10 := hid hW10
    have HX410 := hid hx10
    have HX10 := hid (HZ4.out.trans hx10)
    have HP4 := hid (HPP9.out.on (Nat.le_refl _) HZ4.out).prog
    have h2 := (HB6.out.ext HX10.out).av 2 rfl
    simp only [pcells, List.getElem_toArray, List.getElem_cons_zero, List.getElem_cons_succ] at h2
    rw [HW10.out] at h2
    clear HL hs hx4 hW10 hx10
    go_wp2
    rw [← HW10.out]
    clear g0 g1 g2 h2
    obtain ⟨B10, hB10⟩ : ∃ B10, B10 = w4.heap.size := ⟨_, rfl⟩
    have HB10e := hid hB10
    rw [← hB10] at HB10 ⊢
    clear hB10
    go_loopw [11, 12] (fun t11 t12 wr => ∃ (j k K : Nat) (v : Int) (d : Bool) (sv : Value) (ss : List S2), t11 = .bool d ∧ t12 = .int .i64 v ∧ v = (j : Int) - 1 ∧ j + k = P.stmts.length ∧ K = 2 * k ∧ Blk wr B10 #[.slice b1 P.vars.length d1, .slice b2 P.funs.length d2, sv] 26 ∧ wr.ownsRow 0 29 4 sv K (ss.flatMap S2.cells) ∧ (∀ k, sv.ownBlock = some k → W10.heap.size ≤ k) ∧ ss.map S2.s = (P.stmts.reverse.take k).flatMap (fun x => [x, x]) ∧ (∀ x ∈ ss, IntsR w4 w4.heap.size x.v x.s.args) ∧ anyNew (P.stmts.reverse.take k) = d ∧ Ext w4 wr) (fun _ t12 _ => (intOf t12 + 1).toNat)
    case atStart => exact ⟨P.stmts.length, 0, 0, _, false, _, [], rfl, rfl, rfl, rfl, rfl, HB10.out, World.ownsRow_nil _ _ _ _, (fun k h => by cases h), rfl, (fun x h => by cases h), rfl, HX410.out⟩
    case round =>
      obtain ⟨j, k, K, v, d, sv, ss, rfl, rfl, hv, hjk, hK, hbr, hr, hlo, hm, hi, hd, hx⟩ := hrel
      obtain ⟨a7, c7, rfl⟩ := row_form hr
      have hK40 : K ≤ 40 := by omega
      have HK := hid hK
      have HBr := hid hbr
      have Hr := hid hr
      have Hlo := hid hlo
      have Hm := hid hm
      have Hi := hid hi
      have Hd := hid hd
      have Hx := hid hx
      clear hK hbr hr hlo hm hi hd hx
      cases j with
      | succ i =>
        obtain rfl : v = (i : Int) := by omega
        have hi0 : i < P.stmts.length := by omega
        have HxA := hid (HZ4.out.trans Hx.out)
        obtain ⟨y, x, av, cv, rfl, hq, f0, f1, f2, f3, hI⟩ := HP4.out.stmts.at hi0
        have hrev : P.stmts.reverse[k]? = some x := by
          rw [List.getElem?_reverse (by omega), show P.stmts.length - 1 - k = i by omega]
          exact hq
        have hne10 := own_lo Hr.out HBr.out (by decide)
        have Hne10 := hid hne10
        have hlt : ∀ (q : Addr) (u : Value), w4.cell? q = some u → ¬ (Value.slice a7 K c7).ownBlock = some q.block := fun q u h e => by
          have h1 := cell_lt h
          have h2 := Hlo.out _ e
          have h3 := HW10s.out
          omega
        have q10 := HBr.out.kc (X := fun q => (Value.slice a7 K c7).ownBlock = some q) hne10 2 rfl
        have q6 := (HB6.out.ext HxA.out).kc (X := fun q => (Value.slice a7 K c7).ownBlock = some q) (own_lo Hr.out (HB6.out.ext HxA.out) (by decide)) 2 rfl
        simp only [pcells, List.getElem_toArray, List.getElem_cons_zero, List.getElem_cons_succ] at q10 q6
        have e0 : ∀ w1, Keep (fun q => (Value.slice a7 K c7).ownBlock = some q) wr w1 → w1.cell? (y.add (i * 4)) = some (.string x.kind) := fun w1 kk => kk.cellx (Hx.out.cellx f0) (hlt _ _ f0)
        have e1 : ∀ w1, Keep (fun q => (Value.slice a7 K c7).ownBlock = some q) wr w1 → w1.cell? ⟨(y.add (i * 4)).block, (y.add (i * 4)).off + 1, none⟩ = some (.int .i64 x.x) := fun w1 kk => kk.cellx (Hx.out.cellx f1) (hlt _ _ f1)
        have e2 : ∀ w1, Keep (fun q => (Value.slice a7 K c7).ownBlock = some q) wr w1 → w1.cell? ⟨(y.add (i * 4)).block, (y.add (i * 4)).off + 2, none⟩ = some (.int .i64 x.y) := fun w1 kk => kk.cellx (Hx.out.cellx f2) (hlt _ _ f2)
        have e3 : ∀ w1, Keep (fun q => (Value.slice a7 K c7).ownBlock = some q) wr w1 → w1.cell? ⟨(y.add (i * 4)).block, (y.add (i * 4)).off + 3, none⟩ = some (.slice av x.args.length cv) := fun w1 kk => kk.cellx (Hx.out.cellx f3) (hlt _ _ f3)
        have Hx4 := hid hI
        have Hrev := hid hrev
        have u0 := e0 wr (Keep.refl _ _)
        have u6 := q6 wr (Keep.refl _ _)
        clear f0 f1 f2 f3 hI hrev hq hv hne10 hlt
        have Hb : Hid (x.isK kNew = (x.kind.toList == [110, 101, 119])) := hid rfl
        cases d with
        | true =>
          go_wp2
          refine wp_flowT (fun q => (Value.slice a7 K c7).ownBlock = some q) (by kernel_rfl) (by kernel_rfl) ?_
          repeat (apply FlowT.d; (intro w1 hk; unfold does; go_simp; (try go_ints); (first | exact DetR.mk | (simp only [↓IntWalk.iteOmega, Oper.doesUpon_value]; exact DetR.mk) | (simp only [↓IntWalk.iteOmega]; go_simp; (try go_ints); exact DetR.mk))); simp only [Act.put, List.setIfInBounds_toArray, List.set_cons_zero, List.set_cons_succ])
          refine FlowT.s (fun v' w' => ∃ b, v' = .slice (some ⟨b, 0, none⟩) 2 2 ∧ Blk w' b #[.string x.kind, .int .i64 x.x, .int .i64 x.y, .slice av x.args.length cv, .string x.kind, .int .i64 x.x, .int .i64 x.y, .slice av x.args.length cv] 29 ∧ Ext wr w') 12 rfl (by kernel_rfl) (fun _ _ _ ⟨b, h1, h2, h3⟩ he => ⟨b, h1, h2.ext he, h3.trans he⟩) (fun w5 hC hk => ?_) (fun v2 hv2 => ?_)
          · unfold does
            go_simp
            exact ⟨hk.alloc _, _, rfl, Blk.new _ _ _, hC.alloc _⟩
          obtain ⟨_, b, rfl, _, _⟩ := hv2
          simp only [Act.put, List.setIfInBounds_toArray, List.set_cons_zero, List.set_cons_succ]
          refine FlowT.s (fun v' w' => w'.ownsRow 0 29 4 v' (K + 2) (ss.flatMap S2.cells ++ [S2.mk x (.slice av x.args.length cv), S2.mk x (.slice av x.args.length cv)].flatMap S2.cells) ∧ ∀ k, v'.ownBlock = some k → (Value.slice a7 K c7).ownBlock = some k ∨ wr.heap.size ≤ k) 13 rfl (by kernel_rfl) (fun _ _ _ h he => ⟨row_keep h.1 (he.keep fun _ => False) (fun _ _ h => h), h.2⟩) (fun w5 hC hk => ?_) (fun v3 hv3 => ?_)
          · obtain ⟨b', hb2, hblk, hx5⟩ := hC
            obtain rfl : b = b' := by simpa using hb2
            obtain ⟨ti, hi0, hz0, hz1, hz2⟩ := info_parts stmt_info
            refine does_append rfl (.tmp 78) (.tmp 89) 24 rfl 29 ti _ 4 56 Tryz.underlying24 hi0 hz0 hz1 hz2 rfl (by decide) (.slice a7 K c7) K (ss.flatMap S2.cells) rfl (row_keep Hr.out (hx5.keep fun _ => False) (fun _ _ h => h)) ⟨b, 0, none⟩ 2 2 ([S2.mk x (.slice av x.args.length cv), S2.mk x (.slice av x.args.length cv)].flatMap S2.cells) rfl rfl ?_ (by simp [S2.cells, Value.oneCell']) (by unfold maxLen; omega) (by omega) (fun v' w' ho hkk hb3 => ?_)
            · intro j u hj
              rw [show (⟨b, 0, none⟩ : Addr).add j = ⟨b, j, none⟩ from by by_cases h0 : j = 0 <;> simp [Addr.add, h0], hblk.cell j]
              simpa [S2.cells] using hj
            · refine ⟨(hx5.keep _).trans hkk, ho, fun k hk' => ?_⟩
              rcases hb3 k hk' with h1 | h1
              · exact .inl h1
              · exact .inr (Nat.le_trans hx5.size h1)
          obtain ⟨a8, c8, rfl⟩ : ∃ a8 c8, v3 = .slice a8 (K + 2) c8 := by
            obtain ⟨_, h1, _⟩ := hv3
            exact row_form h1
          clear hv3
          simp only [Act.put, List.setIfInBounds_toArray, List.set_cons_zero, List.set_cons_succ]
          repeat (apply FlowT.d; (intro w1 hk; unfold does; go_simp; (try go_ints); (first | exact DetR.mk | (simp only [↓IntWalk.iteOmega, Oper.doesUpon_value]; exact DetR.mk) | (simp only [↓IntWalk.iteOmega]; go_simp; (try go_ints); exact DetR.mk))); simp only [Act.put, List.setIfInBounds_toArray, List.set_cons_zero, List.set_cons_succ])
          refine FlowT.last (fun _ w' => ∃ w6, w6.ownsRow 0 29 4 (.slice a8 (K + 2) c8) (K + 2) (ss.flatMap S2.cells ++ [S2.mk x (.slice av x.args.length cv), S2.mk x (.slice av x.args.length cv)].flatMap S2.cells) ∧ (∀ k, (Value.slice a8 (K + 2) c8).ownBlock = some k → (Value.slice a7 K c7).ownBlock = some k ∨ wr.heap.size ≤ k) ∧ Keep (fun k => (Value.slice a7 K c7).ownBlock = some k) wr w6 ∧ w' = w6.setCell ⟨B10, 2, none⟩ (.slice a8 (K + 2) c8)) 15 rfl (by kernel_rfl) (by kernel_rfl) (fun w6 hC hk => ?_) (fun v w7 hR => ?_)
          · have q4 := q10 w6 hk
            have f4 := (HBr.out.keep hk Hne10.out).free 2
            unfold does
            go_simp
            exact ⟨w6, hC.1, hC.2, hk, rfl⟩
          obtain ⟨w6, ho, hb3, hk6, rfl⟩ := hR
          simp only [Act.put]
          have hB6' := HBr.out.keep hk6 Hne10.out
          have hB7 := hB6'.set 2 (.slice a8 (K + 2) c8)
          simp only [List.setIfInBounds_toArray, List.set_cons_zero, List.set_cons_succ] at hB7
          have hk7 : Keep (fun k => k = B10 ∨ (Value.slice a7 K c7).ownBlock = some k) wr (w6.setCell ⟨B10, 2, none⟩ (.slice a8 (K + 2) c8)) := (hk6.mono fun k _ h => .inr h).set (.inl rfl) _
          have hL7 := row_keep (X := fun k => k = B10) ho (Keep.set (X := fun k => k = B10) (Keep.refl _ w6) rfl _) (w' := w6.setCell ⟨B10, 2, none⟩ (.slice a8 (K + 2) c8)) (fun k hk e => own_lo ho hB6' (by decide) (by rw [hk, e]))
          have hx7 : Ext w4 (w6.setCell ⟨B10, 2, none⟩ (.slice a8 (K + 2) c8)) := Keep.new Hx.out hk7 fun k h => by
            rcases h with h | h
            · rw [h, HB10e.out]; exact Nat.le_refl _
            · exact Nat.le_of_lt (Nat.lt_of_lt_of_le (by rw [HW10s.out]; exact Nat.lt_succ_self _) (Hlo.out k h))
          have HL7 := hid hL7
          have HB7 := hid hB7
          have Hx7 := hid hx7
          have Hlo7 : Hid (∀ k, (Value.slice a8 (K + 2) c8).ownBlock = some k → W10.heap.size ≤ k) := hid fun k hk => by
            rcases hb3 k hk with h1 | h1
            · exact Hlo.out k h1
            · have := HBr.out.lt
              have h2 := HW10s.out
              have h3 := HB10e.out
              omega
          clear ho hb3 hk6 hB6' hB7 hk7 hL7 hx7 q10 q6 e0 e1 e2 e3
          generalize w6.setCell ⟨B10, 2, none⟩ (.slice a8 (K + 2) c8) = W7 at *
          go_wp2
          go_roundw
          case rel =>
            refine ⟨i, k + 1, K + 2, _, true, .slice a8 (K + 2) c8, ss ++ [S2.mk x (.slice av x.args.length cv), S2.mk x (.slice av x.args.length cv)], rfl, rfl, by omega, by omega, by have := HK.out; omega, HB7.out, ?_, Hlo7.out, ?_, ?_, ?_, Hx7.out⟩
            · rw [List.flatMap_append]; exact HL7.out
            · rw [List.map_append, Hm.out, List.take_add_one, Hrev.out]
              exact (two_app _ x).symm
            · intro z hz
              rcases List.mem_append.1 hz with hz | hz
              · exact Hi.out z hz
              · have : z = S2.mk x (.slice av x.args.length cv) := by simpa using hz
                rw [this]
                exact Hx4.out
            · rw [List.take_add_one, Hrev.out]
              show anyNew (_ ++ [x]) = _
              rw [anyNew_app, Hd.out, Hb.out]
              rfl
          case measure => simp [intOf]
        | false =>
          cases hb : (x.kind.toList == [110, 101, 119]) with
          | true =>
            rw [hb] at Hb
            go_wp2
            refine wp_flowT (fun q => (Value.slice a7 K c7).ownBlock = some q) (by kernel_rfl) (by kernel_rfl) ?_
            repeat (apply FlowT.d; (intro w1 hk; unfold does; go_simp; (try go_ints); (first | exact DetR.mk | (simp only [↓IntWalk.iteOmega, Oper.doesUpon_value]; exact DetR.mk) | (simp only [↓IntWalk.iteOmega]; go_simp; (try go_ints); exact DetR.mk))); simp only [Act.put, List.setIfInBounds_toArray, List.set_cons_zero, List.set_cons_succ])
            refine FlowT.s (fun v' w' => ∃ b, v' = .slice (some ⟨b, 0, none⟩) 2 2 ∧ Blk w' b #[.string x.kind, .int .i64 x.x, .int .i64 x.y, .slice av x.args.length cv, .string x.kind, .int .i64 x.x, .int .i64 x.y, .slice av x.args.length cv] 29 ∧ Ext wr w') 12 rfl (by kernel_rfl) (fun _ _ _ ⟨b, h1, h2, h3⟩ he => ⟨b, h1, h2.ext he, h3.trans he⟩) (fun w5 hC hk => ?_) (fun v2 hv2 => ?_)
            · unfold does
              go_simp
              exact ⟨hk.alloc _, _, rfl, Blk.new _ _ _, hC.alloc _⟩
            obtain ⟨_, b, rfl, _, _⟩ := hv2
            simp only [Act.put, List.setIfInBounds_toArray, List.set_cons_zero, List.set_cons_succ]
            refine FlowT.s (fun v' w' => w'.ownsRow 0 29 4 v' (K + 2) (ss.flatMap S2.cells ++ [S2.mk x (.slice av x.args.length cv), S2.mk x (.slice av x.args.length cv)].flatMap S2.cells) ∧ ∀ k, v'.ownBlock = some k → (Value.slice a7 K c7).ownBlock = some k ∨ wr.heap.size ≤ k) 13 rfl (by kernel_rfl) (fun _ _ _ h he => ⟨row_keep h.1 (he.keep fun _ => False) (fun _ _ h => h), h.2⟩) (fun w5 hC hk => ?_) (fun v3 hv3 => ?_)
            · obtain ⟨b', hb2, hblk, hx5⟩ := hC
              obtain rfl : b = b' := by simpa using hb2
              obtain ⟨ti, hi0, hz0, hz1, hz2⟩ := info_parts stmt_info
              refine does_append rfl (.tmp 78) (.tmp 89) 24 rfl 29 ti _ 4 56 Tryz.underlying24 hi0 hz0 hz1 hz2 rfl (by decide) (.slice a7 K c7) K (ss.flatMap S2.cells) rfl (row_keep Hr.out (hx5.keep fun _ => False) (fun _ _ h => h)) ⟨b, 0, none⟩ 2 2 ([S2.mk x (.slice av x.args.length cv), S2.mk x (.slice av x.args.length cv)].flatMap S2.cells) rfl rfl ?_ (by simp [S2.cells, Value.oneCell']) (by unfold maxLen; omega) (by omega) (fun v' w' ho hkk hb3 => ?_)
              · intro j u hj
                rw [show (⟨b, 0, none⟩ : Addr).add j = ⟨b, j, none⟩ from by by_cases h0 : j = 0 <;> simp [Addr.add, h0], hblk.cell j]
                simpa [S2.cells] using hj
              · refine ⟨(hx5.keep _).trans hkk, ho, fun k hk' => ?_⟩
                rcases hb3 k hk' with h1 | h1
                · exact .inl h1
                · exact .inr (Nat.le_trans hx5.size h1)
            obtain ⟨a8, c8, rfl⟩ : ∃ a8 c8, v3 = .slice a8 (K + 2) c8 := by
              obtain ⟨_, h1, _⟩ := hv3
              exact row_form h1
            clear hv3
            simp only [Act.put, List.setIfInBounds_toArray, List.set_cons_zero, List.set_cons_succ]
            repeat (apply FlowT.d; (intro w1 hk; unfold does; go_simp; (try go_ints); (first | exact DetR.mk | (simp only [↓IntWalk.iteOmega, Oper.doesUpon_value]; exact DetR.mk) | (simp only [↓IntWalk.iteOmega]; go_simp; (try go_ints); exact DetR.mk))); simp only [Act.put, List.setIfInBounds_toArray, List.set_cons_zero, List.set_cons_succ])
            refine FlowT.last (fun _ w' => ∃ w6, w6.ownsRow 0 29 4 (.slice a8 (K + 2) c8) (K + 2) (ss.flatMap S2.cells ++ [S2.mk x (.slice av x.args.length cv), S2.mk x (.slice av x.args.length cv)].flatMap S2.cells) ∧ (∀ k, (Value.slice a8 (K + 2) c8).ownBlock = some k → (Value.slice a7 K c7).ownBlock = some k ∨ wr.heap.size ≤ k) ∧ Keep (fun k => (Value.slice a7 K c7).ownBlock = some k) wr w6 ∧ w' = w6.setCell ⟨B10, 2, none⟩ (.slice a8 (K + 2) c8)) 15 rfl (by kernel_rfl) (by kernel_rfl) (fun w6 hC hk => ?_) (fun v w7 hR => ?_)
            · have q4 := q10 w6 hk
              have f4 := (HBr.out.keep hk Hne10.out).free 2
              unfold does
              go_simp
              exact ⟨w6, hC.1, hC.2, hk, rfl⟩
            obtain ⟨w6, ho, hb3, hk6, rfl⟩ := hR
            simp only [Act.put]
            have hB6' := HBr.out.keep hk6 Hne10.out
            have hB7 := hB6'.set 2 (.slice a8 (K + 2) c8)
            simp only [List.setIfInBounds_toArray, List.set_cons_zero, List.set_cons_succ] at hB7
            have hk7 : Keep (fun k => k = B10 ∨ (Value.slice a7 K c7).ownBlock = some k) wr (w6.setCell ⟨B10, 2, none⟩ (.slice a8 (K + 2) c8)) := (hk6.mono fun k _ h => .inr h).set (.inl rfl) _
            have hL7 := row_keep (X := fun k => k = B10) ho (Keep.set (X := fun k => k = B10) (Keep.refl _ w6) rfl _) (w' := w6.setCell ⟨B10, 2, none⟩ (.slice a8 (K + 2) c8)) (fun k hk e => own_lo ho hB6' (by decide) (by rw [hk, e]))
            have hx7 : Ext w4 (w6.setCell ⟨B10, 2, none⟩ (.slice a8 (K + 2) c8)) := Keep.new Hx.out hk7 fun k h => by
              rcases h with h | h
              · rw [h, HB10e.out]; exact Nat.le_refl _
              · exact Nat.le_of_lt (Nat.lt_of_lt_of_le (by rw [HW10s.out]; exact Nat.lt_succ_self _) (Hlo.out k h))
            have HL7 := hid hL7
            have HB7 := hid hB7
            have Hx7 := hid hx7
            have Hlo7 : Hid (∀ k, (Value.slice a8 (K + 2) c8).ownBlock = some k → W10.heap.size ≤ k) := hid fun k hk => by
              rcases hb3 k hk with h1 | h1
              · exact Hlo.out k h1
              · have := HBr.out.lt
                have h2 := HW10s.out
                have h3 := HB10e.out
                omega
            clear ho hb3 hk6 hB6' hB7 hk7 hL7 hx7 q10 q6 e0 e1 e2 e3
            generalize w6.setCell ⟨B10, 2, none⟩ (.slice a8 (K + 2) c8) = W7 at *
            go_wp2
            go_roundw
            case rel =>
              refine ⟨i, k + 1, K + 2, _, true, .slice a8 (K + 2) c8, ss ++ [S2.mk x (.slice av x.args.length cv), S2.mk x (.slice av x.args.length cv)], rfl, rfl, by omega, by omega, by have := HK.out; omega, HB7.out, ?_, Hlo7.out, ?_, ?_, ?_, Hx7.out⟩
              · rw [List.flatMap_append]; exact HL7.out
              · rw [List.map_append, Hm.out, List.take_add_one, Hrev.out]
                exact (two_app _ x).symm
              · intro z hz
                rcases List.mem_append.1 hz with hz | hz
                · exact Hi.out z hz
                · have : z = S2.mk x (.slice av x.args.length cv) := by simpa using hz
                  rw [this]
                  exact Hx4.out
              · rw [List.take_add_one, Hrev.out]
                show anyNew (_ ++ [x]) = _
                rw [anyNew_app, Hd.out, Hb.out]
                rfl
            case measure => simp [intOf]
          | false =>
            rw [hb] at Hb
            go_wp2
            refine wp_flowT (fun q => (Value.slice a7 K c7).ownBlock = some q) (by kernel_rfl) (by kernel_rfl) ?_
            repeat (apply FlowT.d; (intro w1 hk; unfold does; go_simp; (try go_ints); (first | exact DetR.mk | (simp only [↓IntWalk.iteOmega, Oper.doesUpon_value]; exact DetR.mk) | (simp only [↓IntWalk.iteOmega]; go_simp; (try go_ints); exact DetR.mk))); simp only [Act.put, List.setIfInBounds_toArray, List.set_cons_zero, List.set_cons_succ])
            refine FlowT.s (fun v' w' => ∃ b, v' = .slice (some ⟨b, 0, none⟩) 2 2 ∧ Blk w' b #[.string x.kind, .int .i64 x.x, .int .i64 x.y, .slice av x.args.length cv, .string x.kind, .int .i64 x.x, .int .i64 x.y, .slice av x.args.length cv] 29 ∧ Ext wr w') 12 rfl (by kernel_rfl) (fun _ _ _ ⟨b, h1, h2, h3⟩ he => ⟨b, h1, h2.ext he, h3.trans he⟩) (fun w5 hC hk => ?_) (fun v2 hv2 => ?_)
            · unfold does
              go_simp
              exact ⟨hk.alloc _, _, rfl, Blk.new _ _ _, hC.alloc _⟩
            obtain ⟨_, b, rfl, _, _⟩ := hv2
            simp only [Act.put, List.setIfInBounds_toArray, List.set_cons_zero, List.set_cons_succ]
            refine FlowT.s (fun v' w' => w'.ownsRow 0 29 4 v' (K + 2) (ss.flatMap S2.cells ++ [S2.mk x (.slice av x.args.length cv), S2.mk x (.slice av x.args.length cv)].flatMap S2.cells) ∧ ∀ k, v'.ownBlock = some k → (Value.slice a7 K c7).ownBlock = some k ∨ wr.heap.size ≤ k) 13 rfl (by kernel_rfl) (fun _ _ _ h he => ⟨row_keep h.1 (he.keep fun _ => False) (fun _ _ h => h), h.2⟩) (fun w5 hC hk => ?_) (fun v3 hv3 => ?_)
            · obtain ⟨b', hb2, hblk, hx5⟩ := hC
              obtain rfl : b = b' := by simpa using hb2
              obtain ⟨ti, hi0, hz0, hz1, hz2⟩ := info_parts stmt_info
              refine does_append rfl (.tmp 78) (.tmp 89) 24 rfl 29 ti _ 4 56 Tryz.underlying24 hi0 hz0 hz1 hz2 rfl (by decide) (.slice a7 K c7) K (ss.flatMap S2.cells) rfl (row_keep Hr.out (hx5.keep fun _ => False) (fun _ _ h => h)) ⟨b, 0, none⟩ 2 2 ([S2.mk x (.slice av x.args.length cv), S2.mk x (.slice av x.args.length cv)].flatMap S2.cells) rfl rfl ?_ (by simp [S2.cells, Value.oneCell']) (by unfold maxLen; omega) (by omega) (fun v' w' ho hkk hb3 => ?_)
              · intro j u hj
                rw [show (⟨b, 0, none⟩ : Addr).add j = ⟨b, j, none⟩ from by by_cases h0 : j = 0 <;> simp [Addr.add, h0], hblk.cell j]
                simpa [S2.cells] using hj
              · refine ⟨(hx5.keep _).trans hkk, ho, fun k hk' => ?_⟩
                rcases hb3 k hk' with h1 | h1
                · exact .inl h1
                · exact .inr (Nat.le_trans hx5.size h1)
            obtain ⟨a8, c8, rfl⟩ : ∃ a8 c8, v3 = .slice a8 (K + 2) c8 := by
              obtain ⟨_, h1, _⟩ := hv3
              exact row_form h1
            clear hv3
            simp only [Act.put, List.setIfInBounds_toArray, List.set_cons_zero, List.set_cons_succ]
            repeat (apply FlowT.d; (intro w1 hk; unfold does; go_simp; (try go_ints); (first | exact DetR.mk | (simp only [↓IntWalk.iteOmega, Oper.doesUpon_value]; exact DetR.mk) | (simp only [↓IntWalk.iteOmega]; go_simp; (try go_ints); exact DetR.mk))); simp only [Act.put, List.setIfInBounds_toArray, List.set_cons_zero, List.set_cons_succ])
            refine FlowT.last (fun _ w' => ∃ w6, w6.ownsRow 0 29 4 (.slice a8 (K + 2) c8) (K + 2) (ss.flatMap S2.cells ++ [S2.mk x (.slice av x.args.length cv), S2.mk x (.slice av x.args.length cv)].flatMap S2.cells) ∧ (∀ k, (Value.slice a8 (K + 2) c8).ownBlock = some k → (Value.slice a7 K c7).ownBlock = some k ∨ wr.heap.size ≤ k) ∧ Keep (fun k => (Value.slice a7 K c7).ownBlock = some k) wr w6 ∧ w' = w6.setCell ⟨B10, 2, none⟩ (.slice a8 (K + 2) c8)) 15 rfl (by kernel_rfl) (by kernel_rfl) (fun w6 hC hk => ?_) (fun v w7 hR => ?_)
            · have q4 := q10 w6 hk
              have f4 := (HBr.out.keep hk Hne10.out).free 2
              unfold does
              go_simp
              exact ⟨w6, hC.1, hC.2, hk, rfl⟩
            obtain ⟨w6, ho, hb3, hk6, rfl⟩ := hR
            simp only [Act.put]
            have hB6' := HBr.out.keep hk6 Hne10.out
            have hB7 := hB6'.set 2 (.slice a8 (K + 2) c8)
            simp only [List.setIfInBounds_toArray, List.set_cons_zero, List.set_cons_succ] at hB7
            have hk7 : Keep (fun k => k = B10 ∨ (Value.slice a7 K c7).ownBlock = some k) wr (w6.setCell ⟨B10, 2, none⟩ (.slice a8 (K + 2) c8)) := (hk6.mono fun k _ h => .inr h).set (.inl rfl) _
            have hL7 := row_keep (X := fun k => k = B10) ho (Keep.set (X := fun k => k = B10) (Keep.refl _ w6) rfl _) (w' := w6.setCell ⟨B10, 2, none⟩ (.slice a8 (K + 2) c8)) (fun k hk e => own_lo ho hB6' (by decide) (by rw [hk, e]))
            have hx7 : Ext w4 (w6.setCell ⟨B10, 2, none⟩ (.slice a8 (K + 2) c8)) := Keep.new Hx.out hk7 fun k h => by
              rcases h with h | h
              · rw [h, HB10e.out]; exact Nat.le_refl _
              · exact Nat.le_of_lt (Nat.lt_of_lt_of_le (by rw [HW10s.out]; exact Nat.lt_succ_self _) (Hlo.out k h))
            have HL7 := hid hL7
            have HB7 := hid hB7
            have Hx7 := hid hx7
            have Hlo7 : Hid (∀ k, (Value.slice a8 (K + 2) c8).ownBlock = some k → W10.heap.size ≤ k) := hid fun k hk => by
              rcases hb3 k hk with h1 | h1
              · exact Hlo.out k h1
              · have := HBr.out.lt
                have h2 := HW10s.out
                have h3 := HB10e.out
                omega
            clear ho hb3 hk6 hB6' hB7 hk7 hL7 hx7 q10 q6 e0 e1 e2 e3
            generalize w6.setCell ⟨B10, 2, none⟩ (.slice a8 (K + 2) c8) = W7 at *
            go_wp2
            go_roundw
            case rel =>
              refine ⟨i, k + 1, K + 2, _, false, .slice a8 (K + 2) c8, ss ++ [S2.mk x (.slice av x.args.length cv), S2.mk x (.slice av x.args.length cv)], rfl, rfl, by omega, by omega, by have := HK.out; omega, HB7.out, ?_, Hlo7.out, ?_, ?_, ?_, Hx7.out⟩
              · rw [List.flatMap_append]; exact HL7.out
              · rw [List.map_append, Hm.out, List.take_add_one, Hrev.out]
                exact (two_app _ x).symm
              · intro z hz
                rcases List.mem_append.1 hz with hz | hz
                · exact Hi.out z hz
                · have : z = S2.mk x (.slice av x.args.length cv) := by simpa using hz
                  rw [this]
                  exact Hx4.out
              · rw [List.take_add_one, Hrev.out]
                show anyNew (_ ++ [x]) = _
                rw [anyNew_app, Hd.out, Hb.out]
                rfl
            case measure => simp [intOf]
      | zero =>
        obtain rfl : v = -1 := by omega
        obtain rfl : k = P.stmts.length := by omega
        rw [List.take_of_length_le (Nat.le_of_eq List.length_reverse)] at Hm Hd
        have HxA := hid (HZ4.out.trans Hx.out)
        have Hs5 := hid ((Hs4.out.ext Hx.out).lift Hx.out.size)
        clear hv hjk
        cases d with
        | true =>
          have HxC := HxA
          have Hs7 := Hs5
          have HO := hid (ownprogram_own b1 b2 b3 d1 d2 d3 P wr (HPP9.out.on (Nat.le_refl _) HxC.out).prog HSm.out)
          unfold pval at HO
          have g0 := (HB6.out.ext HxC.out).av 0 rfl
          have g1 := (HB6.out.ext HxC.out).av 1 rfl
          have g2 := (HB6.out.ext HxC.out).av 2 rfl
          simp only [pcells, List.getElem_toArray, List.getElem_cons_zero, List.getElem_cons_succ] at g0 g1 g2
          go_wp2_with fail
          refine HO.out.mono ?_
          intro e w7 hx
          obtain ⟨hx7, n1, o1, o2, o3, q1, q2, q3, fs, so, rfl, hn1, hn2, hO⟩ := hx
          have HxD := hid (HxC.out.trans hx7)
          have Hx7 := hid hx7
          have HO7 := hid hO
          have Hn1 := hid hn1
          obtain ⟨W11, hW11⟩ : ∃ W11, W11 = w7.alloc (.cells (pcells o1 o2 o3 q1 q2 q3 P) 26) := ⟨_, rfl⟩
          have hx11 : Ext w7 W11 := by rw [hW11]; exact (Ext.refl _).alloc _
          have hs11 : W11.heap.size = w7.heap.size + 1 := by rw [hW11, heap_size_alloc]
          have HX11 := hid (HxD.out.trans hx11)
          have hx12 : Ext w7 (W11.alloc (.cells #[.string m.kind, .int .i64 m.x, .int .i64 m.y, .slice ma m.args.length mc] 29)) := hx11.trans ((Ext.refl _).alloc _)
          have HX12 := hid (HxD.out.trans hx12)
          have Hx712 := hid (hx7.trans hx12)
          have Hn2 : Hid (n1 ≤ (W11.alloc (.cells #[.string m.kind, .int .i64 m.x, .int .i64 m.y, .slice ma m.args.length mc] 29)).heap.size) := hid (Nat.le_trans hn2 hx12.size)
          have HB11 : Hid (Blk W11 w7.heap.size (pcells o1 o2 o3 q1 q2 q3 P) 26) := hid (by rw [hW11]; exact Blk.new _ _ _)
          have HB12 := hid (HB11.out.ext ((Ext.refl _).alloc (.cells #[.string m.kind, .int .i64 m.x, .int .i64 m.y, .slice ma m.args.length mc] 29)))
          have HBs : Hid (Blk (W11.alloc (.cells #[.string m.kind, .int .i64 m.x, .int .i64 m.y, .slice ma m.args.length mc] 29)) (w7.heap.size + 1) #[.string m.kind, .int .i64 m.x, .int .i64 m.y, .slice ma m.args.length mc] 29) := hid (by rw [← hs11]; exact Blk.new _ _ _)
          have HR12 := hid (HO7.out.ext hx12)
          have HBm12 := hid (HBm9.out.ext HX12.out)
          have HW11 : Hid (W11 = w7.alloc (.cells #[.slice o1 P.vars.length q1, .slice o2 P.funs.length q2, .slice o3 P.stmts.length q3] 26)) := hid (by rw [hW11]; rfl)
          have h2 := HB11.out.av 2 rfl
          have m0 := (HBm9.out.ext HX11.out).av 0 rfl
          have m1 := (HBm9.out.ext HX11.out).av 1 rfl
          have m2 := (HBm9.out.ext HX11.out).av 2 rfl
          have m3 := (HBm9.out.ext HX11.out).av 3 rfl
          simp only [pcells, List.getElem_toArray, List.getElem_cons_zero, List.getElem_cons_succ] at h2 m0 m1 m2 m3
          rw [HW11.out] at h2 m0 m1 m2 m3
          clear HO hx7 hO hn1 hn2 hx11 hx12 hs11 hW11 g0 g1 g2
          cases hb : (m.kind.toList == [110, 101, 119]) with
          | true =>
            go_wp2_with (at_builtin; rw [← HW11.out]; refine wpList_append_el n1 Hn2.out 24 29 (.agg #[.string ⟨#[]⟩, .int .i64 0, .int .i64 0, .slice none 0 0]) 4 56 Tryz.underlying24 stmt_info rfl (by omega) (by omega) rfl _ _ rfl (.slice o3 P.stmts.length q3) P.stmts.length (so.flatMap S2.cells) rfl HR12.out.stmts (w7.heap.size + 1) (S2.cells ⟨m, .slice ma m.args.length mc⟩) rfl (by simp [S2.cells, Value.oneCell']) rfl HBs.out (by omega) ?_; intro v9 w9 ho9 hk9 hl9; obtain ⟨o9, q9, rfl⟩ := row_form ho9; obtain ⟨hb9, hb10, hx13, hpr⟩ := foapp HR12.out HB12.out ho9 hk9 Hx712.out Hn1.out Hx7.out.size; have s1 := hb9.av 2 rfl; have t1 := hb9.free 2; have r0 := hb10.av 0 rfl; have r1 := hb10.av 1 rfl; have r2 := hb10.av 2 rfl; have mk := (HBm9.out.ext (HxC.out.trans hx13)).av 0 rfl; simp only [List.getElem_toArray, List.getElem_cons_zero, List.getElem_cons_succ] at s1 r0 r1 r2 mk; have Hx13 := hid hx13; have HB13 := hid hb10; have HPr := hid (hpr (ElR.lift (HMi.out.old ((HXw.out.trans (HxC.out.trans hx13)).old _)) (HXw.out.trans (HxC.out.trans hx13)).size)); clear hb9 hb10 hx13 hpr ho9 hk9 hl9)
            go_ret
            exact ⟨rfl, HXw.out.trans (HxC.out.trans Hx13.out)⟩
          | false =>
            go_wp2_with (at_builtin; rw [← HW11.out]; refine wpList_append_el n1 Hn2.out 24 29 (.agg #[.string ⟨#[]⟩, .int .i64 0, .int .i64 0, .slice none 0 0]) 4 56 Tryz.underlying24 stmt_info rfl (by omega) (by omega) rfl _ _ rfl (.slice o3 P.stmts.length q3) P.stmts.length (so.flatMap S2.cells) rfl HR12.out.stmts (w7.heap.size + 1) (S2.cells ⟨m, .slice ma m.args.length mc⟩) rfl (by simp [S2.cells, Value.oneCell']) rfl HBs.out (by omega) ?_; intro v9 w9 ho9 hk9 hl9; obtain ⟨o9, q9, rfl⟩ := row_form ho9; obtain ⟨hb9, hb10, hx13, hpr⟩ := foapp HR12.out HB12.out ho9 hk9 Hx712.out Hn1.out Hx7.out.size; have s1 := hb9.av 2 rfl; have t1 := hb9.free 2; have r0 := hb10.av 0 rfl; have r1 := hb10.av 1 rfl; have r2 := hb10.av 2 rfl; have mk := (HBm9.out.ext (HxC.out.trans hx13)).av 0 rfl; simp only [List.getElem_toArray, List.getElem_cons_zero, List.getElem_cons_succ] at s1 r0 r1 r2 mk; have Hx13 := hid hx13; have HB13 := hid hb10; have HPr := hid (hpr (ElR.lift (HMi.out.old ((HXw.out.trans (HxC.out.trans hx13)).old _)) (HXw.out.trans (HxC.out.trans hx13)).size)); clear hb9 hb10 hx13 hpr ho9 hk9 hl9)
            generalize w9.setCell ⟨w7.heap.size, 2, none⟩ (.slice o9 (P.stmts.length + 1) q9) = W13 at *
            have HX13 := hid (HxC.out.trans Hx13.out)
            have hmn : m.isK kNew = false := hb
            have hPl : (P.withS (P.stmts ++ [m])).stmts.length = P.stmts.length + 1 := List.length_append
            have hPv : (P.withS (P.stmts ++ [m])).vars = P.vars := rfl
            have hPf : (P.withS (P.stmts ++ [m])).funs = P.funs := rfl
            have HPP13 := hid (show PS0 W13 W13.heap.size ad o1 o2 o9 q1 q2 q9 (P.withS (P.stmts ++ [m])) from ⟨HE.out.ext (HXw.out.trans HX13.out), ⟨HPr.out.vars, HPr.out.funs, by rw [hPl]; exact HPr.out.stmts⟩, Hz1.out, Hz2.out⟩)
            have hml2 : ((P.withS (P.stmts ++ [m])).vars.length : Int) ≤ 9223372036854775807 := by
              have := Hw.out.few
              rw [hPv]
              omega
            have HK := hid (pcheck_any o1 o2 o9 q1 q2 q9 (P.withS (P.stmts ++ [m])) W13 W13.heap.size ad HPP13.out.errs HPP13.out.prog Hz1.out Hz2.out hml2)
            unfold pval at HK
            rw [hPl, hPv, hPf] at HK
            have Hmn := hid hmn
            have Hpl := hid hPl
            clear hmn hPl hPv hPf hml2 r0 r1 r2 mk
            refine HK.out.mono ?_
            intro e w14 hx
            obtain ⟨v, rfl, hi, hx14⟩ := hx
            have Hx14 := hid hx14
            have HX14 := hid (HX13.out.trans hx14)
            have Hs14 := hid ((Hs7.out.ext (Hx13.out.trans hx14)).lift (Hx13.out.trans hx14).size)
            have HB14 := hid (HB13.out.ext hx14)
            rcases hi.form with ⟨hnil, hw1⟩ | ⟨⟨t, x, hv⟩, hno⟩
            · subst hnil
              have hw' : (P.withS (P.stmts ++ [m])).Well := hw1
              obtain ⟨n3, T, hT⟩ := least_exists hw'
              obtain ⟨hlen, hsub⟩ := least_more Hmn.out Hw.out hw' HLe.out hT
              have HL3 := hid (fixleast_ok o1 o2 o9 q1 q2 q9 (P.withS (P.stmts ++ [m])) w14 ad ((HPP13.out.on (Nat.le_refl _) hx14).pw hw') (HS9.out.ext HX14.out) n3 T hT)
              rw [nodes_more Hmn.out, ← HSl.out] at HL3
              unfold pval at HL3
              rw [Hpl.out] at HL3
              rw [show (P.withS (P.stmts ++ [m])).vars = P.vars from rfl, show (P.withS (P.stmts ++ [m])).funs = P.funs from rfl] at HL3
              have Hlen := hid hlen
              have Hsub := hid hsub
              have r0 := HB14.out.av 0 rfl
              have r1 := HB14.out.av 1 rfl
              have r2 := HB14.out.av 2 rfl
              simp only [List.getElem_toArray, List.getElem_cons_zero, List.getElem_cons_succ] at r0 r1 r2
              clear HK hi hx14 hw' hw1 hT hlen hsub
              go_wp2_with fail
              refine HL3.out.mono ?_
              intro e w15 hx
              obtain ⟨at5, ct5, rfl, hs, hx15⟩ := hx
              have HT15 := hid hs
              have HX15 := hid (HX14.out.trans hx15)
              have Hs15 := hid ((Hs14.out.ext hx15).lift hx15.size)
              clear HL3 hs hx15 r0 r1 r2
              go_wp2
              go_loopw [19] (fun t19 wr => ∃ k : Nat, t19 = .int .i64 (k : Int) ∧ k ≤ S.length ∧ Ext w15 wr) (fun t19 _ => S.length - (intOf t19).toNat)
              case atStart => exact ⟨0, rfl, Nat.zero_le _, Ext.refl _⟩
              case round =>
                rename World => wr
                obtain ⟨k, rfl, hk, hx⟩ := hrel
                have Hx := hid hx
                clear hx
                by_cases hlt : k < S.length
                · have hlt2 : k < T.length := by rw [← Hlen.out]; exact hlt
                  obtain ⟨y, l, bl, cl, hy, hl, hc, hI⟩ := (Hs15.out.ext Hx.out).at hlt
                  subst hy
                  obtain ⟨z, l2, bm, cm, hz, hm, hcm, hI'⟩ := (HT15.out.ext Hx.out).at hlt2
                  subst hz
                  have hall : (l.all fun n => decide (n ∈ l2)) = true := List.all_eq_true.2 fun x hx => decide_eq_true (by
                    have := Hsub.out k x (by rw [List.getD_eq_getElem?_getD, hl]; exact hx)
                    rw [List.getD_eq_getElem?_getD, hm] at this
                    exact this)
                  have HC := fun w1 (x : Ext wr w1) => hid (setwithin_any (.slice bl l.length cl) (.slice bm l2.length cm) l l2 w1 _ (hI.old (x.old _)) (hI'.old (x.old _)))
                  rw [hall] at HC
                  have j0 : ∀ w1, Keep (fun _ => False) wr w1 → w1.cell? (y.add k) = some (.slice bl l.length cl) := fun w1 k => k.ext.cellx hc
                  have j1 : ∀ w1, Keep (fun _ => False) wr w1 → w1.cell? (z.add k) = some (.slice bm l2.length cm) := fun w1 k => k.ext.cellx hcm
                  clear hl hm hc hcm hI hI' hall
                  go_wp2
                  refine wp_flowT (fun _ => False) (by kernel_rfl) (by kernel_rfl) ?_
                  repeat (apply FlowT.d; (intro w1 hk; unfold does; go_simp; (try go_ints); (first | exact DetR.mk | (simp only [↓IntWalk.iteOmega, Oper.doesUpon_value]; exact DetR.mk) | (simp only [↓IntWalk.iteOmega]; go_simp; (try go_ints); exact DetR.mk))); simp only [Act.put, List.setIfInBounds_toArray, List.set_cons_zero, List.set_cons_succ])
                  refine FlowT.s (fun v w' => v = .bool true ∧ Ext wr w') 8 rfl (by kernel_rfl) (fun _ _ _ ⟨h1, h3⟩ y => ⟨h1, h3.trans y⟩) (fun wa hC hk2 => ?_) ?_
                  · have HCa := HC wa hC
                    unfold does
                    go_simp
                    refine CallR.act (HCa.out.mono ?_)
                    rintro e wb ⟨rfl, hx⟩
                    exact ⟨_, rfl, hk2.trans (hx.keep _), rfl, hC.trans hx⟩
                  rintro _ ⟨_, rfl, _⟩
                  simp only [Act.put, List.setIfInBounds_toArray, List.set_cons_zero, List.set_cons_succ]
                  repeat (apply FlowT.d; (intro w1 hk; unfold does; go_simp; (try go_ints); (first | exact DetR.mk | (simp only [↓IntWalk.iteOmega, Oper.doesUpon_value]; exact DetR.mk) | (simp only [↓IntWalk.iteOmega]; go_simp; (try go_ints); exact DetR.mk))); simp only [Act.put, List.setIfInBounds_toArray, List.set_cons_zero, List.set_cons_succ])
                  refine FlowT.fin fun w16 hC9 hk9 => ?_
                  obtain ⟨_, hx9⟩ := hC9
                  have Hx9 := hid (Hx.out.trans hx9)
                  clear hx9 hk9 j0 j1 HC
                  go_wp2
                  go_roundw
                  case rel => exact ⟨k + 1, by go_num, by omega, Hx9.out⟩
                  case measure => simp [intOf]; omega
                · obtain rfl : k = S.length := by omega
                  go_wp2
                  go_ret
                  exact ⟨rfl, HXw.out.trans (HX15.out.trans Hx.out)⟩
            · subst hv
              clear HK hi hx14 hno
              go_wp2
              go_ret
              exact ⟨rfl, HXw.out.trans HX14.out⟩
        | false =>
          have HNo : Hid P.noNew := hid fun x hx => by
            have := Hd.out
            unfold anyNew at this
            have h := List.any_eq_false.1 this x (List.mem_reverse.2 hx)
            simpa using h
          have hTl : (P.withS (twice P.stmts)).stmts.length = K := by
            rw [show (P.withS (twice P.stmts)).stmts.length = (twice P.stmts).length from rfl, twice_len, HK.out]
          have htv : (P.withS (twice P.stmts)).vars = P.vars := rfl
          have htf : (P.withS (twice P.stmts)).funs = P.funs := rfl
          have hssl : ss.length = K := by rw [← List.length_map (f := S2.s), Hm.out, ← hTl]; rfl
          have HSt : StmtsR wr wr.heap.size (.slice a7 K c7) (P.withS (twice P.stmts)).stmts :=
            StmtsR.own2 (base := 0) (ss := ss) (by rw [hssl]; exact Hr.out) Hm.out fun z hz => ElR.lift ((Hi.out z hz).old (Hx.out.old _)) Hx.out.size
          have hPP := HPP9.out.on (Nat.le_refl _) HxA.out
          have hTT : PS0 wr wr.heap.size ad b1 b2 a7 d1 d2 c7 (P.withS (twice P.stmts)) := ⟨hPP.errs, ⟨hPP.prog.vars, hPP.prog.funs, by rw [hTl]; exact HSt⟩, Hz1.out, Hz2.out⟩
          have hw2 : (P.withS (twice P.stmts)).Well := well_withS (mem_twice _) (by rw [twice_len]; omega) Hw.out
          obtain ⟨n2, T, hT⟩ := least_exists hw2
          obtain rfl := least_withS HNo.out (mem_twice _) (by rw [twice_len]; omega) Hw.out HLe.out hT
          have HL2 := hid (fixleast_ok b1 b2 a7 d1 d2 c7 (P.withS (twice P.stmts)) wr ad (hTT.pw hw2) (HS9.out.ext HxA.out) n2 S hT)
          rw [nodes_withS HNo.out (mem_twice _), ← HSl.out] at HL2
          unfold pval at HL2
          rw [hTl, htv, htf] at HL2
          have k0 := HBr.out.av 0 rfl
          have k1 := HBr.out.av 1 rfl
          have k2 := HBr.out.av 2 rfl
          simp only [List.getElem_toArray, List.getElem_cons_zero, List.getElem_cons_succ] at k0 k1 k2
          clear hTl htv htf hssl HSt hPP hTT hw2 hT
          go_wp2_with fail
          refine HL2.out.mono ?_
          intro e w5 hx
          obtain ⟨a5, c5, rfl, hs, hx5⟩ := hx
          have HxB := hid (HxA.out.trans hx5)
          have Hs6 := hid ((Hs5.out.ext hx5).lift hx5.size)
          have HSS := hid (samesets_any (.slice a S.length c) (.slice a5 S.length c5) S S w5 w5.heap.size Hs6.out hs HSk.out HSk.out)
          rw [decide_eq_true (rfl : S = S)] at HSS
          clear HL2 hs hx5 k0 k1 k2
          go_wp2_with fail
          refine HSS.out.mono ?_
          intro e w6 hx
          obtain ⟨rfl, hx6⟩ := hx
          have HxC := hid (HxB.out.trans hx6)
          have Hs7 := hid ((Hs6.out.ext hx6).lift hx6.size)
          clear HSS hx6
          have HO := hid (ownprogram_own b1 b2 b3 d1 d2 d3 P w6 (HPP9.out.on (Nat.le_refl _) HxC.out).prog HSm.out)
          unfold pval at HO
          have g0 := (HB6.out.ext HxC.out).av 0 rfl
          have g1 := (HB6.out.ext HxC.out).av 1 rfl
          have g2 := (HB6.out.ext HxC.out).av 2 rfl
          simp only [pcells, List.getElem_toArray, List.getElem_cons_zero, List.getElem_cons_succ] at g0 g1 g2
          go_wp2_with fail
          refine HO.out.mono ?_
          intro e w7 hx
          obtain ⟨hx7, n1, o1, o2, o3, q1, q2, q3, fs, so, rfl, hn1, hn2, hO⟩ := hx
          have HxD := hid (HxC.out.trans hx7)
          have Hx7 := hid hx7
          have HO7 := hid hO
          have Hn1 := hid hn1
          obtain ⟨W11, hW11⟩ : ∃ W11, W11 = w7.alloc (.cells (pcells o1 o2 o3 q1 q2 q3 P) 26) := ⟨_, rfl⟩
          have hx11 : Ext w7 W11 := by rw [hW11]; exact (Ext.refl _).alloc _
          have hs11 : W11.heap.size = w7.heap.size + 1 := by rw [hW11, heap_size_alloc]
          have HX11 := hid (HxD.out.trans hx11)
          have hx12 : Ext w7 (W11.alloc (.cells #[.string m.kind, .int .i64 m.x, .int .i64 m.y, .slice ma m.args.length mc] 29)) := hx11.trans ((Ext.refl _).alloc _)
          have HX12 := hid (HxD.out.trans hx12)
          have Hx712 := hid (hx7.trans hx12)
          have Hn2 : Hid (n1 ≤ (W11.alloc (.cells #[.string m.kind, .int .i64 m.x, .int .i64 m.y, .slice ma m.args.length mc] 29)).heap.size) := hid (Nat.le_trans hn2 hx12.size)
          have HB11 : Hid (Blk W11 w7.heap.size (pcells o1 o2 o3 q1 q2 q3 P) 26) := hid (by rw [hW11]; exact Blk.new _ _ _)
          have HB12 := hid (HB11.out.ext ((Ext.refl _).alloc (.cells #[.string m.kind, .int .i64 m.x, .int .i64 m.y, .slice ma m.args.length mc] 29)))
          have HBs : Hid (Blk (W11.alloc (.cells #[.string m.kind, .int .i64 m.x, .int .i64 m.y, .slice ma m.args.length mc] 29)) (w7.heap.size + 1) #[.string m.kind, .int .i64 m.x, .int .i64 m.y, .slice ma m.args.length mc] 29) := hid (by rw [← hs11]; exact Blk.new _ _ _)
          have HR12 := hid (HO7.out.ext hx12)
          have HBm12 := hid (HBm9.out.ext HX12.out)
          have HW11 : Hid (W11 = w7.alloc (.cells #[.slice o1 P.vars.length q1, .slice o2 P.funs.length q2, .slice o3 P.stmts.length q3] 26)) := hid (by rw [hW11]; rfl)
          have h2 := HB11.out.av 2 rfl
          have m0 := (HBm9.out.ext HX11.out).av 0 rfl
          have m1 := (HBm9.out.ext HX11.out).av 1 rfl
          have m2 := (HBm9.out.ext HX11.out).av 2 rfl
          have m3 := (HBm9.out.ext HX11.out).av 3 rfl
          simp only [pcells, List.getElem_toArray, List.getElem_cons_zero, List.getElem_cons_succ] at h2 m0 m1 m2 m3
          rw [HW11.out] at h2 m0 m1 m2 m3
          clear HO hx7 hO hn1 hn2 hx11 hx12 hs11 hW11 g0 g1 g2
          cases hb : (m.kind.toList == [110, 101, 119]) with
          | true =>
            go_wp2_with (at_builtin; rw [← HW11.out]; refine wpList_append_el n1 Hn2.out 24 29 (.agg #[.string ⟨#[]⟩, .int .i64 0, .int .i64 0, .slice none 0 0]) 4 56 Tryz.underlying24 stmt_info rfl (by omega) (by omega) rfl _ _ rfl (.slice o3 P.stmts.length q3) P.stmts.length (so.flatMap S2.cells) rfl HR12.out.stmts (w7.heap.size + 1) (S2.cells ⟨m, .slice ma m.args.length mc⟩) rfl (by simp [S2.cells, Value.oneCell']) rfl HBs.out (by omega) ?_; intro v9 w9 ho9 hk9 hl9; obtain ⟨o9, q9, rfl⟩ := row_form ho9; obtain ⟨hb9, hb10, hx13, hpr⟩ := foapp HR12.out HB12.out ho9 hk9 Hx712.out Hn1.out Hx7.out.size; have s1 := hb9.av 2 rfl; have t1 := hb9.free 2; have r0 := hb10.av 0 rfl; have r1 := hb10.av 1 rfl; have r2 := hb10.av 2 rfl; have mk := (HBm9.out.ext (HxC.out.trans hx13)).av 0 rfl; simp only [List.getElem_toArray, List.getElem_cons_zero, List.getElem_cons_succ] at s1 r0 r1 r2 mk; have Hx13 := hid hx13; have HB13 := hid hb10; have HPr := hid (hpr (ElR.lift (HMi.out.old ((HXw.out.trans (HxC.out.trans hx13)).old _)) (HXw.out.trans (HxC.out.trans hx13)).size)); clear hb9 hb10 hx13 hpr ho9 hk9 hl9)
            go_ret
            exact ⟨rfl, HXw.out.trans (HxC.out.trans Hx13.out)⟩
          | false =>
            go_wp2_with (at_builtin; rw [← HW11.out]; refine wpList_append_el n1 Hn2.out 24 29 (.agg #[.string ⟨#[]⟩, .int .i64 0, .int .i64 0, .slice none 0 0]) 4 56 Tryz.underlying24 stmt_info rfl (by omega) (by omega) rfl _ _ rfl (.slice o3 P.stmts.length q3) P.stmts.length (so.flatMap S2.cells) rfl HR12.out.stmts (w7.heap.size + 1) (S2.cells ⟨m, .slice ma m.args.length mc⟩) rfl (by simp [S2.cells, Value.oneCell']) rfl HBs.out (by omega) ?_; intro v9 w9 ho9 hk9 hl9; obtain ⟨o9, q9, rfl⟩ := row_form ho9; obtain ⟨hb9, hb10, hx13, hpr⟩ := foapp HR12.out HB12.out ho9 hk9 Hx712.out Hn1.out Hx7.out.size; have s1 := hb9.av 2 rfl; have t1 := hb9.free 2; have r0 := hb10.av 0 rfl; have r1 := hb10.av 1 rfl; have r2 := hb10.av 2 rfl; have mk := (HBm9.out.ext (HxC.out.trans hx13)).av 0 rfl; simp only [List.getElem_toArray, List.getElem_cons_zero, List.getElem_cons_succ] at s1 r0 r1 r2 mk; have Hx13 := hid hx13; have HB13 := hid hb10; have HPr := hid (hpr (ElR.lift (HMi.out.old ((HXw.out.trans (HxC.out.trans hx13)).old _)) (HXw.out.trans (HxC.out.trans hx13)).size)); clear hb9 hb10 hx13 hpr ho9 hk9 hl9)
            generalize w9.setCell ⟨w7.heap.size, 2, none⟩ (.slice o9 (P.stmts.length + 1) q9) = W13 at *
            have HX13 := hid (HxC.out.trans Hx13.out)
            have hmn : m.isK kNew = false := hb
            have hPl : (P.withS (P.stmts ++ [m])).stmts.length = P.stmts.length + 1 := List.length_append
            have hPv : (P.withS (P.stmts ++ [m])).vars = P.vars := rfl
            have hPf : (P.withS (P.stmts ++ [m])).funs = P.funs := rfl
            have HPP13 := hid (show PS0 W13 W13.heap.size ad o1 o2 o9 q1 q2 q9 (P.withS (P.stmts ++ [m])) from ⟨HE.out.ext (HXw.out.trans HX13.out), ⟨HPr.out.vars, HPr.out.funs, by rw [hPl]; exact HPr.out.stmts⟩, Hz1.out, Hz2.out⟩)
            have hml2 : ((P.withS (P.stmts ++ [m])).vars.length : Int) ≤ 9223372036854775807 := by
              have := Hw.out.few
              rw [hPv]
              omega
            have HK := hid (pcheck_any o1 o2 o9 q1 q2 q9 (P.withS (P.stmts ++ [m])) W13 W13.heap.size ad HPP13.out.errs HPP13.out.prog Hz1.out Hz2.out hml2)
            unfold pval at HK
            rw [hPl, hPv, hPf] at HK
            have Hmn := hid hmn
            have Hpl := hid hPl
            clear hmn hPl hPv hPf hml2 r0 r1 r2 mk
            refine HK.out.mono ?_
            intro e w14 hx
            obtain ⟨v, rfl, hi, hx14⟩ := hx
            have Hx14 := hid hx14
            have HX14 := hid (HX13.out.trans hx14)
            have Hs14 := hid ((Hs7.out.ext (Hx13.out.trans hx14)).lift (Hx13.out.trans hx14).size)
            have HB14 := hid (HB13.out.ext hx14)
            rcases hi.form with ⟨hnil, hw1⟩ | ⟨⟨t, x, hv⟩, hno⟩
            · subst hnil
              have hw' : (P.withS (P.stmts ++ [m])).Well := hw1
              obtain ⟨n3, T, hT⟩ := least_exists hw'
              obtain ⟨hlen, hsub⟩ := least_more Hmn.out Hw.out hw' HLe.out hT
              have HL3 := hid (fixleast_ok o1 o2 o9 q1 q2 q9 (P.withS (P.stmts ++ [m])) w14 ad ((HPP13.out.on (Nat.le_refl _) hx14).pw hw') (HS9.out.ext HX14.out) n3 T hT)
              rw [nodes_more Hmn.out, ← HSl.out] at HL3
              unfold pval at HL3
              rw [Hpl.out] at HL3
              rw [show (P.withS (P.stmts ++ [m])).vars = P.vars from rfl, show (P.withS (P.stmts ++ [m])).funs = P.funs from rfl] at HL3
              have Hlen := hid hlen
              have Hsub := hid hsub
              have r0 := HB14.out.av 0 rfl
              have r1 := HB14.out.av 1 rfl
              have r2 := HB14.out.av 2 rfl
              simp only [List.getElem_toArray, List.getElem_cons_zero, List.getElem_cons_succ] at r0 r1 r2
              clear HK hi hx14 hw' hw1 hT hlen hsub
              go_wp2_with fail
              refine HL3.out.mono ?_
              intro e w15 hx
              obtain ⟨at5, ct5, rfl, hs, hx15⟩ := hx
              have HT15 := hid hs
              have HX15 := hid (HX14.out.trans hx15)
              have Hs15 := hid ((Hs14.out.ext hx15).lift hx15.size)
              clear HL3 hs hx15 r0 r1 r2
              go_wp2
              go_loopw [19] (fun t19 wr => ∃ k : Nat, t19 = .int .i64 (k : Int) ∧ k ≤ S.length ∧ Ext w15 wr) (fun t19 _ => S.length - (intOf t19).toNat)
              case atStart => exact ⟨0, rfl, Nat.zero_le _, Ext.refl _⟩
              case round =>
                rename World => wr
                obtain ⟨k, rfl, hk, hx⟩ := hrel
                have Hx := hid hx
                clear hx
                by_cases hlt : k < S.length
                · have hlt2 : k < T.length := by rw [← Hlen.out]; exact hlt
                  obtain ⟨y, l, bl, cl, hy, hl, hc, hI⟩ := (Hs15.out.ext Hx.out).at hlt
                  subst hy
                  obtain ⟨z, l2, bm, cm, hz, hm, hcm, hI'⟩ := (HT15.out.ext Hx.out).at hlt2
                  subst hz
                  have hall : (l.all fun n => decide (n ∈ l2)) = true := List.all_eq_true.2 fun x hx => decide_eq_true (by
                    have := Hsub.out k x (by rw [List.getD_eq_getElem?_getD, hl]; exact hx)
                    rw [List.getD_eq_getElem?_getD, hm] at this
                    exact this)
                  have HC := fun w1 (x : Ext wr w1) => hid (setwithin_any (.slice bl l.length cl) (.slice bm l2.length cm) l l2 w1 _ (hI.old (x.old _)) (hI'.old (x.old _)))
                  rw [hall] at HC
                  have j0 : ∀ w1, Keep (fun _ => False) wr w1 → w1.cell? (y.add k) = some (.slice bl l.length cl) := fun w1 k => k.ext.cellx hc
                  have j1 : ∀ w1, Keep (fun _ => False) wr w1 → w1.cell? (z.add k) = some (.slice bm l2.length cm) := fun w1 k => k.ext.cellx hcm
                  clear hl hm hc hcm hI hI' hall
                  go_wp2
                  refine wp_flowT (fun _ => False) (by kernel_rfl) (by kernel_rfl) ?_
                  repeat (apply FlowT.d; (intro w1 hk; unfold does; go_simp; (try go_ints); (first | exact DetR.mk | (simp only [↓IntWalk.iteOmega, Oper.doesUpon_value]; exact DetR.mk) | (simp only [↓IntWalk.iteOmega]; go_simp; (try go_ints); exact DetR.mk))); simp only [Act.put, List.setIfInBounds_toArray, List.set_cons_zero, List.set_cons_succ])
                  refine FlowT.s (fun v w' => v = .bool true ∧ Ext wr w') 8 rfl (by kernel_rfl) (fun _ _ _ ⟨h1, h3⟩ y => ⟨h1, h3.trans y⟩) (fun wa hC hk2 => ?_) ?_
                  · have HCa := HC wa hC
                    unfold does
                    go_simp
                    refine CallR.act (HCa.out.mono ?_)
                    rintro e wb ⟨rfl, hx⟩
                    exact ⟨_, rfl, hk2.trans (hx.keep _), rfl, hC.trans hx⟩
                  rintro _ ⟨_, rfl, _⟩
                  simp only [Act.put, List.setIfInBounds_toArray, List.set_cons_zero, List.set_cons_succ]
                  repeat (apply FlowT.d; (intro w1 hk; unfold does; go_simp; (try go_ints); (first | exact DetR.mk | (simp only [↓IntWalk.iteOmega, Oper.doesUpon_value]; exact DetR.mk) | (simp only [↓IntWalk.iteOmega]; go_simp; (try go_ints); exact DetR.mk))); simp only [Act.put, List.setIfInBounds_toArray, List.set_cons_zero, List.set_cons_succ])
                  refine FlowT.fin fun w16 hC9 hk9 => ?_
                  obtain ⟨_, hx9⟩ := hC9
                  have Hx9 := hid (Hx.out.trans hx9)
                  clear hx9 hk9 j0 j1 HC
                  go_wp2
                  go_roundw
                  case rel => exact ⟨k + 1, by go_num, by omega, Hx9.out⟩
                  case measure => simp [intOf]; omega
                · obtain rfl : k = S.length := by omega
                  go_wp2
                  go_ret
                  exact ⟨rfl, HXw.out.trans (HX15.out.trans Hx.out)⟩
            · subst hv
              clear HK hi hx14 hno
              go_wp2
              go_ret
              exact ⟨rfl, HXw.out.trans HX14.out⟩
  · have HL := hid (fixleast_no b1 b2 b3 d1 d2 d3 P W9 W9.heap.size ad HPP9.out hw)
    unfold pval at HL
    clear hw
    go_wp2_with fail
    rw [← HW9.out]
    refine HL.out.mono ?_
    intro e w4 hx
    obtain ⟨t, x, rfl, _, hx4⟩ := hx
    have HZ4 := hid hx4
    clear HL hx4
    go_wp2
    go_ret
    exact ⟨rfl, HXw.out.trans HZ4.out⟩
end Go.Proofs.YtnpnhbfbklibhaaGreatDoor


/- A statement that came in. -/
namespace Go.Proofs.YtnpnhbfbklibhaaGreatDoor
set_option linter.unusedSimpArgs false
set_option linter.unusedVariables false
open Go Go.ChangeShapes Go.WideShapes Go.ChangeAt Go.WideMaps Go.WideElems Go.RowKit Go.Joins Go.Deep

/-- A statement that came in. -/
theorem open_agg4 {H : Type} {enc : TypeId × Value → H} {P : Program} {w : World} {base : Nat} {spare : Nat → Bool} {held : Bool} {r : Reach} {b0 : Nat} {t : TypeId} {f0 f1 f2 f3 : Field} {v : Value} {d : DataW H} {p : List MemPlace} (hs : P.underlying t = some (.struct #[f0, f1, f2, f3])) (hone : oneCellFields P #[f0, f1, f2, f3] = true) (hC : P.cellsOf t = 4)
    (hv : Value.okWide P w r b0 t v) (h : DataW.Trod enc P w base spare held t v d p) :
    ∃ (v0 v1 v2 v3 : Value) (y0 y1 y2 y3 : DataW H × List MemPlace) (n : Nat), v = .agg #[v0, v1, v2, v3] ∧
      DataW.trod enc P w base spare held n f0.type [v0] = some y0 ∧ DataW.trod enc P w base spare held n f1.type [v1] = some y1 ∧ DataW.trod enc P w base spare held n f2.type [v2] = some y2 ∧ DataW.trod enc P w base spare held n f3.type [v3] = some y3 := by
  obtain ⟨cs, rfl, hsz⟩ := okWide_struct hs hv
  obtain ⟨l⟩ := cs
  match l, hsz.trans hC with
  | [c0, c1, c2, c3], _ =>
    obtain ⟨fuel, hf⟩ := h
    obtain ⟨xs, n, _, hx, _, hlen, hg⟩ := DataW.trod_struct hs hf
    obtain ⟨o0, k0⟩ := hone_of hone 0 f0 rfl
    obtain ⟨o1, k1⟩ := hone_of hone 1 f1 rfl
    obtain ⟨o2, k2⟩ := hone_of hone 2 f2 rfl
    obtain ⟨o3, k3⟩ := hone_of hone 3 f3 rfl
    match xs, hlen with
    | [y0, y1, y2, y3], _ =>
      exact ⟨c0, c1, c2, c3, y0, y1, y2, y3, n, rfl, by simpa [Value.cells, o0, k0] using hg 0 f0 rfl, by simpa [Value.cells, o1, k1] using hg 1 f1 rfl, by simpa [Value.cells, o2, k2] using hg 2 f2 rfl, by simpa [Value.cells, o3, k3] using hg 3 f3 rfl⟩
set_option maxRecDepth 100000 in
theorem stmt_of {H : Type} {enc : TypeId × Value → H} {w : World} {base b0 : Nat} {sp : Nat → Bool} {held : Bool} {v : Value} {d : DataW H} {p : List MemPlace} (hv : Value.okWide Tryz.prog w .any b0 29 v) (h : DataW.Trod enc Tryz.prog w base sp held 29 v d p) :
    ∃ (m : PS) (ma : Option Addr) (mc : Nat), v = .agg #[.string m.kind, .int .i64 m.x, .int .i64 m.y, .slice ma m.args.length mc] ∧ IntsR w w.heap.size (.slice ma m.args.length mc) m.args := by
  obtain ⟨v0, v1, v2, v3, y0, y1, y2, y3, n, rfl, g0, g1, g2, g3⟩ := open_agg4 Tryz.underlying29 (by kernel_rfl) cellsU_stmt hv h
  obtain ⟨s, e0, _, _⟩ := DataW.trod_string Tryz.underlying9 g0
  obtain ⟨a, e1, _, _⟩ := DataW.trod_int Tryz.underlying3 g1
  obtain ⟨b, e2, _, _⟩ := DataW.trod_int Tryz.underlying3 g2
  obtain ⟨ps, hp⟩ := intsR_of g3
  obtain ⟨ma, mc, hm⟩ : ∃ ma mc, v3 = .slice ma ps.length mc := by
    obtain ⟨a, c, h, _⟩ := hp
    exact ⟨a, c, h⟩
  simp only [List.cons.injEq, and_true] at e0 e1 e2
  subst e0 e1 e2 hm
  exact ⟨⟨s, a, b, ps⟩, ma, mc, rfl, hp⟩
end Go.Proofs.YtnpnhbfbklibhaaGreatDoor
