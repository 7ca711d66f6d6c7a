/- Texts of one proof, put together: ZF. -/
import Derived.Test.YtoaoienfggjepaaGreatDoorCN17
import Derived.Test.YtoaoienfggjepaaGreatDoorCN19

/- CallsMay: the law walked. -/
namespace Go.Proofs.YtoaoienfggjepaaGreatDoor
set_option linter.unusedSimpArgs false
set_option linter.unusedVariables false
open Go Go.RowKit

/-- Are two values of a run's not alike? -/
def vneq (a : ByteArray) (b : Int) (c : ByteArray) (d : Int) : Bool := !(decide (a.toList = c.toList) && decide (b = d))
set_option maxRecDepth 100000 in
@[go_sem high] theorem neq_rval (w : World) (a c : ByteArray) (b d : Int) :
    (binOp .neq 57 (.agg #[.string a, .int .i64 b]) (.agg #[.string c, .int .i64 d])).run Tryz.prog w = .ok (.bool (vneq a b c d)) w := by
  have hS : Tryz.prog.underlying 57 = some (.struct (Tryz.prog.fieldsOf 57)) := by kernel_rfl
  have hp : Tryz.prog.stoodInHeld 57 = false := by kernel_rfl
  rw [run_neq_struct, show (10000 : Nat) = 9999 + 1 from rfl, run_equalIn_agg w 9999 57 _ _ hS hp]
  simp only [Program.fieldsOf, Tryz.underlying57]
  go_simp
  unfold vneq
  by_cases h1 : a.toList = c.toList <;> by_cases h2 : b = d <;> simp [h1, h2]
theorem vneq_ne {u v : Vl} (h : vneq v.kind (v.num : Int) u.kind (u.num : Int) = true) : u ≠ v := fun e => by
  subst e
  unfold vneq at h
  simp at h
theorem run_take_next {P : PP} {l : List Int} {i K : Nat} (h : l[i]? = some (K : Int)) : Rn.run P ((l.take (i + 1)).map Int.toNat) = (Rn.run P ((l.take i).map Int.toNat)).step P K := by
  rw [List.take_add_one, h, ← Rn.run_snoc]
  simp
theorem step_things_len {P : PP} {s : Rn} (h : s.Ok P) (hw : P.allWell) (k : Nat) : s.things.length ≤ (s.step P k).things.length := by
  rw [← (h.step hw k).lp, ← h.lp, Rn.step_places, List.length_append]
  omega
set_option maxRecDepth 100000 in
set_option maxHeartbeats 12800000 in
theorem callsmaylaw_any (a1 a2 a3 : Option Addr) (c1 c2 c3 : Nat) (P : PP) (va : Value) (l : List Int) (w : World) (ad : Nat → Addr) (hE : ErrsP w ad) (hS : ErrS w ad) (hP : ProgR w w.heap.size (.slice a1 P.vars.length c1) (.slice a2 P.funs.length c2) (.slice a3 P.stmts.length c3) P) (hI : IntsR w w.heap.size va l) :
    Calls Tryz.prog 6 #[pval a1 a2 a3 c1 c2 c3 P, va] w fun e w' => e = .returned (.bool true) ∧ Ext w w' := by
  have hil := hI.len
  obtain ⟨aa, ca, hva, hlca⟩ : ∃ aa ca, va = .slice aa l.length ca ∧ l.length ≤ ca := by
    obtain ⟨aa, ca, h, h2, _⟩ := hI
    exact ⟨aa, ca, h, h2⟩
  subst hva
  have HI := hid hI
  clear hI
  have HE := hid hE
  have HS := hid hS
  have HP := hid hP
  obtain ⟨W1, hW1⟩ : ∃ W1, W1 = w.alloc (.cells (pcells a1 a2 a3 c1 c2 c3 P) 39) := ⟨_, rfl⟩
  have HX1 : Hid (Ext w W1) := hid (by rw [hW1]; exact (Ext.refl _).alloc _)
  have HB1 : Hid (Blk W1 w.heap.size (pcells a1 a2 a3 c1 c2 c3 P) 39) := hid (by rw [hW1]; exact Blk.new _ _ _)
  have HR := hid (callsfact_any W1 ad (hE.ext HX1.out) (hS.ext HX1.out))
  have HW1 : Hid (W1 = w.alloc (.cells #[.slice a1 P.vars.length c1, .slice a2 P.funs.length c2, .slice a3 P.stmts.length c3] 39)) := hid (by rw [hW1]; rfl)
  unfold pval
  clear hE hS hP hW1
  go_enter Tryz.func6, Tryz.ntmps6
  go_wp2_with fail
  rw [← HW1.out]
  refine HR.out.mono ?_
  intro e w1 hx
  obtain ⟨rfl, hx1⟩ := hx
  have HL := hid (large_q a1 a2 a3 c1 c2 c3 25 (by omega) P w1 w.heap.size (HP.out.ext (HX1.out.trans hx1)))
  rw [show ((25 : Nat) : Int) = (25 : Int) from rfl] at HL
  unfold pval at HL
  have HX1' := hid (HX1.out.trans hx1)
  have HBp1 := hid (HB1.out.ext hx1)
  have p0 := HBp1.out.av 0 rfl
  have p1 := HBp1.out.av 1 rfl
  have p2 := HBp1.out.av 2 rfl
  simp only [pcells, List.getElem_toArray, List.getElem_cons_zero, List.getElem_cons_succ] at p0 p1 p2
  clear HR hx1
  go_wp2_with fail
  refine HL.out.mono ?_
  intro e w2 hx
  obtain ⟨r, rfl, hr, hsm, hx2⟩ := hx
  have HX2 := hid (HX1'.out.trans hx2)
  have HBp := hid (HBp1.out.ext hx2)
  clear HL hx2 p0 p1 p2
  rcases (by omega : r = 1 ∨ r = 0) with rfl | rfl
  · clear hsm hr
    go_wp2
    go_ret
    exact ⟨rfl, HX2.out⟩
  have HSm := hid (hsm rfl).1
  have HQl := hid (hsm rfl).2
  clear hsm hr
  rcases Nat.lt_or_ge 40 l.length with h40 | h40
  · go_wp2
    go_ret
    exact ⟨rfl, HX2.out⟩
  obtain ⟨w2', hw2'⟩ : ∃ w2', w2' = w2 := ⟨_, rfl⟩
  subst hw2'
  have HX2' := hid HX2.out
  have HBp' := hid HBp.out
  have hz1 : ∀ s ∈ P.vars, s.size ≤ 1000000 := fun s hs => by have := HSm.out.vs s hs; omega
  have hz2 : ∀ s ∈ P.names, s.size ≤ 1000000 := fun s hs => by
    obtain ⟨f, hf, rfl⟩ := List.mem_map.1 hs
    have := (HSm.out.fs f hf).1
    omega
  have Hz1 := hid hz1
  have Hz2 := hid hz2
  have HPS := hid (show PS0 w2' w2'.heap.size ad a1 a2 a3 c1 c2 c3 P from ⟨HE.out.ext HX2'.out, (HP.out.ext HX2'.out).lift HX2'.out.size, Hz1.out, Hz2.out⟩)
  clear hz1 hz2
  have HQ := hid (ownprogram_any a1 a2 a3 c1 c2 c3 P w2' HPS.out.prog HSm.out)
  have p0 := HBp'.out.av 0 rfl
  have p1 := HBp'.out.av 1 rfl
  have p2 := HBp'.out.av 2 rfl
  simp only [pcells, List.getElem_toArray, List.getElem_cons_zero, List.getElem_cons_succ] at p0 p1 p2
  unfold pval at HQ
  go_wp2_with fail
  refine HQ.out.mono ?_
  intro e w3 hx
  obtain ⟨hx3, b1, b2, b3, d1, d2, d3, rfl, hq⟩ := hx
  have HX3 := hid (HX2'.out.trans hx3)
  have Hx3 := hid hx3
  have Hq3 := hid hq
  clear HQ hx3 hq p0 p1 p2
  obtain ⟨W9, hW9⟩ : ∃ W9, W9 = w3.alloc (.cells (pcells b1 b2 b3 d1 d2 d3 P) 39) := ⟨_, rfl⟩
  have hx9 : Ext w3 W9 := by rw [hW9]; exact (Ext.refl _).alloc _
  have HXw := hid (HX3.out.trans hx9)
  have Hw9 := hid (Hx3.out.trans hx9)
  have HB6 : Hid (Blk W9 w3.heap.size (pcells b1 b2 b3 d1 d2 d3 P) 39) := hid (by rw [hW9]; exact Blk.new _ _ _)
  have HW9 : Hid (W9 = w3.alloc (.cells #[.slice b1 P.vars.length d1, .slice b2 P.funs.length d2, .slice b3 P.stmts.length d3] 39)) := hid (by rw [hW9]; rfl)
  have HPP9 := hid (show PS0 W9 W9.heap.size ad b1 b2 b3 d1 d2 d3 P from ⟨HE.out.ext HXw.out, (Hq3.out.ext hx9).lift hx9.size, Hz1.out, Hz2.out⟩)
  have HS9 := hid (HS.out.ext HXw.out)
  clear hx9 hW9
  rcases Classical.em P.Well with hw | hw
  · obtain ⟨n, S, hL⟩ := least_exists hw
    have HG := hid (hL.good hw)
    have Hw := hid hw
    have HLe := hid hL
    have HL := hid (callsidle_ok b1 b2 b3 d1 d2 d3 P W9 ad (HPP9.out.pw hw) HS9.out n S hL)
    obtain ⟨IL, hIL⟩ : ∃ IL, IL = idleL P S := ⟨_, rfl⟩
    rw [← hIL] at HL
    have HIL := hid hIL
    unfold pval at HL
    clear hw hL hIL
    go_wp2_with fail
    rw [← HW9.out]
    refine HL.out.mono ?_
    intro e w4 hx
    obtain ⟨ai, ci, rfl, hr4, hx4⟩ := hx
    have HZ4 := hid hx4
    have HIi := hid (IntsR.own hr4 (Nat.le_refl _))
    have HP4 := hid (HPP9.out.on (Nat.le_refl _) hx4)
    clear HL hr4 hx4
    go_wp2
    go_loopw [9] (fun t9 wr => ∃ i : Nat, t9 = .int .i64 (i : Int) ∧ i ≤ l.length ∧ Ext w4 wr) (fun t9 _ => l.length - (intOf t9).toNat)
    case atStart => exact ⟨0, rfl, Nat.zero_le _, Ext.refl _⟩
    case round =>
      obtain ⟨i, rfl, hi, hx⟩ := hrel
      have Hx4r := hid hx
      clear hx
      by_cases hlt : i < l.length
      · obtain ⟨W, hWr⟩ : ∃ W, W = wr := ⟨_, rfl⟩
        subst hWr
        have HIx : Hid (IntsR W w.heap.size (.slice aa l.length ca) l) := hid (HI.out.old ((HXw.out.trans (HZ4.out.trans Hx4r.out)).old _))
        have HDoG := fun LL (W0 : World) (x0 : Ext W W0) wa (x : Ext W0 wa) v (hv : IntsR wa wa.heap.size v LL) => hid (show Calls Tryz.prog 27 #[.agg #[.slice b1 P.vars.length d1, .slice b2 P.funs.length d2, .slice b3 P.stmts.length d3], v] wa (fun e w' => Ext wa w' ∧ ∃ t, e = .returned t ∧ RdNew W0 ad P LL t w') from (rundo_whole b1 b2 b3 d1 d2 d3 P v LL wa ad (HP4.out.errs.ext (Hx4r.out.trans (x0.trans x))) ((HP4.out.prog.ext (Hx4r.out.trans (x0.trans x))).lift (Hx4r.out.trans (x0.trans x)).size) hv Hz1.out Hz2.out).mono fun e w' ⟨hx, s1, s2, s3, m1, m2, m3, e1, e2, e3, ev, he, hr⟩ => ⟨hx, _, he, ⟨_, _, _, _, _, _, _, _, _, _, rfl, hr.low x.size⟩, x.trans hx⟩)
        have HOwG := fun j (hj : j ≤ l.length) (W0 : World) (x0 : Ext W W0) wa (x : Ext W0 wa) => hid (show Calls Tryz.prog 11 #[.slice aa j ca] wa (fun e w' => ∃ v, e = .returned v ∧ Ext wa w' ∧ IntsNew W0 (l.take j) v w') from (ownintsR_more (.slice aa j ca) (l.take j) wa w.heap.size ((HIx.out.take j hj).old ((x0.trans x).old _)) (by rw [List.length_take]; omega)).mono fun e w' ⟨v, he, hx, hr⟩ => ⟨v, he, hx, (row_form hr).imp fun a h => ⟨_, h⟩, IntsR.own hr (Nat.le_refl _), x.trans hx⟩)
        have HDoH := hid HDoG
        have HOwH := hid HOwG
        clear HDoG HOwG
        have HOwn := HOwH.out i (by omega) W (Ext.refl _)
        have HDo := HDoH.out (l.take i) W (Ext.refl _)
        have h0 := (HB6.out.ext (HZ4.out.trans Hx4r.out)).kc (X := fun _ => False) (fun e => e) 0 rfl
        have h1 := (HB6.out.ext (HZ4.out.trans Hx4r.out)).kc (X := fun _ => False) (fun e => e) 1 rfl
        have h2 := (HB6.out.ext (HZ4.out.trans Hx4r.out)).kc (X := fun _ => False) (fun e => e) 2 rfl
        simp only [pcells, List.getElem_toArray, List.getElem_cons_zero, List.getElem_cons_succ] at h0 h1 h2
        go_wp2
        refine wp_flow (fun _ => False) (by kernel_rfl) (by kernel_rfl) ?_
        apply Flow.d 0 _ rfl (by simp) (by kernel_rfl)
        · intro w1 hk; unfold does; go_simp; (try go_ints); exact DetR.mk
        simp only [List.getElem_toArray, List.getElem_cons_zero, List.getElem_cons_succ, Act.put, List.setIfInBounds_toArray, List.set_cons_zero, List.set_cons_succ]
        apply Flow.d 1 _ rfl (by simp) (by kernel_rfl)
        · intro w1 hk; unfold does; go_simp; (try go_ints); exact DetR.mk
        simp only [List.getElem_toArray, List.getElem_cons_zero, List.getElem_cons_succ, Act.put, List.setIfInBounds_toArray, List.set_cons_zero, List.set_cons_succ]
        apply Flow.d 2 _ rfl (by simp) (by kernel_rfl)
        · intro w1 hk; unfold does; go_simp; (try go_ints); exact DetR.mk
        simp only [List.getElem_toArray, List.getElem_cons_zero, List.getElem_cons_succ, Act.put, List.setIfInBounds_toArray, List.set_cons_zero, List.set_cons_succ]
        apply Flow.d 3 _ rfl (by simp) (by kernel_rfl)
        · intro w1 hk; unfold does; go_simp; (try go_ints); (first | exact DetR.mk | (simp only [↓IntWalk.iteOmega, Oper.doesUpon_value]; exact DetR.mk) | (simp only [↓IntWalk.iteOmega]; go_simp; (try go_ints); exact DetR.mk))
        simp only [List.getElem_toArray, List.getElem_cons_zero, List.getElem_cons_succ, Act.put, List.setIfInBounds_toArray, List.set_cons_zero, List.set_cons_succ]
        refine Flow.par3j 4 5 6 7 8 9 _ _ _ _ _ _ rfl rfl rfl rfl rfl rfl (by decide) (by decide) (by decide) (by decide) (by decide) (by simp) (by simp) (by simp) (fun _ _ h => by cases h) (fun _ _ h => by cases h) (fun _ _ h => by cases h) (fun _ _ h => by cases h) (fun _ _ h => by cases h) (fun _ _ h => by cases h)
          (by kernel_rfl) (by kernel_rfl) (by kernel_rfl) (by kernel_rfl) (by kernel_rfl) (by kernel_rfl) (by kernel_rfl) (by kernel_rfl) (by kernel_rfl) (by kernel_rfl) (by kernel_rfl) (by kernel_rfl) (by kernel_rfl) (by kernel_rfl) (by kernel_rfl) (by kernel_rfl)
          (StNew W) (IntsNew W (l.take i)) (fun u v w' => StNew W u w' ∧ IntsNew W (l.take i) v w') (fun _ t w' => RdNew W ad P (l.take i) t w') (fun u _ t w' => StNew W u w' ∧ RdNew W ad P (l.take i) t w') IsTup id tup0 tup1
          (fun _ _ _ h y => h.ext y) (fun _ _ _ h y => h.ext y) (fun _ _ _ _ h y => ⟨h.1.ext y, h.2.ext y⟩) (fun _ _ _ _ h y => h.ext y) (fun _ _ _ _ _ h y => ⟨h.1.ext y, h.2.ext y⟩)
          (fun _ _ _ h => h.tup) (fun _ _ _ _ h => h.2.tup) ?_ ?_ ?_ ?_ ?_ ?_ ?_ ?_ ?_ ?_ ?_
        · intro wa hC hk
          unfold does
          go_simp
          exact ⟨hk.alloc _, StNew.mk hC⟩
        · intro wa hC hk
          unfold does
          go_simp
          refine CallR.act ((HOwn wa hC).out.mono ?_)
          rintro e wb ⟨v, rfl, hx, hN⟩
          exact ⟨_, rfl, (hC.trans hx).keep _, hN⟩
        · rintro _ wa hN hk
          unfold does
          go_simp
          exact ⟨hk.alloc _, StNew.mk hN.2.2, hN.ext ((Ext.refl _).alloc _)⟩
        · rintro _ wa hS hk
          unfold does
          go_simp
          refine CallR.act ((HOwn wa hS.2).out.mono ?_)
          rintro e wb ⟨v, rfl, hx, hN⟩
          exact ⟨_, rfl, (hS.2.trans hx).keep _, hS.ext hx, hN⟩
        · rintro _ wa ⟨⟨a, n, c, rfl⟩, hN, hx⟩ hk
          have HN := hid hN
          clear hN
          unfold does
          go_simp
          refine CallR.act ((HDo wa hx _ HN.out).out.mono ?_)
          rintro e wb ⟨hx2, t, rfl, hR⟩
          exact ⟨_, rfl, (hx.trans hx2).keep _, hR⟩
        · rintro _ _ wa ⟨hS, ⟨a, n, c, rfl⟩, hN, hx⟩ hk
          have HN := hid hN
          clear hN
          unfold does
          go_simp
          refine CallR.act ((HDo wa hx _ HN.out).out.mono ?_)
          rintro e wb ⟨hx2, t, rfl, hR⟩
          exact ⟨_, rfl, (hx.trans hx2).keep _, hS.ext hx2, hR⟩
        · rintro _ _ wa ⟨u, v, rfl⟩ hk
          unfold does
          go_simp
          exact DetR.mk
        · rintro _ _ wa ⟨u, v, rfl⟩ hk
          unfold does
          go_simp
          exact DetR.mk
        · rintro _ _ wa ⟨u, v, rfl⟩ hk
          unfold does
          go_simp
          exact DetR.mk
        · rintro _ _ wa hR hk
          unfold does
          go_simp
          exact ⟨hk.alloc _, StNew.mk hR.2, hR.ext ((Ext.refl _).alloc _)⟩
        rintro _ _ _ ⟨_, ⟨⟨bqA, rfl, _, Hq0⟩, _⟩, ⟨s1A, m1A, d1A, s2A, m2A, d2A, s3A, m3A, d3A, evA, rfl, _⟩, _⟩
        simp only [List.getElem_toArray, List.getElem_cons_zero, List.getElem_cons_succ, Act.put, List.setIfInBounds_toArray, List.set_cons_zero, List.set_cons_succ]
        have HbqA := hid Hq0
        clear Hq0
        simp only [id, tup0, tup1, Array.getD_eq_getD_getElem?, List.getElem?_toArray, List.getElem?_cons_zero, List.getElem?_cons_succ, Option.getD_some]
        refine Flow.one 10 _ rfl (by kernel_rfl) (fun _ w' => RdAt W ad P (l.take i) bqA s1A s2A s3A m1A m2A m3A d1A d2A d3A evA w') (fun _ _ _ h y => h.on y) ?_ ?_
        · rintro wa ⟨⟨⟨b', eb, hB, _⟩, _⟩, ⟨t1, p1', e1, t2, p2', e2, t3, p3', e3, ev', et, hO⟩, hx⟩ hk
          obtain rfl : bqA = b' := by simpa using eb
          simp only [Value.tuple.injEq, Array.mk.injEq, List.cons.injEq, Value.agg.injEq, Value.slice.injEq, and_true] at et
          obtain ⟨⟨⟨rfl, rfl, rfl⟩, ⟨rfl, rfl, rfl⟩, ⟨rfl, rfl, rfl⟩⟩, rfl⟩ := et
          have z0 := hB.av 0 rfl
          have z1 := hB.av 1 rfl
          have z2 := hB.av 2 rfl
          have f0 := hB.free 0
          have f1 := hB.free 1
          have f2 := hB.free 2
          have hB2 := store3 (v0 := .slice s1A m1A d1A) (v1 := .slice s2A m2A d2A) (v2 := .slice s3A m3A d3A) hB
          have hK2 := store3_keep wa bqA (.slice s1A m1A d1A) (.slice s2A m2A d2A) (.slice s3A m3A d3A)
          have hx2 := Keep.new hx hK2 fun q e => by subst e; exact HbqA.out
          have hO2 := hO.keep hK2 fun q e => by subst e; exact ⟨_, hB⟩
          simp only [zcells, List.getElem_toArray, List.getElem_cons_zero, List.getElem_cons_succ] at z0 z1 z2
          clear hk eb
          unfold does
          go_simp
          exact ⟨hx2.keep _, ⟨hB2, hO2, hx2⟩⟩
        rintro _ ⟨_, _⟩
        simp only [List.getElem_toArray, List.getElem_cons_zero, List.getElem_cons_succ, Act.put, List.setIfInBounds_toArray, List.set_cons_zero, List.set_cons_succ]
        apply Flow.d 11 _ rfl (by simp) (by kernel_rfl)
        · intro w1 hk; unfold does; go_simp; (try go_ints); exact DetR.mk
        simp only [List.getElem_toArray, List.getElem_cons_zero, List.getElem_cons_succ, Act.put, List.setIfInBounds_toArray, List.set_cons_zero, List.set_cons_succ]
        refine Flow.fin (by kernel_rfl) fun w5 hA5 hk5 => ?_
        have HA5 := hid hA5
        have HbA5 := hid HbqA.out
        have HxW5 := hid hA5.ext
        clear hA5 hk5 HOwn HDo HbqA h0 h1 h2
        have HOwn := HOwH.out (i + 1) (by omega) w5 HxW5.out
        have HDo := HDoH.out (l.take (i + 1)) w5 HxW5.out
        have h0 := (HB6.out.ext (HZ4.out.trans (Hx4r.out.trans HxW5.out))).kc (X := fun _ => False) (fun e => e) 0 rfl
        have h1 := (HB6.out.ext (HZ4.out.trans (Hx4r.out.trans HxW5.out))).kc (X := fun _ => False) (fun e => e) 1 rfl
        have h2 := (HB6.out.ext (HZ4.out.trans (Hx4r.out.trans HxW5.out))).kc (X := fun _ => False) (fun e => e) 2 rfl
        simp only [pcells, List.getElem_toArray, List.getElem_cons_zero, List.getElem_cons_succ] at h0 h1 h2
        go_wp2
        refine wp_flow (fun _ => False) (by kernel_rfl) (by kernel_rfl) ?_
        apply Flow.d 0 _ rfl (by simp) (by kernel_rfl)
        · intro w1 hk; unfold does; go_simp; (try go_ints); exact DetR.mk
        simp only [List.getElem_toArray, List.getElem_cons_zero, List.getElem_cons_succ, Act.put, List.setIfInBounds_toArray, List.set_cons_zero, List.set_cons_succ]
        apply Flow.d 1 _ rfl (by simp) (by kernel_rfl)
        · intro w1 hk; unfold does; go_simp; (try go_ints); exact DetR.mk
        simp only [List.getElem_toArray, List.getElem_cons_zero, List.getElem_cons_succ, Act.put, List.setIfInBounds_toArray, List.set_cons_zero, List.set_cons_succ]
        apply Flow.d 2 _ rfl (by simp) (by kernel_rfl)
        · intro w1 hk; unfold does; go_simp; (try go_ints); exact DetR.mk
        simp only [List.getElem_toArray, List.getElem_cons_zero, List.getElem_cons_succ, Act.put, List.setIfInBounds_toArray, List.set_cons_zero, List.set_cons_succ]
        apply Flow.d 3 _ rfl (by simp) (by kernel_rfl)
        · intro w1 hk; unfold does; go_simp; (try go_ints); (first | exact DetR.mk | (simp only [↓IntWalk.iteOmega, Oper.doesUpon_value]; exact DetR.mk) | (simp only [↓IntWalk.iteOmega]; go_simp; (try go_ints); exact DetR.mk))
        simp only [List.getElem_toArray, List.getElem_cons_zero, List.getElem_cons_succ, Act.put, List.setIfInBounds_toArray, List.set_cons_zero, List.set_cons_succ]
        apply Flow.d 4 _ rfl (by simp) (by kernel_rfl)
        · intro w1 hk; unfold does; go_simp; (try go_ints); (first | exact DetR.mk | (simp only [↓IntWalk.iteOmega, Oper.doesUpon_value]; exact DetR.mk) | (simp only [↓IntWalk.iteOmega]; go_simp; (try go_ints); exact DetR.mk))
        simp only [List.getElem_toArray, List.getElem_cons_zero, List.getElem_cons_succ, Act.put, List.setIfInBounds_toArray, List.set_cons_zero, List.set_cons_succ]
        refine Flow.par3j 5 6 7 8 9 10 _ _ _ _ _ _ rfl rfl rfl rfl rfl rfl (by decide) (by decide) (by decide) (by decide) (by decide) (by simp) (by simp) (by simp) (fun _ _ h => by cases h) (fun _ _ h => by cases h) (fun _ _ h => by cases h) (fun _ _ h => by cases h) (fun _ _ h => by cases h) (fun _ _ h => by cases h)
          (by kernel_rfl) (by kernel_rfl) (by kernel_rfl) (by kernel_rfl) (by kernel_rfl) (by kernel_rfl) (by kernel_rfl) (by kernel_rfl) (by kernel_rfl) (by kernel_rfl) (by kernel_rfl) (by kernel_rfl) (by kernel_rfl) (by kernel_rfl) (by kernel_rfl) (by kernel_rfl)
          (StNew w5) (IntsNew w5 (l.take (i + 1))) (fun u v w' => StNew w5 u w' ∧ IntsNew w5 (l.take (i + 1)) v w') (fun _ t w' => RdNew w5 ad P (l.take (i + 1)) t w') (fun u _ t w' => StNew w5 u w' ∧ RdNew w5 ad P (l.take (i + 1)) t w') IsTup id tup0 tup1
          (fun _ _ _ h y => h.ext y) (fun _ _ _ h y => h.ext y) (fun _ _ _ _ h y => ⟨h.1.ext y, h.2.ext y⟩) (fun _ _ _ _ h y => h.ext y) (fun _ _ _ _ _ h y => ⟨h.1.ext y, h.2.ext y⟩)
          (fun _ _ _ h => h.tup) (fun _ _ _ _ h => h.2.tup) ?_ ?_ ?_ ?_ ?_ ?_ ?_ ?_ ?_ ?_ ?_
        · intro wa hC hk
          unfold does
          go_simp
          exact ⟨hk.alloc _, StNew.mk hC⟩
        · intro wa hC hk
          unfold does
          go_simp
          refine CallR.act ((HOwn wa hC).out.mono ?_)
          rintro e wb ⟨v, rfl, hx, hN⟩
          exact ⟨_, rfl, (hC.trans hx).keep _, hN⟩
        · rintro _ wa hN hk
          unfold does
          go_simp
          exact ⟨hk.alloc _, StNew.mk hN.2.2, hN.ext ((Ext.refl _).alloc _)⟩
        · rintro _ wa hS hk
          unfold does
          go_simp
          refine CallR.act ((HOwn wa hS.2).out.mono ?_)
          rintro e wb ⟨v, rfl, hx, hN⟩
          exact ⟨_, rfl, (hS.2.trans hx).keep _, hS.ext hx, hN⟩
        · rintro _ wa ⟨⟨a, n, c, rfl⟩, hN, hx⟩ hk
          have HN := hid hN
          clear hN
          unfold does
          go_simp
          refine CallR.act ((HDo wa hx _ HN.out).out.mono ?_)
          rintro e wb ⟨hx2, t, rfl, hR⟩
          exact ⟨_, rfl, (hx.trans hx2).keep _, hR⟩
        · rintro _ _ wa ⟨hS, ⟨a, n, c, rfl⟩, hN, hx⟩ hk
          have HN := hid hN
          clear hN
          unfold does
          go_simp
          refine CallR.act ((HDo wa hx _ HN.out).out.mono ?_)
          rintro e wb ⟨hx2, t, rfl, hR⟩
          exact ⟨_, rfl, (hx.trans hx2).keep _, hS.ext hx2, hR⟩
        · rintro _ _ wa ⟨u, v, rfl⟩ hk
          unfold does
          go_simp
          exact DetR.mk
        · rintro _ _ wa ⟨u, v, rfl⟩ hk
          unfold does
          go_simp
          exact DetR.mk
        · rintro _ _ wa ⟨u, v, rfl⟩ hk
          unfold does
          go_simp
          exact DetR.mk
        · rintro _ _ wa hR hk
          unfold does
          go_simp
          exact ⟨hk.alloc _, StNew.mk hR.2, hR.ext ((Ext.refl _).alloc _)⟩
        rintro _ _ _ ⟨_, ⟨⟨bqB, rfl, _, Hq0⟩, _⟩, ⟨s1B, m1B, d1B, s2B, m2B, d2B, s3B, m3B, d3B, evB, rfl, _⟩, _⟩
        simp only [List.getElem_toArray, List.getElem_cons_zero, List.getElem_cons_succ, Act.put, List.setIfInBounds_toArray, List.set_cons_zero, List.set_cons_succ]
        have HbqB := hid Hq0
        clear Hq0
        simp only [id, tup0, tup1, Array.getD_eq_getD_getElem?, List.getElem?_toArray, List.getElem?_cons_zero, List.getElem?_cons_succ, Option.getD_some]
        refine Flow.one 11 _ rfl (by kernel_rfl) (fun _ w' => RdAt w5 ad P (l.take (i + 1)) bqB s1B s2B s3B m1B m2B m3B d1B d2B d3B evB w') (fun _ _ _ h y => h.on y) ?_ ?_
        · rintro wa ⟨⟨⟨b', eb, hB, _⟩, _⟩, ⟨t1, p1', e1, t2, p2', e2, t3, p3', e3, ev', et, hO⟩, hx⟩ hk
          obtain rfl : bqB = b' := by simpa using eb
          simp only [Value.tuple.injEq, Array.mk.injEq, List.cons.injEq, Value.agg.injEq, Value.slice.injEq, and_true] at et
          obtain ⟨⟨⟨rfl, rfl, rfl⟩, ⟨rfl, rfl, rfl⟩, ⟨rfl, rfl, rfl⟩⟩, rfl⟩ := et
          have z0 := hB.av 0 rfl
          have z1 := hB.av 1 rfl
          have z2 := hB.av 2 rfl
          have f0 := hB.free 0
          have f1 := hB.free 1
          have f2 := hB.free 2
          have hB2 := store3 (v0 := .slice s1B m1B d1B) (v1 := .slice s2B m2B d2B) (v2 := .slice s3B m3B d3B) hB
          have hK2 := store3_keep wa bqB (.slice s1B m1B d1B) (.slice s2B m2B d2B) (.slice s3B m3B d3B)
          have hx2 := Keep.new hx hK2 fun q e => by subst e; exact HbqB.out
          have hO2 := hO.keep hK2 fun q e => by subst e; exact ⟨_, hB⟩
          simp only [zcells, List.getElem_toArray, List.getElem_cons_zero, List.getElem_cons_succ] at z0 z1 z2
          clear hk eb
          unfold does
          go_simp
          exact ⟨hx2.keep _, ⟨hB2, hO2, hx2⟩⟩
        rintro _ ⟨_, _⟩
        simp only [List.getElem_toArray, List.getElem_cons_zero, List.getElem_cons_succ, Act.put, List.setIfInBounds_toArray, List.set_cons_zero, List.set_cons_succ]
        apply Flow.d 12 _ rfl (by simp) (by kernel_rfl)
        · intro w1 hk; unfold does; go_simp; (try go_ints); exact DetR.mk
        simp only [List.getElem_toArray, List.getElem_cons_zero, List.getElem_cons_succ, Act.put, List.setIfInBounds_toArray, List.set_cons_zero, List.set_cons_succ]
        refine Flow.fin (by kernel_rfl) fun w6 hB6 hk6 => ?_
        have HB5 := hid hB6
        have HxW6 := hid hB6.ext
        clear hB6 hk6 HOwn HDo HbqB h0 h1 h2 HOwH HDoH
        have HX6 := hid (HXw.out.trans (HZ4.out.trans (Hx4r.out.trans (HxW5.out.trans HxW6.out))))
        by_cases hr : P.Runs (l.take (i + 1))
        · obtain ⟨yi, qi, hyi, hqi, hci⟩ := HIx.out.at hlt
          subst hyi
          have hqm : qi ∈ l.take (i + 1) := by rw [List.take_add_one, hqi]; simp
          have hqk := hr.lt hqm
          obtain ⟨K, rfl⟩ := Int.eq_ofNat_of_zero_le hqk.1
          have hKl : K < P.stmts.length := by omega
          have hkx := stAt_some hKl
          have hra : P.Runs (l.take i) := by
            have := hr.take i
            rwa [List.take_take, Nat.min_eq_left (Nat.le_succ i)] at this
          obtain ⟨s, hs⟩ : ∃ s, s = Rn.run P ((l.take i).map Int.toNat) := ⟨_, rfl⟩
          obtain ⟨s', hs'⟩ : ∃ s', s' = Rn.run P ((l.take (i + 1)).map Int.toNat) := ⟨_, rfl⟩
          have hst : s' = s.step P K := by rw [hs', hs]; exact run_take_next hqi
          have hstm : s' = s.stmt P K (P.stAt K) := by rw [hst]; unfold Rn.step; rw [hkx]
          have hsn : Sound P S s := by rw [hs]; exact Sound.run Hw.out (HLe.out.closed Hw.out) _
          have hsn' : Sound P S s' := by rw [hs']; exact Sound.run Hw.out (HLe.out.closed Hw.out) _
          obtain ⟨hev, hRA⟩ : evA = .nilIface ∧ RnRows w5 W.heap.size (.slice s1A m1A d1A) (.slice s2A m2A d2A) (.slice s3A m3A d3A) s := by
            rcases HA5.out.out with ⟨_, h1, h2⟩ | ⟨h, _⟩
            · exact ⟨h1, by rw [hs]; exact h2⟩
            · exact absurd hra h
          subst hev
          obtain ⟨hev, hRB⟩ : evB = .nilIface ∧ RnRows w6 w5.heap.size (.slice s1B m1B d1B) (.slice s2B m2B d2B) (.slice s3B m3B d3B) s' := by
            rcases HB5.out.out with ⟨_, h1, h2⟩ | ⟨h, _⟩
            · exact ⟨h1, by rw [hs']; exact h2⟩
            · exact absurd hr h
          subst hev
          obtain ⟨_, _, hz⟩ := row_form hRA.vars
          obtain ⟨rfl, rfl, rfl⟩ : s1A = _ ∧ m1A = s.vars.length ∧ d1A = _ := by simpa using hz
          obtain ⟨_, _, hz⟩ := row_form hRA.things
          obtain ⟨rfl, rfl, rfl⟩ : s2A = _ ∧ m2A = s.things.length ∧ d2A = _ := by simpa using hz
          obtain ⟨_, _, hz⟩ := row_form hRA.places
          obtain ⟨rfl, rfl, rfl⟩ : s3A = _ ∧ m3A = s.places.length ∧ d3A = _ := by simpa using hz
          clear hz
          obtain ⟨_, _, hz⟩ := row_form hRB.vars
          obtain ⟨rfl, rfl, rfl⟩ : s1B = _ ∧ m1B = s'.vars.length ∧ d1B = _ := by simpa using hz
          obtain ⟨_, _, hz⟩ := row_form hRB.things
          obtain ⟨rfl, rfl, rfl⟩ : s2B = _ ∧ m2B = s'.things.length ∧ d2B = _ := by simpa using hz
          obtain ⟨_, _, hz⟩ := row_form hRB.places
          obtain ⟨rfl, rfl, rfl⟩ : s3B = _ ∧ m3B = s'.places.length ∧ d3B = _ := by simpa using hz
          clear hz
          have HRA := hid hRA
          have HRB := hid hRB
          have Hci := hid hci
          have HSn := hid hsn
          have hvl : s.vars.length = s'.vars.length := by rw [hsn.ok.lv, hsn'.ok.lv]
          have hvle := Nat.le_of_eq hvl
          have htle : s.things.length ≤ s'.things.length := by rw [hst]; exact step_things_len hsn.ok Hw.out.2 K
          have hvc : s'.vars.length ≤ 40 := by rw [hsn'.ok.lv]; exact Hw.out.few.1
          have htc : s'.things.length ≤ 2000 := by
            have h1 := Rn.run_len Hw.out.2 ((l.take (i + 1)).map Int.toNat)
            rw [← hs', List.length_map, List.length_take] at h1
            omega
          have hpc : s.places.length ≤ 100000 := by rw [hsn.ok.lp]; omega
          have HVc := hid (fun (n : Nat) (h : s'.vars.getD n .none ≠ s.vars.getD n .none) => stmt_var_change HG.out hsn hkx (n := n) (by rw [← hstm]; exact h))
          have HTc := hid (fun (j : Nat) (hj : j < s.things.length) (h : s'.things.getD j .none ≠ s.things.getD j .none) => stmt_thing_change HG.out hsn (k := K) (x := P.stAt K) hj (by rw [← hstm]; exact h))
          obtain ⟨WL, hWL⟩ : ∃ WL, WL = writesL P S (P.stAt K) := ⟨_, rfl⟩
          have Hidl : Hid (idleV P S (P.stAt K) = false → ¬ (K : Int) ∈ IL) := hid (fun h g => by
            rw [HIL.out] at g
            rw [(mem_idleL.1 g).2] at h
            cases h)
          rw [← hWL] at HVc HTc
          have HWr := fun wa (x : Ext w6 wa) => hid (show Calls Tryz.prog 30 #[.agg #[.slice b1 P.vars.length d1, .slice b2 P.funs.length d2, .slice b3 P.stmts.length d3], .int .i64 (K : Int)] wa (fun e w' => ∃ a c, e = .returned (.tuple #[.slice a WL.length c, .nilIface]) ∧ IntsR w' w'.heap.size (.slice a WL.length c) WL ∧ Ext wa w') from by
            rw [hWL]
            exact callswrites_ok b1 b2 b3 d1 d2 d3 P K (P.stAt K) wa ad ((HP4.out.on (Nat.le_refl _) (Hx4r.out.trans (HxW5.out.trans (HxW6.out.trans x)))).pw Hw.out) (HS9.out.ext (HZ4.out.trans (Hx4r.out.trans (HxW5.out.trans (HxW6.out.trans x))))) n S HLe.out hkx)
          have HWrH := hid HWr
          have h0 := (HB6.out.ext (HZ4.out.trans (Hx4r.out.trans (HxW5.out.trans HxW6.out)))).kc (X := fun _ => False) (fun e => e) 0 rfl
          have h1 := (HB6.out.ext (HZ4.out.trans (Hx4r.out.trans (HxW5.out.trans HxW6.out)))).kc (X := fun _ => False) (fun e => e) 1 rfl
          have h2 := (HB6.out.ext (HZ4.out.trans (Hx4r.out.trans (HxW5.out.trans HxW6.out)))).kc (X := fun _ => False) (fun e => e) 2 rfl
          have i0 : ∀ w1, Keep (fun _ => False) w6 w1 → w1.cell? (yi.add i) = some (.int .i64 (K : Int)) := fun w1 k => (HxW5.out.trans (HxW6.out.trans k.ext)).cellx Hci.out
          simp only [pcells, List.getElem_toArray, List.getElem_cons_zero, List.getElem_cons_succ] at h0 h1 h2
          clear hr hra hqm hqi hci hqk hs hs' hst hstm hsn hsn' hRA hRB hvl hWL HWr hkx
          go_wp2
          refine wp_flowT (fun _ => False) (by kernel_rfl) (by kernel_rfl) ?_
          repeat (apply FlowT.d; (intro w1 hk; unfold does; go_simp; (try go_ints); (first | exact DetR.mk | (simp only [↓IntWalk.iteOmega, Oper.doesUpon_value]; exact DetR.mk) | (simp only [↓IntWalk.iteOmega]; go_simp; (try go_ints); exact DetR.mk))); simp only [Act.put, List.setIfInBounds_toArray, List.set_cons_zero, List.set_cons_succ])
          refine FlowT.s (fun v w' => (∃ a c, v = .tuple #[.slice a WL.length c, .nilIface]) ∧ (∀ a c, v = .tuple #[.slice a WL.length c, .nilIface] → IntsR w' w'.heap.size (.slice a WL.length c) WL) ∧ Ext w6 w') 5 rfl (by kernel_rfl) (fun _ _ _ ⟨h1, h2, h3⟩ y => ⟨h1, fun a c e => ElR.lift ((h2 a c e).old (y.old _)) y.size, h3.trans y⟩) (fun wa hC hk2 => ?_) ?_
          · have HCa := HWrH.out wa hC
            unfold does
            go_simp
            refine CallR.act (HCa.out.mono ?_)
            rintro e wb ⟨a, c, rfl, hw, hx⟩
            refine ⟨_, rfl, hk2.trans (hx.keep _), ⟨a, c, rfl⟩, fun a' c' e => ?_, hC.trans hx⟩
            obtain ⟨rfl, rfl⟩ : a = a' ∧ c = c' := by simpa using e
            exact hw
          rintro _ ⟨_, ⟨aw, cw, rfl⟩, _, _⟩
          simp only [Act.put, List.setIfInBounds_toArray, List.set_cons_zero, List.set_cons_succ]
          repeat (apply FlowT.d; (intro w1 hk; unfold does; go_simp; (try go_ints); (first | exact DetR.mk | (simp only [↓IntWalk.iteOmega, Oper.doesUpon_value]; exact DetR.mk) | (simp only [↓IntWalk.iteOmega]; go_simp; (try go_ints); exact DetR.mk))); simp only [Act.put, List.setIfInBounds_toArray, List.set_cons_zero, List.set_cons_succ])
          refine FlowT.fin fun w7 hC7 hk7 => ?_
          obtain ⟨_, hIw, hx7⟩ := hC7
          have HIw := hid (hIw _ _ rfl)
          have Hx67 := hid hx7
          have Hx57 := hid (HxW6.out.trans hx7)
          have Hx7 := hid (HxW5.out.trans Hx57.out)
          have Hx47 := hid (Hx4r.out.trans Hx7.out)
          have HA7 := hid (HA5.out.on Hx57.out)
          have HB7 := hid (HB5.out.on hx7)
          clear h0 h1 h2 i0 hIw hx7 hk7 HWrH
          have hwl := HIw.out.len
          have hili := HIi.out.len
          have t0 := HA7.out.blk.av 0 rfl
          simp only [List.getElem_toArray, List.getElem_cons_zero, List.getElem_cons_succ] at t0
          go_wp2
          clear t0
          go_loopw [16] (fun t16 wr => ∃ n : Nat, t16 = .int .i64 (n : Int) ∧ n ≤ s.vars.length ∧ Ext w7 wr) (fun t16 _ => s.vars.length - (intOf t16).toNat)
          case atStart => exact ⟨0, rfl, Nat.zero_le _, Ext.refl _⟩
          case round =>
            obtain ⟨n, rfl, hn, hx⟩ := hrel
            have Hx := hid hx
            clear hx
            have t0 := (HA7.out.blk.ext Hx.out).av 0 rfl
            simp only [List.getElem_toArray, List.getElem_cons_zero, List.getElem_cons_succ] at t0
            by_cases hlt : n < s.vars.length
            · have hlt2 : n < s'.vars.length := by omega
              have hch := HVc.out n
              obtain ⟨gA, cpA, e1⟩ := own_some HRA.out.vars (by omega)
              simp only [Value.slice.injEq, true_and] at e1
              obtain ⟨rfl, rfl⟩ := e1
              obtain ⟨gB, cpB, e1⟩ := own_some HRB.out.vars (by omega)
              simp only [Value.slice.injEq, true_and] at e1
              obtain ⟨rfl, rfl⟩ := e1
              obtain ⟨u0, u1⟩ := own_v (own_ext HRA.out.vars (Hx57.out.trans Hx.out)) (at_some hlt)
              obtain ⟨v0, v1⟩ := own_v (own_ext HRB.out.vars (Hx67.out.trans Hx.out)) (at_some hlt2)
              obtain ⟨u, hu⟩ : ∃ u, u = s.vars.getD n .none := ⟨_, rfl⟩
              obtain ⟨v, hv⟩ : ∃ v, v = s'.vars.getD n .none := ⟨_, rfl⟩
              rw [← hu] at u0 u1 hch
              rw [← hv] at v0 v1 hch
              have hne := fun h => vneq_ne (u := v) (v := u) h
              obtain ⟨uk, huk⟩ : ∃ uk, uk = u.kind := ⟨_, rfl⟩
              obtain ⟨un, hun⟩ : ∃ un, un = u.num := ⟨_, rfl⟩
              obtain ⟨vk, hvk⟩ : ∃ vk, vk = v.kind := ⟨_, rfl⟩
              obtain ⟨vn, hvn⟩ : ∃ vn, vn = v.num := ⟨_, rfl⟩
              rw [← huk, ← hun, ← hvk, ← hvn] at hne
              rw [← huk] at u0
              rw [← hun] at u1
              rw [← hvk] at v0
              rw [← hvn] at v1
              have sA := (HA7.out.blk.ext Hx.out).kc (X := fun _ => False) (fun e => e) 0 rfl
              have sB := (HB7.out.blk.ext Hx.out).kc (X := fun _ => False) (fun e => e) 0 rfl
              simp only [List.getElem_toArray, List.getElem_cons_zero, List.getElem_cons_succ] at sA sB
              have j0 : ∀ w1, Keep (fun _ => False) wr w1 → w1.cell? ⟨gA, n * 2, none⟩ = some (.string uk) := fun w1 k => k.ext.cellx u0
              have j1 : ∀ w1, Keep (fun _ => False) wr w1 → w1.cell? ⟨gA, n * 2 + 1, none⟩ = some (.int .i64 (un : Int)) := fun w1 k => k.ext.cellx u1
              have q0 : ∀ w1, Keep (fun _ => False) wr w1 → w1.cell? ⟨gB, n * 2, none⟩ = some (.string vk) := fun w1 k => k.ext.cellx v0
              have q1 : ∀ w1, Keep (fun _ => False) wr w1 → w1.cell? ⟨gB, n * 2 + 1, none⟩ = some (.int .i64 (vn : Int)) := fun w1 k => k.ext.cellx v1
              have i0 : ∀ w1, Keep (fun _ => False) wr w1 → w1.cell? (yi.add i) = some (.int .i64 (K : Int)) := fun w1 k => (Hx7.out.trans (Hx.out.trans k.ext)).cellx Hci.out
              cases hd : vneq uk (un : Int) vk (vn : Int) with
              | false =>
                clear hu hv huk hun hvk hvn hne hch u0 u1 v0 v1
                go_wp2
                clear t0
                refine wp_flowT (fun _ => False) (by kernel_rfl) (by kernel_rfl) ?_
                repeat (apply FlowT.d; (intro w1 hk; unfold does; go_simp; (try go_ints); (first | exact DetR.mk | (simp only [↓IntWalk.iteOmega, Oper.doesUpon_value]; exact DetR.mk) | (simp only [↓IntWalk.iteOmega]; go_simp; (try go_ints); exact DetR.mk))); simp only [Act.put, List.setIfInBounds_toArray, List.set_cons_zero, List.set_cons_succ])
                refine FlowT.fin fun wy _ hky => ?_
                have Hxy := hid (Hx.out.trans hky.ext)
                clear hky sA sB j0 j1 q0 q1 i0 hd
                go_wp2
                go_roundw
                case rel => exact ⟨n + 1, by go_num, by omega, Hxy.out⟩
                case measure => simp [intOf]; omega
              | true =>
                have hch2 := hch (hne hd)
                have HW := fun w1 (y : Ext wr w1) => hid (show Calls Tryz.prog 19 #[.slice aw WL.length cw, .int .i64 (n : Int)] w1 (fun e w' => e = .returned (.bool true) ∧ Ext w1 w') from (sethas_any (.slice aw WL.length cw) WL (n : Int) w1 w7.heap.size (HIw.out.old ((Hx.out.trans y).old _))).mono fun e w' h => ⟨by rw [h.1, decide_eq_true hch2.1], by rw [← h.2]; exact Ext.refl _⟩)
                have HD := fun w1 (y : Ext wr w1) => hid (show Calls Tryz.prog 19 #[.slice ai IL.length ci, .int .i64 (K : Int)] w1 (fun e w' => e = .returned (.bool false) ∧ Ext w1 w') from (sethas_any (.slice ai IL.length ci) IL (K : Int) w1 w4.heap.size (HIi.out.old ((Hx47.out.trans (Hx.out.trans y)).old _))).mono fun e w' h => ⟨by rw [h.1, decide_eq_false (Hidl.out hch2.2)], by rw [← h.2]; exact Ext.refl _⟩)
                clear hu hv huk hun hvk hvn hne hch hch2 u0 u1 v0 v1
                go_wp2
                clear t0
                refine wp_flowT (fun _ => False) (by kernel_rfl) (by kernel_rfl) ?_
                repeat (apply FlowT.d; (intro w1 hk; unfold does; go_simp; (try go_ints); (first | exact DetR.mk | (simp only [↓IntWalk.iteOmega, Oper.doesUpon_value]; exact DetR.mk) | (simp only [↓IntWalk.iteOmega]; go_simp; (try go_ints); exact DetR.mk))); simp only [Act.put, List.setIfInBounds_toArray, List.set_cons_zero, List.set_cons_succ])
                apply FlowT.d
                · intro w1 hk
                  unfold does
                  go_simp
                  exact CallR.det ((HW w1 hk.ext).out)
                simp only [Act.put, List.setIfInBounds_toArray, List.set_cons_zero, List.set_cons_succ]
                repeat (apply FlowT.d; (intro w1 hk; unfold does; go_simp; (try go_ints); (first | exact DetR.mk | (simp only [↓IntWalk.iteOmega, Oper.doesUpon_value]; exact DetR.mk) | (simp only [↓IntWalk.iteOmega]; go_simp; (try go_ints); exact DetR.mk))); simp only [Act.put, List.setIfInBounds_toArray, List.set_cons_zero, List.set_cons_succ])
                apply FlowT.d
                · intro w1 hk
                  unfold does
                  go_simp
                  exact CallR.det ((HD w1 hk.ext).out)
                simp only [Act.put, List.setIfInBounds_toArray, List.set_cons_zero, List.set_cons_succ]
                repeat (apply FlowT.d; (intro w1 hk; unfold does; go_simp; (try go_ints); (first | exact DetR.mk | (simp only [↓IntWalk.iteOmega, Oper.doesUpon_value]; exact DetR.mk) | (simp only [↓IntWalk.iteOmega]; go_simp; (try go_ints); exact DetR.mk))); simp only [Act.put, List.setIfInBounds_toArray, List.set_cons_zero, List.set_cons_succ])
                refine FlowT.fin fun wy _ hky => ?_
                have Hxy := hid (Hx.out.trans hky.ext)
                clear hky sA sB j0 j1 q0 q1 i0 hd HW HD
                go_wp2
                go_roundw
                case rel => exact ⟨n + 1, by go_num, by omega, Hxy.out⟩
                case measure => simp [intOf]; omega
            · obtain rfl : n = s.vars.length := by omega
              clear hlt hn
              obtain ⟨V, hV⟩ : ∃ V, V = wr := ⟨_, rfl⟩
              subst hV
              have HxV := hid Hx.out
              clear Hx
              have HO := hid (fun kd (n : Int) w1 (x : Ext w7 w1) => runobject_any b1 b2 b3 d1 d2 d3 P kd n s w1 W.heap.size (.slice s1A s.vars.length d1A) (.slice s2A s.things.length d2A) (.slice s3A s.places.length d3A) ad (HP4.out.errs.ext (Hx47.out.trans x)) (HRA.out.ext (Hx57.out.trans x)) ((HP4.out.prog.ext (Hx47.out.trans x)).lift Hx4r.out.size) Hz1.out Hz2.out Hw.out hpc)
              go_wp2
              clear t0
              go_loopw [17] (fun t17 wr => ∃ n : Nat, t17 = .int .i64 (n : Int) ∧ n ≤ s.things.length ∧ Ext w7 wr) (fun t17 _ => s.things.length - (intOf t17).toNat)
              case atStart => exact ⟨0, rfl, Nat.zero_le _, HxV.out⟩
              case round =>
                obtain ⟨n, rfl, hn, hx⟩ := hrel
                have Hx0 := hid hx
                clear hx
                have t0 := (HA7.out.blk.ext Hx0.out).av 1 rfl
                simp only [List.getElem_toArray, List.getElem_cons_zero, List.getElem_cons_succ] at t0
                by_cases hlt : n < s.things.length
                · have hlt2 : n < s'.things.length := by omega
                  have hth := objV_of HSn.out (v := .thing n) hlt
                  rw [if_neg thing_kind] at hth
                  have HO2 := hid (HO.out (Vl.thing n).kind (Vl.thing n).num wr Hx0.out)
                  rw [hth] at HO2
                  rw [show (Vl.thing n).kind = ⟨#[116, 104, 105, 110, 103]⟩ from rfl, show (((Vl.thing n).num : Nat) : Int) = (n : Int) from rfl, show s.oN P (.thing n) = s.atN P n from rfl] at HO2
                  have hch := HTc.out n hlt
                  obtain ⟨q, hq⟩ : ∃ q, q = s.atN P n := ⟨_, rfl⟩
                  rw [← hq] at HO2 hch
                  have Hch := hid hch
                  have s0 := (HA7.out.blk.ext Hx0.out).av 0 rfl
                  have s2 := (HA7.out.blk.ext Hx0.out).av 2 rfl
                  have g0 := (HB6.out.ext (HZ4.out.trans (Hx47.out.trans Hx0.out))).av 0 rfl
                  have g1 := (HB6.out.ext (HZ4.out.trans (Hx47.out.trans Hx0.out))).av 1 rfl
                  have g2 := (HB6.out.ext (HZ4.out.trans (Hx47.out.trans Hx0.out))).av 2 rfl
                  simp only [pcells, List.getElem_toArray, List.getElem_cons_zero, List.getElem_cons_succ] at s0 s2 g0 g1 g2
                  unfold pval at HO2
                  clear hth hq hch
                  go_wp2_with fail
                  refine HO2.out.mono ?_
                  intro e wz hz
                  obtain ⟨rfl, hz⟩ := hz
                  have HxZ := hid (Hx0.out.trans hz)
                  clear HO2 hz s0 s2 g0 g1 g2 t0
                  obtain ⟨wr, hwr⟩ : ∃ u, u = wz := ⟨_, rfl⟩
                  subst hwr
                  have Hx := hid HxZ.out
                  have hch := Hch.out
                  have t0 : True := trivial
                  obtain ⟨gA, cpA, e1⟩ := own_some HRA.out.things (by omega)
                  simp only [Value.slice.injEq, true_and] at e1
                  obtain ⟨rfl, rfl⟩ := e1
                  obtain ⟨gB, cpB, e1⟩ := own_some HRB.out.things (by omega)
                  simp only [Value.slice.injEq, true_and] at e1
                  obtain ⟨rfl, rfl⟩ := e1
                  obtain ⟨u0, u1⟩ := own_v (own_ext HRA.out.things (Hx57.out.trans Hx.out)) (at_some hlt)
                  obtain ⟨v0, v1⟩ := own_v (own_ext HRB.out.things (Hx67.out.trans Hx.out)) (at_some hlt2)
                  obtain ⟨u, hu⟩ : ∃ u, u = s.things.getD n .none := ⟨_, rfl⟩
                  obtain ⟨v, hv⟩ : ∃ v, v = s'.things.getD n .none := ⟨_, rfl⟩
                  rw [← hu] at u0 u1 hch
                  rw [← hv] at v0 v1 hch
                  have hne := fun h => vneq_ne (u := v) (v := u) h
                  obtain ⟨uk, huk⟩ : ∃ uk, uk = u.kind := ⟨_, rfl⟩
                  obtain ⟨un, hun⟩ : ∃ un, un = u.num := ⟨_, rfl⟩
                  obtain ⟨vk, hvk⟩ : ∃ vk, vk = v.kind := ⟨_, rfl⟩
                  obtain ⟨vn, hvn⟩ : ∃ vn, vn = v.num := ⟨_, rfl⟩
                  rw [← huk, ← hun, ← hvk, ← hvn] at hne
                  rw [← huk] at u0
                  rw [← hun] at u1
                  rw [← hvk] at v0
                  rw [← hvn] at v1
                  have sA := (HA7.out.blk.ext Hx.out).kc (X := fun _ => False) (fun e => e) 1 rfl
                  have sB := (HB7.out.blk.ext Hx.out).kc (X := fun _ => False) (fun e => e) 1 rfl
                  simp only [List.getElem_toArray, List.getElem_cons_zero, List.getElem_cons_succ] at sA sB
                  have j0 : ∀ w1, Keep (fun _ => False) wr w1 → w1.cell? ⟨gA, n * 2, none⟩ = some (.string uk) := fun w1 k => k.ext.cellx u0
                  have j1 : ∀ w1, Keep (fun _ => False) wr w1 → w1.cell? ⟨gA, n * 2 + 1, none⟩ = some (.int .i64 (un : Int)) := fun w1 k => k.ext.cellx u1
                  have q0 : ∀ w1, Keep (fun _ => False) wr w1 → w1.cell? ⟨gB, n * 2, none⟩ = some (.string vk) := fun w1 k => k.ext.cellx v0
                  have q1 : ∀ w1, Keep (fun _ => False) wr w1 → w1.cell? ⟨gB, n * 2 + 1, none⟩ = some (.int .i64 (vn : Int)) := fun w1 k => k.ext.cellx v1
                  have i0 : ∀ w1, Keep (fun _ => False) wr w1 → w1.cell? (yi.add i) = some (.int .i64 (K : Int)) := fun w1 k => (Hx7.out.trans (Hx.out.trans k.ext)).cellx Hci.out
                  cases hd : vneq uk (un : Int) vk (vn : Int) with
                  | false =>
                    clear hu hv huk hun hvk hvn hne hch u0 u1 v0 v1
                    go_wp2
                    clear t0
                    refine wp_flowT (fun _ => False) (by kernel_rfl) (by kernel_rfl) ?_
                    repeat (apply FlowT.d; (intro w1 hk; unfold does; go_simp; (try go_ints); (first | exact DetR.mk | (simp only [↓IntWalk.iteOmega, Oper.doesUpon_value]; exact DetR.mk) | (simp only [↓IntWalk.iteOmega]; go_simp; (try go_ints); exact DetR.mk))); simp only [Act.put, List.setIfInBounds_toArray, List.set_cons_zero, List.set_cons_succ])
                    refine FlowT.fin fun wy _ hky => ?_
                    have Hxy := hid (Hx.out.trans hky.ext)
                    clear hky sA sB j0 j1 q0 q1 i0 hd
                    go_wp2
                    go_roundw
                    case rel => exact ⟨n + 1, by go_num, by omega, Hxy.out⟩
                    case measure => simp [intOf]; omega
                  | true =>
                    have hch2 := hch (hne hd)
                    have HW := fun w1 (y : Ext wr w1) => hid (show Calls Tryz.prog 19 #[.slice aw WL.length cw, .int .i64 (q : Int)] w1 (fun e w' => e = .returned (.bool true) ∧ Ext w1 w') from (sethas_any (.slice aw WL.length cw) WL (q : Int) w1 w7.heap.size (HIw.out.old ((Hx.out.trans y).old _))).mono fun e w' h => ⟨by rw [h.1, decide_eq_true hch2.1], by rw [← h.2]; exact Ext.refl _⟩)
                    have HD := fun w1 (y : Ext wr w1) => hid (show Calls Tryz.prog 19 #[.slice ai IL.length ci, .int .i64 (K : Int)] w1 (fun e w' => e = .returned (.bool false) ∧ Ext w1 w') from (sethas_any (.slice ai IL.length ci) IL (K : Int) w1 w4.heap.size (HIi.out.old ((Hx47.out.trans (Hx.out.trans y)).old _))).mono fun e w' h => ⟨by rw [h.1, decide_eq_false (Hidl.out hch2.2)], by rw [← h.2]; exact Ext.refl _⟩)
                    clear hu hv huk hun hvk hvn hne hch hch2 u0 u1 v0 v1
                    go_wp2
                    clear t0
                    refine wp_flowT (fun _ => False) (by kernel_rfl) (by kernel_rfl) ?_
                    repeat (apply FlowT.d; (intro w1 hk; unfold does; go_simp; (try go_ints); (first | exact DetR.mk | (simp only [↓IntWalk.iteOmega, Oper.doesUpon_value]; exact DetR.mk) | (simp only [↓IntWalk.iteOmega]; go_simp; (try go_ints); exact DetR.mk))); simp only [Act.put, List.setIfInBounds_toArray, List.set_cons_zero, List.set_cons_succ])
                    apply FlowT.d
                    · intro w1 hk
                      unfold does
                      go_simp
                      exact CallR.det ((HW w1 hk.ext).out)
                    simp only [Act.put, List.setIfInBounds_toArray, List.set_cons_zero, List.set_cons_succ]
                    repeat (apply FlowT.d; (intro w1 hk; unfold does; go_simp; (try go_ints); (first | exact DetR.mk | (simp only [↓IntWalk.iteOmega, Oper.doesUpon_value]; exact DetR.mk) | (simp only [↓IntWalk.iteOmega]; go_simp; (try go_ints); exact DetR.mk))); simp only [Act.put, List.setIfInBounds_toArray, List.set_cons_zero, List.set_cons_succ])
                    apply FlowT.d
                    · intro w1 hk
                      unfold does
                      go_simp
                      exact CallR.det ((HD w1 hk.ext).out)
                    simp only [Act.put, List.setIfInBounds_toArray, List.set_cons_zero, List.set_cons_succ]
                    repeat (apply FlowT.d; (intro w1 hk; unfold does; go_simp; (try go_ints); (first | exact DetR.mk | (simp only [↓IntWalk.iteOmega, Oper.doesUpon_value]; exact DetR.mk) | (simp only [↓IntWalk.iteOmega]; go_simp; (try go_ints); exact DetR.mk))); simp only [Act.put, List.setIfInBounds_toArray, List.set_cons_zero, List.set_cons_succ])
                    refine FlowT.fin fun wy _ hky => ?_
                    have Hxy := hid (Hx.out.trans hky.ext)
                    clear hky sA sB j0 j1 q0 q1 i0 hd HW HD
                    go_wp2
                    go_roundw
                    case rel => exact ⟨n + 1, by go_num, by omega, Hxy.out⟩
                    case measure => simp [intOf]; omega
                · have hn2 : n = s.things.length := by omega
                  subst hn2
                  clear hlt hn
                  go_wp2
                  go_roundw
                  case rel => exact ⟨i + 1, by go_num, by omega, Hx47.out.trans Hx0.out⟩
                  case measure => simp [intOf]; omega
        · obtain ⟨te, xe, rfl⟩ : ∃ t x, evB = .iface t (.pointer (some x)) := by
            rcases HB5.out.out with ⟨h, _⟩ | ⟨_, _, _, _, h⟩
            · exact absurd h hr
            · exact h.form
          clear hr
          rcases HA5.out.out with ⟨_, h, _⟩ | ⟨_, _, _, _, h⟩
          · subst h
            go_wp2
            go_ret
            exact ⟨rfl, HX6.out⟩
          · obtain ⟨ta, xa, rfl⟩ := h.form
            clear h
            go_wp2
            go_ret
            exact ⟨rfl, HX6.out⟩
      · go_wp2
        go_ret
        exact ⟨rfl, HXw.out.trans (HZ4.out.trans Hx4r.out)⟩
  · have HL := hid (callsidle_no b1 b2 b3 d1 d2 d3 P W9 W9.heap.size ad HPP9.out (Nat.le_refl _) hw)
    unfold pval at HL
    clear hw
    go_wp2_with fail
    rw [← HW9.out]
    refine HL.out.mono ?_
    intro e w4 hx
    obtain ⟨t, x, rfl, _, hx4⟩ := hx
    have HZ4 := hid hx4
    clear HL hx4
    go_wp2
    go_ret
    exact ⟨rfl, HXw.out.trans HZ4.out⟩
end Go.Proofs.YtoaoienfggjepaaGreatDoor

