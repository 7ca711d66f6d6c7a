/- Texts of one proof, put together: WN. -/
import Derived.Test.YtkabgmohgjljkaaGreatDoorZRD24

/- RunDoes: a script that may not be done. -/
namespace Go.Proofs.YtkabgmohgjljkaaGreatDoor
set_option linter.unusedSimpArgs false
set_option linter.unusedVariables false
open Go Go.RowKit

theorem PP.firstK {P : PP} : ∀ {l : List Int}, (∃ x ∈ l, P.badk x = true) → ∃ i, P.FirstK l i
  | [], h => by obtain ⟨x, hx, _⟩ := h; cases hx
  | y :: l, h => by
    cases hy : P.badk y with
    | true => exact ⟨0, y, rfl, hy, fun j z hj _ => by omega⟩
    | false =>
      obtain ⟨i, x, h1, h2, h3⟩ := PP.firstK (l := l) (by
        obtain ⟨x, hx, h2⟩ := h
        rcases List.mem_cons.1 hx with rfl | hx
        · rw [hy] at h2; cases h2
        · exact ⟨x, hx, h2⟩)
      exact ⟨i + 1, x, by simpa using h1, h2, fun j z hj hz => by
        cases j with
        | zero => simp at hz; subst hz; exact hy
        | succ j => exact h3 j z (by omega) (by simpa using hz)⟩
theorem PP.badk_no {P : PP} {q : Int} (h : P.badk q = false) : 0 ≤ q ∧ q < P.stmts.length := by
  unfold PP.badk at h
  simp at h
  omega
theorem PP.badk_yes {P : PP} {q : Int} (h : P.badk q = true) : q < 0 ∨ P.stmts.length ≤ q := by
  unfold PP.badk at h
  simp at h
  omega
theorem PP.no_run {P : PP} {l : List Int} (h : ¬ P.Runs l) (h1 : P.err1 = 0) (h2 : P.allWell) (h3 : l.length ≤ 2000) : ∃ x ∈ l, P.badk x = true := by
  rcases Classical.em (∃ x ∈ l, P.badk x = true) with g | g
  · exact g
  · exact absurd ⟨h1, h2, h3, fun x hx => by
      cases hb : P.badk x with
      | false => rfl
      | true => exact absurd ⟨x, hx, hb⟩ g⟩ h

set_option maxRecDepth 100000 in
set_option maxHeartbeats 25600000 in
theorem rundoes_no (a1 a2 a3 : Option Addr) (c1 c2 c3 : Nat) (P : PP) (va : Value) (l : List Int) (kd : ByteArray) (n : Int) (w : World) (ad : Nat → Addr) (hE : ErrsP w ad) (hA : AllErrs w ad) (hP : ProgR w w.heap.size (.slice a1 P.vars.length c1) (.slice a2 P.funs.length c2) (.slice a3 P.stmts.length c3) P) (hI : IntsR w w.heap.size va l) (hks : kd.size ≤ 9223372036854775807) (hf1 : Hid (l.length ≤ 200)) (hf2 : Hid (kd.size ≤ 20)) (hnr : Hid (¬ P.Runs l)) :
    Calls Tryz.prog 3 #[pval a1 a2 a3 c1 c2 c3 P, va, .string kd, .int .i64 n] w fun e w' => e = .returned (.bool true) ∧ Ext w w' := by
  have HE := hid hE
  have HA := hid hA
  have HP := hid hP
  have HI := hid hI
  have hll : (l.length : Int) ≤ 9223372036854775807 := by
    obtain ⟨_, _, _, h2, h3, _⟩ := hI
    omega
  obtain ⟨aa, ca, hva, hlca⟩ : ∃ aa ca, va = .slice aa l.length ca ∧ l.length ≤ ca := by
    obtain ⟨aa, ca, h, h2, _⟩ := hI
    exact ⟨aa, ca, h, h2⟩
  subst hva
  obtain ⟨W1, hW1⟩ : ∃ W1, W1 = w.alloc (.cells (pcells a1 a2 a3 c1 c2 c3 P) 26) := ⟨_, rfl⟩
  have HX1 : Hid (Ext w W1) := hid (by rw [hW1]; exact (Ext.refl _).alloc _)
  have HB1 : Hid (Blk W1 w.heap.size (pcells a1 a2 a3 c1 c2 c3 P) 26) := hid (by rw [hW1]; exact Blk.new _ _ _)
  have HR := hid (ran_any W1 ad (hE.ext HX1.out))
  have HW1 : Hid (W1 = w.alloc (.cells #[.slice a1 P.vars.length c1, .slice a2 P.funs.length c2, .slice a3 P.stmts.length c3] 26)) := hid (by rw [hW1]; rfl)
  unfold pval
  clear hE hP hI hW1 hA
  go_enter Tryz.func3, Tryz.ntmps3
  go_wp2_with fail
  rw [← HW1.out]
  refine HR.out.mono ?_
  intro e w1 hx
  obtain ⟨rfl, hx1⟩ := hx
  have HL := hid (large_any a1 a2 a3 c1 c2 c3 P w1 w.heap.size (HP.out.ext (HX1.out.trans hx1)))
  unfold pval at HL
  have HX1' := hid (HX1.out.trans hx1)
  have HBp1 := hid (HB1.out.ext hx1)
  have p0 := HBp1.out.av 0 rfl
  have p1 := HBp1.out.av 1 rfl
  have p2 := HBp1.out.av 2 rfl
  simp only [pcells, List.getElem_toArray, List.getElem_cons_zero, List.getElem_cons_succ] at p0 p1 p2
  clear HR hx1
  go_wp2_with fail
  refine HL.out.mono ?_
  intro e w2 hx
  obtain ⟨r, rfl, hr, hsm, hx2⟩ := hx
  have HX2 := hid (HX1'.out.trans hx2)
  have HBp := hid (HBp1.out.ext hx2)
  clear HL hx2 p0 p1 p2
  rcases (by omega : r = 1 ∨ r = 0) with rfl | rfl
  · clear hsm hr
    go_wp2
    go_ret
    exact ⟨rfl, HX2.out⟩
  have HSm := hid (hsm rfl)
  clear hsm hr
  have hl3 : Hid (l.length ≤ 2001) := hid (by have := hf1.out; omega)
  have h20 : ¬ 20 < kd.size := by have := hf2.out; omega
  have h200 : ¬ 200 < l.length := by have := hf1.out; omega
  have HQ := hid (ownprogram_any a1 a2 a3 c1 c2 c3 P w2 ((HP.out.ext HX2.out).lift HX2.out.size) HSm.out)
  have p0 := HBp.out.av 0 rfl
  have p1 := HBp.out.av 1 rfl
  have p2 := HBp.out.av 2 rfl
  simp only [pcells, List.getElem_toArray, List.getElem_cons_zero, List.getElem_cons_succ] at p0 p1 p2
  unfold pval at HQ
  go_wp2_with fail
  refine HQ.out.mono ?_
  intro e w3 hx
  obtain ⟨hx3, b1, b2, b3, d1, d2, d3, rfl, hq⟩ := hx
  have HX3 := hid (HX2.out.trans hx3)
  have HBp3 := hid (HBp.out.ext hx3)
  have Hq3 := hid hq
  clear HQ hx3 hq p0 p1 p2
  obtain ⟨W4, hW4⟩ : ∃ W4, W4 = w3.alloc (.cells (pcells b1 b2 b3 d1 d2 d3 P) 26) := ⟨_, rfl⟩
  have hx4 : Ext w3 W4 := by rw [hW4]; exact (Ext.refl _).alloc _
  have HX4 := hid (HX3.out.trans hx4)
  have HBp4 := hid (HBp3.out.ext hx4)
  have HB8 : Hid (Blk W4 w3.heap.size (pcells b1 b2 b3 d1 d2 d3 P) 26) := hid (by rw [hW4]; exact Blk.new _ _ _)
  have HP4 := hid ((Hq3.out.ext hx4).lift hx4.size)
  have HW4 : Hid (W4 = w3.alloc (.cells #[.slice b1 P.vars.length d1, .slice b2 P.funs.length d2, .slice b3 P.stmts.length d3] 26)) := hid (by rw [hW4]; rfl)
  have HI4 : Hid (IntsR W4 w.heap.size (.slice aa l.length ca) l) := hid (HI.out.old (HX4.out.old _))
  have h0 := HB8.out.kc (X := fun _ => False) (fun e => e) 0 rfl
  have h1 := HB8.out.kc (X := fun _ => False) (fun e => e) 1 rfl
  have h2 := HB8.out.kc (X := fun _ => False) (fun e => e) 2 rfl
  simp only [pcells, List.getElem_toArray, List.getElem_cons_zero, List.getElem_cons_succ] at h0 h1 h2
  have hz1 : ∀ s ∈ P.vars, s.size ≤ 1000000 := fun s hs => by have := HSm.out.vs s hs; omega
  have hz2 : ∀ s ∈ P.names, s.size ≤ 1000000 := fun s hs => by
    obtain ⟨f, hf, rfl⟩ := List.mem_map.1 hs
    have := (HSm.out.fs f hf).1
    omega
  have HOwn : ∀ wa, Ext W4 wa → Hid (Calls Tryz.prog 8 #[.slice aa l.length ca] wa fun e w' => ∃ v, e = .returned v ∧ Ext wa w' ∧ IntsNew W4 l v w') := fun wa x => hid ((ownintsR_more (.slice aa l.length ca) l wa w.heap.size (HI4.out.old (x.old _)) (by have := hl3.out; omega)).mono fun e w' ⟨v, he, hx, hr⟩ => ⟨v, he, hx, (row_form hr).imp fun a h => ⟨_, h⟩, IntsR.own hr (Nat.le_refl _), x.trans hx⟩)
  have HDo : ∀ wa, Ext W4 wa → ∀ v, IntsR wa wa.heap.size v l → Hid (Calls Tryz.prog 7 #[.agg #[.slice b1 P.vars.length d1, .slice b2 P.funs.length d2, .slice b3 P.stmts.length d3], v] wa fun e w' => Ext wa w' ∧ ∃ t, e = .returned t ∧ RdNew W4 ad P l t w') := fun wa x v hv => hid ((rundo_whole b1 b2 b3 d1 d2 d3 P v l wa ad (HE.out.ext (HX4.out.trans x)) ((HP4.out.ext x).lift x.size) hv hz1 hz2).mono fun e w' ⟨hx, s1, s2, s3, m1, m2, m3, e1, e2, e3, ev, he, hr⟩ => ⟨hx, _, he, ⟨_, _, _, _, _, _, _, _, _, _, rfl, hr.low x.size⟩, x.trans hx⟩)
  clear hW4 hx4
  go_wp2
  rw [← HW4.out]
  generalize w3.heap.size = b8 at *
  refine wp_flow (fun _ => False) (by kernel_rfl) (by kernel_rfl) ?_
  apply Flow.d 0 _ rfl (by simp) (by kernel_rfl)
  · intro w1 hk; unfold does; go_simp; (try go_ints); exact DetR.mk
  simp only [List.getElem_toArray, List.getElem_cons_zero, List.getElem_cons_succ, Act.put, List.setIfInBounds_toArray, List.set_cons_zero, List.set_cons_succ]
  apply Flow.d 1 _ rfl (by simp) (by kernel_rfl)
  · intro w1 hk; unfold does; go_simp; (try go_ints); exact DetR.mk
  simp only [List.getElem_toArray, List.getElem_cons_zero, List.getElem_cons_succ, Act.put, List.setIfInBounds_toArray, List.set_cons_zero, List.set_cons_succ]
  refine Flow.par3j 2 3 4 5 6 7 _ _ _ _ _ _ rfl rfl rfl rfl rfl rfl (by decide) (by decide) (by decide) (by decide) (by decide) (by simp) (by simp) (by simp) (fun _ _ h => by cases h) (fun _ _ h => by cases h) (fun _ _ h => by cases h) (fun _ _ h => by cases h) (fun _ _ h => by cases h) (fun _ _ h => by cases h)
    (by kernel_rfl) (by kernel_rfl) (by kernel_rfl) (by kernel_rfl) (by kernel_rfl) (by kernel_rfl) (by kernel_rfl) (by kernel_rfl) (by kernel_rfl) (by kernel_rfl) (by kernel_rfl) (by kernel_rfl) (by kernel_rfl) (by kernel_rfl) (by kernel_rfl) (by kernel_rfl)
    (StNew W4) (IntsNew W4 l) (fun u v w' => StNew W4 u w' ∧ IntsNew W4 l v w') (fun _ t w' => RdNew W4 ad P l t w') (fun u _ t w' => StNew W4 u w' ∧ RdNew W4 ad P l t w') IsTup id tup0 tup1
    (fun _ _ _ h y => h.ext y) (fun _ _ _ h y => h.ext y) (fun _ _ _ _ h y => ⟨h.1.ext y, h.2.ext y⟩) (fun _ _ _ _ h y => h.ext y) (fun _ _ _ _ _ h y => ⟨h.1.ext y, h.2.ext y⟩)
    (fun _ _ _ h => h.tup) (fun _ _ _ _ h => h.2.tup) ?_ ?_ ?_ ?_ ?_ ?_ ?_ ?_ ?_ ?_ ?_
  · intro wa hC hk
    unfold does
    go_simp
    exact ⟨hk.alloc _, StNew.mk hC⟩
  · intro wa hC hk
    unfold does
    go_simp
    refine CallR.act ((HOwn wa hC).out.mono ?_)
    rintro e wb ⟨v, rfl, hx, hN⟩
    exact ⟨_, rfl, (hC.trans hx).keep _, hN⟩
  · rintro _ wa hN hk
    unfold does
    go_simp
    exact ⟨hk.alloc _, StNew.mk hN.2.2, hN.ext ((Ext.refl _).alloc _)⟩
  · rintro _ wa hS hk
    unfold does
    go_simp
    refine CallR.act ((HOwn wa hS.2).out.mono ?_)
    rintro e wb ⟨v, rfl, hx, hN⟩
    exact ⟨_, rfl, (hS.2.trans hx).keep _, hS.ext hx, hN⟩
  · rintro _ wa ⟨⟨a, n, c, rfl⟩, hN, hx⟩ hk
    have HN := hid hN
    clear hN
    unfold does
    go_simp
    refine CallR.act ((HDo wa hx _ HN.out).out.mono ?_)
    rintro e wb ⟨hx2, t, rfl, hR⟩
    exact ⟨_, rfl, (hx.trans hx2).keep _, hR⟩
  · rintro _ _ wa ⟨hS, ⟨a, n, c, rfl⟩, hN, hx⟩ hk
    have HN := hid hN
    clear hN
    unfold does
    go_simp
    refine CallR.act ((HDo wa hx _ HN.out).out.mono ?_)
    rintro e wb ⟨hx2, t, rfl, hR⟩
    exact ⟨_, rfl, (hx.trans hx2).keep _, hS.ext hx2, hR⟩
  · rintro _ _ wa ⟨u, v, rfl⟩ hk
    unfold does
    go_simp
    exact DetR.mk
  · rintro _ _ wa ⟨u, v, rfl⟩ hk
    unfold does
    go_simp
    exact DetR.mk
  · rintro _ _ wa ⟨u, v, rfl⟩ hk
    unfold does
    go_simp
    exact DetR.mk
  · rintro _ _ wa hR hk
    unfold does
    go_simp
    exact ⟨hk.alloc _, StNew.mk hR.2, hR.ext ((Ext.refl _).alloc _)⟩
  rintro _ _ _ ⟨_, ⟨⟨bqA, rfl, _, Hq0⟩, _⟩, ⟨s1A, m1A, d1A, s2A, m2A, d2A, s3A, m3A, d3A, evA, rfl, _⟩, _⟩
  simp only [List.getElem_toArray, List.getElem_cons_zero, List.getElem_cons_succ, Act.put, List.setIfInBounds_toArray, List.set_cons_zero, List.set_cons_succ]
  have HbqA := hid Hq0
  clear Hq0
  simp only [id, tup0, tup1, Array.getD_eq_getD_getElem?, List.getElem?_toArray, List.getElem?_cons_zero, List.getElem?_cons_succ, Option.getD_some]
  refine Flow.one 8 _ rfl (by kernel_rfl) (fun _ w' => RdAt W4 ad P l bqA s1A s2A s3A m1A m2A m3A d1A d2A d3A evA w') (fun _ _ _ h y => h.on y) ?_ ?_
  · rintro wa ⟨⟨⟨b', eb, hB, _⟩, _⟩, ⟨t1, p1', e1, t2, p2', e2, t3, p3', e3, ev', et, hO⟩, hx⟩ hk
    obtain rfl : bqA = b' := by simpa using eb
    simp only [Value.tuple.injEq, Array.mk.injEq, List.cons.injEq, Value.agg.injEq, Value.slice.injEq, and_true] at et
    obtain ⟨⟨⟨rfl, rfl, rfl⟩, ⟨rfl, rfl, rfl⟩, ⟨rfl, rfl, rfl⟩⟩, rfl⟩ := et
    have z0 := hB.av 0 rfl
    have z1 := hB.av 1 rfl
    have z2 := hB.av 2 rfl
    have f0 := hB.free 0
    have f1 := hB.free 1
    have f2 := hB.free 2
    have hB2 := store3 (v0 := .slice s1A m1A d1A) (v1 := .slice s2A m2A d2A) (v2 := .slice s3A m3A d3A) hB
    have hK2 := store3_keep wa bqA (.slice s1A m1A d1A) (.slice s2A m2A d2A) (.slice s3A m3A d3A)
    have hx2 := Keep.new hx hK2 fun q e => by subst e; exact HbqA.out
    have hO2 := hO.keep hK2 fun q e => by subst e; exact ⟨_, hB⟩
    simp only [zcells, List.getElem_toArray, List.getElem_cons_zero, List.getElem_cons_succ] at z0 z1 z2
    clear hk eb
    unfold does
    go_simp
    exact ⟨hx2.keep _, ⟨hB2, hO2, hx2⟩⟩
  rintro _ ⟨_, _⟩
  simp only [List.getElem_toArray, List.getElem_cons_zero, List.getElem_cons_succ, Act.put, List.setIfInBounds_toArray, List.set_cons_zero, List.set_cons_succ]
  apply Flow.d 9 _ rfl (by simp) (by kernel_rfl)
  · intro w1 hk; unfold does; go_simp; (try go_ints); exact DetR.mk
  simp only [List.getElem_toArray, List.getElem_cons_zero, List.getElem_cons_succ, Act.put, List.setIfInBounds_toArray, List.set_cons_zero, List.set_cons_succ]
  refine Flow.fin (by kernel_rfl) fun w5 hA5 hk5 => ?_
  have HA5 := hid hA5
  have HbA5 := hid HbqA.out
  clear hA5 hk5 HOwn HDo HbqA h0 h1 h2
  have HX5 := hid (HX4.out.trans HA5.out.ext)
  have HB85 := hid (HB8.out.ext HA5.out.ext)
  have HBp5 := hid (HBp4.out.ext HA5.out.ext)
  have HP5 := hid ((HP4.out.ext HA5.out.ext).lift HA5.out.ext.size)
  have HQ5 := hid ((HP.out.ext HX5.out).lift HX5.out.size)
  have HF := hid (rfprog_all a1 a2 a3 c1 c2 c3 P w5 HQ5.out hz1 hz2)
  have p0 := HBp5.out.av 0 rfl
  have p1 := HBp5.out.av 1 rfl
  have p2 := HBp5.out.av 2 rfl
  simp only [pcells, List.getElem_toArray, List.getElem_cons_zero, List.getElem_cons_succ] at p0 p1 p2
  unfold pval at HF
  go_wp2_with fail
  refine HF.out.mono ?_
  intro e w6 hx
  obtain ⟨hx6, c, p, rfl, hfi⟩ := hx
  obtain ⟨W7, hW7⟩ : ∃ W7, W7 = w6.alloc (.cells #[.int .i64 (c : Int), .int .i64 p] 40) := ⟨_, rfl⟩
  have hx7 : Ext w6 W7 := by rw [hW7]; exact (Ext.refl _).alloc _
  have HX57 := hid (hx6.trans hx7)
  have HBf : Hid (Blk W7 w6.heap.size #[.int .i64 (c : Int), .int .i64 p] 40) := hid (by rw [hW7]; exact Blk.new _ _ _)
  have HW7 := hid hW7
  have hx56 := hx6
  clear HF p0 p1 p2 hW7 hx6 hx7
  by_cases hc : c = 0
  · subst hc
    obtain ⟨he0, hal, rfl⟩ := FaultIs.zero hfi
    obtain ⟨K, hK⟩ := PP.firstK (PP.no_run hnr.out he0 hal (by have := hf1.out; omega))
    have hrf : RunFault P l 2 (K : Int) := .inr (.inr ⟨he0, hal, by have := hf1.out; omega, K, hK, rfl, rfl⟩)
    obtain ⟨rfl, rfl, rfl, hno⟩ : m1A = 0 ∧ m2A = 0 ∧ m3A = 0 ∧ RunNo ad P l w5 evA := by
      rcases HA5.out.out with ⟨hr, _⟩ | ⟨_, h1, h2, h3, h4⟩
      · exact absurd hr hnr.out
      · exact ⟨h1, h2, h3, h4⟩
    obtain ⟨c', p', hrf', _, _, hcode⟩ := code_no hno
    obtain ⟨rfl, rfl⟩ := hrf.uniq hrf'
    have HK := hid hK
    have HC := hid hcode
    have hKl : K < l.length := by
      obtain ⟨x, h1, _⟩ := hK
      rcases Nat.lt_or_ge K l.length with h | h
      · exact h
      · rw [List.getElem?_eq_none h] at h1; cases h1
    have f0 := HBf.out.av 0 rfl
    have f1 := HBf.out.av 1 rfl
    simp only [List.getElem_toArray, List.getElem_cons_zero, List.getElem_cons_succ] at f0 f1
    have HW7z : Hid (W7 = w6.alloc (.cells #[.int .i64 0, .int .i64 (-1)] 40)) := hid HW7.out
    have HBfz : Hid (Blk W7 w6.heap.size #[.int .i64 0, .int .i64 (-1)] 40) := hid HBf.out
    have Hbf : Hid (w5.heap.size ≤ w6.heap.size) := hid hx56.size
    clear hrf hrf' hno he0 hal hx56 hK hcode hfi HBf HW7
    go_wp2
    rw [← HW7z.out]
    generalize w6.heap.size = bf at *
    clear HW7z
    go_loopw [14] (fun t14 wr => ∃ i : Nat, t14 = .int .i64 (i : Int) ∧ Ext w5 wr ∧ ((i ≤ K ∧ Blk wr bf #[.int .i64 0, .int .i64 (-1)] 40) ∨ (i = K + 1 ∧ Blk wr bf #[.int .i64 2, .int .i64 (K : Int)] 40))) (fun t14 _ => K + 1 - (intOf t14).toNat)
    case atStart => exact ⟨0, rfl, HX57.out, .inl ⟨Nat.zero_le _, HBfz.out⟩⟩
    case round =>
      obtain ⟨i, rfl, hx, hcase⟩ := hrel
      have Hx := hid hx
      clear hx f0 f1
      rcases hcase with ⟨hi, hB⟩ | ⟨hi, hB⟩
      · have HB := hid hB
        have hil : i < l.length := by omega
        have f0 := hB.av 0 rfl
        simp only [List.getElem_toArray, List.getElem_cons_zero, List.getElem_cons_succ] at f0
        clear hB
        obtain ⟨y, q, hya, hqk, hcq⟩ := (HI4.out.old ((HA5.out.ext.trans Hx.out).old _)).at hil
        subst hya
        have c0 : ∀ w1, Keep (fun _ => False) wr w1 → w1.cell? (y.add i) = some (.int .i64 q) := fun w1 k => k.ext.cellx hcq
        have p2 := (HBp5.out.ext Hx.out).kc (X := fun _ => False) (fun e => e) 2 rfl
        simp only [pcells, List.getElem_toArray, List.getElem_cons_zero, List.getElem_cons_succ] at p2
        by_cases hlt : i < K
        · have hqb : P.badk q = false := by
            obtain ⟨x, h1, h2, h3⟩ := HK.out
            exact h3 i q hlt hqk
          obtain ⟨hq1, hq2⟩ := PP.badk_no hqb
          clear hqb hqk hcq
          go_wp2
          refine wp_flowT (fun _ => False) (by kernel_rfl) (by kernel_rfl) ?_
          repeat (apply FlowT.d; (intro w1 hk; unfold does; go_simp; (try go_ints); (first | exact DetR.mk | (simp only [↓IntWalk.iteOmega, Oper.doesUpon_value]; exact DetR.mk) | (simp only [↓IntWalk.iteOmega]; go_simp; (try go_ints); exact DetR.mk))); simp only [Act.put, List.setIfInBounds_toArray, List.set_cons_zero, List.set_cons_succ])
          refine FlowT.fin fun w8 hx8 hk8 => ?_
          have Hx8 := hid (Hx.out.trans hx8)
          have HB8 := hid (HB.out.ext hx8)
          clear hx8 hk8 c0 p2 f0
          go_wp2
          go_roundw
          case rel => exact ⟨i + 1, by go_num, Hx8.out, .inl ⟨by omega, HB8.out⟩⟩
          case measure => simp [intOf]; omega
        · obtain rfl : i = K := by omega
          have hqb : P.badk q = true := by
            obtain ⟨x, h1, h2, h3⟩ := HK.out
            rw [h1] at hqk
            obtain rfl := Option.some.inj hqk
            exact h2
          have hq := PP.badk_yes hqb
          clear hlt hi
          by_cases hq1 : q < 0
          · clear hq
            clear hqb hqk hcq
            go_wp2
            refine wp_flowT (fun _ => False) (by kernel_rfl) (by kernel_rfl) ?_
            repeat (apply FlowT.d; (intro w1 hk; unfold does; go_simp; (try go_ints); (first | exact DetR.mk | (simp only [↓IntWalk.iteOmega, Oper.doesUpon_value]; exact DetR.mk) | (simp only [↓IntWalk.iteOmega]; go_simp; (try go_ints); exact DetR.mk))); simp only [Act.put, List.setIfInBounds_toArray, List.set_cons_zero, List.set_cons_succ])
            refine FlowT.fin fun w8 hx8 hk8 => ?_
            have Hx8 := hid (Hx.out.trans hx8)
            have HB8 := hid (HB.out.ext hx8)
            clear hx8 hk8 c0 p2 f0
            have z0 := HB8.out.av 0 rfl
            have z1 := HB8.out.av 1 rfl
            have g0 := HB8.out.free 0
            have g1 := HB8.out.free 1
            simp only [List.getElem_toArray, List.getElem_cons_zero, List.getElem_cons_succ] at z0 z1
            obtain ⟨W9, hW9⟩ : ∃ W9, W9 = (w8.setCell ⟨bf, 0, none⟩ (.int .i64 2)).setCell ⟨bf, 1, none⟩ (.int .i64 (i : Int)) := ⟨_, rfl⟩
            have HB9 : Hid (Blk W9 bf #[.int .i64 2, .int .i64 (i : Int)] 40) := hid (by rw [hW9]; exact two HB8.out)
            have X9 : Hid (Ext w5 W9) := hid (by rw [hW9]; exact Keep.new Hx8.out (two_keep w8 bf (.int .i64 2) (.int .i64 (i : Int))) fun q e => by subst e; exact Hbf.out)
            have HW9 := hid hW9
            clear hW9
            go_wp2
            rw [← HW9.out]
            clear z0 z1 g0 g1
            go_roundw
            case rel => exact ⟨i + 1, by go_num, X9.out, .inr ⟨rfl, HB9.out⟩⟩
            case measure => simp [intOf]
          · have hq2 : (P.stmts.length : Int) ≤ q := by omega
            clear hq
            clear hqb hqk hcq
            go_wp2
            refine wp_flowT (fun _ => False) (by kernel_rfl) (by kernel_rfl) ?_
            repeat (apply FlowT.d; (intro w1 hk; unfold does; go_simp; (try go_ints); (first | exact DetR.mk | (simp only [↓IntWalk.iteOmega, Oper.doesUpon_value]; exact DetR.mk) | (simp only [↓IntWalk.iteOmega]; go_simp; (try go_ints); exact DetR.mk))); simp only [Act.put, List.setIfInBounds_toArray, List.set_cons_zero, List.set_cons_succ])
            refine FlowT.fin fun w8 hx8 hk8 => ?_
            have Hx8 := hid (Hx.out.trans hx8)
            have HB8 := hid (HB.out.ext hx8)
            clear hx8 hk8 c0 p2 f0
            have z0 := HB8.out.av 0 rfl
            have z1 := HB8.out.av 1 rfl
            have g0 := HB8.out.free 0
            have g1 := HB8.out.free 1
            simp only [List.getElem_toArray, List.getElem_cons_zero, List.getElem_cons_succ] at z0 z1
            obtain ⟨W9, hW9⟩ : ∃ W9, W9 = (w8.setCell ⟨bf, 0, none⟩ (.int .i64 2)).setCell ⟨bf, 1, none⟩ (.int .i64 (i : Int)) := ⟨_, rfl⟩
            have HB9 : Hid (Blk W9 bf #[.int .i64 2, .int .i64 (i : Int)] 40) := hid (by rw [hW9]; exact two HB8.out)
            have X9 : Hid (Ext w5 W9) := hid (by rw [hW9]; exact Keep.new Hx8.out (two_keep w8 bf (.int .i64 2) (.int .i64 (i : Int))) fun q e => by subst e; exact Hbf.out)
            have HW9 := hid hW9
            clear hW9
            go_wp2
            rw [← HW9.out]
            clear z0 z1 g0 g1
            go_roundw
            case rel => exact ⟨i + 1, by go_num, X9.out, .inr ⟨rfl, HB9.out⟩⟩
            case measure => simp [intOf]
      · subst hi
        have f0 := hB.av 0 rfl
        have f1 := hB.av 1 rfl
        have s0 := (HA5.out.blk.ext Hx.out).av 0 rfl
        have s1 := (HA5.out.blk.ext Hx.out).av 1 rfl
        have s2 := (HA5.out.blk.ext Hx.out).av 2 rfl
        simp only [List.getElem_toArray, List.getElem_cons_zero, List.getElem_cons_succ] at f0 f1 s0 s1 s2
        have HFa := hid (faulted1_any wr evA (2 : Int) (K : Int) (fun w2 x2 => HC.out w2 (Hx.out.trans x2) (HA.out.ext (HX5.out.trans (Hx.out.trans x2)))))
        clear hB
        by_cases hlt : ((K + 1 : Nat) : Int) < (l.length : Int)
        · go_wp2_with fail
          refine HFa.out.mono ?_
          intro e w8 hx
          obtain ⟨rfl, hx8⟩ := hx
          have HX8 := hid (Hx.out.trans hx8)
          clear f0 f1 s0 s1 s2 HFa hx8
          have s0 := (HA5.out.blk.ext HX8.out).av 0 rfl
          have s1 := (HA5.out.blk.ext HX8.out).av 1 rfl
          have s2 := (HA5.out.blk.ext HX8.out).av 2 rfl
          simp only [List.getElem_toArray, List.getElem_cons_zero, List.getElem_cons_succ] at s0 s1 s2
          go_wp2
          go_ret
          exact ⟨rfl, HX5.out.trans HX8.out⟩
        · go_wp2_with fail
          refine HFa.out.mono ?_
          intro e w8 hx
          obtain ⟨rfl, hx8⟩ := hx
          have HX8 := hid (Hx.out.trans hx8)
          clear f0 f1 s0 s1 s2 HFa hx8
          have s0 := (HA5.out.blk.ext HX8.out).av 0 rfl
          have s1 := (HA5.out.blk.ext HX8.out).av 1 rfl
          have s2 := (HA5.out.blk.ext HX8.out).av 2 rfl
          simp only [List.getElem_toArray, List.getElem_cons_zero, List.getElem_cons_succ] at s0 s1 s2
          go_wp2
          go_ret
          exact ⟨rfl, HX5.out.trans HX8.out⟩
  · have hnw := hfi.pos hc
    have hrf : RunFault P l c p := .inl ⟨hnw, hfi⟩
    obtain ⟨rfl, rfl, rfl, hno⟩ : m1A = 0 ∧ m2A = 0 ∧ m3A = 0 ∧ RunNo ad P l w5 evA := by
      rcases HA5.out.out with ⟨hr, _⟩ | ⟨_, h1, h2, h3, h4⟩
      · exact absurd ⟨hr.1, hr.2.1⟩ hnw
      · exact ⟨h1, h2, h3, h4⟩
    obtain ⟨c', p', hrf', _, _, hcode⟩ := code_no hno
    obtain ⟨rfl, rfl⟩ := hrf.uniq hrf'
    have HFa := hid (faulted1_any W7 evA (c : Int) p (fun w2 x2 => hcode w2 (HX57.out.trans x2) (HA.out.ext (HX5.out.trans (HX57.out.trans x2)))))
    have hcb : ((c : Int) == 0) = false := beq_eq_false_iff_ne.2 (by omega)
    have hcp : (0 : Int) < (c : Int) := by omega
    have f0 := HBf.out.av 0 rfl
    have f1 := HBf.out.av 1 rfl
    have s0 := (HA5.out.blk.ext HX57.out).av 0 rfl
    have s1 := (HA5.out.blk.ext HX57.out).av 1 rfl
    have s2 := (HA5.out.blk.ext HX57.out).av 2 rfl
    simp only [List.getElem_toArray, List.getElem_cons_zero, List.getElem_cons_succ] at f0 f1 s0 s1 s2
    clear hfi hnw hrf hrf' hcode hno
    go_wp2
    rw [← HW7.out]
    go_loopw [14] (fun t14 wr => t14 = .int .i64 0 ∧ wr = W7) (fun _ _ => 0)
    case atStart => exact ⟨rfl, rfl⟩
    case round =>
      obtain ⟨rfl, hwr⟩ := hrel
      subst hwr
      by_cases hl0 : 0 < (l.length : Int)
      · go_wp2_with fail
        refine HFa.out.mono ?_
        intro e w8 hx
        obtain ⟨rfl, hx8⟩ := hx
        have HX8 := hid (HX57.out.trans hx8)
        clear f0 f1 s0 s1 s2 HFa hx8
        have s0 := (HA5.out.blk.ext HX8.out).av 0 rfl
        have s1 := (HA5.out.blk.ext HX8.out).av 1 rfl
        have s2 := (HA5.out.blk.ext HX8.out).av 2 rfl
        simp only [List.getElem_toArray, List.getElem_cons_zero, List.getElem_cons_succ] at s0 s1 s2
        go_wp2
        go_ret
        exact ⟨rfl, HX5.out.trans HX8.out⟩
      · go_wp2_with fail
        refine HFa.out.mono ?_
        intro e w8 hx
        obtain ⟨rfl, hx8⟩ := hx
        have HX8 := hid (HX57.out.trans hx8)
        clear f0 f1 s0 s1 s2 HFa hx8
        have s0 := (HA5.out.blk.ext HX8.out).av 0 rfl
        have s1 := (HA5.out.blk.ext HX8.out).av 1 rfl
        have s2 := (HA5.out.blk.ext HX8.out).av 2 rfl
        simp only [List.getElem_toArray, List.getElem_cons_zero, List.getElem_cons_succ] at s0 s1 s2
        go_wp2
        go_ret
        exact ⟨rfl, HX5.out.trans HX8.out⟩
end Go.Proofs.YtkabgmohgjljkaaGreatDoor
