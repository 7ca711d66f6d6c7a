/- Texts of one proof, put together: VA. -/
import Derived.Test.YtkabgmohgjljkaaDoorMB19

/- RunParts: the law walked, up to its two runs. -/
namespace Go.Proofs.YtkabgmohgjljkaaDoor
set_option linter.unusedSimpArgs false
set_option linter.unusedVariables false
open Go Go.RowKit

set_option maxRecDepth 100000 in
set_option maxHeartbeats 25600000 in
theorem runparts_any (a1 a2 a3 : Option Addr) (c1 c2 c3 : Nat) (P : PP) (va : Value) (l : List Int) (cut : Int) (w : World) (ad : Nat → Addr) (hE : ErrsP w ad) (hP : ProgR w w.heap.size (.slice a1 P.vars.length c1) (.slice a2 P.funs.length c2) (.slice a3 P.stmts.length c3) P) (hI : IntsR w w.heap.size va l) :
    Calls Tryd.prog 4 #[pval a1 a2 a3 c1 c2 c3 P, va, .int .i64 cut] w fun e w' => e = .returned (.bool true) ∧ Ext w w' := by
  have HE := hid hE
  have HP := hid hP
  have HI := hid hI
  have hll : (l.length : Int) ≤ 9223372036854775807 := by
    obtain ⟨_, _, _, h2, h3, _⟩ := hI
    omega
  obtain ⟨aa, ca, hva, hlca⟩ : ∃ aa ca, va = .slice aa l.length ca ∧ l.length ≤ ca := by
    obtain ⟨aa, ca, h, h2, _⟩ := hI
    exact ⟨aa, ca, h, h2⟩
  subst hva
  obtain ⟨W1, hW1⟩ : ∃ W1, W1 = w.alloc (.cells (pcells a1 a2 a3 c1 c2 c3 P) 73) := ⟨_, rfl⟩
  have HX1 : Hid (Ext w W1) := hid (by rw [hW1]; exact (Ext.refl _).alloc _)
  have HB1 : Hid (Blk W1 w.heap.size (pcells a1 a2 a3 c1 c2 c3 P) 73) := hid (by rw [hW1]; exact Blk.new _ _ _)
  have HR := hid (ran_any W1 ad (hE.ext HX1.out))
  have HW1 : Hid (W1 = w.alloc (.cells #[.slice a1 P.vars.length c1, .slice a2 P.funs.length c2, .slice a3 P.stmts.length c3] 73)) := hid (by rw [hW1]; rfl)
  unfold pval
  clear hE hP hI hW1
  go_enter Tryd.func4, Tryd.ntmps4
  go_wp2_with fail
  rw [← HW1.out]
  refine HR.out.mono ?_
  intro e w1 hx
  obtain ⟨rfl, hx1⟩ := hx
  have HL := hid (large_any a1 a2 a3 c1 c2 c3 P w1 w.heap.size (HP.out.ext (HX1.out.trans hx1)))
  unfold pval at HL
  have HX1' := hid (HX1.out.trans hx1)
  have HBp1 := hid (HB1.out.ext hx1)
  have p0 := HBp1.out.av 0 rfl
  have p1 := HBp1.out.av 1 rfl
  have p2 := HBp1.out.av 2 rfl
  simp only [pcells, List.getElem_toArray, List.getElem_cons_zero, List.getElem_cons_succ] at p0 p1 p2
  clear HR hx1
  go_wp2_with fail
  refine HL.out.mono ?_
  intro e w2 hx
  obtain ⟨r, rfl, hr, hsm, hx2⟩ := hx
  have HX2 := hid (HX1'.out.trans hx2)
  have HBp := hid (HBp1.out.ext hx2)
  clear HL hx2 p0 p1 p2
  rcases (by omega : r = 1 ∨ r = 0) with rfl | rfl
  · clear hsm hr
    go_wp2
    go_ret
    exact ⟨rfl, HX2.out⟩
  have HSm := hid (hsm rfl)
  clear hsm hr
  by_cases h150 : 150 < l.length
  · go_wp2
    go_ret
    exact ⟨rfl, HX2.out⟩
  by_cases hc0 : cut < 0
  · go_wp2
    go_ret
    exact ⟨rfl, HX2.out⟩
  obtain ⟨k, rfl⟩ := Int.eq_ofNat_of_zero_le (show 0 ≤ cut by omega)
  by_cases hcl : l.length < k
  · go_wp2
    go_ret
    exact ⟨rfl, HX2.out⟩
  have hkl : k ≤ l.length := by omega
  have hkca : k ≤ ca := by omega
  have HQ := hid (ownprogram_any a1 a2 a3 c1 c2 c3 P w2 ((HP.out.ext HX2.out).lift HX2.out.size) HSm.out)
  have p0 := HBp.out.av 0 rfl
  have p1 := HBp.out.av 1 rfl
  have p2 := HBp.out.av 2 rfl
  simp only [pcells, List.getElem_toArray, List.getElem_cons_zero, List.getElem_cons_succ] at p0 p1 p2
  unfold pval at HQ
  go_wp2_with fail
  refine HQ.out.mono ?_
  intro e w3 hx
  obtain ⟨hx3, b1, b2, b3, d1, d2, d3, rfl, hq⟩ := hx
  have HX3 := hid (HX2.out.trans hx3)
  have HBp3 := hid (HBp.out.ext hx3)
  have Hq3 := hid hq
  clear HQ hx3 hq p0 p1 p2
  obtain ⟨W4, hW4⟩ : ∃ W4, W4 = w3.alloc (.cells (pcells b1 b2 b3 d1 d2 d3 P) 73) := ⟨_, rfl⟩
  have hx4 : Ext w3 W4 := by rw [hW4]; exact (Ext.refl _).alloc _
  have HX4 := hid (HX3.out.trans hx4)
  have HBp4 := hid (HBp3.out.ext hx4)
  have HB8 : Hid (Blk W4 w3.heap.size (pcells b1 b2 b3 d1 d2 d3 P) 73) := hid (by rw [hW4]; exact Blk.new _ _ _)
  have HP4 := hid ((Hq3.out.ext hx4).lift hx4.size)
  have HW4 : Hid (W4 = w3.alloc (.cells #[.slice b1 P.vars.length d1, .slice b2 P.funs.length d2, .slice b3 P.stmts.length d3] 73)) := hid (by rw [hW4]; rfl)
  have HI4 : Hid (IntsR W4 w.heap.size (.slice aa l.length ca) l) := hid (HI.out.old (HX4.out.old _))
  have h0 := HB8.out.kc (X := fun _ => False) (fun e => e) 0 rfl
  have h1 := HB8.out.kc (X := fun _ => False) (fun e => e) 1 rfl
  have h2 := HB8.out.kc (X := fun _ => False) (fun e => e) 2 rfl
  simp only [pcells, List.getElem_toArray, List.getElem_cons_zero, List.getElem_cons_succ] at h0 h1 h2
  have hz1 : ∀ s ∈ P.vars, s.size ≤ 1000000 := fun s hs => by have := HSm.out.vs s hs; omega
  have hz2 : ∀ s ∈ P.names, s.size ≤ 1000000 := fun s hs => by
    obtain ⟨f, hf, rfl⟩ := List.mem_map.1 hs
    have := (HSm.out.fs f hf).1
    omega
  have HOwn : ∀ wa, Ext W4 wa → Hid (Calls Tryd.prog 12 #[.slice aa k ca] wa fun e w' => ∃ v, e = .returned v ∧ Ext wa w' ∧ IntsNew W4 (l.take k) v w') := fun wa x => hid ((ownintsR_any (.slice aa k ca) (l.take k) wa w.heap.size ((HI4.out.take k hkl).old (x.old _)) (by rw [List.length_take]; omega)).mono fun e w' ⟨v, he, hx, hr⟩ => ⟨v, he, hx, (row_form hr).imp fun a h => ⟨_, h⟩, IntsR.own hr (Nat.le_refl _), x.trans hx⟩)
  have HDo : ∀ wa, Ext W4 wa → ∀ v, IntsR wa wa.heap.size v (l.take k) → Hid (Calls Tryd.prog 30 #[.agg #[.slice b1 P.vars.length d1, .slice b2 P.funs.length d2, .slice b3 P.stmts.length d3], v] wa fun e w' => Ext wa w' ∧ ∃ t, e = .returned t ∧ RunNew W4 P (l.take k) t w') := fun wa x v hv => hid ((rundo_out b1 b2 b3 d1 d2 d3 P v (l.take k) wa ad (HE.out.ext (HX4.out.trans x)) ((HP4.out.ext x).lift x.size) hv hz1 hz2).mono fun e w' ⟨hx, sv, ev, he, hr⟩ => by
    obtain ⟨a1, n1, c1, a2, n2, c2, a3, n3, c3, rfl⟩ := hr.form
    exact ⟨hx, _, he, ⟨_, _, _, _, _, _, _, _, _, _, rfl, hr.low x.size⟩, x.trans hx⟩)
  clear hW4 hx4 hc0
  go_wp2
  rw [← HW4.out]
  generalize w3.heap.size = b8 at *
  refine wp_flow (fun _ => False) (by kernel_rfl) (by kernel_rfl) ?_
  apply Flow.d 0 _ rfl (by simp) (by kernel_rfl)
  · intro w1 hk; unfold does; go_simp; (try go_ints); exact DetR.mk
  simp only [List.getElem_toArray, List.getElem_cons_zero, List.getElem_cons_succ, Act.put, List.setIfInBounds_toArray, List.set_cons_zero, List.set_cons_succ]
  apply Flow.d 1 _ rfl (by simp) (by kernel_rfl)
  · intro w1 hk; unfold does; go_simp; (try go_ints); exact DetR.mk
  simp only [List.getElem_toArray, List.getElem_cons_zero, List.getElem_cons_succ, Act.put, List.setIfInBounds_toArray, List.set_cons_zero, List.set_cons_succ]
  apply Flow.d 2 _ rfl (by simp) (by kernel_rfl)
  · intro w1 hk; unfold does; go_simp; (try go_ints); exact DetR.mk
  simp only [List.getElem_toArray, List.getElem_cons_zero, List.getElem_cons_succ, Act.put, List.setIfInBounds_toArray, List.set_cons_zero, List.set_cons_succ]
  apply Flow.d 3 _ rfl (by simp) (by kernel_rfl)
  · intro w1 hk; unfold does; go_simp; (try go_ints); exact DetR.mk
  simp only [List.getElem_toArray, List.getElem_cons_zero, List.getElem_cons_succ, Act.put, List.setIfInBounds_toArray, List.set_cons_zero, List.set_cons_succ]
  refine Flow.par3j 4 5 6 7 8 9 _ _ _ _ _ _ rfl rfl rfl rfl rfl rfl (by decide) (by decide) (by decide) (by decide) (by decide) (by simp) (by simp) (by simp) (fun _ _ h => by cases h) (fun _ _ h => by cases h) (fun _ _ h => by cases h) (fun _ _ h => by cases h) (fun _ _ h => by cases h) (fun _ _ h => by cases h)
    (by kernel_rfl) (by kernel_rfl) (by kernel_rfl) (by kernel_rfl) (by kernel_rfl) (by kernel_rfl) (by kernel_rfl) (by kernel_rfl) (by kernel_rfl) (by kernel_rfl) (by kernel_rfl) (by kernel_rfl) (by kernel_rfl) (by kernel_rfl) (by kernel_rfl) (by kernel_rfl)
    (StNew W4) (IntsNew W4 (l.take k)) (fun u v w' => StNew W4 u w' ∧ IntsNew W4 (l.take k) v w') (fun _ t w' => RunNew W4 P (l.take k) t w') (fun u _ t w' => StNew W4 u w' ∧ RunNew W4 P (l.take k) t w') IsTup id tup0 tup1
    (fun _ _ _ h y => h.ext y) (fun _ _ _ h y => h.ext y) (fun _ _ _ _ h y => ⟨h.1.ext y, h.2.ext y⟩) (fun _ _ _ _ h y => h.ext y) (fun _ _ _ _ _ h y => ⟨h.1.ext y, h.2.ext y⟩)
    (fun _ _ _ h => h.tup) (fun _ _ _ _ h => h.2.tup) ?_ ?_ ?_ ?_ ?_ ?_ ?_ ?_ ?_ ?_ ?_
  · intro wa hC hk
    unfold does
    go_simp
    exact ⟨hk.alloc _, StNew.mk hC⟩
  · intro wa hC hk
    unfold does
    go_simp
    refine CallR.act ((HOwn wa hC).out.mono ?_)
    rintro e wb ⟨v, rfl, hx, hN⟩
    exact ⟨_, rfl, (hC.trans hx).keep _, hN⟩
  · rintro _ wa hN hk
    unfold does
    go_simp
    exact ⟨hk.alloc _, StNew.mk hN.2.2, hN.ext ((Ext.refl _).alloc _)⟩
  · rintro _ wa hS hk
    unfold does
    go_simp
    refine CallR.act ((HOwn wa hS.2).out.mono ?_)
    rintro e wb ⟨v, rfl, hx, hN⟩
    exact ⟨_, rfl, (hS.2.trans hx).keep _, hS.ext hx, hN⟩
  · rintro _ wa ⟨⟨a, n, c, rfl⟩, hN, hx⟩ hk
    have HN := hid hN
    clear hN
    unfold does
    go_simp
    refine CallR.act ((HDo wa hx _ HN.out).out.mono ?_)
    rintro e wb ⟨hx2, t, rfl, hR⟩
    exact ⟨_, rfl, (hx.trans hx2).keep _, hR⟩
  · rintro _ _ wa ⟨hS, ⟨a, n, c, rfl⟩, hN, hx⟩ hk
    have HN := hid hN
    clear hN
    unfold does
    go_simp
    refine CallR.act ((HDo wa hx _ HN.out).out.mono ?_)
    rintro e wb ⟨hx2, t, rfl, hR⟩
    exact ⟨_, rfl, (hx.trans hx2).keep _, hS.ext hx2, hR⟩
  · rintro _ _ wa ⟨u, v, rfl⟩ hk
    unfold does
    go_simp
    exact DetR.mk
  · rintro _ _ wa ⟨u, v, rfl⟩ hk
    unfold does
    go_simp
    exact DetR.mk
  · rintro _ _ wa ⟨u, v, rfl⟩ hk
    unfold does
    go_simp
    exact DetR.mk
  · rintro _ _ wa hR hk
    unfold does
    go_simp
    exact ⟨hk.alloc _, StNew.mk hR.2, hR.ext ((Ext.refl _).alloc _)⟩
  rintro _ _ _ ⟨_, ⟨⟨bqA, rfl, _, Hq0⟩, _⟩, ⟨s1A, m1A, d1A, s2A, m2A, d2A, s3A, m3A, d3A, evA, rfl, _⟩, _⟩
  simp only [List.getElem_toArray, List.getElem_cons_zero, List.getElem_cons_succ, Act.put, List.setIfInBounds_toArray, List.set_cons_zero, List.set_cons_succ]
  have HbqA := hid Hq0
  clear Hq0
  simp only [id, tup0, tup1, Array.getD_eq_getD_getElem?, List.getElem?_toArray, List.getElem?_cons_zero, List.getElem?_cons_succ, Option.getD_some]
  refine Flow.one 10 _ rfl (by kernel_rfl) (fun _ w' => RunAt W4 P (l.take k) bqA s1A s2A s3A m1A m2A m3A d1A d2A d3A evA w') (fun _ _ _ h y => h.on y) ?_ ?_
  · rintro wa ⟨⟨⟨b', eb, hB, _⟩, _⟩, ⟨t1, p1', e1, t2, p2', e2, t3, p3', e3, ev', et, hO⟩, hx⟩ hk
    obtain rfl : bqA = b' := by simpa using eb
    simp only [Value.tuple.injEq, Array.mk.injEq, List.cons.injEq, Value.agg.injEq, Value.slice.injEq, and_true] at et
    obtain ⟨⟨⟨rfl, rfl, rfl⟩, ⟨rfl, rfl, rfl⟩, ⟨rfl, rfl, rfl⟩⟩, rfl⟩ := et
    have z0 := hB.av 0 rfl
    have z1 := hB.av 1 rfl
    have z2 := hB.av 2 rfl
    have f0 := hB.free 0
    have f1 := hB.free 1
    have f2 := hB.free 2
    have hB2 := store3 (v0 := .slice s1A m1A d1A) (v1 := .slice s2A m2A d2A) (v2 := .slice s3A m3A d3A) hB
    have hK2 := store3_keep wa bqA (.slice s1A m1A d1A) (.slice s2A m2A d2A) (.slice s3A m3A d3A)
    have hx2 := Keep.new hx hK2 fun q e => by subst e; exact HbqA.out
    have hO2 := hO.keep hK2 fun q e => by subst e; exact ⟨_, hB⟩
    simp only [zcells, List.getElem_toArray, List.getElem_cons_zero, List.getElem_cons_succ] at z0 z1 z2
    clear hk eb
    unfold does
    go_simp
    exact ⟨hx2.keep _, ⟨hB2, hO2, hx2⟩⟩
  rintro _ ⟨_, _⟩
  simp only [List.getElem_toArray, List.getElem_cons_zero, List.getElem_cons_succ, Act.put, List.setIfInBounds_toArray, List.set_cons_zero, List.set_cons_succ]
  apply Flow.d 11 _ rfl (by simp) (by kernel_rfl)
  · intro w1 hk; unfold does; go_simp; (try go_ints); exact DetR.mk
  simp only [List.getElem_toArray, List.getElem_cons_zero, List.getElem_cons_succ, Act.put, List.setIfInBounds_toArray, List.set_cons_zero, List.set_cons_succ]
  refine Flow.fin (by kernel_rfl) fun w5 hA5 hk5 => ?_
  have HA5 := hid hA5
  have HbA5 := hid HbqA.out
  clear hA5 hk5 HOwn HDo HbqA h0 h1 h2
  have HX5 := hid (HX4.out.trans HA5.out.ext)
  have HB85 := hid (HB8.out.ext HA5.out.ext)
  have HP5 := hid ((HP4.out.ext HA5.out.ext).lift HA5.out.ext.size)
  have HI5 : Hid (IntsR w5 w.heap.size (.slice aa l.length ca) l) := hid (HI.out.old (HX5.out.old _))
  have h0 := HB85.out.kc (X := fun _ => False) (fun e => e) 0 rfl
  have h1 := HB85.out.kc (X := fun _ => False) (fun e => e) 1 rfl
  have h2 := HB85.out.kc (X := fun _ => False) (fun e => e) 2 rfl
  simp only [pcells, List.getElem_toArray, List.getElem_cons_zero, List.getElem_cons_succ] at h0 h1 h2
  have HOwn : ∀ wa, Ext w5 wa → Hid (Calls Tryd.prog 12 #[.slice aa l.length ca] wa fun e w' => ∃ v, e = .returned v ∧ Ext wa w' ∧ IntsNew w5 l v w') := fun wa x => hid ((ownintsR_any (.slice aa l.length ca) l wa w.heap.size (HI5.out.old (x.old _)) (by omega)).mono fun e w' ⟨v, he, hx, hr⟩ => ⟨v, he, hx, (row_form hr).imp fun a h => ⟨_, h⟩, IntsR.own hr (Nat.le_refl _), x.trans hx⟩)
  have HDo : ∀ wa, Ext w5 wa → ∀ v, IntsR wa wa.heap.size v l → Hid (Calls Tryd.prog 30 #[.agg #[.slice b1 P.vars.length d1, .slice b2 P.funs.length d2, .slice b3 P.stmts.length d3], v] wa fun e w' => Ext wa w' ∧ ∃ t, e = .returned t ∧ RunNew w5 P l t w') := fun wa x v hv => hid ((rundo_out b1 b2 b3 d1 d2 d3 P v l wa ad (HE.out.ext (HX5.out.trans x)) ((HP5.out.ext x).lift x.size) hv hz1 hz2).mono fun e w' ⟨hx, sv, ev, he, hr⟩ => by
    obtain ⟨a1, n1, c1, a2, n2, c2, a3, n3, c3, rfl⟩ := hr.form
    exact ⟨hx, _, he, ⟨_, _, _, _, _, _, _, _, _, _, rfl, hr.low x.size⟩, x.trans hx⟩)
  go_wp2
  refine wp_flow (fun _ => False) (by kernel_rfl) (by kernel_rfl) ?_
  apply Flow.d 0 _ rfl (by simp) (by kernel_rfl)
  · intro w1 hk; unfold does; go_simp; (try go_ints); exact DetR.mk
  simp only [List.getElem_toArray, List.getElem_cons_zero, List.getElem_cons_succ, Act.put, List.setIfInBounds_toArray, List.set_cons_zero, List.set_cons_succ]
  apply Flow.d 1 _ rfl (by simp) (by kernel_rfl)
  · intro w1 hk; unfold does; go_simp; (try go_ints); exact DetR.mk
  simp only [List.getElem_toArray, List.getElem_cons_zero, List.getElem_cons_succ, Act.put, List.setIfInBounds_toArray, List.set_cons_zero, List.set_cons_succ]
  refine Flow.par3j 2 3 4 5 6 7 _ _ _ _ _ _ rfl rfl rfl rfl rfl rfl (by decide) (by decide) (by decide) (by decide) (by decide) (by simp) (by simp) (by simp) (fun _ _ h => by cases h) (fun _ _ h => by cases h) (fun _ _ h => by cases h) (fun _ _ h => by cases h) (fun _ _ h => by cases h) (fun _ _ h => by cases h)
    (by kernel_rfl) (by kernel_rfl) (by kernel_rfl) (by kernel_rfl) (by kernel_rfl) (by kernel_rfl) (by kernel_rfl) (by kernel_rfl) (by kernel_rfl) (by kernel_rfl) (by kernel_rfl) (by kernel_rfl) (by kernel_rfl) (by kernel_rfl) (by kernel_rfl) (by kernel_rfl)
    (StNew w5) (IntsNew w5 l) (fun u v w' => StNew w5 u w' ∧ IntsNew w5 l v w') (fun _ t w' => RunNew w5 P l t w') (fun u _ t w' => StNew w5 u w' ∧ RunNew w5 P l t w') IsTup id tup0 tup1
    (fun _ _ _ h y => h.ext y) (fun _ _ _ h y => h.ext y) (fun _ _ _ _ h y => ⟨h.1.ext y, h.2.ext y⟩) (fun _ _ _ _ h y => h.ext y) (fun _ _ _ _ _ h y => ⟨h.1.ext y, h.2.ext y⟩)
    (fun _ _ _ h => h.tup) (fun _ _ _ _ h => h.2.tup) ?_ ?_ ?_ ?_ ?_ ?_ ?_ ?_ ?_ ?_ ?_
  · intro wa hC hk
    unfold does
    go_simp
    exact ⟨hk.alloc _, StNew.mk hC⟩
  · intro wa hC hk
    unfold does
    go_simp
    refine CallR.act ((HOwn wa hC).out.mono ?_)
    rintro e wb ⟨v, rfl, hx, hN⟩
    exact ⟨_, rfl, (hC.trans hx).keep _, hN⟩
  · rintro _ wa hN hk
    unfold does
    go_simp
    exact ⟨hk.alloc _, StNew.mk hN.2.2, hN.ext ((Ext.refl _).alloc _)⟩
  · rintro _ wa hS hk
    unfold does
    go_simp
    refine CallR.act ((HOwn wa hS.2).out.mono ?_)
    rintro e wb ⟨v, rfl, hx, hN⟩
    exact ⟨_, rfl, (hS.2.trans hx).keep _, hS.ext hx, hN⟩
  · rintro _ wa ⟨⟨a, n, c, rfl⟩, hN, hx⟩ hk
    have HN := hid hN
    clear hN
    unfold does
    go_simp
    refine CallR.act ((HDo wa hx _ HN.out).out.mono ?_)
    rintro e wb ⟨hx2, t, rfl, hR⟩
    exact ⟨_, rfl, (hx.trans hx2).keep _, hR⟩
  · rintro _ _ wa ⟨hS, ⟨a, n, c, rfl⟩, hN, hx⟩ hk
    have HN := hid hN
    clear hN
    unfold does
    go_simp
    refine CallR.act ((HDo wa hx _ HN.out).out.mono ?_)
    rintro e wb ⟨hx2, t, rfl, hR⟩
    exact ⟨_, rfl, (hx.trans hx2).keep _, hS.ext hx2, hR⟩
  · rintro _ _ wa ⟨u, v, rfl⟩ hk
    unfold does
    go_simp
    exact DetR.mk
  · rintro _ _ wa ⟨u, v, rfl⟩ hk
    unfold does
    go_simp
    exact DetR.mk
  · rintro _ _ wa ⟨u, v, rfl⟩ hk
    unfold does
    go_simp
    exact DetR.mk
  · rintro _ _ wa hR hk
    unfold does
    go_simp
    exact ⟨hk.alloc _, StNew.mk hR.2, hR.ext ((Ext.refl _).alloc _)⟩
  rintro _ _ _ ⟨_, ⟨⟨bqB, rfl, _, Hq0⟩, _⟩, ⟨s1B, m1B, d1B, s2B, m2B, d2B, s3B, m3B, d3B, evB, rfl, _⟩, _⟩
  simp only [List.getElem_toArray, List.getElem_cons_zero, List.getElem_cons_succ, Act.put, List.setIfInBounds_toArray, List.set_cons_zero, List.set_cons_succ]
  have HbqB := hid Hq0
  clear Hq0
  simp only [id, tup0, tup1, Array.getD_eq_getD_getElem?, List.getElem?_toArray, List.getElem?_cons_zero, List.getElem?_cons_succ, Option.getD_some]
  refine Flow.one 8 _ rfl (by kernel_rfl) (fun _ w' => RunAt w5 P l bqB s1B s2B s3B m1B m2B m3B d1B d2B d3B evB w') (fun _ _ _ h y => h.on y) ?_ ?_
  · rintro wa ⟨⟨⟨b', eb, hB, _⟩, _⟩, ⟨t1, p1', e1, t2, p2', e2, t3, p3', e3, ev', et, hO⟩, hx⟩ hk
    obtain rfl : bqB = b' := by simpa using eb
    simp only [Value.tuple.injEq, Array.mk.injEq, List.cons.injEq, Value.agg.injEq, Value.slice.injEq, and_true] at et
    obtain ⟨⟨⟨rfl, rfl, rfl⟩, ⟨rfl, rfl, rfl⟩, ⟨rfl, rfl, rfl⟩⟩, rfl⟩ := et
    have z0 := hB.av 0 rfl
    have z1 := hB.av 1 rfl
    have z2 := hB.av 2 rfl
    have f0 := hB.free 0
    have f1 := hB.free 1
    have f2 := hB.free 2
    have hB2 := store3 (v0 := .slice s1B m1B d1B) (v1 := .slice s2B m2B d2B) (v2 := .slice s3B m3B d3B) hB
    have hK2 := store3_keep wa bqB (.slice s1B m1B d1B) (.slice s2B m2B d2B) (.slice s3B m3B d3B)
    have hx2 := Keep.new hx hK2 fun q e => by subst e; exact HbqB.out
    have hO2 := hO.keep hK2 fun q e => by subst e; exact ⟨_, hB⟩
    simp only [zcells, List.getElem_toArray, List.getElem_cons_zero, List.getElem_cons_succ] at z0 z1 z2
    clear hk eb
    unfold does
    go_simp
    exact ⟨hx2.keep _, ⟨hB2, hO2, hx2⟩⟩
  rintro _ ⟨_, _⟩
  simp only [List.getElem_toArray, List.getElem_cons_zero, List.getElem_cons_succ, Act.put, List.setIfInBounds_toArray, List.set_cons_zero, List.set_cons_succ]
  apply Flow.d 9 _ rfl (by simp) (by kernel_rfl)
  · intro w1 hk; unfold does; go_simp; (try go_ints); exact DetR.mk
  simp only [List.getElem_toArray, List.getElem_cons_zero, List.getElem_cons_succ, Act.put, List.setIfInBounds_toArray, List.set_cons_zero, List.set_cons_succ]
  refine Flow.fin (by kernel_rfl) fun w6 hA6 hk6 => ?_
  have HB6 := hid hA6
  have HA6 := hid (HA5.out.on hA6.ext)
  have HX6 := hid (HX5.out.trans hA6.ext)
  have HBp6 := hid (HBp4.out.ext (HA5.out.ext.trans hA6.ext))
  clear hA6 hk6 HOwn HDo HbqB h0 h1 h2 HA5 HX5 HB85 HP5 HI5 HB8 HX4 HP4 HI4 HBp4 HBp HBp1 HBp3 HW4 HX1' HX2 HX3 Hq3 HW1 HX1 HB1 hz1 hz2 HbA5
  as_aux_lemma =>
    by_cases hr : P.Runs l
    · have HRu := hid hr
      obtain ⟨rfl, fB2, fB3, capB, rowB, IB⟩ : evB = .nilIface ∧ m2B = (newOf P l).length ∧ m3B = (newOf P l).length ∧ m3B ≤ d3B ∧ IntsR w6 w6.heap.size (.slice s3B m3B d3B) (newOf P l) ∧ True := by
        rcases HB6.out.out with ⟨_, he, ta1, ta2, ta3, tc1, tc2, tc3, hs, row⟩ | ⟨h, _⟩
        · simp only [Value.agg.injEq, Array.mk.injEq, List.cons.injEq, Value.slice.injEq, and_true] at hs
          obtain ⟨_, ⟨_, e2, _⟩, ⟨rfl, e3, rfl⟩⟩ := hs
          have hI := IntsR.own row (Nat.le_refl _)
          obtain ⟨_, _, h1, h2, _⟩ := id hI
          simp only [Value.slice.injEq] at h1
          obtain ⟨_, _, rfl⟩ := h1
          exact ⟨he, e2, e3, by omega, by rw [e3]; exact hI, trivial⟩
        · exact absurd hr h
      obtain ⟨rfl, fA2, fA3, capA, rowA, _⟩ : evA = .nilIface ∧ m2A = (newOf P (l.take k)).length ∧ m3A = (newOf P (l.take k)).length ∧ m3A ≤ d3A ∧ IntsR w6 w6.heap.size (.slice s3A m3A d3A) (newOf P (l.take k)) ∧ True := by
        rcases HA6.out.out with ⟨_, he, ta1, ta2, ta3, tc1, tc2, tc3, hs, row⟩ | ⟨h, _⟩
        · simp only [Value.agg.injEq, Array.mk.injEq, List.cons.injEq, Value.slice.injEq, and_true] at hs
          obtain ⟨_, ⟨_, e2, _⟩, ⟨rfl, e3, rfl⟩⟩ := hs
          have hI := IntsR.own row (Nat.le_refl _)
          obtain ⟨_, _, h1, h2, _⟩ := id hI
          simp only [Value.slice.injEq] at h1
          obtain ⟨_, _, rfl⟩ := h1
          exact ⟨he, e2, e3, by omega, by rw [e3]; exact hI, trivial⟩
        · exact absurd (hr.take k) h
      obtain rfl : m3B = m2B := fB3.trans fB2.symm
      obtain rfl : m3A = m2A := fA3.trans fA2.symm
      have hAB : m3A ≤ m3B := by rw [fA2, fB2]; exact newOf_le P l k
      have hmx : (m3B : Int) ≤ 9223372036854775807 := by
        obtain ⟨_, _, h1, h2, h3, _⟩ := id rowB
        omega
      have hiA := IntsR.ints (rowA) (fun i => newOf_hi (HRu.out.take k) i)
      have hiB0 := rowB
      rw [fB2] at hiB0
      have hiB := IntsR.ints (hiB0.take m3A (by omega)) (fun i => by
        rw [← show newOf P (l.take k) = (newOf P l).take m3A by rw [fA2]; exact newOf_take P l k]
        exact newOf_hi (HRu.out.take k) i)
      rw [← fA2] at hiA
      have hlB : ((newOf P l).take m3A).length = m3A := by rw [List.length_take]; omega
      rw [hlB] at hiB
      have HSa := fun w1 (x : Ext w6 w1) => hid (sameints_any s3A s3B m3A m3A d3A d3B (newOf P (l.take k)) ((newOf P l).take m3A) w1 (hiA.ext x) (hiB.ext x) (by omega) (by omega))
      rw [decide_eq_true (show newOf P (l.take k) = (newOf P l).take m3A by rw [fA2]; exact newOf_take P l k)] at HSa
      have HfB := hid fB2
      have HrB := hid rowB
      have q1 := HA6.out.blk.av 1 rfl
      have q2 := HA6.out.blk.av 2 rfl
      have y1 := HB6.out.blk.av 1 rfl
      have y2 := HB6.out.blk.av 2 rfl
      have kA := HA6.out.blk.kc (X := fun _ => False) (fun e => e) 2 rfl
      have kB := HB6.out.blk.kc (X := fun _ => False) (fun e => e) 2 rfl
      have HB6' := hid HB6.out.blk
      simp only [List.getElem_toArray, List.getElem_cons_zero, List.getElem_cons_succ] at q1 q2 y1 y2 kA kB
      have hcut : m3A ≤ d3B := by omega
      clear hr fA2 fA3 fB2 fB3 rowA rowB hiA hiB hiB0 hlB HB6 HA6 IB
      go_wp2
      clear q1 q2 y1 y2
      refine wp_flowT (fun _ => False) (by kernel_rfl) (by kernel_rfl) ?_
      repeat (apply FlowT.d; (intro w1 hk; unfold does; go_simp; (try go_ints); (first | exact DetR.mk | (simp only [↓IntWalk.iteOmega, Oper.doesUpon_value]; exact DetR.mk) | (simp only [↓IntWalk.iteOmega]; go_simp; (try go_ints); exact DetR.mk))); simp only [Act.put, List.setIfInBounds_toArray, List.set_cons_zero, List.set_cons_succ])
      apply FlowT.d
      · intro w1 hk
        unfold does
        go_simp
        exact CallR.det ((HSa w1 hk.ext).out)
      simp only [Act.put, List.setIfInBounds_toArray, List.set_cons_zero, List.set_cons_succ]
      repeat (apply FlowT.d; (intro w1 hk; unfold does; go_simp; (try go_ints); (first | exact DetR.mk | (simp only [↓IntWalk.iteOmega, Oper.doesUpon_value]; exact DetR.mk) | (simp only [↓IntWalk.iteOmega]; go_simp; (try go_ints); exact DetR.mk))); simp only [Act.put, List.setIfInBounds_toArray, List.set_cons_zero, List.set_cons_succ])
      refine FlowT.fin fun w7 hx7 hk7 => ?_
      have HX7 := hid (HX6.out.trans hx7)
      have HBp7 := hid (HBp6.out.ext hx7)
      have HB7 := hid (HB6'.out.ext hx7)
      have HrB7 := hid (IntsR.old HrB.out (hx7.old _))
      clear hx7 hk7 HSa kA kB HBp6 HB6' HrB HX6
      go_wp2
      go_loopw [13, 14] (fun t13 t14 wr => ∃ i : Nat, t14 = .int .i64 (i : Int) ∧ i ≤ l.length ∧ t13 = .int .i64 (((newOf P (l.take i)).length : Nat) : Int) ∧ Ext w7 wr) (fun _ t14 _ => l.length - (intOf t14).toNat)
      case atStart => exact ⟨0, rfl, Nat.zero_le _, rfl, Ext.refl _⟩
      case round =>
        obtain ⟨i, rfl, hi, rfl, hx⟩ := hrel
        have HX := hid hx
        have HW := hid (HX7.out.trans hx)
        have HBr := hid (HB7.out.ext hx)
        have HBq := hid (HBp7.out.ext hx)
        have HrR := hid (HrB7.out.old (hx.old _))
        clear hx
        obtain ⟨many, hmany⟩ : ∃ n, n = (newOf P (l.take i)).length := ⟨_, rfl⟩
        rw [← hmany]
        have Hmany := hid hmany
        have hmle : many ≤ m3B := by rw [hmany, HfB.out]; exact newOf_le P l i
        clear hmany
        by_cases hlt : i < l.length
        · obtain ⟨ya, q, rfl, hqk, hc⟩ := (HI.out.old (HW.out.old _)).at hlt
          have hqi := HRu.out.lt (List.mem_of_getElem? hqk)
          obtain ⟨K, rfl⟩ := Int.eq_ofNat_of_zero_le hqi.1
          have hK : K < P.stmts.length := by omega
          obtain ⟨y, x, av, cv, rfl, hxk, e0, _⟩ := (HP.out.ext HW.out).stmts.at hK
          have hcK : ∀ w1, Keep (fun _ => False) wr w1 → w1.cell? (ya.add i) = some (.int .i64 (K : Int)) := fun w1 k => k.ext.cellx hc
          have heK : ∀ w1, Keep (fun _ => False) wr w1 → w1.cell? (y.add (K * 4)) = some (.string x.kind) := fun w1 k => k.ext.cellx e0
          have p2 := HBq.out.kc (X := fun _ => False) (fun e => e) 2 rfl
          simp only [pcells, List.getElem_toArray, List.getElem_cons_zero, List.getElem_cons_succ] at p2
          have Hqk := hid hqk
          have hsl : (P.stmts.length : Int) ≤ 9223372036854775807 := HP.out.stmts.len
          have hnw : P.isNew K = x.isK kNew := by unfold PP.isNew; rw [hxk]
          cases hb : x.isK kNew with
          | true =>
            rw [hb] at hnw
            have Hat := hid (newOf_at hqk hnw)
            have Hnx := hid (show (newOf P (l.take (i + 1))).length = many + 1 by rw [newOf_yes hqk hnw, List.length_append, ← Hmany.out]; rfl)
            rw [← Hmany.out] at Hat
            have hml : many < m3B := by
              rw [HfB.out]
              rcases Nat.lt_or_ge many (newOf P l).length with h | h
              · exact h
              · have := Hat.out; rw [List.getElem?_eq_none h] at this; cases this
            obtain ⟨yB, qB, hsB, hqB, hcB⟩ := (show IntsR wr w6.heap.size (.slice s3B m3B d3B) (newOf P l) from HrR.out).at (by rw [← HfB.out]; exact hml)
            obtain rfl : qB = (K : Int) := Option.some.inj (hqB.symm.trans Hat.out)
            subst hsB
            have hkk : (x.kind.toList == [110, 101, 119]) = true := hb
            clear hqk hqi hc e0 hxk hnw hb hqB
            go_wp2
            refine wp_flowT (fun _ => False) (by kernel_rfl) (by kernel_rfl) ?_
            repeat (apply FlowT.d; (intro w1 hk; unfold does; go_simp; (try go_ints); (first | exact DetR.mk | (simp only [↓IntWalk.iteOmega, Oper.doesUpon_value]; exact DetR.mk) | (simp only [↓IntWalk.iteOmega]; go_simp; (try go_ints); exact DetR.mk))); simp only [Act.put, List.setIfInBounds_toArray, List.set_cons_zero, List.set_cons_succ])
            refine FlowT.fin fun w8 hx8 hk8 => ?_
            have y2 := (HBr.out.ext hx8).av 2 rfl
            have kB := (HBr.out.ext hx8).kc (X := fun _ => False) (fun e => e) 2 rfl
            have hcB8 : ∀ w1, Keep (fun _ => False) w8 w1 → w1.cell? (yB.add many) = some (.int .i64 (K : Int)) := fun w1 k => (hx8.trans k.ext).cellx hcB
            have hcK8 : ∀ w1, Keep (fun _ => False) w8 w1 → w1.cell? (ya.add i) = some (.int .i64 (K : Int)) := fun w1 k => hcK w1 ((hx8.keep _).trans k)
            simp only [List.getElem_toArray, List.getElem_cons_zero, List.getElem_cons_succ] at y2 kB
            have Hx8 := hid hx8
            clear hx8 hk8 hcK heK p2 hcB
            go_wp2
            refine wp_flowT (fun _ => False) (by kernel_rfl) (by kernel_rfl) ?_
            repeat (apply FlowT.d; (intro w1 hk; unfold does; go_simp; (try go_ints); (first | exact DetR.mk | (simp only [↓IntWalk.iteOmega, Oper.doesUpon_value]; exact DetR.mk) | (simp only [↓IntWalk.iteOmega]; go_simp; (try go_ints); exact DetR.mk))); simp only [Act.put, List.setIfInBounds_toArray, List.set_cons_zero, List.set_cons_succ])
            refine FlowT.fin fun w9 hx9 hk9 => ?_
            have Hx9 := hid (HX.out.trans (Hx8.out.trans hx9))
            clear hx9 hk9 hcB8 hcK8 kB y2
            go_wp2
            go_roundw
            case rel => exact ⟨i + 1, by go_num, by omega, by rw [Hnx.out]; go_num, Hx9.out⟩
            case measure => simp [intOf]; omega
          | false =>
            rw [hb] at hnw
            have Hnx := hid (show (newOf P (l.take (i + 1))).length = many by rw [newOf_no hqk hnw, ← Hmany.out])
            have hkk : (x.kind.toList == [110, 101, 119]) = false := hb
            clear hqk hqi hc e0 hxk hnw hb
            go_wp2
            refine wp_flowT (fun _ => False) (by kernel_rfl) (by kernel_rfl) ?_
            repeat (apply FlowT.d; (intro w1 hk; unfold does; go_simp; (try go_ints); (first | exact DetR.mk | (simp only [↓IntWalk.iteOmega, Oper.doesUpon_value]; exact DetR.mk) | (simp only [↓IntWalk.iteOmega]; go_simp; (try go_ints); exact DetR.mk))); simp only [Act.put, List.setIfInBounds_toArray, List.set_cons_zero, List.set_cons_succ])
            refine FlowT.fin fun w8 hx8 hk8 => ?_
            have Hx8 := hid (HX.out.trans hx8)
            clear hx8 hk8 hcK heK p2
            go_wp2
            go_roundw
            case rel => exact ⟨i + 1, by go_num, by omega, by rw [Hnx.out], Hx8.out⟩
            case measure => simp [intOf]; omega
        · obtain rfl : i = l.length := by omega
          obtain rfl : many = m3B := by rw [Hmany.out, HfB.out, List.take_of_length_le (Nat.le_refl _)]
          have y2 := HBr.out.av 2 rfl
          simp only [List.getElem_toArray, List.getElem_cons_zero, List.getElem_cons_succ] at y2
          go_wp2
          go_ret
          exact ⟨by simp, HW.out⟩
    · obtain ⟨tB, xB, rfl⟩ : ∃ t x, evB = .iface t (.pointer (some x)) := by
        rcases HB6.out.out with ⟨h, _⟩ | ⟨_, _, h⟩
        · exact absurd h hr
        · exact h
      have HA := HA6.out.out
      rcases HA with ⟨_, rfl, _⟩ | ⟨_, _, tA, xA, rfl⟩
      · clear hr
        go_wp2
        go_ret
        exact ⟨rfl, HX6.out⟩
      · clear hr
        go_wp2
        go_ret
        exact ⟨rfl, HX6.out⟩
end Go.Proofs.YtkabgmohgjljkaaDoor
