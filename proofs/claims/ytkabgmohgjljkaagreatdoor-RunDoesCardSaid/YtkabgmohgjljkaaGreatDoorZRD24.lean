/- Texts of one proof, put together: WM. -/
import Derived.Test.YtkabgmohgjljkaaGreatDoorZRD22
import Derived.Test.YtkabgmohgjljkaaGreatDoorZRD23

/- RunDoes: the law walked: where the script, or the kind, is long. -/
namespace Go.Proofs.YtkabgmohgjljkaaGreatDoor
set_option linter.unusedSimpArgs false
set_option linter.unusedVariables false
open Go Go.RowKit

theorem rfprog_all (a1 a2 a3 : Option Addr) (c1 c2 c3 : Nat) (P : PP) (w : World) (h : ProgR w w.heap.size (.slice a1 P.vars.length c1) (.slice a2 P.funs.length c2) (.slice a3 P.stmts.length c3) P)
    (hz1 : ∀ s ∈ P.vars, s.size ≤ 1000000) (hz2 : ∀ s ∈ P.names, s.size ≤ 1000000) :
    Calls Tryz.prog 9 #[pval a1 a2 a3 c1 c2 c3 P] w fun e w' => Ext w w' ∧ ∃ (c : Nat) (p : Int), e = .returned (.agg #[.int .i64 (c : Int), .int .i64 p]) ∧ FaultIs P c p := by
  cases hb : P.big with
  | true => exact rfprog_big a1 a2 a3 c1 c2 c3 P w h hz1 hz2 hb
  | false => exact rfprog_no a1 a2 a3 c1 c2 c3 P w h hz1 hz2 hb
set_option maxRecDepth 100000 in
set_option maxHeartbeats 25600000 in
theorem rundoes_far (a1 a2 a3 : Option Addr) (c1 c2 c3 : Nat) (P : PP) (va : Value) (l : List Int) (kd : ByteArray) (n : Int) (w : World) (ad : Nat → Addr) (hE : ErrsP w ad) (hA : AllErrs w ad) (hP : ProgR w w.heap.size (.slice a1 P.vars.length c1) (.slice a2 P.funs.length c2) (.slice a3 P.stmts.length c3) P) (hI : IntsR w w.heap.size va l) (hks : kd.size ≤ 9223372036854775807) (hfar : Hid (20 < kd.size ∨ 200 < l.length)) :
    Calls Tryz.prog 3 #[pval a1 a2 a3 c1 c2 c3 P, va, .string kd, .int .i64 n] w fun e w' => e = .returned (.bool true) ∧ Ext w w' := by
  have HE := hid hE
  have HA := hid hA
  have HP := hid hP
  have HI := hid hI
  have hll : (l.length : Int) ≤ 9223372036854775807 := by
    obtain ⟨_, _, _, h2, h3, _⟩ := hI
    omega
  obtain ⟨aa, ca, hva, hlca⟩ : ∃ aa ca, va = .slice aa l.length ca ∧ l.length ≤ ca := by
    obtain ⟨aa, ca, h, h2, _⟩ := hI
    exact ⟨aa, ca, h, h2⟩
  subst hva
  obtain ⟨W1, hW1⟩ : ∃ W1, W1 = w.alloc (.cells (pcells a1 a2 a3 c1 c2 c3 P) 26) := ⟨_, rfl⟩
  have HX1 : Hid (Ext w W1) := hid (by rw [hW1]; exact (Ext.refl _).alloc _)
  have HB1 : Hid (Blk W1 w.heap.size (pcells a1 a2 a3 c1 c2 c3 P) 26) := hid (by rw [hW1]; exact Blk.new _ _ _)
  have HR := hid (ran_any W1 ad (hE.ext HX1.out))
  have HW1 : Hid (W1 = w.alloc (.cells #[.slice a1 P.vars.length c1, .slice a2 P.funs.length c2, .slice a3 P.stmts.length c3] 26)) := hid (by rw [hW1]; rfl)
  unfold pval
  clear hE hP hI hW1 hA
  go_enter Tryz.func3, Tryz.ntmps3
  go_wp2_with fail
  rw [← HW1.out]
  refine HR.out.mono ?_
  intro e w1 hx
  obtain ⟨rfl, hx1⟩ := hx
  have HL := hid (large_any a1 a2 a3 c1 c2 c3 P w1 w.heap.size (HP.out.ext (HX1.out.trans hx1)))
  unfold pval at HL
  have HX1' := hid (HX1.out.trans hx1)
  have HBp1 := hid (HB1.out.ext hx1)
  have p0 := HBp1.out.av 0 rfl
  have p1 := HBp1.out.av 1 rfl
  have p2 := HBp1.out.av 2 rfl
  simp only [pcells, List.getElem_toArray, List.getElem_cons_zero, List.getElem_cons_succ] at p0 p1 p2
  clear HR hx1
  go_wp2_with fail
  refine HL.out.mono ?_
  intro e w2 hx
  obtain ⟨r, rfl, hr, hsm, hx2⟩ := hx
  have HX2 := hid (HX1'.out.trans hx2)
  have HBp := hid (HBp1.out.ext hx2)
  clear HL hx2 p0 p1 p2
  rcases (by omega : r = 1 ∨ r = 0) with rfl | rfl
  · clear hsm hr
    go_wp2
    go_ret
    exact ⟨rfl, HX2.out⟩
  have HSm := hid (hsm rfl)
  clear hsm hr
  by_cases h20 : 20 < kd.size
  · by_cases h200 : 200 < l.length
    · by_cases h21 : l.length = 2001
      · have e21 : ((l.length : Int) != 2001) = false := by simp [h21]
        clear h21
        go_wp2
        go_ret
        exact ⟨rfl, HX2.out⟩
      · have e21 : ((l.length : Int) != 2001) = true := bne_iff_ne.2 (by omega)
        clear h21
        go_wp2
        go_ret
        exact ⟨rfl, HX2.out⟩
    · go_wp2
      go_ret
      exact ⟨rfl, HX2.out⟩
  by_cases hlong : 200 < l.length ∧ l.length ≠ 2001
  · obtain ⟨h200, h21⟩ := hlong
    have e21 : ((l.length : Int) != 2001) = true := bne_iff_ne.2 (by omega)
    clear h21
    go_wp2
    go_ret
    exact ⟨rfl, HX2.out⟩
  have hl3 : Hid (l.length ≤ 2001) := hid (by omega)
  have HQ := hid (ownprogram_any a1 a2 a3 c1 c2 c3 P w2 ((HP.out.ext HX2.out).lift HX2.out.size) HSm.out)
  have p0 := HBp.out.av 0 rfl
  have p1 := HBp.out.av 1 rfl
  have p2 := HBp.out.av 2 rfl
  simp only [pcells, List.getElem_toArray, List.getElem_cons_zero, List.getElem_cons_succ] at p0 p1 p2
  unfold pval at HQ
  have h200 : 200 < l.length := by have := hfar.out; omega
  · have h21 : l.length = 2001 := by
      rcases Nat.decEq l.length 2001 with h | h
      · exact absurd ⟨h200, h⟩ hlong
      · exact h
    have H21 := hid h21
    have e21 : ((l.length : Int) != 2001) = false := by simp [h21]
    clear h21 hlong
    go_wp2_with fail
    refine HQ.out.mono ?_
    intro e w3 hx
    obtain ⟨hx3, b1, b2, b3, d1, d2, d3, rfl, hq⟩ := hx
    have HX3 := hid (HX2.out.trans hx3)
    have HBp3 := hid (HBp.out.ext hx3)
    have Hq3 := hid hq
    clear HQ hx3 hq p0 p1 p2
    obtain ⟨W4, hW4⟩ : ∃ W4, W4 = w3.alloc (.cells (pcells b1 b2 b3 d1 d2 d3 P) 26) := ⟨_, rfl⟩
    have hx4 : Ext w3 W4 := by rw [hW4]; exact (Ext.refl _).alloc _
    have HX4 := hid (HX3.out.trans hx4)
    have HBp4 := hid (HBp3.out.ext hx4)
    have HB8 : Hid (Blk W4 w3.heap.size (pcells b1 b2 b3 d1 d2 d3 P) 26) := hid (by rw [hW4]; exact Blk.new _ _ _)
    have HP4 := hid ((Hq3.out.ext hx4).lift hx4.size)
    have HW4 : Hid (W4 = w3.alloc (.cells #[.slice b1 P.vars.length d1, .slice b2 P.funs.length d2, .slice b3 P.stmts.length d3] 26)) := hid (by rw [hW4]; rfl)
    have HI4 : Hid (IntsR W4 w.heap.size (.slice aa l.length ca) l) := hid (HI.out.old (HX4.out.old _))
    have h0 := HB8.out.kc (X := fun _ => False) (fun e => e) 0 rfl
    have h1 := HB8.out.kc (X := fun _ => False) (fun e => e) 1 rfl
    have h2 := HB8.out.kc (X := fun _ => False) (fun e => e) 2 rfl
    simp only [pcells, List.getElem_toArray, List.getElem_cons_zero, List.getElem_cons_succ] at h0 h1 h2
    have hz1 : ∀ s ∈ P.vars, s.size ≤ 1000000 := fun s hs => by have := HSm.out.vs s hs; omega
    have hz2 : ∀ s ∈ P.names, s.size ≤ 1000000 := fun s hs => by
      obtain ⟨f, hf, rfl⟩ := List.mem_map.1 hs
      have := (HSm.out.fs f hf).1
      omega
    have HOwn : ∀ wa, Ext W4 wa → Hid (Calls Tryz.prog 8 #[.slice aa l.length ca] wa fun e w' => ∃ v, e = .returned v ∧ Ext wa w' ∧ IntsNew W4 l v w') := fun wa x => hid ((ownintsR_more (.slice aa l.length ca) l wa w.heap.size (HI4.out.old (x.old _)) (by have := hl3.out; omega)).mono fun e w' ⟨v, he, hx, hr⟩ => ⟨v, he, hx, (row_form hr).imp fun a h => ⟨_, h⟩, IntsR.own hr (Nat.le_refl _), x.trans hx⟩)
    have HDo : ∀ wa, Ext W4 wa → ∀ v, IntsR wa wa.heap.size v l → Hid (Calls Tryz.prog 7 #[.agg #[.slice b1 P.vars.length d1, .slice b2 P.funs.length d2, .slice b3 P.stmts.length d3], v] wa fun e w' => Ext wa w' ∧ ∃ t, e = .returned t ∧ RdNew W4 ad P l t w') := fun wa x v hv => hid ((rundo_whole b1 b2 b3 d1 d2 d3 P v l wa ad (HE.out.ext (HX4.out.trans x)) ((HP4.out.ext x).lift x.size) hv hz1 hz2).mono fun e w' ⟨hx, s1, s2, s3, m1, m2, m3, e1, e2, e3, ev, he, hr⟩ => ⟨hx, _, he, ⟨_, _, _, _, _, _, _, _, _, _, rfl, hr.low x.size⟩, x.trans hx⟩)
    clear hW4 hx4
    go_wp2
    rw [← HW4.out]
    generalize w3.heap.size = b8 at *
    refine wp_flow (fun _ => False) (by kernel_rfl) (by kernel_rfl) ?_
    apply Flow.d 0 _ rfl (by simp) (by kernel_rfl)
    · intro w1 hk; unfold does; go_simp; (try go_ints); exact DetR.mk
    simp only [List.getElem_toArray, List.getElem_cons_zero, List.getElem_cons_succ, Act.put, List.setIfInBounds_toArray, List.set_cons_zero, List.set_cons_succ]
    apply Flow.d 1 _ rfl (by simp) (by kernel_rfl)
    · intro w1 hk; unfold does; go_simp; (try go_ints); exact DetR.mk
    simp only [List.getElem_toArray, List.getElem_cons_zero, List.getElem_cons_succ, Act.put, List.setIfInBounds_toArray, List.set_cons_zero, List.set_cons_succ]
    refine Flow.par3j 2 3 4 5 6 7 _ _ _ _ _ _ rfl rfl rfl rfl rfl rfl (by decide) (by decide) (by decide) (by decide) (by decide) (by simp) (by simp) (by simp) (fun _ _ h => by cases h) (fun _ _ h => by cases h) (fun _ _ h => by cases h) (fun _ _ h => by cases h) (fun _ _ h => by cases h) (fun _ _ h => by cases h)
      (by kernel_rfl) (by kernel_rfl) (by kernel_rfl) (by kernel_rfl) (by kernel_rfl) (by kernel_rfl) (by kernel_rfl) (by kernel_rfl) (by kernel_rfl) (by kernel_rfl) (by kernel_rfl) (by kernel_rfl) (by kernel_rfl) (by kernel_rfl) (by kernel_rfl) (by kernel_rfl)
      (StNew W4) (IntsNew W4 l) (fun u v w' => StNew W4 u w' ∧ IntsNew W4 l v w') (fun _ t w' => RdNew W4 ad P l t w') (fun u _ t w' => StNew W4 u w' ∧ RdNew W4 ad P l t w') IsTup id tup0 tup1
      (fun _ _ _ h y => h.ext y) (fun _ _ _ h y => h.ext y) (fun _ _ _ _ h y => ⟨h.1.ext y, h.2.ext y⟩) (fun _ _ _ _ h y => h.ext y) (fun _ _ _ _ _ h y => ⟨h.1.ext y, h.2.ext y⟩)
      (fun _ _ _ h => h.tup) (fun _ _ _ _ h => h.2.tup) ?_ ?_ ?_ ?_ ?_ ?_ ?_ ?_ ?_ ?_ ?_
    · intro wa hC hk
      unfold does
      go_simp
      exact ⟨hk.alloc _, StNew.mk hC⟩
    · intro wa hC hk
      unfold does
      go_simp
      refine CallR.act ((HOwn wa hC).out.mono ?_)
      rintro e wb ⟨v, rfl, hx, hN⟩
      exact ⟨_, rfl, (hC.trans hx).keep _, hN⟩
    · rintro _ wa hN hk
      unfold does
      go_simp
      exact ⟨hk.alloc _, StNew.mk hN.2.2, hN.ext ((Ext.refl _).alloc _)⟩
    · rintro _ wa hS hk
      unfold does
      go_simp
      refine CallR.act ((HOwn wa hS.2).out.mono ?_)
      rintro e wb ⟨v, rfl, hx, hN⟩
      exact ⟨_, rfl, (hS.2.trans hx).keep _, hS.ext hx, hN⟩
    · rintro _ wa ⟨⟨a, n, c, rfl⟩, hN, hx⟩ hk
      have HN := hid hN
      clear hN
      unfold does
      go_simp
      refine CallR.act ((HDo wa hx _ HN.out).out.mono ?_)
      rintro e wb ⟨hx2, t, rfl, hR⟩
      exact ⟨_, rfl, (hx.trans hx2).keep _, hR⟩
    · rintro _ _ wa ⟨hS, ⟨a, n, c, rfl⟩, hN, hx⟩ hk
      have HN := hid hN
      clear hN
      unfold does
      go_simp
      refine CallR.act ((HDo wa hx _ HN.out).out.mono ?_)
      rintro e wb ⟨hx2, t, rfl, hR⟩
      exact ⟨_, rfl, (hx.trans hx2).keep _, hS.ext hx2, hR⟩
    · rintro _ _ wa ⟨u, v, rfl⟩ hk
      unfold does
      go_simp
      exact DetR.mk
    · rintro _ _ wa ⟨u, v, rfl⟩ hk
      unfold does
      go_simp
      exact DetR.mk
    · rintro _ _ wa ⟨u, v, rfl⟩ hk
      unfold does
      go_simp
      exact DetR.mk
    · rintro _ _ wa hR hk
      unfold does
      go_simp
      exact ⟨hk.alloc _, StNew.mk hR.2, hR.ext ((Ext.refl _).alloc _)⟩
    rintro _ _ _ ⟨_, ⟨⟨bqA, rfl, _, Hq0⟩, _⟩, ⟨s1A, m1A, d1A, s2A, m2A, d2A, s3A, m3A, d3A, evA, rfl, _⟩, _⟩
    simp only [List.getElem_toArray, List.getElem_cons_zero, List.getElem_cons_succ, Act.put, List.setIfInBounds_toArray, List.set_cons_zero, List.set_cons_succ]
    have HbqA := hid Hq0
    clear Hq0
    simp only [id, tup0, tup1, Array.getD_eq_getD_getElem?, List.getElem?_toArray, List.getElem?_cons_zero, List.getElem?_cons_succ, Option.getD_some]
    refine Flow.one 8 _ rfl (by kernel_rfl) (fun _ w' => RdAt W4 ad P l bqA s1A s2A s3A m1A m2A m3A d1A d2A d3A evA w') (fun _ _ _ h y => h.on y) ?_ ?_
    · rintro wa ⟨⟨⟨b', eb, hB, _⟩, _⟩, ⟨t1, p1', e1, t2, p2', e2, t3, p3', e3, ev', et, hO⟩, hx⟩ hk
      obtain rfl : bqA = b' := by simpa using eb
      simp only [Value.tuple.injEq, Array.mk.injEq, List.cons.injEq, Value.agg.injEq, Value.slice.injEq, and_true] at et
      obtain ⟨⟨⟨rfl, rfl, rfl⟩, ⟨rfl, rfl, rfl⟩, ⟨rfl, rfl, rfl⟩⟩, rfl⟩ := et
      have z0 := hB.av 0 rfl
      have z1 := hB.av 1 rfl
      have z2 := hB.av 2 rfl
      have f0 := hB.free 0
      have f1 := hB.free 1
      have f2 := hB.free 2
      have hB2 := store3 (v0 := .slice s1A m1A d1A) (v1 := .slice s2A m2A d2A) (v2 := .slice s3A m3A d3A) hB
      have hK2 := store3_keep wa bqA (.slice s1A m1A d1A) (.slice s2A m2A d2A) (.slice s3A m3A d3A)
      have hx2 := Keep.new hx hK2 fun q e => by subst e; exact HbqA.out
      have hO2 := hO.keep hK2 fun q e => by subst e; exact ⟨_, hB⟩
      simp only [zcells, List.getElem_toArray, List.getElem_cons_zero, List.getElem_cons_succ] at z0 z1 z2
      clear hk eb
      unfold does
      go_simp
      exact ⟨hx2.keep _, ⟨hB2, hO2, hx2⟩⟩
    rintro _ ⟨_, _⟩
    simp only [List.getElem_toArray, List.getElem_cons_zero, List.getElem_cons_succ, Act.put, List.setIfInBounds_toArray, List.set_cons_zero, List.set_cons_succ]
    apply Flow.d 9 _ rfl (by simp) (by kernel_rfl)
    · intro w1 hk; unfold does; go_simp; (try go_ints); exact DetR.mk
    simp only [List.getElem_toArray, List.getElem_cons_zero, List.getElem_cons_succ, Act.put, List.setIfInBounds_toArray, List.set_cons_zero, List.set_cons_succ]
    refine Flow.fin (by kernel_rfl) fun w5 hA5 hk5 => ?_
    have HA5 := hid hA5
    have HbA5 := hid HbqA.out
    clear hA5 hk5 HOwn HDo HbqA h0 h1 h2
    have HX5 := hid (HX4.out.trans HA5.out.ext)
    have HB85 := hid (HB8.out.ext HA5.out.ext)
    have HBp5 := hid (HBp4.out.ext HA5.out.ext)
    have HP5 := hid ((HP4.out.ext HA5.out.ext).lift HA5.out.ext.size)
    have HQ5 := hid ((HP.out.ext HX5.out).lift HX5.out.size)
    have HF := hid (rfprog_all a1 a2 a3 c1 c2 c3 P w5 HQ5.out hz1 hz2)
    have p0 := HBp5.out.av 0 rfl
    have p1 := HBp5.out.av 1 rfl
    have p2 := HBp5.out.av 2 rfl
    simp only [pcells, List.getElem_toArray, List.getElem_cons_zero, List.getElem_cons_succ] at p0 p1 p2
    unfold pval at HF
    go_wp2_with fail
    refine HF.out.mono ?_
    intro e w6 hx
    obtain ⟨hx6, c, p, rfl, hfi⟩ := hx
    obtain ⟨W7, hW7⟩ : ∃ W7, W7 = w6.alloc (.cells #[.int .i64 (c : Int), .int .i64 p] 40) := ⟨_, rfl⟩
    have hx7 : Ext w6 W7 := by rw [hW7]; exact (Ext.refl _).alloc _
    have HX57 := hid (hx6.trans hx7)
    have HBf : Hid (Blk W7 w6.heap.size #[.int .i64 (c : Int), .int .i64 p] 40) := hid (by rw [hW7]; exact Blk.new _ _ _)
    have HW7 := hid hW7
    have hx56 := hx6
    clear HF p0 p1 p2 hW7 hx6 hx7
    by_cases hc : c = 0
    · subst hc
      obtain ⟨he0, hal, rfl⟩ := FaultIs.zero hfi
      have hlen : 2000 < l.length := by have := H21.out; omega
      have hrf : RunFault P l 8 (-1) := .inr (.inl ⟨he0, hal, hlen, rfl, rfl⟩)
      obtain ⟨rfl, rfl, rfl, hno⟩ : m1A = 0 ∧ m2A = 0 ∧ m3A = 0 ∧ RunNo ad P l w5 evA := by
        rcases HA5.out.out with ⟨hr, _⟩ | ⟨_, h1, h2, h3, h4⟩
        · have := hr.2.2.1; omega
        · exact ⟨h1, h2, h3, h4⟩
      obtain ⟨c', p', hrf', _, _, hcode⟩ := code_no hno
      obtain ⟨rfl, rfl⟩ := hrf.uniq hrf'
      have HBa := hid (rbare_any 8 W7)
      have f0 := HBf.out.av 0 rfl
      have f1 := HBf.out.av 1 rfl
      simp only [List.getElem_toArray, List.getElem_cons_zero, List.getElem_cons_succ] at f0 f1
      have H56 := hid (hx56)
      have HW7z : Hid (W7 = w6.alloc (.cells #[.int .i64 0, .int .i64 (-1)] 40)) := hid HW7.out
      clear hfi hrf hrf' hno he0 hal hx56
      go_wp2_with fail
      rw [← HW7z.out]
      refine HBa.out.mono ?_
      intro e w8 hx
      obtain ⟨rfl, hx8⟩ := hx
      have HB8f := hid (HBf.out.ext hx8)
      have z0 := HB8f.out.av 0 rfl
      have z1 := HB8f.out.av 1 rfl
      have g0 := HB8f.out.free 0
      have g1 := HB8f.out.free 1
      simp only [List.getElem_toArray, List.getElem_cons_zero, List.getElem_cons_succ] at z0 z1
      obtain ⟨W9, hW9⟩ : ∃ W9, W9 = (w8.setCell ⟨w6.heap.size, 0, none⟩ (.int .i64 8)).setCell ⟨w6.heap.size, 1, none⟩ (.int .i64 (-1)) := ⟨_, rfl⟩
      have HB9 : Hid (Blk W9 w6.heap.size #[.int .i64 8, .int .i64 (-1)] 40) := hid (by rw [hW9]; exact two HB8f.out)
      have X9 : Hid (Ext w5 W9) := hid (by rw [hW9]; exact Keep.new (HX57.out.trans hx8) (two_keep w8 w6.heap.size (.int .i64 8) (.int .i64 (-1))) fun q e => by subst e; exact H56.out.size)
      have HW9 := hid hW9
      have HFa := hid (faulted1_any W9 evA (8 : Int) (-1) (fun w2 x2 => hcode w2 (X9.out.trans x2) (HA.out.ext (HX5.out.trans (X9.out.trans x2)))))
      clear hW9 hcode HBa f0 f1 hx8 HB8f
      go_wp2
      rw [← HW9.out]
      have f0 := HB9.out.av 0 rfl
      have f1 := HB9.out.av 1 rfl
      have s0 := (HA5.out.blk.ext X9.out).av 0 rfl
      have s1 := (HA5.out.blk.ext X9.out).av 1 rfl
      have s2 := (HA5.out.blk.ext X9.out).av 2 rfl
      simp only [List.getElem_toArray, List.getElem_cons_zero, List.getElem_cons_succ] at f0 f1 s0 s1 s2
      clear z0 z1 g0 g1
      go_loopw [14] (fun t14 wr => t14 = .int .i64 0 ∧ wr = W9) (fun _ _ => 0)
      case atStart => exact ⟨rfl, rfl⟩
      case round =>
        obtain ⟨rfl, hwr⟩ := hrel
        subst hwr
        go_wp2_with fail
        refine HFa.out.mono ?_
        intro e w10 hx
        obtain ⟨rfl, hx8⟩ := hx
        have HX8 := hid (X9.out.trans hx8)
        clear f0 f1 s0 s1 s2 HFa hx8
        have s0 := (HA5.out.blk.ext HX8.out).av 0 rfl
        have s1 := (HA5.out.blk.ext HX8.out).av 1 rfl
        have s2 := (HA5.out.blk.ext HX8.out).av 2 rfl
        simp only [List.getElem_toArray, List.getElem_cons_zero, List.getElem_cons_succ] at s0 s1 s2
        go_wp2
        go_ret
        exact ⟨rfl, HX5.out.trans HX8.out⟩
    · have hnw := hfi.pos hc
      have hrf : RunFault P l c p := .inl ⟨hnw, hfi⟩
      obtain ⟨rfl, rfl, rfl, hno⟩ : m1A = 0 ∧ m2A = 0 ∧ m3A = 0 ∧ RunNo ad P l w5 evA := by
        rcases HA5.out.out with ⟨hr, _⟩ | ⟨_, h1, h2, h3, h4⟩
        · exact absurd ⟨hr.1, hr.2.1⟩ hnw
        · exact ⟨h1, h2, h3, h4⟩
      obtain ⟨c', p', hrf', _, _, hcode⟩ := code_no hno
      obtain ⟨rfl, rfl⟩ := hrf.uniq hrf'
      have HFa := hid (faulted1_any W7 evA (c : Int) p (fun w2 x2 => hcode w2 (HX57.out.trans x2) (HA.out.ext (HX5.out.trans (HX57.out.trans x2)))))
      have hcb : ((c : Int) == 0) = false := beq_eq_false_iff_ne.2 (by omega)
      have hcp : (0 : Int) < (c : Int) := by omega
      have f0 := HBf.out.av 0 rfl
      have f1 := HBf.out.av 1 rfl
      have s0 := (HA5.out.blk.ext HX57.out).av 0 rfl
      have s1 := (HA5.out.blk.ext HX57.out).av 1 rfl
      have s2 := (HA5.out.blk.ext HX57.out).av 2 rfl
      simp only [List.getElem_toArray, List.getElem_cons_zero, List.getElem_cons_succ] at f0 f1 s0 s1 s2
      clear hfi hnw hrf hrf' hcode hno
      go_wp2
      rw [← HW7.out]
      go_loopw [14] (fun t14 wr => t14 = .int .i64 0 ∧ wr = W7) (fun _ _ => 0)
      case atStart => exact ⟨rfl, rfl⟩
      case round =>
        obtain ⟨rfl, hwr⟩ := hrel
        subst hwr
        go_wp2_with fail
        refine HFa.out.mono ?_
        intro e w8 hx
        obtain ⟨rfl, hx8⟩ := hx
        have HX8 := hid (HX57.out.trans hx8)
        clear f0 f1 s0 s1 s2 HFa hx8
        have s0 := (HA5.out.blk.ext HX8.out).av 0 rfl
        have s1 := (HA5.out.blk.ext HX8.out).av 1 rfl
        have s2 := (HA5.out.blk.ext HX8.out).av 2 rfl
        simp only [List.getElem_toArray, List.getElem_cons_zero, List.getElem_cons_succ] at s0 s1 s2
        go_wp2
        go_ret
        exact ⟨rfl, HX5.out.trans HX8.out⟩
end Go.Proofs.YtkabgmohgjljkaaGreatDoor
