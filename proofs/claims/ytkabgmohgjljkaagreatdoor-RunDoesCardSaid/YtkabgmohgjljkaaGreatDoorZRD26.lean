/- Texts of one proof, put together: WO. -/
import Derived.Test.YtkabgmohgjljkaaGreatDoorZRD25

/- RunDoes: a script that is done. -/
namespace Go.Proofs.YtkabgmohgjljkaaGreatDoor
set_option linter.unusedSimpArgs false
set_option linter.unusedVariables false
open Go Go.RowKit

theorem newOf_mem {P : PP} {l : List Int} (h : ∀ x ∈ l, P.badk x = false) : ∀ x ∈ newOf P l, 0 ≤ x ∧ x < P.stmts.length := fun x hx => by
  unfold newOf at hx
  obtain ⟨n, hn, rfl⟩ := List.mem_map.1 hx
  obtain ⟨q, hq, rfl⟩ := List.mem_map.1 (List.mem_filter.1 hn).1
  have := PP.badk_no (h q hq)
  constructor
  · exact Int.natCast_nonneg _
  · have h2 : (Int.ofNat q.toNat) = q := Int.toNat_of_nonneg this.1
    rw [h2]; exact this.2
theorem getD_le {l : List Int} {m : Int} (hm : 0 ≤ m) (h : ∀ x ∈ l, x ≤ m) (i : Nat) : l.getD i 0 ≤ m := by
  rw [List.getD_eq_getElem?_getD]
  cases hx : l[i]? with
  | none => exact hm
  | some x => exact h x (List.mem_of_getElem? hx)

set_option maxRecDepth 100000 in
set_option maxHeartbeats 25600000 in
theorem rundoes_yes (a1 a2 a3 : Option Addr) (c1 c2 c3 : Nat) (P : PP) (va : Value) (l : List Int) (kd : ByteArray) (n : Int) (w : World) (ad : Nat → Addr) (hE : ErrsP w ad) (hA : AllErrs w ad) (hP : ProgR w w.heap.size (.slice a1 P.vars.length c1) (.slice a2 P.funs.length c2) (.slice a3 P.stmts.length c3) P) (hI : IntsR w w.heap.size va l) (hks : kd.size ≤ 9223372036854775807) (hf1 : Hid (l.length ≤ 200)) (hf2 : Hid (kd.size ≤ 20)) (Hr : Hid (P.Runs l)) :
    Calls Tryz.prog 3 #[pval a1 a2 a3 c1 c2 c3 P, va, .string kd, .int .i64 n] w fun e w' => e = .returned (.bool true) ∧ Ext w w' := by
  have HE := hid hE
  have HA := hid hA
  have HP := hid hP
  have HI := hid hI
  have hll : (l.length : Int) ≤ 9223372036854775807 := by
    obtain ⟨_, _, _, h2, h3, _⟩ := hI
    omega
  obtain ⟨aa, ca, hva, hlca⟩ : ∃ aa ca, va = .slice aa l.length ca ∧ l.length ≤ ca := by
    obtain ⟨aa, ca, h, h2, _⟩ := hI
    exact ⟨aa, ca, h, h2⟩
  subst hva
  obtain ⟨W1, hW1⟩ : ∃ W1, W1 = w.alloc (.cells (pcells a1 a2 a3 c1 c2 c3 P) 26) := ⟨_, rfl⟩
  have HX1 : Hid (Ext w W1) := hid (by rw [hW1]; exact (Ext.refl _).alloc _)
  have HB1 : Hid (Blk W1 w.heap.size (pcells a1 a2 a3 c1 c2 c3 P) 26) := hid (by rw [hW1]; exact Blk.new _ _ _)
  have HR := hid (ran_any W1 ad (hE.ext HX1.out))
  have HW1 : Hid (W1 = w.alloc (.cells #[.slice a1 P.vars.length c1, .slice a2 P.funs.length c2, .slice a3 P.stmts.length c3] 26)) := hid (by rw [hW1]; rfl)
  unfold pval
  clear hE hP hI hW1 hA
  go_enter Tryz.func3, Tryz.ntmps3
  go_wp2_with fail
  rw [← HW1.out]
  refine HR.out.mono ?_
  intro e w1 hx
  obtain ⟨rfl, hx1⟩ := hx
  have HL := hid (large_any a1 a2 a3 c1 c2 c3 P w1 w.heap.size (HP.out.ext (HX1.out.trans hx1)))
  unfold pval at HL
  have HX1' := hid (HX1.out.trans hx1)
  have HBp1 := hid (HB1.out.ext hx1)
  have p0 := HBp1.out.av 0 rfl
  have p1 := HBp1.out.av 1 rfl
  have p2 := HBp1.out.av 2 rfl
  simp only [pcells, List.getElem_toArray, List.getElem_cons_zero, List.getElem_cons_succ] at p0 p1 p2
  clear HR hx1
  go_wp2_with fail
  refine HL.out.mono ?_
  intro e w2 hx
  obtain ⟨r, rfl, hr, hsm, hx2⟩ := hx
  have HX2 := hid (HX1'.out.trans hx2)
  have HBp := hid (HBp1.out.ext hx2)
  clear HL hx2 p0 p1 p2
  rcases (by omega : r = 1 ∨ r = 0) with rfl | rfl
  · clear hsm hr
    go_wp2
    go_ret
    exact ⟨rfl, HX2.out⟩
  have HSm := hid (hsm rfl)
  clear hsm hr
  have hl3 : Hid (l.length ≤ 2001) := hid (by have := hf1.out; omega)
  have h20 : ¬ 20 < kd.size := by have := hf2.out; omega
  have h200 : ¬ 200 < l.length := by have := hf1.out; omega
  have HQ := hid (ownprogram_any a1 a2 a3 c1 c2 c3 P w2 ((HP.out.ext HX2.out).lift HX2.out.size) HSm.out)
  have p0 := HBp.out.av 0 rfl
  have p1 := HBp.out.av 1 rfl
  have p2 := HBp.out.av 2 rfl
  simp only [pcells, List.getElem_toArray, List.getElem_cons_zero, List.getElem_cons_succ] at p0 p1 p2
  unfold pval at HQ
  go_wp2_with fail
  refine HQ.out.mono ?_
  intro e w3 hx
  obtain ⟨hx3, b1, b2, b3, d1, d2, d3, rfl, hq⟩ := hx
  have HX3 := hid (HX2.out.trans hx3)
  have HBp3 := hid (HBp.out.ext hx3)
  have Hq3 := hid hq
  clear HQ hx3 hq p0 p1 p2
  obtain ⟨W4, hW4⟩ : ∃ W4, W4 = w3.alloc (.cells (pcells b1 b2 b3 d1 d2 d3 P) 26) := ⟨_, rfl⟩
  have hx4 : Ext w3 W4 := by rw [hW4]; exact (Ext.refl _).alloc _
  have HX4 := hid (HX3.out.trans hx4)
  have HBp4 := hid (HBp3.out.ext hx4)
  have HB8 : Hid (Blk W4 w3.heap.size (pcells b1 b2 b3 d1 d2 d3 P) 26) := hid (by rw [hW4]; exact Blk.new _ _ _)
  have HP4 := hid ((Hq3.out.ext hx4).lift hx4.size)
  have HW4 : Hid (W4 = w3.alloc (.cells #[.slice b1 P.vars.length d1, .slice b2 P.funs.length d2, .slice b3 P.stmts.length d3] 26)) := hid (by rw [hW4]; rfl)
  have HI4 : Hid (IntsR W4 w.heap.size (.slice aa l.length ca) l) := hid (HI.out.old (HX4.out.old _))
  have h0 := HB8.out.kc (X := fun _ => False) (fun e => e) 0 rfl
  have h1 := HB8.out.kc (X := fun _ => False) (fun e => e) 1 rfl
  have h2 := HB8.out.kc (X := fun _ => False) (fun e => e) 2 rfl
  simp only [pcells, List.getElem_toArray, List.getElem_cons_zero, List.getElem_cons_succ] at h0 h1 h2
  have hz1 : ∀ s ∈ P.vars, s.size ≤ 1000000 := fun s hs => by have := HSm.out.vs s hs; omega
  have hz2 : ∀ s ∈ P.names, s.size ≤ 1000000 := fun s hs => by
    obtain ⟨f, hf, rfl⟩ := List.mem_map.1 hs
    have := (HSm.out.fs f hf).1
    omega
  have HOwn : ∀ wa, Ext W4 wa → Hid (Calls Tryz.prog 8 #[.slice aa l.length ca] wa fun e w' => ∃ v, e = .returned v ∧ Ext wa w' ∧ IntsNew W4 l v w') := fun wa x => hid ((ownintsR_more (.slice aa l.length ca) l wa w.heap.size (HI4.out.old (x.old _)) (by have := hl3.out; omega)).mono fun e w' ⟨v, he, hx, hr⟩ => ⟨v, he, hx, (row_form hr).imp fun a h => ⟨_, h⟩, IntsR.own hr (Nat.le_refl _), x.trans hx⟩)
  have HDo : ∀ wa, Ext W4 wa → ∀ v, IntsR wa wa.heap.size v l → Hid (Calls Tryz.prog 7 #[.agg #[.slice b1 P.vars.length d1, .slice b2 P.funs.length d2, .slice b3 P.stmts.length d3], v] wa fun e w' => Ext wa w' ∧ ∃ t, e = .returned t ∧ RdNew W4 ad P l t w') := fun wa x v hv => hid ((rundo_whole b1 b2 b3 d1 d2 d3 P v l wa ad (HE.out.ext (HX4.out.trans x)) ((HP4.out.ext x).lift x.size) hv hz1 hz2).mono fun e w' ⟨hx, s1, s2, s3, m1, m2, m3, e1, e2, e3, ev, he, hr⟩ => ⟨hx, _, he, ⟨_, _, _, _, _, _, _, _, _, _, rfl, hr.low x.size⟩, x.trans hx⟩)
  clear hW4 hx4
  go_wp2
  rw [← HW4.out]
  generalize w3.heap.size = b8 at *
  refine wp_flow (fun _ => False) (by kernel_rfl) (by kernel_rfl) ?_
  apply Flow.d 0 _ rfl (by simp) (by kernel_rfl)
  · intro w1 hk; unfold does; go_simp; (try go_ints); exact DetR.mk
  simp only [List.getElem_toArray, List.getElem_cons_zero, List.getElem_cons_succ, Act.put, List.setIfInBounds_toArray, List.set_cons_zero, List.set_cons_succ]
  apply Flow.d 1 _ rfl (by simp) (by kernel_rfl)
  · intro w1 hk; unfold does; go_simp; (try go_ints); exact DetR.mk
  simp only [List.getElem_toArray, List.getElem_cons_zero, List.getElem_cons_succ, Act.put, List.setIfInBounds_toArray, List.set_cons_zero, List.set_cons_succ]
  refine Flow.par3j 2 3 4 5 6 7 _ _ _ _ _ _ rfl rfl rfl rfl rfl rfl (by decide) (by decide) (by decide) (by decide) (by decide) (by simp) (by simp) (by simp) (fun _ _ h => by cases h) (fun _ _ h => by cases h) (fun _ _ h => by cases h) (fun _ _ h => by cases h) (fun _ _ h => by cases h) (fun _ _ h => by cases h)
    (by kernel_rfl) (by kernel_rfl) (by kernel_rfl) (by kernel_rfl) (by kernel_rfl) (by kernel_rfl) (by kernel_rfl) (by kernel_rfl) (by kernel_rfl) (by kernel_rfl) (by kernel_rfl) (by kernel_rfl) (by kernel_rfl) (by kernel_rfl) (by kernel_rfl) (by kernel_rfl)
    (StNew W4) (IntsNew W4 l) (fun u v w' => StNew W4 u w' ∧ IntsNew W4 l v w') (fun _ t w' => RdNew W4 ad P l t w') (fun u _ t w' => StNew W4 u w' ∧ RdNew W4 ad P l t w') IsTup id tup0 tup1
    (fun _ _ _ h y => h.ext y) (fun _ _ _ h y => h.ext y) (fun _ _ _ _ h y => ⟨h.1.ext y, h.2.ext y⟩) (fun _ _ _ _ h y => h.ext y) (fun _ _ _ _ _ h y => ⟨h.1.ext y, h.2.ext y⟩)
    (fun _ _ _ h => h.tup) (fun _ _ _ _ h => h.2.tup) ?_ ?_ ?_ ?_ ?_ ?_ ?_ ?_ ?_ ?_ ?_
  · intro wa hC hk
    unfold does
    go_simp
    exact ⟨hk.alloc _, StNew.mk hC⟩
  · intro wa hC hk
    unfold does
    go_simp
    refine CallR.act ((HOwn wa hC).out.mono ?_)
    rintro e wb ⟨v, rfl, hx, hN⟩
    exact ⟨_, rfl, (hC.trans hx).keep _, hN⟩
  · rintro _ wa hN hk
    unfold does
    go_simp
    exact ⟨hk.alloc _, StNew.mk hN.2.2, hN.ext ((Ext.refl _).alloc _)⟩
  · rintro _ wa hS hk
    unfold does
    go_simp
    refine CallR.act ((HOwn wa hS.2).out.mono ?_)
    rintro e wb ⟨v, rfl, hx, hN⟩
    exact ⟨_, rfl, (hS.2.trans hx).keep _, hS.ext hx, hN⟩
  · rintro _ wa ⟨⟨a, n, c, rfl⟩, hN, hx⟩ hk
    have HN := hid hN
    clear hN
    unfold does
    go_simp
    refine CallR.act ((HDo wa hx _ HN.out).out.mono ?_)
    rintro e wb ⟨hx2, t, rfl, hR⟩
    exact ⟨_, rfl, (hx.trans hx2).keep _, hR⟩
  · rintro _ _ wa ⟨hS, ⟨a, n, c, rfl⟩, hN, hx⟩ hk
    have HN := hid hN
    clear hN
    unfold does
    go_simp
    refine CallR.act ((HDo wa hx _ HN.out).out.mono ?_)
    rintro e wb ⟨hx2, t, rfl, hR⟩
    exact ⟨_, rfl, (hx.trans hx2).keep _, hS.ext hx2, hR⟩
  · rintro _ _ wa ⟨u, v, rfl⟩ hk
    unfold does
    go_simp
    exact DetR.mk
  · rintro _ _ wa ⟨u, v, rfl⟩ hk
    unfold does
    go_simp
    exact DetR.mk
  · rintro _ _ wa ⟨u, v, rfl⟩ hk
    unfold does
    go_simp
    exact DetR.mk
  · rintro _ _ wa hR hk
    unfold does
    go_simp
    exact ⟨hk.alloc _, StNew.mk hR.2, hR.ext ((Ext.refl _).alloc _)⟩
  rintro _ _ _ ⟨_, ⟨⟨bqA, rfl, _, Hq0⟩, _⟩, ⟨s1A, m1A, d1A, s2A, m2A, d2A, s3A, m3A, d3A, evA, rfl, _⟩, _⟩
  simp only [List.getElem_toArray, List.getElem_cons_zero, List.getElem_cons_succ, Act.put, List.setIfInBounds_toArray, List.set_cons_zero, List.set_cons_succ]
  have HbqA := hid Hq0
  clear Hq0
  simp only [id, tup0, tup1, Array.getD_eq_getD_getElem?, List.getElem?_toArray, List.getElem?_cons_zero, List.getElem?_cons_succ, Option.getD_some]
  refine Flow.one 8 _ rfl (by kernel_rfl) (fun _ w' => RdAt W4 ad P l bqA s1A s2A s3A m1A m2A m3A d1A d2A d3A evA w') (fun _ _ _ h y => h.on y) ?_ ?_
  · rintro wa ⟨⟨⟨b', eb, hB, _⟩, _⟩, ⟨t1, p1', e1, t2, p2', e2, t3, p3', e3, ev', et, hO⟩, hx⟩ hk
    obtain rfl : bqA = b' := by simpa using eb
    simp only [Value.tuple.injEq, Array.mk.injEq, List.cons.injEq, Value.agg.injEq, Value.slice.injEq, and_true] at et
    obtain ⟨⟨⟨rfl, rfl, rfl⟩, ⟨rfl, rfl, rfl⟩, ⟨rfl, rfl, rfl⟩⟩, rfl⟩ := et
    have z0 := hB.av 0 rfl
    have z1 := hB.av 1 rfl
    have z2 := hB.av 2 rfl
    have f0 := hB.free 0
    have f1 := hB.free 1
    have f2 := hB.free 2
    have hB2 := store3 (v0 := .slice s1A m1A d1A) (v1 := .slice s2A m2A d2A) (v2 := .slice s3A m3A d3A) hB
    have hK2 := store3_keep wa bqA (.slice s1A m1A d1A) (.slice s2A m2A d2A) (.slice s3A m3A d3A)
    have hx2 := Keep.new hx hK2 fun q e => by subst e; exact HbqA.out
    have hO2 := hO.keep hK2 fun q e => by subst e; exact ⟨_, hB⟩
    simp only [zcells, List.getElem_toArray, List.getElem_cons_zero, List.getElem_cons_succ] at z0 z1 z2
    clear hk eb
    unfold does
    go_simp
    exact ⟨hx2.keep _, ⟨hB2, hO2, hx2⟩⟩
  rintro _ ⟨_, _⟩
  simp only [List.getElem_toArray, List.getElem_cons_zero, List.getElem_cons_succ, Act.put, List.setIfInBounds_toArray, List.set_cons_zero, List.set_cons_succ]
  apply Flow.d 9 _ rfl (by simp) (by kernel_rfl)
  · intro w1 hk; unfold does; go_simp; (try go_ints); exact DetR.mk
  simp only [List.getElem_toArray, List.getElem_cons_zero, List.getElem_cons_succ, Act.put, List.setIfInBounds_toArray, List.set_cons_zero, List.set_cons_succ]
  refine Flow.fin (by kernel_rfl) fun w5 hA5 hk5 => ?_
  have HA5 := hid hA5
  have HbA5 := hid HbqA.out
  clear hA5 hk5 HOwn HDo HbqA h0 h1 h2
  have HX5 := hid (HX4.out.trans HA5.out.ext)
  have HB85 := hid (HB8.out.ext HA5.out.ext)
  have HBp5 := hid (HBp4.out.ext HA5.out.ext)
  have HP5 := hid ((HP4.out.ext HA5.out.ext).lift HA5.out.ext.size)
  have HQ5 := hid ((HP.out.ext HX5.out).lift HX5.out.size)
  have HF := hid (rfprog_all a1 a2 a3 c1 c2 c3 P w5 HQ5.out hz1 hz2)
  have p0 := HBp5.out.av 0 rfl
  have p1 := HBp5.out.av 1 rfl
  have p2 := HBp5.out.av 2 rfl
  simp only [pcells, List.getElem_toArray, List.getElem_cons_zero, List.getElem_cons_succ] at p0 p1 p2
  unfold pval at HF
  go_wp2_with fail
  refine HF.out.mono ?_
  intro e w6 hx
  obtain ⟨hx6, c, p, rfl, hfi⟩ := hx
  obtain ⟨W7, hW7⟩ : ∃ W7, W7 = w6.alloc (.cells #[.int .i64 (c : Int), .int .i64 p] 40) := ⟨_, rfl⟩
  have hx7 : Ext w6 W7 := by rw [hW7]; exact (Ext.refl _).alloc _
  have HX57 := hid (hx6.trans hx7)
  have HBf : Hid (Blk W7 w6.heap.size #[.int .i64 (c : Int), .int .i64 p] 40) := hid (by rw [hW7]; exact Blk.new _ _ _)
  have HW7 := hid hW7
  have hx56 := hx6
  clear HF p0 p1 p2 hW7 hx6 hx7
  obtain rfl : c = 0 := by
    rcases Nat.eq_zero_or_pos c with h | h
    · exact h
    · exact absurd ⟨Hr.out.1, Hr.out.2.1⟩ (hfi.pos (by omega))
  obtain ⟨_, _, rfl⟩ := FaultIs.zero hfi
  obtain ⟨s, hs⟩ : ∃ s, s = Rn.run P (l.map Int.toNat) := ⟨_, rfl⟩
  have Hs := hid hs
  obtain ⟨hev, hR5⟩ : evA = .nilIface ∧ RnRows w5 W4.heap.size (.slice s1A m1A d1A) (.slice s2A m2A d2A) (.slice s3A m3A d3A) s := by
    rcases HA5.out.out with ⟨_, h1, h2⟩ | ⟨h, _⟩
    · exact ⟨h1, by rw [hs]; exact h2⟩
    · exact absurd Hr.out h
  subst hev
  obtain ⟨_, _, hz⟩ := row_form hR5.vars
  obtain ⟨rfl, rfl, rfl⟩ : s1A = _ ∧ m1A = s.vars.length ∧ d1A = _ := by simpa using hz
  obtain ⟨_, _, hz⟩ := row_form hR5.things
  obtain ⟨rfl, rfl, rfl⟩ : s2A = _ ∧ m2A = s.things.length ∧ d2A = _ := by simpa using hz
  obtain ⟨_, _, hz⟩ := row_form hR5.places
  obtain ⟨rfl, rfl, rfl⟩ : s3A = _ ∧ m3A = s.places.length ∧ d3A = _ := by simpa using hz
  have HR5 := hid hR5
  have Hfew := hid (PP.Well.few ⟨Hr.out.1, Hr.out.2.1⟩)
  have f0 := HBf.out.av 0 rfl
  have f1 := HBf.out.av 1 rfl
  simp only [List.getElem_toArray, List.getElem_cons_zero, List.getElem_cons_succ] at f0 f1
  have HW7z : Hid (W7 = w6.alloc (.cells #[.int .i64 0, .int .i64 (-1)] 40)) := hid HW7.out
  have HBfz : Hid (Blk W7 w6.heap.size #[.int .i64 0, .int .i64 (-1)] 40) := hid HBf.out
  clear hfi hs hR5 HBf HW7 hx56 hz
  go_wp2
  rw [← HW7z.out]
  generalize w6.heap.size = bf at *
  clear HW7z
  go_loopw [14] (fun t14 wr => ∃ i : Nat, t14 = .int .i64 (i : Int) ∧ i ≤ l.length ∧ Ext w5 wr ∧ Blk wr bf #[.int .i64 0, .int .i64 (-1)] 40) (fun t14 _ => l.length - (intOf t14).toNat)
  case atStart => exact ⟨0, rfl, Nat.zero_le _, HX57.out, HBfz.out⟩
  case round =>
    obtain ⟨i, rfl, hi, hx, hB⟩ := hrel
    have Hx := hid hx
    have HB := hid hB
    clear f0 f1
    have f0 := hB.av 0 rfl
    simp only [List.getElem_toArray, List.getElem_cons_zero, List.getElem_cons_succ] at f0
    clear hx hB
    by_cases hil : i < l.length
    · obtain ⟨y, q, hya, hqk, hcq⟩ := (HI4.out.old ((HA5.out.ext.trans Hx.out).old _)).at hil
      subst hya
      have c0 : ∀ w1, Keep (fun _ => False) wr w1 → w1.cell? (y.add i) = some (.int .i64 q) := fun w1 k => k.ext.cellx hcq
      have p2 := (HBp5.out.ext Hx.out).kc (X := fun _ => False) (fun e => e) 2 rfl
      simp only [pcells, List.getElem_toArray, List.getElem_cons_zero, List.getElem_cons_succ] at p2
      obtain ⟨hq1, hq2⟩ := PP.badk_no (Hr.out.2.2.2 q (List.mem_of_getElem? hqk))
      clear hqk hcq
      go_wp2
      refine wp_flowT (fun _ => False) (by kernel_rfl) (by kernel_rfl) ?_
      repeat (apply FlowT.d; (intro w1 hk; unfold does; go_simp; (try go_ints); (first | exact DetR.mk | (simp only [↓IntWalk.iteOmega, Oper.doesUpon_value]; exact DetR.mk) | (simp only [↓IntWalk.iteOmega]; go_simp; (try go_ints); exact DetR.mk))); simp only [Act.put, List.setIfInBounds_toArray, List.set_cons_zero, List.set_cons_succ])
      refine FlowT.fin fun w8 hx8 hk8 => ?_
      have Hx8 := hid (Hx.out.trans hx8)
      have HB8 := hid (HB.out.ext hx8)
      clear hx8 hk8 c0 p2 f0
      go_wp2
      go_roundw
      case rel => exact ⟨i + 1, by go_num, by omega, Hx8.out, HB8.out⟩
      case measure => simp [intOf]; omega
    · obtain rfl : i = l.length := by omega
      clear hil hi
      obtain ⟨wB, hwB⟩ : ∃ wB, wB = wr := ⟨_, rfl⟩
      subst hwB
      have HBe := hid (rbegin_any a1 a2 a3 c1 c2 c3 P wB (by have := Hfew.out; omega))
      have p0 := (HBp5.out.ext Hx.out).av 0 rfl
      have p1 := (HBp5.out.ext Hx.out).av 1 rfl
      have p2 := (HBp5.out.ext Hx.out).av 2 rfl
      simp only [pcells, List.getElem_toArray, List.getElem_cons_zero, List.getElem_cons_succ] at p0 p1 p2
      unfold pval at HBe
      go_wp2_with fail
      refine HBe.out.mono ?_
      intro e w8 hx
      obtain ⟨hx8, sb, vv0, rfl, hsb, hRf⟩ := hx
      have HR8 := hid hRf
      have Hx8 := hid hx8
      have Hsb := hid hsb
      have HIB := hid (HI4.out.old ((HA5.out.ext.trans Hx.out).old _))
      have HBpB := hid (HBp5.out.ext Hx.out)
      have HPB := hid ((HQ5.out.ext Hx.out).lift (Nat.le_trans Hx.out.size hsb))
      have Hpb : Hid (¬ sb ≤ w.heap.size) := hid (by have := HBp5.out.lt; have := Hx.out.size; omega)
      clear HBe p0 p1 p2 f0 hx8 hsb hRf
      go_wp2
      go_loopw [16] (fun t16 wr => ∃ (k : Nat) (vv tv pv : Value), t16 = .int .i64 (k : Int) ∧ k ≤ l.length ∧ RfAt wr sb sb vv tv pv (Rn.run P ((l.map Int.toNat).take k)) ∧ Ext wB wr) (fun t16 _ => l.length - (intOf t16).toNat)
      case atStart => exact ⟨0, _, _, _, rfl, Nat.zero_le _, HR8.out, Hx8.out⟩
      case round =>
        obtain ⟨k, vv, tv, pv, rfl, hk, hRf, hx⟩ := hrel
        have HRf := hid hRf
        have Hx2 := hid hx
        clear hRf hx
        by_cases hlt : k < l.length
        · obtain ⟨ya, q, hya, hqk, hc⟩ := HIB.out.at hlt
          subst hya
          have hqi := PP.badk_no (Hr.out.2.2.2 q (List.mem_of_getElem? hqk))
          obtain ⟨K, rfl⟩ := Int.eq_ofNat_of_zero_le hqi.1
          have hK : K < P.stmts.length := by omega
          have hxk : P.stmts[K]? = some (P.stmts[K]'hK) := List.getElem?_eq_getElem hK
          have hnew : ∀ w1, Keep (fun q => sb ≤ q) wr w1 → Ext wB w1 := fun w1 kk => Keep.new Hx2.out kk fun q hq => Nat.le_trans Hsb.out hq
          have HD := fun w1 (x : Ext wr w1) => hid (rstdo_any a1 a2 a3 c1 c2 c3 P K _ hxk (Hr.out.2.1 K _ hK hxk) (fun f hf => PP.goodF (PP.funs_ok Hr.out.1) hf) _ (Rn.Ok.run Hr.out.2.1 _) w1 sb sb vv tv pv (HRf.out.ext x) (HPB.out.ext (Hx2.out.trans x)) (Nat.le_of_lt (HRf.out.ext x).blk.lt) (by
            have h1 := Rn.run_len Hr.out.2.1 ((l.map Int.toNat).take k)
            rw [List.length_take, List.length_map] at h1
            have := hf1.out
            omega))
          have Hnext : Hid (Rn.run P ((l.map Int.toNat).take (k + 1)) = (Rn.run P ((l.map Int.toNat).take k)).stmt P K (P.stmts[K]'hK)) := hid (by
            rw [List.take_add_one, List.getElem?_map, hqk]
            simp only [Option.map_some, Option.toList, Int.toNat_natCast]
            rw [Rn.run_snoc]
            unfold Rn.step
            rw [hxk])
          have Hnew := hid hnew
          have p0 := (HBpB.out.ext Hx2.out).kc (X := fun q => sb ≤ q) Hpb.out 0 rfl
          have p1 := (HBpB.out.ext Hx2.out).kc (X := fun q => sb ≤ q) Hpb.out 1 rfl
          have p2 := (HBpB.out.ext Hx2.out).kc (X := fun q => sb ≤ q) Hpb.out 2 rfl
          have c0 : ∀ w1, Keep (fun q => sb ≤ q) wr w1 → w1.cell? (ya.add k) = some (.int .i64 (K : Int)) := fun w1 kk => (hnew w1 kk).cellx hc
          simp only [pcells, List.getElem_toArray, List.getElem_cons_zero, List.getElem_cons_succ] at p0 p1 p2
          unfold pval at HD
          clear hqk hqi hxk hc hnew
          go_wp2
          refine wp_flowT (fun q => sb ≤ q) (by kernel_rfl) (by kernel_rfl) ?_
          repeat (apply FlowT.d; (intro w1 hk; unfold does; go_simp; (try go_ints); (first | exact DetR.mk | (simp only [↓IntWalk.iteOmega, Oper.doesUpon_value]; exact DetR.mk) | (simp only [↓IntWalk.iteOmega]; go_simp; (try go_ints); exact DetR.mk))); simp only [Act.put, List.setIfInBounds_toArray, List.set_cons_zero, List.set_cons_succ])
          refine FlowT.s (fun v w' => v = .tuple #[] ∧ (∃ v1 v2 v3, RfAt w' sb sb v1 v2 v3 (Rn.run P ((l.map Int.toNat).take (k + 1)))) ∧ Ext wB w') 6 rfl (by kernel_rfl) (fun _ _ _ ⟨h1, ⟨v1, v2, v3, h2⟩, h3⟩ y => ⟨h1, ⟨v1, v2, v3, h2.ext y⟩, h3.trans y⟩) (fun w1 hC hk1 => ?_) ?_
          · unfold does
            go_simp
            refine CallR.act ((HD w1 hC).out.mono ?_)
            rintro e w2 ⟨rfl, ⟨v1, v2, v3, h2⟩, ho⟩
            exact ⟨_, rfl, hk1.trans ho, rfl, ⟨v1, v2, v3, by rw [Hnext.out]; exact h2⟩, Hnew.out _ (hk1.trans ho)⟩
          rintro _ ⟨_, rfl, _⟩
          simp only [Act.put, List.setIfInBounds_toArray, List.set_cons_zero, List.set_cons_succ]
          refine FlowT.fin fun w9 hC9 hk9 => ?_
          obtain ⟨_, ⟨v1, v2, v3, h2⟩, h3⟩ := hC9
          have HR9 := hid h2
          have Hx9 := hid h3
          clear h2 h3 hk9 HD p0 p1 p2 c0
          go_wp2
          go_roundw
          case rel => exact ⟨k + 1, v1, v2, v3, by go_num, by omega, HR9.out, Hx9.out⟩
          case measure => simp [intOf]; omega
        · obtain rfl : k = l.length := by omega
          clear hlt hk
          rw [List.take_of_length_le (by simp), ← Hs.out] at HRf
          obtain ⟨wE, hwE⟩ : ∃ wE, wE = wr := ⟨_, rfl⟩
          subst hwE
          have hrun := Hr.out
          have hok : s.Ok P := by rw [Hs.out]; exact Rn.Ok.run hrun.2.1 _
          have htl : s.things.length ≤ 200 := by
            have h1 := Rn.run_len hrun.2.1 (l.map Int.toNat)
            rw [← Hs.out, List.length_map] at h1
            have := hf1.out
            omega
          have hplc : s.places.length = s.things.length := hok.lp
          have hvl : s.vars.length = P.vars.length := hok.lv
          have hpll : ∀ i, s.pl.getD i 0 ≤ 9223372036854775807 := getD_le (by omega) (fun x hx => by
            rw [Hs.out, Rn.run_pl] at hx
            have := newOf_mem hrun.2.2.2 x hx
            have := Hfew.out
            omega)
          have hx59 : Ext w5 wE := Hx.out.trans Hx2.out
          have HXr := hid hx59
          have HS := fun w1 (x : Ext wE w1) => hid (samestate_any s w1 W4.heap.size sb sb (.slice s1A s.vars.length d1A) (.slice s2A s.things.length d2A) (.slice s3A s.places.length d3A) vv tv pv (HR5.out.ext (hx59.trans x)) (HRf.out.ext x) (by have := Hfew.out; omega) (by omega) (by omega) hpll)
          have HO1 := fun kd n w1 (x : Ext wE w1) => hid (runobject_any b1 b2 b3 d1 d2 d3 P kd n s w1 W4.heap.size (.slice s1A s.vars.length d1A) (.slice s2A s.things.length d2A) (.slice s3A s.places.length d3A) ad (HE.out.ext (HX5.out.trans (hx59.trans x))) (HR5.out.ext (hx59.trans x)) (HP4.out.ext (HA5.out.ext.trans (hx59.trans x))) hz1 hz2 ⟨hrun.1, hrun.2.1⟩ (by omega))
          have HO2 := fun kd n w1 (x : Ext wE w1) => hid (robject_any a1 a2 a3 c1 c2 c3 P kd n s w1 sb sb vv tv pv (HRf.out.ext x) (HPB.out.ext (Hx2.out.trans x)) (by have := Hfew.out; omega) (by have := Hfew.out; omega) (by have := Hfew.out; omega) (by omega))
          unfold pval at HO1 HO2
          have s0 := (HA5.out.blk.ext hx59).kc (X := fun _ => False) (fun e => e) 0 rfl
          have s1 := (HA5.out.blk.ext hx59).kc (X := fun _ => False) (fun e => e) 1 rfl
          have s2 := (HA5.out.blk.ext hx59).kc (X := fun _ => False) (fun e => e) 2 rfl
          have p0 := (HBp5.out.ext hx59).kc (X := fun _ => False) (fun e => e) 0 rfl
          have p1 := (HBp5.out.ext hx59).kc (X := fun _ => False) (fun e => e) 1 rfl
          have p2 := (HBp5.out.ext hx59).kc (X := fun _ => False) (fun e => e) 2 rfl
          have q0 := (HB85.out.ext hx59).kc (X := fun _ => False) (fun e => e) 0 rfl
          have q1 := (HB85.out.ext hx59).kc (X := fun _ => False) (fun e => e) 1 rfl
          have q2 := (HB85.out.ext hx59).kc (X := fun _ => False) (fun e => e) 2 rfl
          simp only [pcells, List.getElem_toArray, List.getElem_cons_zero, List.getElem_cons_succ] at s0 s1 s2 p0 p1 p2 q0 q1 q2
          obtain ⟨v9, e9, hvv⟩ := row_form HRf.out.vars
          subst hvv
          have Hvn := hid (show s.vars.length ≤ 40 by have := Hfew.out; omega)
          have hvn := Hvn.out
          obtain ⟨ov, hov⟩ : ∃ ov, ov = P.objV s.pl kd.toList n := ⟨_, rfl⟩
          have HO1a := HO1 kd n
          have HO2a := HO2 kd n
          rw [← hov] at HO1a HO2a
          clear hrun hok htl hplc hvl hpll hx59 hov
          go_wp2
          refine wp_flowT (fun _ => False) (by kernel_rfl) (by kernel_rfl) ?_
          repeat (apply FlowT.d; (intro w1 hk; unfold does; go_simp; (try go_ints); (first | exact DetR.mk | (simp only [↓IntWalk.iteOmega, Oper.doesUpon_value]; exact DetR.mk) | (simp only [↓IntWalk.iteOmega]; go_simp; (try go_ints); exact DetR.mk))); simp only [Act.put, List.setIfInBounds_toArray, List.set_cons_zero, List.set_cons_succ])
          apply FlowT.d
          · intro w1 hk
            unfold does
            go_simp
            exact CallR.det ((HS w1 hk.ext).out)
          simp only [Act.put, List.setIfInBounds_toArray, List.set_cons_zero, List.set_cons_succ]
          repeat (apply FlowT.d; (intro w1 hk; unfold does; go_simp; (try go_ints); (first | exact DetR.mk | (simp only [↓IntWalk.iteOmega, Oper.doesUpon_value]; exact DetR.mk) | (simp only [↓IntWalk.iteOmega]; go_simp; (try go_ints); exact DetR.mk))); simp only [Act.put, List.setIfInBounds_toArray, List.set_cons_zero, List.set_cons_succ])
          apply FlowT.d
          · intro w1 hk
            unfold does
            go_simp
            exact CallR.det ((HO1a w1 hk.ext).out)
          simp only [Act.put, List.setIfInBounds_toArray, List.set_cons_zero, List.set_cons_succ]
          repeat (apply FlowT.d; (intro w1 hk; unfold does; go_simp; (try go_ints); (first | exact DetR.mk | (simp only [↓IntWalk.iteOmega, Oper.doesUpon_value]; exact DetR.mk) | (simp only [↓IntWalk.iteOmega]; go_simp; (try go_ints); exact DetR.mk))); simp only [Act.put, List.setIfInBounds_toArray, List.set_cons_zero, List.set_cons_succ])
          apply FlowT.d
          · intro w1 hk
            unfold does
            go_simp
            exact CallR.det ((HO2a w1 hk.ext).out)
          simp only [Act.put, List.setIfInBounds_toArray, List.set_cons_zero, List.set_cons_succ]
          repeat (apply FlowT.d; (intro w1 hk; unfold does; go_simp; (try go_ints); (first | exact DetR.mk | (simp only [↓IntWalk.iteOmega, Oper.doesUpon_value]; exact DetR.mk) | (simp only [↓IntWalk.iteOmega]; go_simp; (try go_ints); exact DetR.mk))); simp only [Act.put, List.setIfInBounds_toArray, List.set_cons_zero, List.set_cons_succ])
          refine FlowT.fin fun w9 hx9 hk9 => ?_
          have Hx9 := hid hx9
          clear hx9 hk9 s0 s1 s2 p0 p1 p2 q0 q1 q2 HS HO1a HO2a
          go_wp2
          go_loopw [17] (fun t17 wr => ∃ i : Nat, t17 = .int .i64 (i : Int) ∧ i ≤ s.vars.length ∧ Ext wE wr) (fun t17 _ => s.vars.length - (intOf t17).toNat)
          case atStart => exact ⟨0, rfl, Nat.zero_le _, Hx9.out⟩
          case round =>
            obtain ⟨i, rfl, hi, hx⟩ := hrel
            have Hxz := hid hx
            have Xz := hid (HXr.out.trans hx)
            clear hx
            by_cases hlt : i < s.vars.length
            · obtain ⟨g, cp, e1⟩ := own_some HR5.out.vars (by omega)
              obtain ⟨g2, cp2, e2⟩ := own_some HRf.out.vars (by omega)
              simp only [Value.slice.injEq, true_and] at e1 e2
              obtain ⟨rfl, rfl⟩ := e1
              obtain ⟨rfl, rfl⟩ := e2
              have hu := at_some hlt
              obtain ⟨r0, r1⟩ := own_v (own_ext HR5.out.vars Xz.out) hu
              obtain ⟨y0, y1⟩ := own_v (own_ext HRf.out.vars Hxz.out) hu
              generalize (s.vars.getD i .none).kind = uk at *
              generalize (s.vars.getD i .none).num = un at *
              have s0 := (HA5.out.blk.ext Xz.out).kc (X := fun _ => False) (fun e => e) 0 rfl
              have s1 := (HA5.out.blk.ext Xz.out).kc (X := fun _ => False) (fun e => e) 1 rfl
              have s2 := (HA5.out.blk.ext Xz.out).kc (X := fun _ => False) (fun e => e) 2 rfl
              have p0 := (HBp5.out.ext Xz.out).kc (X := fun _ => False) (fun e => e) 0 rfl
              have p1 := (HBp5.out.ext Xz.out).kc (X := fun _ => False) (fun e => e) 1 rfl
              have p2 := (HBp5.out.ext Xz.out).kc (X := fun _ => False) (fun e => e) 2 rfl
              have q0 := (HB85.out.ext Xz.out).kc (X := fun _ => False) (fun e => e) 0 rfl
              have q1 := (HB85.out.ext Xz.out).kc (X := fun _ => False) (fun e => e) 1 rfl
              have q2 := (HB85.out.ext Xz.out).kc (X := fun _ => False) (fun e => e) 2 rfl
              simp only [pcells, List.getElem_toArray, List.getElem_cons_zero, List.getElem_cons_succ] at s0 s1 s2 p0 p1 p2 q0 q1 q2
              have f0 := (HRf.out.blk.ext Hxz.out).kc (X := fun _ => False) (fun e => e) 0 rfl
              simp only [List.getElem_toArray, List.getElem_cons_zero, List.getElem_cons_succ] at f0
              have u0 : ∀ w1, Keep (fun _ => False) wr w1 → w1.cell? ⟨g, i * 2, none⟩ = some (.string uk) := fun w1 k => k.ext.cellx r0
              have u1 : ∀ w1, Keep (fun _ => False) wr w1 → w1.cell? ⟨g, i * 2 + 1, none⟩ = some (.int .i64 (un : Int)) := fun w1 k => k.ext.cellx r1
              have v0 : ∀ w1, Keep (fun _ => False) wr w1 → w1.cell? ⟨g2, i * 2, none⟩ = some (.string uk) := fun w1 k => k.ext.cellx y0
              have v1 : ∀ w1, Keep (fun _ => False) wr w1 → w1.cell? ⟨g2, i * 2 + 1, none⟩ = some (.int .i64 (un : Int)) := fun w1 k => k.ext.cellx y1
              obtain ⟨ov2, hov⟩ : ∃ ov, ov = P.objV s.pl uk.toList un := ⟨_, rfl⟩
              have HO1a := fun w1 (x : Ext wr w1) => HO1 uk un w1 (Hxz.out.trans x)
              have HO2a := fun w1 (x : Ext wr w1) => HO2 uk un w1 (Hxz.out.trans x)
              rw [← hov] at HO1a HO2a
              have t0 := (HA5.out.blk.ext Xz.out).av 0 rfl
              simp only [List.getElem_toArray, List.getElem_cons_zero, List.getElem_cons_succ] at t0
              clear hu r0 r1 y0 y1 hov
              go_wp2
              clear t0
              refine wp_flowT (fun _ => False) (by kernel_rfl) (by kernel_rfl) ?_
              repeat (apply FlowT.d; (intro w1 hk; unfold does; go_simp; (try go_ints); (first | exact DetR.mk | (simp only [↓IntWalk.iteOmega, Oper.doesUpon_value]; exact DetR.mk) | (simp only [↓IntWalk.iteOmega]; go_simp; (try go_ints); exact DetR.mk))); simp only [Act.put, List.setIfInBounds_toArray, List.set_cons_zero, List.set_cons_succ])
              apply FlowT.d
              · intro w1 hk
                unfold does
                go_simp
                exact CallR.det ((HO1a w1 hk.ext).out)
              simp only [Act.put, List.setIfInBounds_toArray, List.set_cons_zero, List.set_cons_succ]
              repeat (apply FlowT.d; (intro w1 hk; unfold does; go_simp; (try go_ints); (first | exact DetR.mk | (simp only [↓IntWalk.iteOmega, Oper.doesUpon_value]; exact DetR.mk) | (simp only [↓IntWalk.iteOmega]; go_simp; (try go_ints); exact DetR.mk))); simp only [Act.put, List.setIfInBounds_toArray, List.set_cons_zero, List.set_cons_succ])
              apply FlowT.d
              · intro w1 hk
                unfold does
                go_simp
                exact CallR.det ((HO2a w1 hk.ext).out)
              simp only [Act.put, List.setIfInBounds_toArray, List.set_cons_zero, List.set_cons_succ]
              repeat (apply FlowT.d; (intro w1 hk; unfold does; go_simp; (try go_ints); (first | exact DetR.mk | (simp only [↓IntWalk.iteOmega, Oper.doesUpon_value]; exact DetR.mk) | (simp only [↓IntWalk.iteOmega]; go_simp; (try go_ints); exact DetR.mk))); simp only [Act.put, List.setIfInBounds_toArray, List.set_cons_zero, List.set_cons_succ])
              refine FlowT.fin fun wy hxy hky => ?_
              have Hxy := hid (Hxz.out.trans hky.ext)
              clear hxy hky s0 s1 s2 p0 p1 p2 q0 q1 q2 f0 u0 u1 v0 v1 HO1a HO2a
              go_wp2
              go_roundw
              case rel => exact ⟨i + 1, by go_num, by omega, Hxy.out⟩
              case measure => simp [intOf]; omega
            · obtain rfl : i = s.vars.length := by omega
              have t0 := (HA5.out.blk.ext Xz.out).av 0 rfl
              simp only [List.getElem_toArray, List.getElem_cons_zero, List.getElem_cons_succ] at t0
              go_wp2
              go_ret
              exact ⟨rfl, HX5.out.trans Xz.out⟩
set_option maxRecDepth 100000 in
/-- The law, of any arguments. -/
theorem rundoes_any (a1 a2 a3 : Option Addr) (c1 c2 c3 : Nat) (P : PP) (va : Value) (l : List Int) (kd : ByteArray) (n : Int) (w : World) (ad : Nat → Addr) (hE : ErrsP w ad) (hA : AllErrs w ad) (hP : ProgR w w.heap.size (.slice a1 P.vars.length c1) (.slice a2 P.funs.length c2) (.slice a3 P.stmts.length c3) P) (hI : IntsR w w.heap.size va l) (hks : kd.size ≤ 9223372036854775807) :
    Calls Tryz.prog 3 #[pval a1 a2 a3 c1 c2 c3 P, va, .string kd, .int .i64 n] w fun e w' => e = .returned (.bool true) ∧ Ext w w' := by
  by_cases hf : 20 < kd.size ∨ 200 < l.length
  · exact rundoes_far a1 a2 a3 c1 c2 c3 P va l kd n w ad hE hA hP hI hks (hid hf)
  · by_cases hr : P.Runs l
    · exact rundoes_yes a1 a2 a3 c1 c2 c3 P va l kd n w ad hE hA hP hI hks (hid (by omega)) (hid (by omega)) (hid hr)
    · exact rundoes_no a1 a2 a3 c1 c2 c3 P va l kd n w ad hE hA hP hI hks (hid (by omega)) (hid (by omega)) (hid hr)
end Go.Proofs.YtkabgmohgjljkaaGreatDoor
