/- Texts of one proof, put together: ZZYq. -/
import Derived.Test.YtbagppdibncfdaaGreatDoorHHN18
import Derived.Test.YtbagppdibncfdaaGreatDoorHHN01
set_option linter.unusedSimpArgs false
set_option linter.unusedVariables false
namespace Go.Proofs.YtbagppdibncfdaaGreatDoor
open Go Go.RowKit
theorem IsInt.back {w w' : World} {b : Nat} (h : IsInt w' b) (x : Ext w w') (hb : b < w.heap.size) : IsInt w b := by
  obtain ⟨c, z, hz⟩ := h
  obtain ⟨o, ho⟩ : ∃ o, w.heap[b]? = some o := ⟨_, Array.getElem?_eq_getElem hb⟩
  have := (Ext.get x ho).symm.trans hz
  exact ⟨c, z, ho.trans this⟩
def NewV (w0 : World) (v : Value) (w : World) : Prop := ∃ m, v = .map (some m) ∧ NewM w0 m w
theorem NewV.ext {w0 w w' : World} {v : Value} (h : NewV w0 v w) (x : Ext w w') : NewV w0 v w' := by
  obtain ⟨m, h1, h2⟩ := h
  exact ⟨m, h1, h2.ext x⟩
theorem NewV.made {w0 w : World} (h : Ext w0 w) : NewV w0 (.map (some w.heap.size)) (w.alloc (.map #[] 0)) := ⟨_, rfl, NewM.made h⟩
def NewVV (w0 : World) (u v : Value) (w : World) : Prop := ∃ m1 m2, u = .map (some m1) ∧ v = .map (some m2) ∧ m1 ≠ m2 ∧ NewM w0 m1 w ∧ NewM w0 m2 w
theorem NewVV.ext {w0 w w' : World} {u v : Value} (h : NewVV w0 u v w) (x : Ext w w') : NewVV w0 u v w' := by
  obtain ⟨m1, m2, h1, h2, h3, h4, h5⟩ := h
  exact ⟨m1, m2, h1, h2, h3, h4.ext x, h5.ext x⟩
theorem NewV.two {w0 w : World} {u : Value} (h : NewV w0 u w) (x : Ext w0 w) : NewVV w0 u (.map (some w.heap.size)) (w.alloc (.map #[] 0)) ∧ NewVV w0 (.map (some w.heap.size)) u (w.alloc (.map #[] 0)) := by
  obtain ⟨m, rfl, hM⟩ := h
  have hlt := hM.1.lt
  exact ⟨⟨m, _, rfl, rfl, by omega, hM.ext ((Ext.refl _).alloc _), NewM.made x⟩, ⟨_, m, rfl, rfl, by omega, NewM.made x, hM.ext ((Ext.refl _).alloc _)⟩⟩
def NewBox (w0 : World) (m1 m2 : Nat) (cs : Array Value) (v : Value) (w : World) : Prop := ∃ g, v = .pointer (some ⟨g, 0, none⟩) ∧ Blk w g cs 121 ∧ w0.heap.size ≤ g ∧ NewM w0 m1 w ∧ NewM w0 m2 w ∧ Ext w0 w
theorem NewBox.ext {w0 w w' : World} {m1 m2 : Nat} {cs : Array Value} {v : Value} (h : NewBox w0 m1 m2 cs v w) (x : Ext w w') : NewBox w0 m1 m2 cs v w' := by
  obtain ⟨g, h1, h2, h3, h4, h5, h6⟩ := h
  exact ⟨g, h1, h2.ext x, h3, h4.ext x, h5.ext x, h6.trans x⟩
theorem NewBox.made {w0 w : World} {m1 m2 : Nat} (h : Ext w0 w) (h1 : NewM w0 m1 w) (h2 : NewM w0 m2 w) (cs : Array Value) : NewBox w0 m1 m2 cs (.pointer (some ⟨w.heap.size, 0, none⟩)) (w.alloc (.cells cs 121)) :=
  ⟨_, rfl, Blk.new _ _ _, h.size, h1.ext ((Ext.refl _).alloc _), h2.ext ((Ext.refl _).alloc _), h.alloc _⟩
def NewSh (P : PP) (me kk : Nat) (w w' : World) (e : Ending) : Prop :=
  ∃ (g : Nat) (c : SC) (G F : Nat → Prop) (u : Value) (t : SH) (os : List N2), e = .returned (.tuple #[.pointer (some ⟨g, 0, none⟩), u, .nilIface]) ∧ c.P = P ∧ c.me = me ∧ c.k = kk ∧ Runs P (me : Nat) (kk : Nat) (SH.start P (me : Nat) (kk : Nat)) t ∧ t.todo = [] ∧ ShAt w' G F g c { t with out := [] } ∧ NotesR w' F u t.out os ∧ (∀ b, b < w.heap.size → F b) ∧ (∀ b, IsInt w' b → F b) ∧ (∀ b, G b → IsInt w b ∨ w.heap.size ≤ b) ∧ Ext w w'
set_option maxRecDepth 100000 in
set_option maxHeartbeats 12800000 in
theorem shardnew_yes (a1 a2 a3 : Option Addr) (c1 c2 c3 : Nat) (P : PP) (me kk : Nat) (w : World) (n0 : Nat) (ad : Nat → Addr) (h : PW w n0 ad a1 a2 a3 c1 c2 c3 P) (hn0 : n0 ≤ w.heap.size) (hm : me < kk ∧ kk ≤ 6) :
    Calls Tryz.prog 27 #[pval a1 a2 a3 c1 c2 c3 P, .int .i64 (me : Int), .int .i64 (kk : Int)] w fun e w' => NewSh P me kk w w' e := by
  obtain ⟨hf1, hf2, hf3⟩ := h.well.few
  obtain ⟨hnn, hoo⟩ := h.well.nodes
  obtain ⟨W, hW⟩ : ∃ W, W = w.alloc (.cells (pcells a1 a2 a3 c1 c2 c3 P) 26) := ⟨_, rfl⟩
  have HX : Hid (Ext w W) := hid (by rw [hW]; exact (Ext.refl _).alloc _)
  have HBx : Hid (Blk W w.heap.size (pcells a1 a2 a3 c1 c2 c3 P) 26) := hid (by rw [hW]; exact Blk.new _ _ _)
  have HWe : Hid (W = w.alloc (.cells #[.slice a1 P.vars.length c1, .slice a2 P.funs.length c2, .slice a3 P.stmts.length c3] 26)) := hid (by rw [hW]; rfl)
  have HPW := hid (h.ext HX.out)
  have Hwl := hid h.well
  have HC := hid (consof_yes a1 a2 a3 c1 c2 c3 P W n0 ad HPW.out)
  have Hn0 := hid (Nat.le_trans hn0 HX.out.size)
  have d0 := HBx.out.av 0 rfl
  have d1 := HBx.out.av 1 rfl
  have d2 := HBx.out.av 2 rfl
  simp only [pcells, qA0, qA1, qA2] at d0 d1 d2
  rw [HWe.out] at d0 d1 d2
  have Hm := hid hm
  have i1 : decide ((kk : Int) < 1) = false := decide_eq_false (by omega)
  have i2 : decide ((6 : Int) < (kk : Int)) = false := decide_eq_false (by omega)
  have i3 : decide ((me : Int) < 0) = false := decide_eq_false (by omega)
  have i4 : decide ((kk : Int) ≤ (me : Int)) = false := decide_eq_false (by omega)
  have j1 : (kk = 0) = False := by simp; omega
  have j2 : (6 < kk) = False := by simp; omega
  have j3 : (kk ≤ me) = False := by simp; omega
  have j4 : ((kk : Int) < 1) = False := by simp; omega
  have j5 : ((6 : Int) < (kk : Int)) = False := by simp; omega
  unfold pval at HC ⊢
  clear hW h hn0 hm
  go_enter Tryz.func27, Tryz.ntmps27
  go_wp2_with fail
  rw [← HWe.out]
  refine HC.out.mono ?_
  intro e w1 hx
  obtain ⟨v, rs, rfl, hi, hx1⟩ := hx
  obtain ⟨av, cv, rfl⟩ := row_form hi.row
  have HI := hid hi
  have Hx1 := hid hx1
  clear HC hi hx1 d0 d1 d2
  have d0 := (HBx.out.ext Hx1.out).kc (X := fun _ => False) (fun e => e) 0 rfl
  have d1 := (HBx.out.ext Hx1.out).kc (X := fun _ => False) (fun e => e) 1 rfl
  have d2 := (HBx.out.ext Hx1.out).kc (X := fun _ => False) (fun e => e) 2 rfl
  simp only [pcells, qA0, qA1, qA2] at d0 d1 d2
  have HNo := fun w3 (x : Ext w1 w3) => hid (prognodes_any a1 a2 a3 c1 c2 c3 P w3 n0 ad (HPW.out.ext (Hx1.out.trans x)).errs (HPW.out.ext (Hx1.out.trans x)).prog HPW.out.z1 HPW.out.z2 HPW.out.well)
  have HOb := fun w3 (x : Ext w1 w3) => hid (progobjects_any a1 a2 a3 c1 c2 c3 P w3 n0 ad (HPW.out.ext (Hx1.out.trans x)))
  unfold pval at HNo HOb
  have hmm := @run_makeMap Tryz.prog
  go_wp2
  refine wp_flow (fun _ => False) (by kernel_rfl) (by kernel_rfl) ?_
  apply Flow.d 0 _ rfl (by simp) (by kernel_rfl)
  · intro w1 hk; unfold does; go_simp; (try go_ints); exact DetR.mk
  simp only [qA0, qA1, qA2, Act.put, qS0, qS1, qS2]
  apply Flow.d 1 _ rfl (by simp) (by kernel_rfl)
  · intro w1 hk; unfold does; go_simp; (try go_ints); exact DetR.mk
  simp only [qA0, qA1, qA2, Act.put, qS0, qS1, qS2]
  apply Flow.d 2 _ rfl (by simp) (by kernel_rfl)
  · intro w1 hk; unfold does; go_simp; (try go_ints); exact DetR.mk
  simp only [qA0, qA1, qA2, Act.put, qS0, qS1, qS2]
  apply Flow.d 3 _ rfl (by simp) (by kernel_rfl)
  · intro w1 hk; unfold does; go_simp; (try go_ints); exact DetR.mk
  simp only [qA0, qA1, qA2, Act.put, qS0, qS1, qS2]
  apply Flow.d 4 _ rfl (by simp) (by kernel_rfl)
  · intro w1 hk; unfold does; go_simp; (try go_ints); exact DetR.mk
  simp only [qA0, qA1, qA2, Act.put, qS0, qS1, qS2]
  apply Flow.d 5 _ rfl (by simp) (by kernel_rfl)
  · intro w3 hk
    unfold does
    go_simp
    exact CallR.det (HNo w3 hk.ext).out
  simp only [qA0, qA1, qA2, Act.put, qS0, qS1, qS2]
  apply Flow.d 6 _ rfl (by simp) (by kernel_rfl)
  · intro w1 hk; unfold does; go_simp; (try go_ints); exact DetR.mk
  simp only [qA0, qA1, qA2, Act.put, qS0, qS1, qS2]
  apply Flow.d 7 _ rfl (by simp) (by kernel_rfl)
  · intro w3 hk
    unfold does
    go_simp
    exact CallR.det (HOb w3 hk.ext).out
  simp only [qA0, qA1, qA2, Act.put, qS0, qS1, qS2]
  refine Flow.par2j 8 9 _ _ rfl rfl (by decide) (fun _ _ h => by cases h) (fun _ _ h => by cases h) (by kernel_rfl) (by kernel_rfl) (by kernel_rfl) (by kernel_rfl)
    (NewV w1) (NewV w1) (NewVV w1) (fun _ _ h x => h.trans x) (fun _ _ _ h x => h.ext x) (fun _ _ _ h x => h.ext x) (fun _ _ _ _ h x => h.ext x) ?_ ?_ ?_ ?_ ?_
  · intro w3 hC hk
    unfold does
    go_simp
    exact ⟨(Ext.refl _).alloc _, NewV.made hC⟩
  · intro w3 hC hk
    unfold does
    go_simp
    exact ⟨(Ext.refl _).alloc _, NewV.made hC⟩
  · intro vi w3 hC hA hk
    unfold does
    go_simp
    exact ⟨(Ext.refl _).alloc _, (hA.two hC).1⟩
  · intro vi w3 hC hA hk
    unfold does
    go_simp
    exact ⟨(Ext.refl _).alloc _, (hA.two hC).2⟩
  rintro _ _ ⟨_, m1, m2, rfl, rfl, hm12, _⟩
  simp only [qA0, qA1, qA2, Act.put, qS0, qS1, qS2]
  apply Flow.d 10 _ rfl (by simp) (by kernel_rfl)
  · intro w1 hk; unfold does; go_simp; (try go_ints); exact DetR.mk
  simp only [qA0, qA1, qA2, Act.put, qS0, qS1, qS2]
  refine Flow.one 11 _ rfl (by kernel_rfl) (NewBox w1 m1 m2 #[.slice a1 P.vars.length c1, .slice a2 P.funs.length c2, .slice a3 P.stmts.length c3, .slice av P.rulesV.length cv, .int .i64 (me : Int), .int .i64 (kk : Int), .int .i64 (P.nodesV : Int), .int .i64 (P.objectsV : Int), .map (some m1), .map (some m2), .slice none 0 0, .slice none 0 0]) (fun _ _ _ h y => h.ext y) (fun w3 hC hk => ?_) ?_
  · obtain ⟨hx3, m1', m2', e1, e2, _, hM1, hM2⟩ := hC
    simp only [Value.map.injEq, Option.some.injEq] at e1 e2
    subst e1
    subst e2
    unfold does
    go_simp
    exact ⟨hk.alloc _, NewBox.made hx3 hM1 hM2 _⟩
  rintro _ ⟨_, g, rfl, _⟩
  simp only [qA0, qA1, qA2, Act.put, qS0, qS1, qS2]
  apply Flow.d 12 _ rfl (by simp) (by kernel_rfl)
  · intro w1 hk; unfold does; go_simp; (try go_ints); exact DetR.mk
  simp only [qA0, qA1, qA2, Act.put, qS0, qS1, qS2]
  refine Flow.fin (by kernel_rfl) fun w4 hC4 hk4 => ?_
  obtain ⟨g', eg, hB4, hg4, hM1, hM2, hx4⟩ := hC4
  simp only [Value.pointer.injEq, Option.some.injEq, Addr.mk.injEq, and_true] at eg
  subst eg
  have f1 := hB4.free 1
  have hgw : g ≠ w.heap.size := by
    have := HBx.out.lt
    have := Hx1.out.size
    omega
  obtain ⟨W4, hW4⟩ : ∃ W4, W4 = w4.setCell ⟨g, 1, none⟩ (.slice none 0 0) := ⟨_, rfl⟩
  have kW4 : Keep (fun q => q = g) w4 W4 := by rw [hW4]; exact (Keep.refl (fun q => q = g) w4).set rfl _
  have HMk : Hid (MkS w1 W4 g m1 m2 (fun vf => shCells ⟨P, me, kk, .slice a1 P.vars.length c1, vf, .slice a3 P.stmts.length c3, .slice av P.rulesV.length cv, rs⟩ m1 m2 (.slice none 0 0) (.slice none 0 0)) (.slice none 0 0) []) := hid ⟨Keep.new hx4 kW4 fun b hb => hb ▸ hg4, (by
    have := hB4.set 1 (.slice none 0 0)
    rw [← hW4] at this
    exact this), hM1.keep kW4 (fun e => hM1.1.ne hB4 e.symm), hM2.keep kW4 (fun e => hM2.1.ne hB4 e.symm), hg4, hm12, World.ownsRow_nil _ _ _ _, fun _ h => (by cases h)⟩
  have e1 := ((HBx.out.ext (Hx1.out.trans hx4)).keep kW4 hgw.symm).av 1 rfl
  have b1 := hB4.av 1 rfl
  simp only [pcells, qA0, qA1, qA2] at e1 b1
  rw [hW4] at e1
  have HW4 := hid hW4
  clear d0 d1 d2 hB4 hM1 hM2 hx4 hk4 HNo HOb hmm hW4 kW4 hgw hg4 i1 i2 i3 i4 j1 j2 j3 j4 j5
  go_wp2
  rw [← HW4.out]
  go_loopw [59] (fun t59 wr => ∃ (k : Nat) (vf : Value) (fs : List F2), t59 = .int .i64 (k : Int) ∧ k ≤ P.funs.length ∧ fs.length = k ∧ fs.map F2.f = P.funs.take k ∧ MkS w1 wr g m1 m2 (fun vf => shCells ⟨P, me, kk, .slice a1 P.vars.length c1, vf, .slice a3 P.stmts.length c3, .slice av P.rulesV.length cv, rs⟩ m1 m2 (.slice none 0 0) (.slice none 0 0)) vf fs) (fun t59 _ => P.funs.length - (intOf t59).toNat)
  case atStart => exact ⟨0, _, [], rfl, Nat.zero_le _, rfl, by simp, HMk.out⟩
  case round =>
    clear HMk e1 b1 f1
    obtain ⟨k, vf, fs, rfl, hk, hfl, hfm, hMk⟩ := hrel
    have HMk := hid hMk
    have Hfm := hid hfm
    clear hMk hfm
    by_cases hlt : k < P.funs.length
    ·
      obtain ⟨y, f, av2, cv2, rfl, hq, e0, e1, e2, hI⟩ := (HPW.out.ext (Hx1.out.trans HMk.out.ext)).prog.funs.at hlt
      have hpf := (PP.goodF (PP.funs_ok Hwl.out.1) (List.mem_of_getElem? hq)).few
      obtain ⟨fa, fc, hfv⟩ := row_form HMk.out.funs
      rw [hfl] at hfv
      subst hfv
      obtain ⟨W5, hW5⟩ : ∃ W5, W5 = wr.alloc (.cells #[.string f.name, .slice av2 f.params.length cv2, .int .i64 f.ret] 79) := ⟨_, rfl⟩
      have hx5 : Ext wr W5 := by rw [hW5]; exact (Ext.refl _).alloc _
      have HB5 : Hid (Blk W5 wr.heap.size #[.string f.name, .slice av2 f.params.length cv2, .int .i64 f.ret] 79) := hid (by rw [hW5]; exact Blk.new _ _ _)
      have HN := hid (clone_big _ f.params W5 n0 (hI.old (hx5.old _)) (by omega))
      have Hnx : Hid (∀ v, (fs ++ [(⟨f, v⟩ : F2)]).map F2.f = P.funs.take (k + 1)) := hid fun v => by
        rw [List.map_append, Hfm.out, List.take_add_one, hq]; rfl
      have Hx5 := hid hx5
      have HW5 := hid hW5
      have Hfl := hid hfl
      have y1 := HB5.out.av 1 rfl
      simp only [qA0, qA1, qA2] at y1
      rw [hW5] at y1
      clear hq hI hfl hx5 hW5 hpf
      go_wp2_with fail
      rw [← HW5.out]
      refine HN.out.mono ?_
      intro e w6 hx
      obtain ⟨v6, rfl, hx6, hr6⟩ := hx
      obtain ⟨b6, c6, rfl⟩ := row_form hr6
      have hB6 := HB5.out.ext hx6
      have z1 := hB6.av 1 rfl
      have fz1 := hB6.free 1
      have hB7 := hB6.set 1 (.slice b6 f.params.length c6)
      obtain ⟨W7, hW7⟩ : ∃ W7, W7 = w6.setCell ⟨wr.heap.size, 1, none⟩ (.slice b6 f.params.length c6) := ⟨_, rfl⟩
      rw [← hW7] at hB7
      have k7 : Keep (fun q => q = wr.heap.size) w6 W7 := by rw [hW7]; exact Keep.set (X := fun q => q = wr.heap.size) (Keep.refl _ _) rfl _
      simp only [qS0, qS1, qS2, qA0, qA1, qA2] at z1 hB7
      have hx7 : Ext wr W7 := Keep.new (Hx5.out.trans hx6) k7 fun q e => Nat.le_of_eq e.symm
      have HM7 := hid (HMk.out.xt hx7)
      have HR7 : Hid (IRow w1.heap.size W7 (.slice b6 f.params.length c6) f.params) := hid (own_low (row_keep hr6 k7 fun b hb e => by
        have := hr6.lt hb
        rw [e] at this
        have := Hx5.out.size
        have h3 : W5.heap.size = wr.heap.size + 1 := by rw [HW5.out, heap_size_alloc]
        omega) (Nat.le_trans HMk.out.ext.size Hx5.out.size))
      have hXq : ∀ (b : Nat) (e : TypeId), (Value.slice fa k fc).ownBlock = some b → 79 ≠ e → ∀ c, ¬ Blk W7 b c e := fun _ _ hb he c' hc => by
        have h1 := HM7.out.funs
        obtain ⟨c'', hc'⟩ := own_ty h1 hb
        exact off_of hc' he ⟨_, hc⟩
      have hXw : ¬ (Value.slice fa k fc).ownBlock = some wr.heap.size := fun hb => by
        have := World.ownsRow.lt HMk.out.funs _ hb
        omega
      have q1 := HM7.out.blk.kc (X := fun q => (Value.slice fa k fc).ownBlock = some q) (fun hb => hXq _ _ hb (by decide) _ HM7.out.blk) 1 rfl
      have y0 := hB7.kc (X := fun q => (Value.slice fa k fc).ownBlock = some q) hXw 0 rfl
      have y1 := hB7.kc (X := fun q => (Value.slice fa k fc).ownBlock = some q) hXw 1 rfl
      have y2 := hB7.kc (X := fun q => (Value.slice fa k fc).ownBlock = some q) hXw 2 rfl
      simp only [shCells, qA0, qA1, qA2] at y0 y1 y2 q1
      have Hx7 := hid hx7
      have HW7 := hid hW7
      have HXq := hid hXq
      have HRo : Hid (W7.ownsRow w1.heap.size 79 3 (.slice fa k fc) k (fs.flatMap F2.cells)) := hid (by have := HM7.out.funs; rwa [Hfl.out] at this)
      clear HN hx6 hr6 hB6 hB7 k7 hx7 hW7 hXq hXw
      go_wp2
      rw [← HW7.out]
      refine wp_flowT (fun q => (Value.slice fa k fc).ownBlock = some q) (by kernel_rfl) (by kernel_rfl) ?_
      repeat (apply FlowT.d; (intro w1 hk; unfold does; go_simp; (try go_ints); (first | exact DetR.mk | (simp only [↓IntWalk.iteOmega, Oper.doesUpon_value]; exact DetR.mk) | (simp only [↓IntWalk.iteOmega]; go_simp; (try go_ints); exact DetR.mk))); simp only [Act.put, qS0, qS1, qS2])
      refine FlowT.s (fun v' w' => ∃ q, v' = .slice (some ⟨q, 0, none⟩) 1 1 ∧ Blk w' q #[.string f.name, .slice b6 f.params.length c6, .int .i64 f.ret] 79 ∧ Ext W7 w') 7 rfl (by kernel_rfl) (fun _ _ _ ⟨q, h1, h2, h3⟩ he => ⟨q, h1, h2.ext he, h3.trans he⟩) (fun w8 hC hk => ?_) ?_
      · unfold does
        go_simp
        exact ⟨hk.alloc _, _, rfl, Blk.new _ _ _, hC.alloc _⟩
      rintro _ ⟨_, q3, rfl, _, _⟩
      simp only [Act.put, qS0, qS1, qS2]
      refine FlowT.s (fun v' w' => (∃ a c, v' = .slice a (k + 1) c) ∧ w'.ownsRow w1.heap.size 79 3 v' (k + 1) (fs.flatMap F2.cells ++ F2.cells ⟨f, .slice b6 f.params.length c6⟩)) 8 rfl (by kernel_rfl) (fun _ _ _ ⟨h1, h2⟩ he => ⟨h1, own_ext h2 he⟩) (fun w8 hC hk => ?_) ?_
      · obtain ⟨q', e, hg, hE⟩ := hC
        obtain rfl : q3 = q' := by simpa using e
        exact does_append_el w1.heap.size (Nat.le_trans HM7.out.ext.size hE.size) 23 79 (.agg #[.string ⟨#[]⟩, .slice none 0 0, .int .i64 0]) 3 48 Tryz.underlying23 fun_info rfl (by omega) (by omega) rfl _ _ rfl _ _ _ rfl (own_ext HRo.out hE) q3 (F2.cells ⟨f, .slice b6 f.params.length c6⟩) rfl (by simp [F2.cells, Value.oneCell']) rfl hg (by omega) fun v' w' h1 h2 h3 => ⟨hk.trans h2, row_form h1, h1⟩
      rintro _ ⟨_, ⟨a9, c9, rfl⟩, _⟩
      simp only [Act.put, qS0, qS1, qS2]
      apply FlowT.l 9 rfl
      · intro w1; unfold does; go_simp; exact DetR.mk
      simp only [Act.put, qS0, qS1, qS2]
      repeat (apply FlowT.d; (intro w1 hk; unfold does; go_simp; (try go_ints); (first | exact DetR.mk | (simp only [↓IntWalk.iteOmega, Oper.doesUpon_value]; exact DetR.mk) | (simp only [↓IntWalk.iteOmega]; go_simp; (try go_ints); exact DetR.mk))); simp only [Act.put, qS0, qS1, qS2])
      refine FlowT.t (fun q => q = g ∨ (Value.slice fa k fc).ownBlock = some q) (fun _ w' => MkS w1 w' g m1 m2 (fun vf => shCells ⟨P, me, kk, .slice a1 P.vars.length c1, vf, .slice a3 P.stmts.length c3, .slice av P.rulesV.length cv, rs⟩ m1 m2 (.slice none 0 0) (.slice none 0 0)) (.slice a9 (k + 1) c9) (fs ++ [⟨f, .slice b6 f.params.length c6⟩])) 12 rfl (by kernel_rfl) (by kernel_rfl) (fun _ _ _ h y => h.xt y) (fun w8 hC hk => ?_) ?_
      · obtain ⟨_, hq⟩ := hC
        have q8 := q1 w8 hk
        have f8 := (HM7.out.blk.keep hk fun hb => HXq.out _ _ hb (by decide) _ HM7.out.blk).free 1
        unfold does
        go_simp
        refine ⟨(hk.mono fun _ _ h => .inr h).set (.inl rfl) _, HM7.out.push (fun _ _ => rfl) hk (by rw [Hfl.out]; exact hq) ?_⟩
        exact own_off HR7.out hk fun b hb ⟨c', hc⟩ => HXq.out _ _ hb (by decide) c' hc
      rintro _ ⟨_, _⟩
      simp only [Act.put, qS0, qS1, qS2]
      refine FlowT.fin fun w9 hR hk9 => ?_
      have HM9 := hid hR
      clear hR hk9 q1 y0 y1 y2
      go_wp2
      go_roundw
      case rel => exact ⟨k + 1, _, _, by go_num, by omega, by rw [List.length_append, Hfl.out]; rfl, Hnx.out _, HM9.out⟩
      case measure => simp [intOf]; omega
    · obtain rfl : k = P.funs.length := by omega
      rw [List.take_length] at Hfm
      have hx := HX.out.trans Hx1.out
      have hRw : RulesT wr w.heap.size (.slice av P.rulesV.length cv) P.rulesV rs := (HI.out.ext HMk.out.ext).low HX.out.size
      have hSA := HMk.out.sh (w := w) hx Hfm.out Hwl.out hRw (fun b hb => (World.ownsRow.lt HI.out.row b hb).2) Hm.out
      obtain ⟨c, hc⟩ : ∃ c, c = (⟨P, me, kk, .slice a1 P.vars.length c1, vf, .slice a3 P.stmts.length c3, .slice av P.rulesV.length cv, rs⟩ : SC) := ⟨_, rfl⟩
      rw [← hc] at hSA
      have HcR : Hid (c.vr = .slice av P.rulesV.length cv ∧ c.rs = rs ∧ c.P = P ∧ P.rulesV.length = rs.length ∧ rs.map R2.r = P.rulesV ∧ c.me = me ∧ c.k = kk) := hid ⟨by rw [hc], by rw [hc], by rw [hc], by rw [← hRw.eq, List.length_map], hRw.eq, by rw [hc], by rw [hc]⟩
      have HXwr := hid (hx.trans HMk.out.ext)
      have HGi : Hid (∀ b, (IsInt wr b ∨ (w.heap.size ≤ b ∧ b < wr.heap.size ∧ b ≠ g ∧ b ≠ m1 ∧ b ≠ m2)) → IsInt w b ∨ w.heap.size ≤ b) := hid fun b hb => by
        rcases hb with hb | hb
        · rcases Nat.lt_or_ge b w.heap.size with h1 | h1
          · exact .inl (hb.back HXwr.out h1)
          · exact .inr h1
        · exact .inr hb.1
      have HFo : Hid (∀ b, b < w.heap.size → b < wr.heap.size ∧ b ≠ g ∧ b ≠ m1 ∧ b ≠ m2) := hid fun b hb => by
        have h1 := hx.size
        have h2 := HXwr.out.size
        have h3 := HMk.out.gg
        have h4 := HMk.out.map1.2.2
        have h5 := HMk.out.map2.2.2
        omega
      have HFn : Hid (∀ b, b < wr.heap.size ∧ b ≠ g ∧ b ≠ m1 ∧ b ≠ m2 → True) := hid fun _ _ => trivial
      have HSA := hid hSA
      generalize hG : (fun b => IsInt wr b ∨ (w.heap.size ≤ b ∧ b < wr.heap.size ∧ b ≠ g ∧ b ≠ m1 ∧ b ≠ m2)) = G at HSA
      generalize hF : (fun b => b < wr.heap.size ∧ b ≠ g ∧ b ≠ m1 ∧ b ≠ m2) = F at HSA
      have HG : Hid (∀ b, G b → IsInt w b ∨ w.heap.size ≤ b) := hid fun b hb => HGi.out b (by rw [← hG] at hb; exact hb)
      have HF : Hid (∀ b, b < w.heap.size → F b) := hid fun b hb => by rw [← hF]; exact HFo.out b hb
      have hrl : P.rulesV.length ≤ 80 := by rw [rulesV_len]; exact hf3
      obtain ⟨wA, hwA⟩ : ∃ wA, wA = wr := ⟨_, rfl⟩
      rw [← hwA] at HXwr
      have HwA := hid hwA
      clear HMk Hfm hx hRw hSA hc HGi HFo HFn hG hF hwA HI HPW HBx hlt hk hfl
      go_wp2
      go_loopw [82] (fun t82 wr => ∃ j : Nat, t82 = .int .i64 (j : Int) ∧ j ≤ P.rulesV.length ∧ ShAt wr G F g c ((P.rulesV.take j).foldl (SH.begin (me : Nat) (kk : Nat)) SH.none) ∧ Keep (fun b => ¬ F b) wA wr) (fun t82 _ => P.rulesV.length - (intOf t82).toNat)
      case atStart => exact ⟨0, rfl, Nat.zero_le _, HSA.out, by rw [HwA.out]; exact Keep.refl _ _⟩
      case round =>
        clear HSA HwA
        obtain ⟨j, rfl, hj, hS9, hK9⟩ := hrel
        have HK9 := hid hK9
        clear hK9
        by_cases hlt : j < P.rulesV.length
        ·
          obtain ⟨T0, hT0⟩ : ∃ T0, T0 = (P.rulesV.take j).foldl (SH.begin (me : Nat) (kk : Nat)) SH.none := ⟨_, rfl⟩
          rw [← hT0] at hS9
          have HS9 := hid hS9
          obtain ⟨m1b, m2b, f1b, f2b, vtb, vob, tsb, osb, hh⟩ := hS9
          have hrr := hh.con.rrow
          rw [HcR.out.1, HcR.out.2.1, HcR.out.2.2.1] at hrr
          obtain ⟨gr, cr', hge⟩ := own_some hrr (by omega)
          simp only [Value.slice.injEq] at hge
          obtain ⟨rfl, -, rfl⟩ := hge
          obtain ⟨x, hxk⟩ : ∃ x, rs[j]? = some x := ⟨_, List.getElem?_eq_getElem (by rw [← HcR.out.2.2.2.1]; exact hlt)⟩
          obtain ⟨q0, q1, q2, q3, q4⟩ := own_r hrr hxk
          have hI := hh.con.rargs x (by rw [HcR.out.2.1]; exact List.mem_of_getElem? hxk)
          obtain ⟨aa, ca, hav, -⟩ := hI.form
          have hsk : P.rulesV[j]? = some x.r := by rw [← HcR.out.2.2.2.2.1, List.getElem?_map, hxk]; rfl
          obtain ⟨r, xv⟩ := x
          simp only at hav q0 q1 q2 q3 q4 hI hsk
          subst hav
          have hrm : r ∈ P.rulesV := List.mem_of_getElem? hsk
          have hra := rule_a Hwl.out hrm
          have hld : T0.load ≤ 80 := by
            rw [hT0]
            have := (begins_adds (me := (me : Nat)) (k := (kk : Nat)) Hwl.out j).load
            have h0 : SH.none.load = 0 := rfl
            omega
          have Hcp := hid (fun h => rule_copy Hwl.out hrm h)
          have Hn : Hid ((P.rulesV.take (j + 1)).foldl (SH.begin (me : Nat) (kk : Nat)) SH.none = SH.begin (me : Nat) (kk : Nat) T0 r) := hid (by rw [List.take_add_one, hsk, List.foldl_append, hT0]; rfl)
          obtain ⟨V, hV⟩ : ∃ V, V = wr.alloc (.cells #[.string r.kind, .int .i64 r.a, .int .i64 r.b, .int .i64 r.k, .slice aa r.args.length ca] 123) := ⟨_, rfl⟩
          have HVx : Hid (Ext wr V) := hid (by rw [hV]; exact (Ext.refl _).alloc _)
          have hBr : Blk V wr.heap.size #[.string r.kind, .int .i64 r.a, .int .i64 r.b, .int .i64 r.k, .slice aa r.args.length ca] 123 := by rw [hV]; exact Blk.new _ _ _
          obtain ⟨a, ha⟩ := Int.eq_ofNat_of_zero_le hra.1
          have HVe := hid hV
          have HO := hid (shardowner_any c T0 a V G F g (HS9.out.ext HVx.out) (by omega))
          rw [HcR.out.2.2.2.2.2.2] at HO
          have m1' := hBr.av 1 rfl
          simp only [qA0, qA1, qA2] at m1'
          rw [hV, ha] at m1'
          have hal : (r.args.length : Int) ≤ 9223372036854775807 := by obtain ⟨_, cap, h1, h2, h3, _⟩ := hI.form; omega
          have Hra := hid ha
          have hra1 := hid (show (a : Int) < 120 by have := hra.2; rw [ha] at this; omega)
          have Hld := hid hld
          have HBr := hid hBr
          have Hmc : Hid (r.a % ((kk : Nat) : Int) = ((a % kk : Nat) : Int)) := hid (by rw [ha, natmod])
          obtain ⟨ow, how⟩ : ∃ ow, ow = a % kk := ⟨_, rfl⟩
          rw [← how] at HO Hmc
          clear hh hrr hxk hI hsk hV hT0 hBr hra hrm hld ha how
          rw [Hra.out] at q1 HVe
          go_wp2_with fail
          rw [← HVe.out]
          refine HO.out.mono ?_
          intro z w5 hx
          obtain ⟨rfl, hx5⟩ := hx
          have HxV := hid (HVx.out.trans hx5)
          have HS5 := hid (HS9.out.ext HxV.out)
          have HB5 := hid (HBr.out.ext hx5)
          have HK5 := hid (HK9.out.ext_r HxV.out)
          clear HO hx5 m1' q0 q1 q2 q3 q4 HBr HVe HVx HS9 HK9
          have m0 := HB5.out.av 0 rfl
          have m1' := HB5.out.av 1 rfl
          have m2' := HB5.out.av 2 rfl
          simp only [qA0, qA1, qA2] at m0 m1' m2'
          rw [Hra.out] at m1'
          by_cases ho : ow = me
          · have hb : ((ow : Int) == (me : Int)) = true := by rw [ho]; simp
            have hb2 : ((ow : Int) != (me : Int)) = false := by simp only [bne, hb]; rfl
            have Hcon : Hid (r.a % ((kk : Nat) : Int) = ((me : Nat) : Int)) := hid (by rw [Hmc.out, ho])
            have hbb := eq_of_beq bBase_list
            clear ho
            cases hk1 : (r.kind.toList == [98, 97, 115, 101]) with
            | true =>
              have Hnx : Hid ((P.rulesV.take (j + 1)).foldl (SH.begin (me : Nat) (kk : Nat)) SH.none = T0.tell (me : Nat) (kk : Nat) (a : Nat) 100 [(a : Int), r.b]) := hid (by
                rw [Hn.out]
                unfold SH.begin
                rw [if_pos Hcon.out, hbb, hk1, cond_true, Hra.out])
              obtain ⟨W6, hW6⟩ : ∃ W6, W6 = w5.alloc (.cells #[.int .i64 (a : Int), .int .i64 r.b] 3) := ⟨_, rfl⟩
              have hx6 : Ext w5 W6 := by rw [hW6]; exact (Ext.refl _).alloc _
              have HX6 := hid hx6
              have HT := hid (shardtell_any c T0 a 100 [(a : Int), r.b] _ W6 G F g (HS5.out.ext hx6) (by rw [hW6]; exact irow_two w5 a r.b) (by have := hra1.out; omega) (by have := Hld.out; omega))
              rw [HcR.out.2.2.2.2.2.1, HcR.out.2.2.2.2.2.2] at HT
              have HW6 := hid hW6
              clear hW6 hx6
              go_wp2_with fail
              rw [← HW6.out]
              refine HT.out.mono ?_
              intro z w7 hx
              obtain ⟨rfl, hS6, hK6⟩ := hx
              have HS6 := hid hS6
              have HK6 := hid hK6
              clear hS6 hK6 m0 m1' m2'
              go_wp2
              go_roundw
              case rel => exact ⟨j + 1, by go_num, by omega, by rw [Hnx.out]; exact HS6.out, (HK5.out.ext_r HX6.out).trans HK6.out⟩
              case measure => simp [intOf]; omega
            | false =>
            cases hk2 : (r.kind.toList == [99, 111, 112, 121]) with
            | true =>
              obtain ⟨_, hb0, hb1⟩ := Hcp.out (eq_of_beq hk2)
              simp only at hb0 hb1
              obtain ⟨d, hd⟩ := Int.eq_ofNat_of_zero_le hb0
              rw [hd] at hb1 m2'
              have Hnx : Hid ((P.rulesV.take (j + 1)).foldl (SH.begin (me : Nat) (kk : Nat)) SH.none = T0.edge (me : Nat) (kk : Nat) ((a : Int), (d : Int))) := hid (by
                rw [Hn.out]
                unfold SH.begin kCopy
                rw [if_pos Hcon.out, hbb, hk1, cond_false, hk2, cond_true, Hra.out, hd])
              have HT := hid (shardedge_any c T0 a d w5 G F g HS5.out (by have := hra1.out; omega) (by omega) (by have := Hld.out; omega))
              rw [HcR.out.2.2.2.2.2.1, HcR.out.2.2.2.2.2.2] at HT
              clear hb0 hb1 hd
              go_wp2_with fail
              refine HT.out.mono ?_
              intro z w6 hx
              obtain ⟨rfl, hS6, hK6⟩ := hx
              have HS6 := hid hS6
              have HK6 := hid hK6
              clear hS6 hK6 m0 m1' m2'
              go_wp2
              go_roundw
              case rel => exact ⟨j + 1, by go_num, by omega, by rw [Hnx.out]; exact HS6.out, HK5.out.trans HK6.out⟩
              case measure => simp [intOf]; omega
            | false =>
              have Hnx : Hid ((P.rulesV.take (j + 1)).foldl (SH.begin (me : Nat) (kk : Nat)) SH.none = T0) := hid (by
                rw [Hn.out]
                unfold SH.begin kCopy
                rw [if_pos Hcon.out, hbb, hk1, cond_false, hk2]; rfl)
              go_wp2
              go_roundw
              case rel => exact ⟨j + 1, by go_num, by omega, by rw [Hnx.out]; exact HS5.out, HK5.out⟩
              case measure => simp [intOf]; omega
          · have hb : ((ow : Int) == (me : Int)) = false := beq_eq_false_iff_ne.2 (by omega)
            have hb2 : ((ow : Int) != (me : Int)) = true := by simp only [bne, hb]; rfl
            have Hnx : Hid ((P.rulesV.take (j + 1)).foldl (SH.begin (me : Nat) (kk : Nat)) SH.none = T0) := hid (by
              rw [Hn.out]
              unfold SH.begin
              rw [if_neg (by rw [Hmc.out]; omega)])
            clear ho
            go_wp2
            go_roundw
            case rel => exact ⟨j + 1, by go_num, by omega, by rw [Hnx.out]; exact HS5.out, HK5.out⟩
            case measure => simp [intOf]; omega
        · obtain rfl : j = P.rulesV.length := by omega
          rw [← start_take] at hS9
          obtain ⟨hso1, hso2⟩ := start_okS (me := (me : Nat)) (k := (kk : Nat)) Hwl.out
          have HWk := hid (shardwork_any c (SH.start P (me : Nat) (kk : Nat)) wr G F g hS9 (by rw [HcR.out.2.2.1, HcR.out.2.2.2.2.2.1, HcR.out.2.2.2.2.2.2]; exact hso1) (by omega))
          rw [HcR.out.2.2.1, HcR.out.2.2.2.2.2.1, HcR.out.2.2.2.2.2.2] at HWk
          clear hS9 hso1 hso2
          go_wp2_with fail
          refine HWk.out.mono ?_
          intro e w7 hx
          obtain ⟨u, t, os7, F', rfl, h1, h2, h3, h4, h5, h7, h6⟩ := hx
          have H := hid (And.intro h1 (And.intro h2 (And.intro h3 (And.intro h4 (And.intro h5 h7)))))
          have HK7 := hid (HK9.out.trans h6)
          clear HWk h1 h2 h3 h4 h5 h6 h7
          go_wp2
          go_ret3
          refine ⟨g, c, G, F', u, t, os7, rfl, HcR.out.2.2.1, HcR.out.2.2.2.2.2.1, HcR.out.2.2.2.2.2.2, H.out.1, H.out.2.1, H.out.2.2.1, H.out.2.2.2.1, fun b hb => H.out.2.2.2.2.1 b (HF.out b hb), H.out.2.2.2.2.2, HG.out, Keep.new HXwr.out HK7.out fun b hb => Nat.le_of_not_lt fun h => hb (HF.out b h)⟩
end Go.Proofs.YtbagppdibncfdaaGreatDoor
