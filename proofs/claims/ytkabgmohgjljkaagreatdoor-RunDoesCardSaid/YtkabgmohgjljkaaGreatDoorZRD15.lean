/- Texts of one proof, put together: WC. -/
import Derived.Test.YtkabgmohgjljkaaGreatDoorZRD14

/- The reference's runs: a call that is done. -/
namespace Go.Proofs.YtkabgmohgjljkaaGreatDoor
set_option linter.unusedSimpArgs false
set_option linter.unusedVariables false
open Go Go.RowKit

set_option maxRecDepth 100000 in
set_option maxHeartbeats 12800000 in
theorem rstdo_call_yes (a1 a2 a3 : Option Addr) (c1 c2 c3 : Nat) (P : PP) (k : Nat) (x : PS) (hxk : P.stmts[k]? = some x) (hg : P.Good x) (hkx : x.isK kCall = true) (hF : ∀ f ∈ P.funs, P.GoodF f) (s : Rn) (hs : s.Ok P) (w : World) (n0 sb : Nat) (vv tv pv : Value) (hR : RfAt w n0 sb vv tv pv s) (hP : ProgR w n0 (.slice a1 P.vars.length c1) (.slice a2 P.funs.length c2) (.slice a3 P.stmts.length c3) P) (hn0 : n0 ≤ w.heap.size) (hsm : s.things.length ≤ 100000) (n : Nat) (f0 : PF) (hvn : s.at x.y = .fn n) (hfk0 : P.funs[n]? = some f0) (hlen : f0.params.length = x.args.length) :
    Calls Tryz.prog 13 #[.pointer (some ⟨sb, 0, none⟩), pval a1 a2 a3 c1 c2 c3 P, .int .i64 (k : Int)] w fun e w' => e = .returned (.tuple #[]) ∧ (∃ vv' tv' pv', RfAt w' n0 sb vv' tv' pv' (s.callF x f0)) ∧ Old n0 w w' := by
  have hk : k < P.stmts.length := by
    rcases Nat.lt_or_ge k P.stmts.length with h | h
    · exact h
    · rw [List.getElem?_eq_none h] at hxk; cases hxk
  have hml := hP.stmts.len
  obtain ⟨W1, hW1⟩ : ∃ W1, W1 = w.alloc (.cells (pcells a1 a2 a3 c1 c2 c3 P) 26) := ⟨_, rfl⟩
  have hx1 : Ext w W1 := by rw [hW1]; exact (Ext.refl _).alloc _
  obtain ⟨y, x', av, cv, rfl, hxk', e0, e1, e2, e3, hI⟩ := (hP.ext hx1).stmts.at hk
  obtain rfl := Option.some.inj (hxk.symm.trans hxk')
  obtain ⟨W2, hW2⟩ : ∃ W2, W2 = W1.alloc (.cells (scells x av cv) 58) := ⟨_, rfl⟩
  have hx2 : Ext W1 W2 := by rw [hW2]; exact (Ext.refl _).alloc _
  have HW2 := hid (hx1.trans hx2)
  have HB1 : Hid (Blk W2 w.heap.size (pcells a1 a2 (some y) c1 c2 c3 P) 26) := hid (by
    have : Blk W1 w.heap.size (pcells a1 a2 (some y) c1 c2 c3 P) 26 := by rw [hW1]; exact Blk.new _ _ _
    exact this.ext hx2)
  have hs1 : W1.heap.size = w.heap.size + 1 := by rw [hW1, heap_size_alloc]
  have HB2 : Hid (Blk W2 (w.heap.size + 1) (scells x av cv) 58) := hid (by
    rw [← hs1, hW2]; exact Blk.new _ _ _)
  have HR2 := hid (hR.ext HW2.out)
  have HP2 := hid (hP.ext HW2.out)
  have HI := hid (hI.old (hx2.old n0))
  have Hs := hid hs
  have Hg := hid hg
  have HF := hid hF
  have Hn0 := hid hn0
  have hgx := hg.gx
  rw [hW1] at e0 e1 e2 e3
  have HW2e : Hid (W2 = (w.alloc (.cells #[.slice a1 P.vars.length c1, .slice a2 P.funs.length c2, .slice (some y) P.stmts.length c3] 26)).alloc (.cells #[.string x.kind, .int .i64 x.x, .int .i64 x.y, .slice av x.args.length cv] 58)) := hid (by rw [hW2, hW1]; rfl)
  unfold pcells at e0 e1 e2 e3
  obtain ⟨X, hX⟩ := Int.eq_ofNat_of_zero_le hgx.1
  have HX : Hid (X < s.vars.length) := hid (by rw [hs.lv]; omega)
  have HXe := hid hX
  have hXl := HX.out
  obtain ⟨g, cap, hvv⟩ := own_some hR.vars (by have := HX.out; omega)
  subst hvv
  have hnv : s.vars.length = P.vars.length := hs.lv
  have d0 := HR2.out.blk.kc (X := fun _ => False) (fun e => e) 0 rfl
  have d1 := HR2.out.blk.kc (X := fun _ => False) (fun e => e) 1 rfl
  have d2 := HR2.out.blk.kc (X := fun _ => False) (fun e => e) 2 rfl
  have m1 := HB2.out.kc (X := fun _ => False) (fun e => e) 1 rfl
  have m2 := HB2.out.kc (X := fun _ => False) (fun e => e) 2 rfl
  have m3 := HB2.out.kc (X := fun _ => False) (fun e => e) 3 rfl
  simp only [scells, List.getElem_toArray, List.getElem_cons_zero, List.getElem_cons_succ] at d0 d1 d2 m1 m2 m3
  rw [hX] at m1
  have hsbl := hR.blk.lt
  have Hgw := hid (World.ownsRow.lt hR.vars g rfl).2
  have Hkx := hid hkx
  have hkk := hkx
  unfold PS.isK kCall at hkk
  clear hF hxk hxk' hW1 hW2 hx1 hx2 hs1 hR hP hI hs hg hX hgx hkx hn0
  unfold pval
  have h1 : (x.kind.toList == [97, 100, 100, 114]) = false := isK_ne Hkx.out (k' := kAddr) rfl
  have h2 : (x.kind.toList == [99, 111, 112, 121]) = false := isK_ne Hkx.out (k' := kCopy) rfl
  have h3 : (x.kind.toList == [108, 111, 97, 100]) = false := isK_ne Hkx.out (k' := kLoad) rfl
  have h4 : (x.kind.toList == [115, 116, 111, 114, 101]) = false := isK_ne Hkx.out (k' := kStore) rfl
  have h5 : (x.kind.toList == [110, 101, 119]) = false := isK_ne Hkx.out (k' := kNew) rfl
  have h6 : (x.kind.toList == [102, 117, 110]) = false := isK_ne Hkx.out (k' := kFun) rfl
  have hf : x.isK kFun = false := isK_ne Hkx.out rfl
  have hn : x.isK kNew = false := isK_ne Hkx.out rfl
  have hyv := Hg.out.yv hf hn
  obtain ⟨Y, hY⟩ := Int.eq_ofNat_of_zero_le hyv.1
  have HYl : Hid (Y < s.vars.length) := hid (by rw [hnv]; omega)
  have HY := hid hY
  rw [hY] at m2
  obtain ⟨v, hv⟩ : ∃ v, v = s.vars.getD Y .none := ⟨_, rfl⟩
  have HVy := hid (at_some HYl.out)
  rw [← hv] at HVy
  have HVat : Hid (s.at x.y = v) := hid (by unfold Rn.at; rw [hY, hv]; rfl)
  clear hY hyv hv
  have v0 : ∀ w1, Keep (fun _ => False) W2 w1 → w1.cell? ⟨g, Y * 2, none⟩ = some (.string v.kind) := fun w1 k => (own_v (HR2.out.ext k.ext).vars HVy.out).1
  have v1 : ∀ w1, Keep (fun _ => False) W2 w1 → w1.cell? ⟨g, Y * 2 + 1, none⟩ = some (.int .i64 (v.num : Int)) := fun w1 k => (own_v (HR2.out.ext k.ext).vars HVy.out).2
  have hYl := HYl.out
  clear hf hn
  obtain rfl : v = .fn n := HVat.out.symm.trans hvn
  have Hlen := hid hlen
  have HFk0 := hid hfk0
  clear hlen hvn hfk0
  have hnf : n < P.funs.length := by have := Hs.out.at x.y; rw [HVat.out] at this; exact this
  simp only [Vl.kind, Vl.num] at v0 v1
  obtain ⟨yf, f, pa, pc, rfl, hfk, f0, f1, f2, hIp⟩ := HP2.out.funs.at hnf
  have HFk := hid hfk
  have HGf := hid (HF.out f (List.mem_of_getElem? hfk))
  have HIp := hid hIp
  have HF1 := hid f1
  have HF2 := hid f2
  have HF0 := hid f0
  clear hfk hIp f0 f1 f2
  go_enter Tryz.func13, Tryz.ntmps13
  go_wp2
  rw [← HW2e.out]
  refine wp_flowT (fun _ => False) (by kernel_rfl) (by kernel_rfl) ?_
  repeat (apply FlowT.d; (intro w1 hk; unfold does; go_simp; (try go_ints); (first | exact DetR.mk | (simp only [↓IntWalk.iteOmega, Oper.doesUpon_value]; exact DetR.mk) | (simp only [↓IntWalk.iteOmega]; go_simp; (try go_ints); exact DetR.mk))); simp only [Act.put, List.setIfInBounds_toArray, List.set_cons_zero, List.set_cons_succ])
  refine FlowT.s (fun t w' => ∃ b, t = .pointer (some ⟨b, 0, none⟩) ∧ Blk w' b #[.string ⟨#[]⟩, .int .i64 0] 52 ∧ Ext W2 w' ∧ (W2).heap.size ≤ b) 8 rfl (by kernel_rfl) (fun _ _ _ ⟨b, e, h1, h2, h3⟩ y => ⟨b, e, h1.ext y, h2.trans y, h3⟩) (fun w1 hC hk => ?_) (fun _ ⟨_, hb⟩ => ?_)
  · unfold does
    go_simp
    exact ⟨hk.alloc _, _, rfl, Blk.new _ _ _, hC.alloc _, hC.size⟩
  obtain ⟨b, rfl, _, _, hbs⟩ := hb
  simp only [Act.put, List.setIfInBounds_toArray, List.set_cons_zero, List.set_cons_succ]
  have Hbs := hid hbs
  clear hbs
  refine FlowT.last (fun _ w' => Blk w' b #[.string ⟨#[102, 117, 110]⟩, .int .i64 (n : Int)] 52 ∧ Ext W2 w') 9 rfl (by kernel_rfl) (by kernel_rfl) (fun w1 hC hk => ?_) (fun _ w3 hR3 => ?_)
  · obtain ⟨b', eb, hB, hx, _⟩ := hC
    obtain rfl : b = b' := by simpa using eb
    have z0 := hB.av 0 rfl
    have z1 := hB.av 1 rfl
    have f0 := hB.free 0
    have f1 := hB.free 1
    have hB3 := two (v0 := .string ⟨#[102, 117, 110]⟩) (v1 := .int .i64 (n : Int)) hB
    have hx3 := Keep.new hx (two_keep w1 b (.string ⟨#[102, 117, 110]⟩) (.int .i64 (n : Int))) fun q e => by subst e; exact Hbs.out
    clear hk eb
    unfold does
    go_simp
  obtain ⟨hB3, hx3⟩ := hR3
  simp only [Act.put, List.setIfInBounds_toArray, List.set_cons_zero, List.set_cons_succ]
  have HB3 := hid hB3
  have HR3 := hid (HR2.out.ext hx3)
  have HW3 := hid (HW2.out.trans hx3)
  have Hx3 := hid hx3
  have b0 := hB3.av 0 rfl
  have b1 := hB3.av 1 rfl
  have p1 := (HB1.out.ext hx3).av 1 rfl
  have m3 := (HB2.out.ext hx3).av 3 rfl
  simp only [pcells, scells, List.getElem_toArray, List.getElem_cons_zero, List.getElem_cons_succ] at b0 b1 p1 m3
  clear hB3 v0 v1 m2 d0 d1 d2
  have g0 := hx3.cellx HF0.out
  have g1 := hx3.cellx HF1.out
  have g2 := hx3.cellx HF2.out
  clear hx3
  obtain rfl := Option.some.inj (HFk0.out.symm.trans HFk.out)
  rw [Hlen.out] at g1 HIp
  have hlf : (x.args.length : Int) ≤ 9223372036854775807 := by have := HGf.out.few; have := Hlen.out; omega
  obtain ⟨W5, hW5⟩ : ∃ W5, W5 = w3.alloc (.cells #[.string f0.name, .slice pa x.args.length pc, .int .i64 f0.ret] 60) := ⟨_, rfl⟩
  have hx5 : Ext w3 W5 := by rw [hW5]; exact (Ext.refl _).alloc _
  have HR5 := hid (HR3.out.ext hx5)
  have HW5 := hid (HW3.out.trans hx5)
  have Hx5 := hid (Hx3.out.trans hx5)
  have HB7 : Hid (Blk W5 w3.heap.size #[.string f0.name, .slice pa x.args.length pc, .int .i64 f0.ret] 60) := hid (by rw [hW5]; exact Blk.new _ _ _)
  have HB25 := hid (HB2.out.ext Hx5.out)
  have m3' : (w3.alloc (.cells #[.string f0.name, .slice pa x.args.length pc, .int .i64 f0.ret] 60)).cell? ⟨w.heap.size + 1, 3, none⟩ = some (.slice av x.args.length cv) := ((Ext.refl _).alloc _).cellx m3
  have HW5e := hid hW5
  have hpl : (P.vars.length : Int) ≤ 9223372036854775807 := by
    obtain ⟨_, _, _, h2, h3, _⟩ := HP2.out.vars
    omega
  have HI5 := hid (HI.out.old (Hx5.out.old n0))
  have HP5 := hid (HIp.out.old (Hx5.out.old n0))
  have hgw : g < w.heap.size := Hgw.out
  have Hws : Hid (w.heap.size + 1 < W5.heap.size) := hid HB25.out.lt
  clear hx5 hW5 HB3 HR3
  go_wp2
  rw [← HW5e.out]
  clear g0 g1 g2 m3 m3' b0 b1 p1 HF0 HF1 HF2 HIp
  generalize w3.heap.size = b7 at *
  clear HW5e
  go_loopw [12, 13] (fun t12 t13 wr => ∃ k : Nat, t13 = .int .i64 (k : Int) ∧ k ≤ x.args.length ∧ Ext W5 wr ∧ wr.ownsRow W5.heap.size 52 2 t12 k (((x.args.take k).map s.at).flatMap Vl.cells)) (fun _ t13 _ => x.args.length - (intOf t13).toNat)
  case atStart => exact ⟨0, rfl, Nat.zero_le _, Ext.refl _, World.ownsRow_nil _ _ _ _⟩
  case round =>
    obtain ⟨k, rfl, hk, hx, hrow⟩ := hrel
    obtain ⟨al, cl, rfl⟩ := row_form hrow
    have Hx := hid hx
    have Hrow := hid hrow
    clear hx hrow
    have m3 := (HB25.out.ext Hx.out).av 3 rfl
    simp only [scells, List.getElem_toArray, List.getElem_cons_zero, List.getElem_cons_succ] at m3
    by_cases hlt : k < x.args.length
    · obtain ⟨ya, q, rfl, hqk, hc⟩ := (HI5.out.old (Hx.out.old n0)).at hlt
      have hqa := Hg.out.args q (List.mem_of_getElem? hqk)
      obtain ⟨A, rfl⟩ := Int.eq_ofNat_of_zero_le hqa.1
      have hAl : A < P.vars.length := by omega
      obtain ⟨u, hu⟩ : ∃ u, u = s.vars.getD A .none := ⟨_, rfl⟩
      have HUa := hid (at_some (l := s.vars) (n := A) (by omega))
      rw [← hu] at HUa
      have HRr := hid (HR5.out.ext Hx.out)
      have hw5 := Hws.out
      have hyn : ya.block < W5.heap.size := by
        obtain ⟨_, _, e, _, _, _, h5⟩ := HI5.out
        simp only [Value.slice.injEq] at e
        obtain ⟨rfl, _, _⟩ := e
        have := (h5 ya rfl (by omega)).1
        have := Hn0.out
        omega
      obtain ⟨r0, r1⟩ := own_v HRr.out.vars HUa.out
      have hcK : ∀ w1, Keep (fun q => W5.heap.size ≤ q) wr w1 → w1.cell? (ya.add k) = some (.int .i64 (A : Int)) := fun w1 k => k.cellx hc (by rw [add_block]; omega)
      have u0 : ∀ w1, Keep (fun q => W5.heap.size ≤ q) wr w1 → w1.cell? ⟨g, A * 2, none⟩ = some (.string u.kind) := fun w1 k => k.cellx r0 (by simp only; omega)
      have u1 : ∀ w1, Keep (fun q => W5.heap.size ≤ q) wr w1 → w1.cell? ⟨g, A * 2 + 1, none⟩ = some (.int .i64 (u.num : Int)) := fun w1 k => k.cellx r1 (by simp only; omega)
      have d0 := HRr.out.blk.kc (X := fun q => W5.heap.size ≤ q) (by omega) 0 rfl
      have n3 := (HB25.out.ext Hx.out).kc (X := fun q => W5.heap.size ≤ q) (by omega) 3 rfl
      simp only [scells, List.getElem_toArray, List.getElem_cons_zero, List.getElem_cons_succ] at d0 n3
      have Htk : Hid ((x.args.take (k + 1)).map s.at = (x.args.take k).map s.at ++ [u]) := hid (by
        rw [List.take_add_one, hqk, List.map_append, hu]; rfl)
      have Hol : Hid (k ≤ 1000000) := hid (by have := HGf.out.few; have := Hlen.out; omega)
      clear hqk hqa hu hc r0 r1 hyn hw5
      go_wp2
      refine wp_flowT (fun q => W5.heap.size ≤ q) (by kernel_rfl) (by kernel_rfl) ?_
      repeat (apply FlowT.d; (intro w1 hk; unfold does; go_simp; (try go_ints); (first | exact DetR.mk | (simp only [↓IntWalk.iteOmega, Oper.doesUpon_value]; exact DetR.mk) | (simp only [↓IntWalk.iteOmega]; go_simp; (try go_ints); exact DetR.mk))); simp only [Act.put, List.setIfInBounds_toArray, List.set_cons_zero, List.set_cons_succ])
      refine FlowT.s (fun t w' => ∃ b', t = .slice (some ⟨b', 0, none⟩) 1 1 ∧ Blk w' b' (Vl.cells u).toArray 52 ∧ Ext wr w') 12 rfl (by kernel_rfl) (fun _ _ _ ⟨b', e, h1, h2⟩ y => ⟨b', e, h1.ext y, h2.trans y⟩) (fun w1 hC hk => ?_) (fun _ ⟨_, hb⟩ => ?_)
      · unfold does
        go_simp
        exact ⟨hk.alloc _, _, rfl, Blk.new _ _ _, hC.alloc _⟩
      obtain ⟨b', rfl, _, _⟩ := hb
      simp only [Act.put, List.setIfInBounds_toArray, List.set_cons_zero, List.set_cons_succ]
      refine FlowT.s (fun t w' => (∃ a c, t = .slice a (k + 1) c) ∧ w'.ownsRow W5.heap.size 52 2 t (k + 1) (((x.args.take (k + 1)).map s.at).flatMap Vl.cells) ∧ Ext W5 w') 13 rfl (by kernel_rfl) (fun _ _ _ h y => ⟨h.1, own_ext h.2.1 y, h.2.2.trans y⟩) (fun w1 hC hk => ?_) (fun _ ⟨_, hb⟩ => ?_)
      · obtain ⟨b2, eb, hB, hx1⟩ := hC
        obtain rfl : b' = b2 := by simpa using eb
        refine does_append_el W5.heap.size (Hx.out.trans hx1).size 53 52 (.agg #[.string ⟨#[]⟩, .int .i64 0]) 2 24 Tryz.underlying53 r1val_info rfl (by omega) (by omega) rfl _ _ rfl (.slice al k cl) k (((x.args.take k).map s.at).flatMap Vl.cells) rfl (own_ext Hrow.out hx1) b' (Vl.cells u) rfl (by simp [Vl.cells, Value.oneCell']) rfl hB Hol.out ?_
        intro v' w' ho hk' hl
        rw [← flat_snoc, ← Htk.out] at ho
        have hx6 : Ext W5 w' := Keep.new (Hx.out.trans hx1) hk' fun q hq => (World.ownsRow.lt Hrow.out q hq).1
        exact ⟨hk.trans (hk'.mono fun q _ e => (World.ownsRow.lt Hrow.out q e).1), row_form ho, ho, hx6⟩
      obtain ⟨⟨a9, c9, rfl⟩, _, _⟩ := hb
      simp only [Act.put, List.setIfInBounds_toArray, List.set_cons_zero, List.set_cons_succ]
      repeat (apply FlowT.d; (intro w1 hk; unfold does; go_simp; (try go_ints); (first | exact DetR.mk | (simp only [↓IntWalk.iteOmega, Oper.doesUpon_value]; exact DetR.mk) | (simp only [↓IntWalk.iteOmega]; go_simp; (try go_ints); exact DetR.mk))); simp only [Act.put, List.setIfInBounds_toArray, List.set_cons_zero, List.set_cons_succ])
      refine FlowT.fin fun w7 hC7 hk7 => ?_
      have HX7 := hid hC7.2.2
      have HR7 := hid hC7.2.1
      clear hC7 hk7 hcK u0 u1 d0 n3 m3
      go_wp2
      go_roundw
      case rel => exact ⟨k + 1, by go_num, by omega, HX7.out, HR7.out⟩
      case measure => simp [intOf]; omega
    · obtain rfl : k = x.args.length := by omega
      have hrl : ((x.args.take x.args.length).map s.at) = x.args.map s.at := by rw [List.take_of_length_le (Nat.le_refl _)]
      rw [hrl] at Hrow
      have HRr := hid (HR5.out.ext Hx.out)
      have HB7r := hid (HB7.out.ext Hx.out)
      have HPr := hid (HP5.out.old (Hx.out.old n0))
      have HWr := hid (HW5.out.trans Hx.out)
      have HB2r := hid (HB25.out.ext Hx.out)
      have Hgb : Hid (g < W5.heap.size) := hid (World.ownsRow.lt HR5.out.vars g rfl).2
      have Hglo := hid (HRr.out.vlo (b := g) rfl)
      clear hlt hrl HR5 HB7 HI5 HP5
      go_wp2
      clear m3
      rename World => w7
      go_loopw [14] (fun t14 wr => ∃ k : Nat, t14 = .int .i64 (k : Int) ∧ k ≤ x.args.length ∧ Keep (fun q => q = g) w7 wr ∧ RfAt wr n0 sb (.slice (some ⟨g, 0, none⟩) s.vars.length cap) tv pv (s.give (f0.params.take k) ((x.args.map s.at).take k))) (fun t14 _ => x.args.length - (intOf t14).toNat)
      case atStart => exact ⟨0, rfl, Nat.zero_le _, Keep.refl _ _, HRr.out⟩
      case round =>
        obtain ⟨k, rfl, hk, hkp, hr⟩ := hrel
        have Hk8 := hid hkp
        have Hr8 := hid hr
        have HO8 : Hid (Old n0 w7 wr) := hid (hkp.mono fun q _ e => by rw [e]; exact Hglo.out)
        have Hgx : Hid (∀ (c : Array Value) (t : TypeId) (b' : Nat), Blk w7 b' c t → t ≠ 52 → Blk wr b' c t) := hid fun c t b' hb hne => hb.keep Hk8.out fun e => by
          obtain ⟨c', hc'⟩ := own_ty HRr.out.vars (k := g) rfl
          exact Blk.ty_ne hb hc' hne e
        clear hkp hr
        by_cases hlt : k < x.args.length
        · obtain ⟨yp, q, rfl, hqk, hc⟩ := (HPr.out.old HO8.out).at (show k < f0.params.length by rw [Hlen.out]; exact hlt)
          have hqa := HGf.out.params q (List.mem_of_getElem? hqk)
          obtain ⟨Q, rfl⟩ := Int.eq_ofNat_of_zero_le hqa.1
          have hQl : Q < P.vars.length := by omega
          obtain ⟨gl, cl', hal⟩ := own_some Hrow.out (by omega)
          obtain ⟨rfl, rfl⟩ : al = some ⟨gl, 0, none⟩ ∧ cl = cl' := by simpa using hal
          obtain ⟨u, hu⟩ : ∃ u, u = (x.args.map s.at).getD k .none := ⟨_, rfl⟩
          have HUk := hid (at_some (l := x.args.map s.at) (n := k) (by simpa using hlt))
          rw [← hu] at HUk
          have Hro8 := hid (row_keep Hrow.out Hk8.out fun i hi e => by
            have := (World.ownsRow.lt Hrow.out i hi).1
            have := Hgb.out
            omega)
          have d0 := Hr8.out.blk.kc (X := fun _ => False) (fun e => e) 0 rfl
          have e1 := (Hgx.out _ _ _ HB7r.out (by decide)).kc (X := fun _ => False) (fun e => e) 1 rfl
          have hcK : ∀ w1, Keep (fun _ => False) wr w1 → w1.cell? (yp.add k) = some (.int .i64 (Q : Int)) := fun w1 k => k.ext.cellx hc
          have v0 : ∀ w1, Keep (fun _ => False) wr w1 → w1.cell? ⟨gl, k * 2, none⟩ = some (.string u.kind) := fun w1 k => (own_v (own_ext Hro8.out k.ext) HUk.out).1
          have v1 : ∀ w1, Keep (fun _ => False) wr w1 → w1.cell? ⟨gl, k * 2 + 1, none⟩ = some (.int .i64 (u.num : Int)) := fun w1 k => (own_v (own_ext Hro8.out k.ext) HUk.out).2
          simp only [List.getElem_toArray, List.getElem_cons_zero, List.getElem_cons_succ] at d0 e1
          obtain ⟨s8, hs8⟩ : ∃ s8, s8 = s.give (f0.params.take k) ((x.args.map s.at).take k) := ⟨_, rfl⟩
          have Hnext : Hid (s.give (f0.params.take (k + 1)) ((x.args.map s.at).take (k + 1)) = { s8 with vars := s8.vars.set Q u }) := hid (by
            rw [Rn.give_snoc _ _ _ _ _ _ hqk HUk.out, ← hs8]; rfl)
          have HQ : Hid (Q < s8.vars.length) := hid (by rw [hs8, Rn.give_len]; omega)
          rw [← hs8] at Hr8
          clear hqk hqa hu hs8 hal hc
          go_wp2
          refine wp_flowT (fun _ => False) (by kernel_rfl) (by kernel_rfl) ?_
          repeat (apply FlowT.d; (intro w1 hk; unfold does; go_simp; (try go_ints); (first | exact DetR.mk | (simp only [↓IntWalk.iteOmega, Oper.doesUpon_value]; exact DetR.mk) | (simp only [↓IntWalk.iteOmega]; go_simp; (try go_ints); exact DetR.mk))); simp only [Act.put, List.setIfInBounds_toArray, List.set_cons_zero, List.set_cons_succ])
          refine FlowT.last (fun _ w' => ∃ w2, Ext wr w2 ∧ w' = store2 w2 g (Q * 2) u) 14 rfl (by kernel_rfl) (by kernel_rfl) (fun w2 hx hk => ?_) (fun _ w4 hR4 => ?_)
          · have hV := (Hr8.out.ext hx).vn
            obtain ⟨q0, q1⟩ := own_v hV (at_some HQ.out)
            have f0 := own_free hV (Q * 2)
            have f1 := own_free hV (Q * 2 + 1)
            unfold does
            go_simp
            exact ⟨w2, hx, rfl⟩
          obtain ⟨w2, hx2, rfl⟩ := hR4
          simp only [Act.put]
          have HR9 := hid ((Hr8.out.ext hx2).putV Q HQ.out u)
          have Hk9 := hid ((Hk8.out.trans (hx2.keep _)).trans (store2_keep w2 g (Q * 2) u))
          clear hx2
          go_wp2
          go_roundw
          case rel => exact ⟨k + 1, by go_num, by omega, Hk9.out, by rw [Hnext.out]; exact HR9.out⟩
          case measure => simp [intOf]; omega
        · obtain rfl : k = x.args.length := by omega
          have hfp : f0.params.take x.args.length = f0.params := by rw [← Hlen.out, List.take_of_length_le (Nat.le_refl _)]
          have hfm : (x.args.map s.at).take x.args.length = x.args.map s.at := by rw [List.take_of_length_le (by simp)]
          rw [hfp, hfm] at Hr8
          obtain ⟨s8, hs8⟩ : ∃ s8, s8 = s.give f0.params (x.args.map s.at) := ⟨_, rfl⟩
          have HX8 : Hid (X < s8.vars.length) := hid (by rw [hs8, Rn.give_len]; exact HX.out)
          obtain ⟨Rr, hRr⟩ := Int.eq_ofNat_of_zero_le HGf.out.ret.1
          have HRl : Hid (Rr < s8.vars.length) := hid (by rw [hs8, Rn.give_len]; have := HGf.out.ret.2; omega)
          have hRl : Rr < P.vars.length := by have := HGf.out.ret.2; omega
          obtain ⟨u, hu⟩ : ∃ u, u = s8.vars.getD Rr .none := ⟨_, rfl⟩
          have HUr := hid (at_some HRl.out)
          rw [← hu] at HUr
          have HE : Hid (s.callF x f0 = { s8 with vars := s8.vars.set X u }) := hid (by
            unfold Rn.callF
            rw [if_pos Hlen.out, ← hs8]
            simp only [Rn.set, Rn.at, hRr, HXe.out, hu, Int.toNat_natCast])
          rw [← hs8] at Hr8
          have d0 := Hr8.out.blk.kc (X := fun _ => False) (fun e => e) 0 rfl
          have b2 := (Hgx.out _ _ _ HB7r.out (by decide)).kc (X := fun _ => False) (fun e => e) 2 rfl
          have m1' := (Hgx.out _ _ _ HB2r.out (by decide)).kc (X := fun _ => False) (fun e => e) 1 rfl
          have v0 : ∀ w1, Keep (fun _ => False) wr w1 → w1.cell? ⟨g, Rr * 2, none⟩ = some (.string u.kind) := fun w1 k => (own_v (Hr8.out.ext k.ext).vn HUr.out).1
          have v1 : ∀ w1, Keep (fun _ => False) wr w1 → w1.cell? ⟨g, Rr * 2 + 1, none⟩ = some (.int .i64 (u.num : Int)) := fun w1 k => (own_v (Hr8.out.ext k.ext).vn HUr.out).2
          simp only [scells, List.getElem_toArray, List.getElem_cons_zero, List.getElem_cons_succ] at d0 b2 m1'
          rw [hRr] at b2
          rw [HXe.out] at m1'
          have HOx : Hid (Old n0 w wr) := hid ((HWr.out.old n0).trans HO8.out)
          have hXl2 : X < P.vars.length := by have := HX.out; omega
          clear hfp hfm hs8 hRr hu hlt m1
          go_wp2
          refine wp_flowT (fun _ => False) (by kernel_rfl) (by kernel_rfl) ?_
          repeat (apply FlowT.d; (intro w1 hk; unfold does; go_simp; (try go_ints); (first | exact DetR.mk | (simp only [↓IntWalk.iteOmega, Oper.doesUpon_value]; exact DetR.mk) | (simp only [↓IntWalk.iteOmega]; go_simp; (try go_ints); exact DetR.mk))); simp only [Act.put, List.setIfInBounds_toArray, List.set_cons_zero, List.set_cons_succ])
          refine FlowT.last (fun _ w' => ∃ w2, Ext wr w2 ∧ w' = store2 w2 g (X * 2) u) 15 rfl (by kernel_rfl) (by kernel_rfl) (fun w2 hx hk => ?_) (fun _ w4 hR4 => ?_)
          · have hV := (Hr8.out.ext hx).vn
            obtain ⟨q0, q1⟩ := own_v hV (at_some HX8.out)
            have f0 := own_free hV (X * 2)
            have f1 := own_free hV (X * 2 + 1)
            unfold does
            go_simp
            exact ⟨w2, hx, rfl⟩
          obtain ⟨w2, hx2, rfl⟩ := hR4
          simp only [Act.put]
          have HR9 := hid ((Hr8.out.ext hx2).putV X HX8.out u)
          have HO := hid ((HOx.out.trans (hx2.old n0)).trans (store2_old (y := u) (i := X * 2) Hglo.out))
          clear hx2
          go_wp2
          go_end0
          exact ⟨rfl, ⟨_, _, _, by rw [HE.out]; exact HR9.out⟩, HO.out⟩
end Go.Proofs.YtkabgmohgjljkaaGreatDoor
