/- Texts of one proof, put together: ZZWp ZZWq T8. -/
import Derived.Test.YtngdpnlgnpdkcaaGreatDoorHWC02
import Derived.Test.YtngdpnlgnpdkcaaGreatDoorHWC03
import Derived.Test.YtngdpnlgnpdkcaaGreatDoorHWC04
import Derived.Test.YtngdpnlgnpdkcaaGreatDoorHWC06
import Derived.Test.YtngdpnlgnpdkcaaGreatDoorHWC07
import Derived.Test.YtngdpnlgnpdkcaaGreatDoorHWC11
import Derived.Test.YtngdpnlgnpdkcaaGreatDoorHWC01
set_option linter.unusedSimpArgs false
set_option linter.unusedVariables false
namespace Go.Proofs.YtngdpnlgnpdkcaaGreatDoor
open Go Go.RowKit
set_option maxRecDepth 100000 in
set_option maxHeartbeats 6400000 in
theorem rfollows_c1 (a1 a2 a3 : Option Addr) (c1 c2 c3 : Nat) (P : PP) (vl : Value) (L : List ST) (i : Nat) (s : ST) (k : Nat) (y : PS) (w : World) (n0 : Nat) (h : ProgR w n0 (.slice a1 P.vars.length c1) (.slice a2 P.funs.length c2) (.slice a3 P.stmts.length c3) P) (hw : P.Well) (n1 : Nat) (hr : StepsR w n1 vl L) (hll : L.length ≤ 2000) (hs : L[i]? = some s) (hk : s.stmt = (k : Int)) (hy : P.stmts[k]? = some y) (hkb : ((P.ruleR k y).kind.toList == [98, 97, 115, 101]) = false) (hkc : ((P.ruleR k y).kind.toList == [99, 111, 112, 121]) = false) (hkl : ((P.ruleR k y).kind.toList == [108, 111, 97, 100]) = false) (hks : ((P.ruleR k y).kind.toList == [115, 116, 111, 114, 101]) = false) (f : Nat) (x : ST) (hf : Hid (s.frm = (f : Int))) (hx : Hid (L[f]? = some x)) (hxo : Hid (x.obj = s.obj)) (v : Nat) (z : ST) (hv : Hid (s.via = (v : Int))) (hz : Hid (L[v]? = some z)) (hd : Hid ((z.node == (P.ruleR k y).a) = false ∨ ((z.node == (P.ruleR k y).a) = true ∧ z.obj < (P.nodesV : Int)) ∨ ((z.node == (P.ruleR k y).a) = true ∧ (P.nodesV : Int) + (P.funs.length : Int) ≤ z.obj))) :
  Calls Tryz.prog 48 #[pval a1 a2 a3 c1 c2 c3 P, vl, .int .i64 (i : Int)] w fun e w' => e = .returned (.bool (false)) ∧ Ext w w' := by
 have hil := (List.getElem?_eq_some_iff.1 hs).1
 obtain ⟨y8, c8, rfl⟩ := hr.some (by omega)
 obtain ⟨sn, so, ss, sf, sv⟩ := s
 simp only at *
 subst hk
 obtain ⟨W1, hW1⟩ : ∃ W1, W1 = w.alloc (.cells #[.slice a1 P.vars.length c1, .slice a2 P.funs.length c2, .slice a3 P.stmts.length c3] 26) := ⟨_, rfl⟩
 obtain ⟨W, hW⟩ : ∃ W, W = W1.alloc (.cells #[.int .i64 sn, .int .i64 so, .int .i64 (k : Int), .int .i64 sf, .int .i64 sv] 48) := ⟨_, rfl⟩
 have x1 : Ext w W1 := by rw [hW1]; exact (Ext.refl _).alloc _
 have x2 : Ext W1 W := by rw [hW]; exact (Ext.refl _).alloc _
 have s1 : W1.heap.size = w.heap.size + 1 := by rw [hW1, heap_size_alloc]
 have HX := hid (x1.trans x2)
 have HBp : Hid (Blk W w.heap.size #[.slice a1 P.vars.length c1, .slice a2 P.funs.length c2, .slice a3 P.stmts.length c3] 26) := hid ((show Blk W1 w.heap.size _ 26 by rw [hW1]; exact Blk.new _ _ _).ext x2)
 have HBs : Hid (Blk W (w.heap.size + 1) #[.int .i64 sn, .int .i64 so, .int .i64 (k : Int), .int .i64 sf, .int .i64 sv] 48) := hid (by rw [← s1, hW]; exact Blk.new _ _ _)
 obtain ⟨q0, q1, q2, q3, q4⟩ := (hr.ext x1).at5 hs
 have HWe : Hid (W = (w.alloc (.cells #[.slice a1 P.vars.length c1, .slice a2 P.funs.length c2, .slice a3 P.stmts.length c3] 26)).alloc (.cells #[.int .i64 sn, .int .i64 so, .int .i64 (k : Int), .int .i64 sf, .int .i64 sv] 48)) := hid (by rw [hW, hW1])
 have HRu := hid (rruleof_any a1 a2 a3 c1 c2 c3 P k y hy W n0 (h.ext HX.out) hw)
 unfold pval at HRu
 have HP := hid (h.ext HX.out)
 have Hr := hid hr
 have p0 := HBp.out.av 0 rfl
 have p1 := HBp.out.av 1 rfl
 have p2 := HBp.out.av 2 rfl
 have e2 := HBs.out.av 2 rfl
 simp only [qA0, qA1, qA2] at p0 p1 p2 e2
 rw [HWe.out] at p0 p1 p2 e2
 simp only at q0 q1 q2 q3 q4
 rw [hW1] at q0 q1 q2 q3 q4
 unfold pval
 clear h hr hW hW1 x1 x2 s1 hs
 generalize P.ruleR k y = r at *
 go_enter Tryz.func48, Tryz.ntmps48
 go_wp2_with fail
 rw [← HWe.out]
 refine HRu.out.mono ?_
 intro e w2 hx
 obtain ⟨av, rfl, hI, hx2⟩ := hx
 obtain ⟨aa, ca, rfl, hal1, hal2, _⟩ := id hI
 have hal : (r.args.length : Int) ≤ 9223372036854775807 := by omega
 obtain ⟨W3, hW3⟩ : ∃ W3, W3 = w2.alloc (.cells #[.string r.kind, .int .i64 r.a, .int .i64 r.b, .int .i64 r.k, .slice aa r.args.length ca] 139) := ⟨_, rfl⟩
 have HX3 : Hid (Ext w2 W3) := hid (by rw [hW3]; exact (Ext.refl _).alloc _)
 have Hx2 := hid hx2
 have HI := hid hI
 have HBs3 := hid ((HBs.out.ext hx2).ext HX3.out)
 have HBp3 := hid ((HBp.out.ext hx2).ext HX3.out)
 have HBr3 : Hid (Blk W3 w2.heap.size #[.string r.kind, .int .i64 r.a, .int .i64 r.b, .int .i64 r.k, .slice aa r.args.length ca] 139) := hid (by rw [hW3]; exact Blk.new _ _ _)
 have HXw : Hid (Ext w W3) := hid ((HX.out.trans hx2).trans HX3.out)
 have HW3 := hid hW3
 unfold RV.val
 clear HRu hx2 hI hal1 hal2 q0 q1 q2 q3 q4 p0 p1 p2 e2 hW3
 have e0 := HBs3.out.av 0 rfl
 have e1 := HBs3.out.av 1 rfl
 have e3 := HBs3.out.av 3 rfl
 have e4 := HBs3.out.av 4 rfl
 have p0 := HBp3.out.av 0 rfl
 have p1 := HBp3.out.av 1 rfl
 have p2 := HBp3.out.av 2 rfl
 simp only [qA0, qA1, qA2] at e0 e1 e3 e4 p0 p1 p2
 rw [HW3.out] at e0 e1 e3 e4 p0 p1 p2
 have hnn := hw.nodes.1
 have hff := hw.few
 have hv := hv.out
 subst hv
 have hz := hz.out
 have hf := hf.out
 have hxo := hxo.out
 subst hf hxo
 have hx := hx.out
 have hfl := (List.getElem?_eq_some_iff.1 hx).1
 obtain ⟨t0, t1, t2, t3, t4⟩ := (Hr.out.ext HXw.out).at5 hx
 rw [HW3.out] at t0 t1 t2 t3 t4
 obtain ⟨W4, hW4⟩ : ∃ W4, W4 = W3.alloc (.cells #[.int .i64 x.node, .int .i64 x.obj, .int .i64 x.stmt, .int .i64 x.frm, .int .i64 x.via] 48) := ⟨_, rfl⟩
 obtain ⟨W5, hW5⟩ : ∃ W5, W5 = W4.alloc (.cells #[.int .i64 0, .int .i64 0, .int .i64 0, .int .i64 0, .int .i64 0] 48) := ⟨_, rfl⟩
 obtain ⟨W6, hW6⟩ : ∃ W6, W6 = W4.alloc (.cells #[.int .i64 z.node, .int .i64 z.obj, .int .i64 z.stmt, .int .i64 z.frm, .int .i64 z.via] 48) := ⟨_, rfl⟩
 have s3 : W3.heap.size = w2.heap.size + 1 := by rw [HW3.out, heap_size_alloc]
 have s4 : W4.heap.size = w2.heap.size + 2 := by rw [hW4, heap_size_alloc, s3]
 have x4 : Ext W3 W4 := by rw [hW4]; exact (Ext.refl _).alloc _
 have x5 : Ext W4 W5 := by rw [hW5]; exact (Ext.refl _).alloc _
 have x6 : Ext W4 W6 := by rw [hW6]; exact (Ext.refl _).alloc _
 have HXz := hid (HXw.out.trans (x4.trans x6))
 have HX6 : Hid (Ext W W6) := hid ((Hx2.out.trans HX3.out).trans (x4.trans x6))
 have HBx6 : Hid (Blk W6 (w2.heap.size + 1) #[.int .i64 x.node, .int .i64 x.obj, .int .i64 x.stmt, .int .i64 x.frm, .int .i64 x.via] 48) := hid ((show Blk W4 (w2.heap.size + 1) _ 48 by rw [← s3, hW4]; exact Blk.new _ _ _).ext x6)
 have HBz6 : Hid (Blk W6 (w2.heap.size + 2) #[.int .i64 z.node, .int .i64 z.obj, .int .i64 z.stmt, .int .i64 z.frm, .int .i64 z.via] 48) := hid (by rw [← s4, hW6]; exact Blk.new _ _ _)
 have HBs6 := hid ((HBs3.out.ext x4).ext x6)
 have HBp6 := hid ((HBp3.out.ext x4).ext x6)
 have HBr6 := hid ((HBr3.out.ext x4).ext x6)
 clear e1 e4 p0 p1 p2
 have e1 := (HBs3.out.ext x4).av 1 rfl
 have e4 := ((HBs3.out.ext x4).ext x5).av 4 rfl
 have p0 := HBp6.out.av 0 rfl
 have p1 := HBp6.out.av 1 rfl
 have p2 := HBp6.out.av 2 rfl
 simp only [qA0, qA1, qA2] at e1 e4 p0 p1 p2
 have HNo := hid (rnodesof_any a1 a2 a3 c1 c2 c3 P W6 n0 (HP.out.ext ((Hx2.out.trans HX3.out).trans (x4.trans x6))) (by have := hw.few; omega) (by have := hw.few; omega))
 unfold pval at HNo
 have HW6 : Hid (W6 = (((w2.alloc (.cells #[.string r.kind, .int .i64 r.a, .int .i64 r.b, .int .i64 r.k, .slice aa r.args.length ca] 139)).alloc (.cells #[.int .i64 x.node, .int .i64 x.obj, .int .i64 x.stmt, .int .i64 x.frm, .int .i64 x.via] 48)).alloc (.cells #[.int .i64 z.node, .int .i64 z.obj, .int .i64 z.stmt, .int .i64 z.frm, .int .i64 z.via] 48))) := hid (by rw [hW6, hW4, HW3.out])
 rw [hW4, HW3.out] at e1
 rw [hW5, hW4, HW3.out] at e4
 rw [HW6.out] at p0 p1 p2
 obtain ⟨v0, v1, v2, v3, v4⟩ := (Hr.out.ext ((HXw.out.trans x4).trans x5)).at5 hz
 rw [hW5, hW4, HW3.out] at v0 v1 v2 v3 v4
 have hvl := (List.getElem?_eq_some_iff.1 hz).1
 have b4 := (show Blk W5 (w2.heap.size + 2) #[.int .i64 0, .int .i64 0, .int .i64 0, .int .i64 0, .int .i64 0] 48 by rw [← s4, hW5]; exact Blk.new _ _ _)
 clear hz
 clear hW4 hW5 hW6 s3 s4 x4 x5 x6 hx
 go_wp2_with fail
 rw [← HW6.out]
 refine HNo.out.mono ?_
 intro e w7 hx
 obtain ⟨rfl, hx7⟩ := hx
 have Hx7 := hid (HXz.out.trans hx7)
 have Hy7 := hid hx7
 clear t0 t1 t2 t3 t4 e0 e1 e3 e4 p0 p1 p2
 have e0 := (HBs6.out.ext hx7).av 0 rfl
 have e1 := (HBs6.out.ext hx7).av 1 rfl
 have t0 := (HBx6.out.ext hx7).av 0 rfl
 have u0 := (HBz6.out.ext hx7).av 0 rfl
 have u1 := (HBz6.out.ext hx7).av 1 rfl
 have r0 := (HBr6.out.ext hx7).av 0 rfl
 have r1 := (HBr6.out.ext hx7).av 1 rfl
 have r2 := (HBr6.out.ext hx7).av 2 rfl
 simp only [qA0, qA1, qA2] at e0 e1 t0 u0 u1 r0 r1 r2
 clear HNo hx7
 clear v0 v1 v2 v3 v4 b4
 have p1 := (HBp6.out.ext Hy7.out).av 1 rfl
 simp only [pcells, qA0, qA1, qA2] at p1
 rcases hd.out with h1 | ⟨h1, h2⟩ | ⟨h1, h2⟩
 ·have h1n : (z.node != r.a) = true := by unfold bne; rw [h1]; rfl
  go_wp2
  go_ret
  exact ⟨rfl, Hx7.out⟩
 ·have h1n : (z.node != r.a) = false := by unfold bne; rw [h1]; rfl
  go_wp2
  go_ret
  exact ⟨rfl, Hx7.out⟩
 ·have h1n : (z.node != r.a) = false := by unfold bne; rw [h1]; rfl
  have h2n : ¬ (z.obj < (P.nodesV : Int)) := by omega
  clear hd
  generalize P.nodesV = NN at *
  go_wp2
  go_ret
  exact ⟨rfl, Hx7.out⟩
set_option maxRecDepth 100000 in
set_option maxHeartbeats 6400000 in
theorem rfollows_c4 (a1 a2 a3 : Option Addr) (c1 c2 c3 : Nat) (P : PP) (vl : Value) (L : List ST) (i : Nat) (s : ST) (k : Nat) (y : PS) (w : World) (n0 : Nat) (h : ProgR w n0 (.slice a1 P.vars.length c1) (.slice a2 P.funs.length c2) (.slice a3 P.stmts.length c3) P) (hw : P.Well) (n1 : Nat) (hr : StepsR w n1 vl L) (hll : L.length ≤ 2000) (hs : L[i]? = some s) (hk : s.stmt = (k : Int)) (hy : P.stmts[k]? = some y) (hkb : ((P.ruleR k y).kind.toList == [98, 97, 115, 101]) = false) (hkc : ((P.ruleR k y).kind.toList == [99, 111, 112, 121]) = false) (hkl : ((P.ruleR k y).kind.toList == [108, 111, 97, 100]) = false) (hks : ((P.ruleR k y).kind.toList == [115, 116, 111, 114, 101]) = false) (f : Nat) (x : ST) (hf : Hid (s.frm = (f : Int))) (hx : Hid (L[f]? = some x)) (hxo : Hid (x.obj = s.obj)) (v : Nat) (z : ST) (hv : Hid (s.via = (v : Int))) (hz : Hid (L[v]? = some z)) (h1 : (z.node == (P.ruleR k y).a) = true) (N : Nat) (hzo : Hid (z.obj = (P.nodesV : Int) + (N : Int))) (f0 : PF) (hfk : P.funs[N]? = some f0) (hlen : f0.params.length ≠ (P.ruleR k y).args.length) :
  Calls Tryz.prog 48 #[pval a1 a2 a3 c1 c2 c3 P, vl, .int .i64 (i : Int)] w fun e w' => e = .returned (.bool (false)) ∧ Ext w w' := by
 have hil := (List.getElem?_eq_some_iff.1 hs).1
 obtain ⟨y8, c8, rfl⟩ := hr.some (by omega)
 obtain ⟨sn, so, ss, sf, sv⟩ := s
 simp only at *
 subst hk
 obtain ⟨W1, hW1⟩ : ∃ W1, W1 = w.alloc (.cells #[.slice a1 P.vars.length c1, .slice a2 P.funs.length c2, .slice a3 P.stmts.length c3] 26) := ⟨_, rfl⟩
 obtain ⟨W, hW⟩ : ∃ W, W = W1.alloc (.cells #[.int .i64 sn, .int .i64 so, .int .i64 (k : Int), .int .i64 sf, .int .i64 sv] 48) := ⟨_, rfl⟩
 have x1 : Ext w W1 := by rw [hW1]; exact (Ext.refl _).alloc _
 have x2 : Ext W1 W := by rw [hW]; exact (Ext.refl _).alloc _
 have s1 : W1.heap.size = w.heap.size + 1 := by rw [hW1, heap_size_alloc]
 have HX := hid (x1.trans x2)
 have HBp : Hid (Blk W w.heap.size #[.slice a1 P.vars.length c1, .slice a2 P.funs.length c2, .slice a3 P.stmts.length c3] 26) := hid ((show Blk W1 w.heap.size _ 26 by rw [hW1]; exact Blk.new _ _ _).ext x2)
 have HBs : Hid (Blk W (w.heap.size + 1) #[.int .i64 sn, .int .i64 so, .int .i64 (k : Int), .int .i64 sf, .int .i64 sv] 48) := hid (by rw [← s1, hW]; exact Blk.new _ _ _)
 obtain ⟨q0, q1, q2, q3, q4⟩ := (hr.ext x1).at5 hs
 have HWe : Hid (W = (w.alloc (.cells #[.slice a1 P.vars.length c1, .slice a2 P.funs.length c2, .slice a3 P.stmts.length c3] 26)).alloc (.cells #[.int .i64 sn, .int .i64 so, .int .i64 (k : Int), .int .i64 sf, .int .i64 sv] 48)) := hid (by rw [hW, hW1])
 have HRu := hid (rruleof_any a1 a2 a3 c1 c2 c3 P k y hy W n0 (h.ext HX.out) hw)
 unfold pval at HRu
 have HP := hid (h.ext HX.out)
 have Hr := hid hr
 have p0 := HBp.out.av 0 rfl
 have p1 := HBp.out.av 1 rfl
 have p2 := HBp.out.av 2 rfl
 have e2 := HBs.out.av 2 rfl
 simp only [qA0, qA1, qA2] at p0 p1 p2 e2
 rw [HWe.out] at p0 p1 p2 e2
 simp only at q0 q1 q2 q3 q4
 rw [hW1] at q0 q1 q2 q3 q4
 unfold pval
 clear h hr hW hW1 x1 x2 s1 hs
 generalize P.ruleR k y = r at *
 go_enter Tryz.func48, Tryz.ntmps48
 go_wp2_with fail
 rw [← HWe.out]
 refine HRu.out.mono ?_
 intro e w2 hx
 obtain ⟨av, rfl, hI, hx2⟩ := hx
 obtain ⟨aa, ca, rfl, hal1, hal2, _⟩ := id hI
 have hal : (r.args.length : Int) ≤ 9223372036854775807 := by omega
 obtain ⟨W3, hW3⟩ : ∃ W3, W3 = w2.alloc (.cells #[.string r.kind, .int .i64 r.a, .int .i64 r.b, .int .i64 r.k, .slice aa r.args.length ca] 139) := ⟨_, rfl⟩
 have HX3 : Hid (Ext w2 W3) := hid (by rw [hW3]; exact (Ext.refl _).alloc _)
 have Hx2 := hid hx2
 have HI := hid hI
 have HBs3 := hid ((HBs.out.ext hx2).ext HX3.out)
 have HBp3 := hid ((HBp.out.ext hx2).ext HX3.out)
 have HBr3 : Hid (Blk W3 w2.heap.size #[.string r.kind, .int .i64 r.a, .int .i64 r.b, .int .i64 r.k, .slice aa r.args.length ca] 139) := hid (by rw [hW3]; exact Blk.new _ _ _)
 have HXw : Hid (Ext w W3) := hid ((HX.out.trans hx2).trans HX3.out)
 have HW3 := hid hW3
 unfold RV.val
 clear HRu hx2 hI hal1 hal2 q0 q1 q2 q3 q4 p0 p1 p2 e2 hW3
 have e0 := HBs3.out.av 0 rfl
 have e1 := HBs3.out.av 1 rfl
 have e3 := HBs3.out.av 3 rfl
 have e4 := HBs3.out.av 4 rfl
 have p0 := HBp3.out.av 0 rfl
 have p1 := HBp3.out.av 1 rfl
 have p2 := HBp3.out.av 2 rfl
 simp only [qA0, qA1, qA2] at e0 e1 e3 e4 p0 p1 p2
 rw [HW3.out] at e0 e1 e3 e4 p0 p1 p2
 have hnn := hw.nodes.1
 have hff := hw.few
 have hNl := (List.getElem?_eq_some_iff.1 hfk).1
 have hv := hv.out
 subst hv
 have hz := hz.out
 have hf := hf.out
 have hxo := hxo.out
 subst hf hxo
 have hx := hx.out
 have hfl := (List.getElem?_eq_some_iff.1 hx).1
 obtain ⟨t0, t1, t2, t3, t4⟩ := (Hr.out.ext HXw.out).at5 hx
 rw [HW3.out] at t0 t1 t2 t3 t4
 obtain ⟨W4, hW4⟩ : ∃ W4, W4 = W3.alloc (.cells #[.int .i64 x.node, .int .i64 x.obj, .int .i64 x.stmt, .int .i64 x.frm, .int .i64 x.via] 48) := ⟨_, rfl⟩
 obtain ⟨W5, hW5⟩ : ∃ W5, W5 = W4.alloc (.cells #[.int .i64 0, .int .i64 0, .int .i64 0, .int .i64 0, .int .i64 0] 48) := ⟨_, rfl⟩
 obtain ⟨W6, hW6⟩ : ∃ W6, W6 = W4.alloc (.cells #[.int .i64 z.node, .int .i64 z.obj, .int .i64 z.stmt, .int .i64 z.frm, .int .i64 z.via] 48) := ⟨_, rfl⟩
 have s3 : W3.heap.size = w2.heap.size + 1 := by rw [HW3.out, heap_size_alloc]
 have s4 : W4.heap.size = w2.heap.size + 2 := by rw [hW4, heap_size_alloc, s3]
 have x4 : Ext W3 W4 := by rw [hW4]; exact (Ext.refl _).alloc _
 have x5 : Ext W4 W5 := by rw [hW5]; exact (Ext.refl _).alloc _
 have x6 : Ext W4 W6 := by rw [hW6]; exact (Ext.refl _).alloc _
 have HXz := hid (HXw.out.trans (x4.trans x6))
 have HX6 : Hid (Ext W W6) := hid ((Hx2.out.trans HX3.out).trans (x4.trans x6))
 have HBx6 : Hid (Blk W6 (w2.heap.size + 1) #[.int .i64 x.node, .int .i64 x.obj, .int .i64 x.stmt, .int .i64 x.frm, .int .i64 x.via] 48) := hid ((show Blk W4 (w2.heap.size + 1) _ 48 by rw [← s3, hW4]; exact Blk.new _ _ _).ext x6)
 have HBz6 : Hid (Blk W6 (w2.heap.size + 2) #[.int .i64 z.node, .int .i64 z.obj, .int .i64 z.stmt, .int .i64 z.frm, .int .i64 z.via] 48) := hid (by rw [← s4, hW6]; exact Blk.new _ _ _)
 have HBs6 := hid ((HBs3.out.ext x4).ext x6)
 have HBp6 := hid ((HBp3.out.ext x4).ext x6)
 have HBr6 := hid ((HBr3.out.ext x4).ext x6)
 clear e1 e4 p0 p1 p2
 have e1 := (HBs3.out.ext x4).av 1 rfl
 have e4 := ((HBs3.out.ext x4).ext x5).av 4 rfl
 have p0 := HBp6.out.av 0 rfl
 have p1 := HBp6.out.av 1 rfl
 have p2 := HBp6.out.av 2 rfl
 simp only [qA0, qA1, qA2] at e1 e4 p0 p1 p2
 have HNo := hid (rnodesof_any a1 a2 a3 c1 c2 c3 P W6 n0 (HP.out.ext ((Hx2.out.trans HX3.out).trans (x4.trans x6))) (by have := hw.few; omega) (by have := hw.few; omega))
 unfold pval at HNo
 have HW6 : Hid (W6 = (((w2.alloc (.cells #[.string r.kind, .int .i64 r.a, .int .i64 r.b, .int .i64 r.k, .slice aa r.args.length ca] 139)).alloc (.cells #[.int .i64 x.node, .int .i64 x.obj, .int .i64 x.stmt, .int .i64 x.frm, .int .i64 x.via] 48)).alloc (.cells #[.int .i64 z.node, .int .i64 z.obj, .int .i64 z.stmt, .int .i64 z.frm, .int .i64 z.via] 48))) := hid (by rw [hW6, hW4, HW3.out])
 rw [hW4, HW3.out] at e1
 rw [hW5, hW4, HW3.out] at e4
 rw [HW6.out] at p0 p1 p2
 obtain ⟨v0, v1, v2, v3, v4⟩ := (Hr.out.ext ((HXw.out.trans x4).trans x5)).at5 hz
 rw [hW5, hW4, HW3.out] at v0 v1 v2 v3 v4
 have hvl := (List.getElem?_eq_some_iff.1 hz).1
 have b4 := (show Blk W5 (w2.heap.size + 2) #[.int .i64 0, .int .i64 0, .int .i64 0, .int .i64 0, .int .i64 0] 48 by rw [← s4, hW5]; exact Blk.new _ _ _)
 clear hz
 clear hW4 hW5 hW6 s3 s4 x4 x5 x6 hx
 go_wp2_with fail
 rw [← HW6.out]
 refine HNo.out.mono ?_
 intro e w7 hx
 obtain ⟨rfl, hx7⟩ := hx
 have Hx7 := hid (HXz.out.trans hx7)
 have Hy7 := hid hx7
 clear t0 t1 t2 t3 t4 e0 e1 e3 e4 p0 p1 p2
 have e0 := (HBs6.out.ext hx7).av 0 rfl
 have e1 := (HBs6.out.ext hx7).av 1 rfl
 have t0 := (HBx6.out.ext hx7).av 0 rfl
 have u0 := (HBz6.out.ext hx7).av 0 rfl
 have u1 := (HBz6.out.ext hx7).av 1 rfl
 have r0 := (HBr6.out.ext hx7).av 0 rfl
 have r1 := (HBr6.out.ext hx7).av 1 rfl
 have r2 := (HBr6.out.ext hx7).av 2 rfl
 simp only [qA0, qA1, qA2] at e0 e1 t0 u0 u1 r0 r1 r2
 clear HNo hx7
 clear v0 v1 v2 v3 v4 b4
 rw [hzo.out] at u1
 have r4 := (HBr6.out.ext Hy7.out).av 4 rfl
 have p1 := (HBp6.out.ext Hy7.out).av 1 rfl
 simp only [qA0, qA1, qA2] at r4 p1
 obtain ⟨yf, f1, afp, cfp, hyf, hfk2, y0, y1, y2, hIp⟩ := (HP.out.ext (HX6.out.trans Hy7.out)).funs.at hNl
 obtain rfl : f0 = f1 := Option.some.inj (hfk.symm.trans hfk2)
 subst hyf
 have HIp := hid hIp
 have HIa := hid (HI.out.old ((HX6.out.trans Hy7.out).old n0))
 have g0 : ¬ ((P.nodesV : Int) + (N : Int) < (P.nodesV : Int)) := by omega
 have g1 : ¬ ((P.nodesV : Int) + (P.funs.length : Int) ≤ (P.nodesV : Int) + (N : Int)) := by omega
 have h1n : (z.node != r.a) = false := by unfold bne; rw [h1]; rfl
 have g2 : ¬ (P.funs.length ≤ N) := by omega
 have g3 : ¬ ((P.funs.length : Int) ≤ (N : Int)) := by omega
 have hfl1 : f0.params.length ≤ 1000 := by have := (PP.goodF (PP.funs_ok hw.1) (List.mem_of_getElem? hfk)).few; omega
 skip
 obtain ⟨W8, hW8⟩ : ∃ W8, W8 = w7.alloc (.cells #[.string f0.name, .slice afp f0.params.length cfp, .int .i64 f0.ret] 78) := ⟨_, rfl⟩
 have x8 : Ext w7 W8 := by rw [hW8]; exact (Ext.refl _).alloc _
 have HX8 := hid (Hx7.out.trans x8)
 have HW8 := hid hW8
 have Hy8 := hid (Hy7.out.trans x8)
 have HBf8 : Hid (Blk W8 w7.heap.size #[.string f0.name, .slice afp f0.params.length cfp, .int .i64 f0.ret] 78) := hid (by rw [hW8]; exact Blk.new _ _ _)
 clear r2 r4 t0 e0
 have r2 := (HBr6.out.ext Hy8.out).av 2 rfl
 have r4 := (HBr6.out.ext Hy8.out).av 4 rfl
 have t0 := (HBx6.out.ext Hy8.out).av 0 rfl
 have e0 := (HBs6.out.ext Hy8.out).av 0 rfl
 simp only [qA0, qA1, qA2] at r2 r4 t0 e0
 rw [hW8] at r2 r4 t0 e0
 clear hfk2 hIp hW8 x8
 generalize P.nodesV = NN at *
 have hln : ((f0.params.length : Int) != (r.args.length : Int)) = true := bne_iff_ne.2 (by omega)
 go_wp2
 go_ret
 rw [← HW8.out]
 exact ⟨rfl, HX8.out⟩
set_option maxRecDepth 100000 in
set_option maxHeartbeats 6400000 in
theorem rfollows_first (a1 a2 a3 : Option Addr) (c1 c2 c3 : Nat) (P : PP) (vl : Value) (L : List ST) (i : Nat) (s : ST) (k : Nat) (y : PS) (w : World) (n0 : Nat) (h : ProgR w n0 (.slice a1 P.vars.length c1) (.slice a2 P.funs.length c2) (.slice a3 P.stmts.length c3) P) (hw : P.Well) (n1 : Nat) (hr : StepsR w n1 vl L) (hll : L.length ≤ 2000) (hs : L[i]? = some s) (hk : s.stmt = (k : Int)) (hy : P.stmts[k]? = some y) (hkb : ((P.ruleR k y).kind.toList == [98, 97, 115, 101]) = false) (hkc : ((P.ruleR k y).kind.toList == [99, 111, 112, 121]) = false) (hkl : ((P.ruleR k y).kind.toList == [108, 111, 97, 100]) = false) (hks : ((P.ruleR k y).kind.toList == [115, 116, 111, 114, 101]) = false) (f : Nat) (x : ST) (hf : Hid (s.frm = (f : Int))) (hx : Hid (L[f]? = some x)) (hxo : Hid (x.obj = s.obj)) (v : Nat) (z : ST) (hv : Hid (s.via = (v : Int))) (hz : Hid (L[v]? = some z)) (h1 : (z.node == (P.ruleR k y).a) = true) (N : Nat) (hzo : Hid (z.obj = (P.nodesV : Int) + (N : Int))) (f0 : PF) (hfk : P.funs[N]? = some f0) (hlen : f0.params.length = (P.ruleR k y).args.length) (h2 : (x.node == f0.ret) = true) (h3 : (s.node == (P.ruleR k y).b) = true) :
  Calls Tryz.prog 48 #[pval a1 a2 a3 c1 c2 c3 P, vl, .int .i64 (i : Int)] w fun e w' => e = .returned (.bool (true)) ∧ Ext w w' := by
 have hil := (List.getElem?_eq_some_iff.1 hs).1
 obtain ⟨y8, c8, rfl⟩ := hr.some (by omega)
 obtain ⟨sn, so, ss, sf, sv⟩ := s
 simp only at *
 subst hk
 obtain ⟨W1, hW1⟩ : ∃ W1, W1 = w.alloc (.cells #[.slice a1 P.vars.length c1, .slice a2 P.funs.length c2, .slice a3 P.stmts.length c3] 26) := ⟨_, rfl⟩
 obtain ⟨W, hW⟩ : ∃ W, W = W1.alloc (.cells #[.int .i64 sn, .int .i64 so, .int .i64 (k : Int), .int .i64 sf, .int .i64 sv] 48) := ⟨_, rfl⟩
 have x1 : Ext w W1 := by rw [hW1]; exact (Ext.refl _).alloc _
 have x2 : Ext W1 W := by rw [hW]; exact (Ext.refl _).alloc _
 have s1 : W1.heap.size = w.heap.size + 1 := by rw [hW1, heap_size_alloc]
 have HX := hid (x1.trans x2)
 have HBp : Hid (Blk W w.heap.size #[.slice a1 P.vars.length c1, .slice a2 P.funs.length c2, .slice a3 P.stmts.length c3] 26) := hid ((show Blk W1 w.heap.size _ 26 by rw [hW1]; exact Blk.new _ _ _).ext x2)
 have HBs : Hid (Blk W (w.heap.size + 1) #[.int .i64 sn, .int .i64 so, .int .i64 (k : Int), .int .i64 sf, .int .i64 sv] 48) := hid (by rw [← s1, hW]; exact Blk.new _ _ _)
 obtain ⟨q0, q1, q2, q3, q4⟩ := (hr.ext x1).at5 hs
 have HWe : Hid (W = (w.alloc (.cells #[.slice a1 P.vars.length c1, .slice a2 P.funs.length c2, .slice a3 P.stmts.length c3] 26)).alloc (.cells #[.int .i64 sn, .int .i64 so, .int .i64 (k : Int), .int .i64 sf, .int .i64 sv] 48)) := hid (by rw [hW, hW1])
 have HRu := hid (rruleof_any a1 a2 a3 c1 c2 c3 P k y hy W n0 (h.ext HX.out) hw)
 unfold pval at HRu
 have HP := hid (h.ext HX.out)
 have Hr := hid hr
 have p0 := HBp.out.av 0 rfl
 have p1 := HBp.out.av 1 rfl
 have p2 := HBp.out.av 2 rfl
 have e2 := HBs.out.av 2 rfl
 simp only [qA0, qA1, qA2] at p0 p1 p2 e2
 rw [HWe.out] at p0 p1 p2 e2
 simp only at q0 q1 q2 q3 q4
 rw [hW1] at q0 q1 q2 q3 q4
 unfold pval
 clear h hr hW hW1 x1 x2 s1 hs
 generalize P.ruleR k y = r at *
 go_enter Tryz.func48, Tryz.ntmps48
 go_wp2_with fail
 rw [← HWe.out]
 refine HRu.out.mono ?_
 intro e w2 hx
 obtain ⟨av, rfl, hI, hx2⟩ := hx
 obtain ⟨aa, ca, rfl, hal1, hal2, _⟩ := id hI
 have hal : (r.args.length : Int) ≤ 9223372036854775807 := by omega
 obtain ⟨W3, hW3⟩ : ∃ W3, W3 = w2.alloc (.cells #[.string r.kind, .int .i64 r.a, .int .i64 r.b, .int .i64 r.k, .slice aa r.args.length ca] 139) := ⟨_, rfl⟩
 have HX3 : Hid (Ext w2 W3) := hid (by rw [hW3]; exact (Ext.refl _).alloc _)
 have Hx2 := hid hx2
 have HI := hid hI
 have HBs3 := hid ((HBs.out.ext hx2).ext HX3.out)
 have HBp3 := hid ((HBp.out.ext hx2).ext HX3.out)
 have HBr3 : Hid (Blk W3 w2.heap.size #[.string r.kind, .int .i64 r.a, .int .i64 r.b, .int .i64 r.k, .slice aa r.args.length ca] 139) := hid (by rw [hW3]; exact Blk.new _ _ _)
 have HXw : Hid (Ext w W3) := hid ((HX.out.trans hx2).trans HX3.out)
 have HW3 := hid hW3
 unfold RV.val
 clear HRu hx2 hI hal1 hal2 q0 q1 q2 q3 q4 p0 p1 p2 e2 hW3
 have e0 := HBs3.out.av 0 rfl
 have e1 := HBs3.out.av 1 rfl
 have e3 := HBs3.out.av 3 rfl
 have e4 := HBs3.out.av 4 rfl
 have p0 := HBp3.out.av 0 rfl
 have p1 := HBp3.out.av 1 rfl
 have p2 := HBp3.out.av 2 rfl
 simp only [qA0, qA1, qA2] at e0 e1 e3 e4 p0 p1 p2
 rw [HW3.out] at e0 e1 e3 e4 p0 p1 p2
 have hnn := hw.nodes.1
 have hff := hw.few
 have hNl := (List.getElem?_eq_some_iff.1 hfk).1
 have hv := hv.out
 subst hv
 have hz := hz.out
 have hf := hf.out
 have hxo := hxo.out
 subst hf hxo
 have hx := hx.out
 have hfl := (List.getElem?_eq_some_iff.1 hx).1
 obtain ⟨t0, t1, t2, t3, t4⟩ := (Hr.out.ext HXw.out).at5 hx
 rw [HW3.out] at t0 t1 t2 t3 t4
 obtain ⟨W4, hW4⟩ : ∃ W4, W4 = W3.alloc (.cells #[.int .i64 x.node, .int .i64 x.obj, .int .i64 x.stmt, .int .i64 x.frm, .int .i64 x.via] 48) := ⟨_, rfl⟩
 obtain ⟨W5, hW5⟩ : ∃ W5, W5 = W4.alloc (.cells #[.int .i64 0, .int .i64 0, .int .i64 0, .int .i64 0, .int .i64 0] 48) := ⟨_, rfl⟩
 obtain ⟨W6, hW6⟩ : ∃ W6, W6 = W4.alloc (.cells #[.int .i64 z.node, .int .i64 z.obj, .int .i64 z.stmt, .int .i64 z.frm, .int .i64 z.via] 48) := ⟨_, rfl⟩
 have s3 : W3.heap.size = w2.heap.size + 1 := by rw [HW3.out, heap_size_alloc]
 have s4 : W4.heap.size = w2.heap.size + 2 := by rw [hW4, heap_size_alloc, s3]
 have x4 : Ext W3 W4 := by rw [hW4]; exact (Ext.refl _).alloc _
 have x5 : Ext W4 W5 := by rw [hW5]; exact (Ext.refl _).alloc _
 have x6 : Ext W4 W6 := by rw [hW6]; exact (Ext.refl _).alloc _
 have HXz := hid (HXw.out.trans (x4.trans x6))
 have HX6 : Hid (Ext W W6) := hid ((Hx2.out.trans HX3.out).trans (x4.trans x6))
 have HBx6 : Hid (Blk W6 (w2.heap.size + 1) #[.int .i64 x.node, .int .i64 x.obj, .int .i64 x.stmt, .int .i64 x.frm, .int .i64 x.via] 48) := hid ((show Blk W4 (w2.heap.size + 1) _ 48 by rw [← s3, hW4]; exact Blk.new _ _ _).ext x6)
 have HBz6 : Hid (Blk W6 (w2.heap.size + 2) #[.int .i64 z.node, .int .i64 z.obj, .int .i64 z.stmt, .int .i64 z.frm, .int .i64 z.via] 48) := hid (by rw [← s4, hW6]; exact Blk.new _ _ _)
 have HBs6 := hid ((HBs3.out.ext x4).ext x6)
 have HBp6 := hid ((HBp3.out.ext x4).ext x6)
 have HBr6 := hid ((HBr3.out.ext x4).ext x6)
 clear e1 e4 p0 p1 p2
 have e1 := (HBs3.out.ext x4).av 1 rfl
 have e4 := ((HBs3.out.ext x4).ext x5).av 4 rfl
 have p0 := HBp6.out.av 0 rfl
 have p1 := HBp6.out.av 1 rfl
 have p2 := HBp6.out.av 2 rfl
 simp only [qA0, qA1, qA2] at e1 e4 p0 p1 p2
 have HNo := hid (rnodesof_any a1 a2 a3 c1 c2 c3 P W6 n0 (HP.out.ext ((Hx2.out.trans HX3.out).trans (x4.trans x6))) (by have := hw.few; omega) (by have := hw.few; omega))
 unfold pval at HNo
 have HW6 : Hid (W6 = (((w2.alloc (.cells #[.string r.kind, .int .i64 r.a, .int .i64 r.b, .int .i64 r.k, .slice aa r.args.length ca] 139)).alloc (.cells #[.int .i64 x.node, .int .i64 x.obj, .int .i64 x.stmt, .int .i64 x.frm, .int .i64 x.via] 48)).alloc (.cells #[.int .i64 z.node, .int .i64 z.obj, .int .i64 z.stmt, .int .i64 z.frm, .int .i64 z.via] 48))) := hid (by rw [hW6, hW4, HW3.out])
 rw [hW4, HW3.out] at e1
 rw [hW5, hW4, HW3.out] at e4
 rw [HW6.out] at p0 p1 p2
 obtain ⟨v0, v1, v2, v3, v4⟩ := (Hr.out.ext ((HXw.out.trans x4).trans x5)).at5 hz
 rw [hW5, hW4, HW3.out] at v0 v1 v2 v3 v4
 have hvl := (List.getElem?_eq_some_iff.1 hz).1
 have b4 := (show Blk W5 (w2.heap.size + 2) #[.int .i64 0, .int .i64 0, .int .i64 0, .int .i64 0, .int .i64 0] 48 by rw [← s4, hW5]; exact Blk.new _ _ _)
 clear hz
 clear hW4 hW5 hW6 s3 s4 x4 x5 x6 hx
 go_wp2_with fail
 rw [← HW6.out]
 refine HNo.out.mono ?_
 intro e w7 hx
 obtain ⟨rfl, hx7⟩ := hx
 have Hx7 := hid (HXz.out.trans hx7)
 have Hy7 := hid hx7
 clear t0 t1 t2 t3 t4 e0 e1 e3 e4 p0 p1 p2
 have e0 := (HBs6.out.ext hx7).av 0 rfl
 have e1 := (HBs6.out.ext hx7).av 1 rfl
 have t0 := (HBx6.out.ext hx7).av 0 rfl
 have u0 := (HBz6.out.ext hx7).av 0 rfl
 have u1 := (HBz6.out.ext hx7).av 1 rfl
 have r0 := (HBr6.out.ext hx7).av 0 rfl
 have r1 := (HBr6.out.ext hx7).av 1 rfl
 have r2 := (HBr6.out.ext hx7).av 2 rfl
 simp only [qA0, qA1, qA2] at e0 e1 t0 u0 u1 r0 r1 r2
 clear HNo hx7
 clear v0 v1 v2 v3 v4 b4
 rw [hzo.out] at u1
 have r4 := (HBr6.out.ext Hy7.out).av 4 rfl
 have p1 := (HBp6.out.ext Hy7.out).av 1 rfl
 simp only [qA0, qA1, qA2] at r4 p1
 obtain ⟨yf, f1, afp, cfp, hyf, hfk2, y0, y1, y2, hIp⟩ := (HP.out.ext (HX6.out.trans Hy7.out)).funs.at hNl
 obtain rfl : f0 = f1 := Option.some.inj (hfk.symm.trans hfk2)
 subst hyf
 have HIp := hid hIp
 have HIa := hid (HI.out.old ((HX6.out.trans Hy7.out).old n0))
 have g0 : ¬ ((P.nodesV : Int) + (N : Int) < (P.nodesV : Int)) := by omega
 have g1 : ¬ ((P.nodesV : Int) + (P.funs.length : Int) ≤ (P.nodesV : Int) + (N : Int)) := by omega
 have h1n : (z.node != r.a) = false := by unfold bne; rw [h1]; rfl
 have g2 : ¬ (P.funs.length ≤ N) := by omega
 have g3 : ¬ ((P.funs.length : Int) ≤ (N : Int)) := by omega
 have hfl1 : f0.params.length ≤ 1000 := by have := (PP.goodF (PP.funs_ok hw.1) (List.mem_of_getElem? hfk)).few; omega
 rw [hlen] at y1 HIp
 obtain ⟨W8, hW8⟩ : ∃ W8, W8 = w7.alloc (.cells #[.string f0.name, .slice afp r.args.length cfp, .int .i64 f0.ret] 78) := ⟨_, rfl⟩
 have x8 : Ext w7 W8 := by rw [hW8]; exact (Ext.refl _).alloc _
 have HX8 := hid (Hx7.out.trans x8)
 have HW8 := hid hW8
 have Hy8 := hid (Hy7.out.trans x8)
 have HBf8 : Hid (Blk W8 w7.heap.size #[.string f0.name, .slice afp r.args.length cfp, .int .i64 f0.ret] 78) := hid (by rw [hW8]; exact Blk.new _ _ _)
 clear r2 r4 t0 e0
 have r2 := (HBr6.out.ext Hy8.out).av 2 rfl
 have r4 := (HBr6.out.ext Hy8.out).av 4 rfl
 have t0 := (HBx6.out.ext Hy8.out).av 0 rfl
 have e0 := (HBs6.out.ext Hy8.out).av 0 rfl
 simp only [qA0, qA1, qA2] at r2 r4 t0 e0
 rw [hW8] at r2 r4 t0 e0
 clear hfk2 hIp hW8 x8
 generalize P.nodesV = NN at *
 go_wp2
 go_ret
 rw [← HW8.out]
 exact ⟨rfl, HX8.out⟩
set_option maxRecDepth 100000 in
set_option maxHeartbeats 6400000 in
theorem rfollows_later (a1 a2 a3 : Option Addr) (c1 c2 c3 : Nat) (P : PP) (vl : Value) (L : List ST) (i : Nat) (s : ST) (k : Nat) (y : PS) (w : World) (n0 : Nat) (h : ProgR w n0 (.slice a1 P.vars.length c1) (.slice a2 P.funs.length c2) (.slice a3 P.stmts.length c3) P) (hw : P.Well) (n1 : Nat) (hr : StepsR w n1 vl L) (hll : L.length ≤ 2000) (hs : L[i]? = some s) (hk : s.stmt = (k : Int)) (hy : P.stmts[k]? = some y) (hkb : ((P.ruleR k y).kind.toList == [98, 97, 115, 101]) = false) (hkc : ((P.ruleR k y).kind.toList == [99, 111, 112, 121]) = false) (hkl : ((P.ruleR k y).kind.toList == [108, 111, 97, 100]) = false) (hks : ((P.ruleR k y).kind.toList == [115, 116, 111, 114, 101]) = false) (f : Nat) (x : ST) (hf : Hid (s.frm = (f : Int))) (hx : Hid (L[f]? = some x)) (hxo : Hid (x.obj = s.obj)) (v : Nat) (z : ST) (hv : Hid (s.via = (v : Int))) (hz : Hid (L[v]? = some z)) (h1 : (z.node == (P.ruleR k y).a) = true) (N : Nat) (hzo : Hid (z.obj = (P.nodesV : Int) + (N : Int))) (f0 : PF) (hfk : P.funs[N]? = some f0) (hlen : f0.params.length = (P.ruleR k y).args.length) (m : Nat) (hm1 : Hid ((P.ruleR k y).args[m]? = some x.node)) (hm2 : Hid (f0.params[m]? = some s.node)) :
  Calls Tryz.prog 48 #[pval a1 a2 a3 c1 c2 c3 P, vl, .int .i64 (i : Int)] w fun e w' => e = .returned (.bool (true)) ∧ Ext w w' := by
 have hil := (List.getElem?_eq_some_iff.1 hs).1
 obtain ⟨y8, c8, rfl⟩ := hr.some (by omega)
 obtain ⟨sn, so, ss, sf, sv⟩ := s
 simp only at *
 subst hk
 obtain ⟨W1, hW1⟩ : ∃ W1, W1 = w.alloc (.cells #[.slice a1 P.vars.length c1, .slice a2 P.funs.length c2, .slice a3 P.stmts.length c3] 26) := ⟨_, rfl⟩
 obtain ⟨W, hW⟩ : ∃ W, W = W1.alloc (.cells #[.int .i64 sn, .int .i64 so, .int .i64 (k : Int), .int .i64 sf, .int .i64 sv] 48) := ⟨_, rfl⟩
 have x1 : Ext w W1 := by rw [hW1]; exact (Ext.refl _).alloc _
 have x2 : Ext W1 W := by rw [hW]; exact (Ext.refl _).alloc _
 have s1 : W1.heap.size = w.heap.size + 1 := by rw [hW1, heap_size_alloc]
 have HX := hid (x1.trans x2)
 have HBp : Hid (Blk W w.heap.size #[.slice a1 P.vars.length c1, .slice a2 P.funs.length c2, .slice a3 P.stmts.length c3] 26) := hid ((show Blk W1 w.heap.size _ 26 by rw [hW1]; exact Blk.new _ _ _).ext x2)
 have HBs : Hid (Blk W (w.heap.size + 1) #[.int .i64 sn, .int .i64 so, .int .i64 (k : Int), .int .i64 sf, .int .i64 sv] 48) := hid (by rw [← s1, hW]; exact Blk.new _ _ _)
 obtain ⟨q0, q1, q2, q3, q4⟩ := (hr.ext x1).at5 hs
 have HWe : Hid (W = (w.alloc (.cells #[.slice a1 P.vars.length c1, .slice a2 P.funs.length c2, .slice a3 P.stmts.length c3] 26)).alloc (.cells #[.int .i64 sn, .int .i64 so, .int .i64 (k : Int), .int .i64 sf, .int .i64 sv] 48)) := hid (by rw [hW, hW1])
 have HRu := hid (rruleof_any a1 a2 a3 c1 c2 c3 P k y hy W n0 (h.ext HX.out) hw)
 unfold pval at HRu
 have HP := hid (h.ext HX.out)
 have Hr := hid hr
 have p0 := HBp.out.av 0 rfl
 have p1 := HBp.out.av 1 rfl
 have p2 := HBp.out.av 2 rfl
 have e2 := HBs.out.av 2 rfl
 simp only [qA0, qA1, qA2] at p0 p1 p2 e2
 rw [HWe.out] at p0 p1 p2 e2
 simp only at q0 q1 q2 q3 q4
 rw [hW1] at q0 q1 q2 q3 q4
 unfold pval
 clear h hr hW hW1 x1 x2 s1 hs
 generalize P.ruleR k y = r at *
 go_enter Tryz.func48, Tryz.ntmps48
 go_wp2_with fail
 rw [← HWe.out]
 refine HRu.out.mono ?_
 intro e w2 hx
 obtain ⟨av, rfl, hI, hx2⟩ := hx
 obtain ⟨aa, ca, rfl, hal1, hal2, _⟩ := id hI
 have hal : (r.args.length : Int) ≤ 9223372036854775807 := by omega
 obtain ⟨W3, hW3⟩ : ∃ W3, W3 = w2.alloc (.cells #[.string r.kind, .int .i64 r.a, .int .i64 r.b, .int .i64 r.k, .slice aa r.args.length ca] 139) := ⟨_, rfl⟩
 have HX3 : Hid (Ext w2 W3) := hid (by rw [hW3]; exact (Ext.refl _).alloc _)
 have Hx2 := hid hx2
 have HI := hid hI
 have HBs3 := hid ((HBs.out.ext hx2).ext HX3.out)
 have HBp3 := hid ((HBp.out.ext hx2).ext HX3.out)
 have HBr3 : Hid (Blk W3 w2.heap.size #[.string r.kind, .int .i64 r.a, .int .i64 r.b, .int .i64 r.k, .slice aa r.args.length ca] 139) := hid (by rw [hW3]; exact Blk.new _ _ _)
 have HXw : Hid (Ext w W3) := hid ((HX.out.trans hx2).trans HX3.out)
 have HW3 := hid hW3
 unfold RV.val
 clear HRu hx2 hI hal1 hal2 q0 q1 q2 q3 q4 p0 p1 p2 e2 hW3
 have e0 := HBs3.out.av 0 rfl
 have e1 := HBs3.out.av 1 rfl
 have e3 := HBs3.out.av 3 rfl
 have e4 := HBs3.out.av 4 rfl
 have p0 := HBp3.out.av 0 rfl
 have p1 := HBp3.out.av 1 rfl
 have p2 := HBp3.out.av 2 rfl
 simp only [qA0, qA1, qA2] at e0 e1 e3 e4 p0 p1 p2
 rw [HW3.out] at e0 e1 e3 e4 p0 p1 p2
 have hnn := hw.nodes.1
 have hff := hw.few
 have hNl := (List.getElem?_eq_some_iff.1 hfk).1
 have hv := hv.out
 subst hv
 have hz := hz.out
 have hf := hf.out
 have hxo := hxo.out
 subst hf hxo
 have hx := hx.out
 have hfl := (List.getElem?_eq_some_iff.1 hx).1
 obtain ⟨t0, t1, t2, t3, t4⟩ := (Hr.out.ext HXw.out).at5 hx
 rw [HW3.out] at t0 t1 t2 t3 t4
 obtain ⟨W4, hW4⟩ : ∃ W4, W4 = W3.alloc (.cells #[.int .i64 x.node, .int .i64 x.obj, .int .i64 x.stmt, .int .i64 x.frm, .int .i64 x.via] 48) := ⟨_, rfl⟩
 obtain ⟨W5, hW5⟩ : ∃ W5, W5 = W4.alloc (.cells #[.int .i64 0, .int .i64 0, .int .i64 0, .int .i64 0, .int .i64 0] 48) := ⟨_, rfl⟩
 obtain ⟨W6, hW6⟩ : ∃ W6, W6 = W4.alloc (.cells #[.int .i64 z.node, .int .i64 z.obj, .int .i64 z.stmt, .int .i64 z.frm, .int .i64 z.via] 48) := ⟨_, rfl⟩
 have s3 : W3.heap.size = w2.heap.size + 1 := by rw [HW3.out, heap_size_alloc]
 have s4 : W4.heap.size = w2.heap.size + 2 := by rw [hW4, heap_size_alloc, s3]
 have x4 : Ext W3 W4 := by rw [hW4]; exact (Ext.refl _).alloc _
 have x5 : Ext W4 W5 := by rw [hW5]; exact (Ext.refl _).alloc _
 have x6 : Ext W4 W6 := by rw [hW6]; exact (Ext.refl _).alloc _
 have HXz := hid (HXw.out.trans (x4.trans x6))
 have HX6 : Hid (Ext W W6) := hid ((Hx2.out.trans HX3.out).trans (x4.trans x6))
 have HBx6 : Hid (Blk W6 (w2.heap.size + 1) #[.int .i64 x.node, .int .i64 x.obj, .int .i64 x.stmt, .int .i64 x.frm, .int .i64 x.via] 48) := hid ((show Blk W4 (w2.heap.size + 1) _ 48 by rw [← s3, hW4]; exact Blk.new _ _ _).ext x6)
 have HBz6 : Hid (Blk W6 (w2.heap.size + 2) #[.int .i64 z.node, .int .i64 z.obj, .int .i64 z.stmt, .int .i64 z.frm, .int .i64 z.via] 48) := hid (by rw [← s4, hW6]; exact Blk.new _ _ _)
 have HBs6 := hid ((HBs3.out.ext x4).ext x6)
 have HBp6 := hid ((HBp3.out.ext x4).ext x6)
 have HBr6 := hid ((HBr3.out.ext x4).ext x6)
 clear e1 e4 p0 p1 p2
 have e1 := (HBs3.out.ext x4).av 1 rfl
 have e4 := ((HBs3.out.ext x4).ext x5).av 4 rfl
 have p0 := HBp6.out.av 0 rfl
 have p1 := HBp6.out.av 1 rfl
 have p2 := HBp6.out.av 2 rfl
 simp only [qA0, qA1, qA2] at e1 e4 p0 p1 p2
 have HNo := hid (rnodesof_any a1 a2 a3 c1 c2 c3 P W6 n0 (HP.out.ext ((Hx2.out.trans HX3.out).trans (x4.trans x6))) (by have := hw.few; omega) (by have := hw.few; omega))
 unfold pval at HNo
 have HW6 : Hid (W6 = (((w2.alloc (.cells #[.string r.kind, .int .i64 r.a, .int .i64 r.b, .int .i64 r.k, .slice aa r.args.length ca] 139)).alloc (.cells #[.int .i64 x.node, .int .i64 x.obj, .int .i64 x.stmt, .int .i64 x.frm, .int .i64 x.via] 48)).alloc (.cells #[.int .i64 z.node, .int .i64 z.obj, .int .i64 z.stmt, .int .i64 z.frm, .int .i64 z.via] 48))) := hid (by rw [hW6, hW4, HW3.out])
 rw [hW4, HW3.out] at e1
 rw [hW5, hW4, HW3.out] at e4
 rw [HW6.out] at p0 p1 p2
 obtain ⟨v0, v1, v2, v3, v4⟩ := (Hr.out.ext ((HXw.out.trans x4).trans x5)).at5 hz
 rw [hW5, hW4, HW3.out] at v0 v1 v2 v3 v4
 have hvl := (List.getElem?_eq_some_iff.1 hz).1
 have b4 := (show Blk W5 (w2.heap.size + 2) #[.int .i64 0, .int .i64 0, .int .i64 0, .int .i64 0, .int .i64 0] 48 by rw [← s4, hW5]; exact Blk.new _ _ _)
 clear hz
 clear hW4 hW5 hW6 s3 s4 x4 x5 x6 hx
 go_wp2_with fail
 rw [← HW6.out]
 refine HNo.out.mono ?_
 intro e w7 hx
 obtain ⟨rfl, hx7⟩ := hx
 have Hx7 := hid (HXz.out.trans hx7)
 have Hy7 := hid hx7
 clear t0 t1 t2 t3 t4 e0 e1 e3 e4 p0 p1 p2
 have e0 := (HBs6.out.ext hx7).av 0 rfl
 have e1 := (HBs6.out.ext hx7).av 1 rfl
 have t0 := (HBx6.out.ext hx7).av 0 rfl
 have u0 := (HBz6.out.ext hx7).av 0 rfl
 have u1 := (HBz6.out.ext hx7).av 1 rfl
 have r0 := (HBr6.out.ext hx7).av 0 rfl
 have r1 := (HBr6.out.ext hx7).av 1 rfl
 have r2 := (HBr6.out.ext hx7).av 2 rfl
 simp only [qA0, qA1, qA2] at e0 e1 t0 u0 u1 r0 r1 r2
 clear HNo hx7
 clear v0 v1 v2 v3 v4 b4
 rw [hzo.out] at u1
 have r4 := (HBr6.out.ext Hy7.out).av 4 rfl
 have p1 := (HBp6.out.ext Hy7.out).av 1 rfl
 simp only [qA0, qA1, qA2] at r4 p1
 obtain ⟨yf, f1, afp, cfp, hyf, hfk2, y0, y1, y2, hIp⟩ := (HP.out.ext (HX6.out.trans Hy7.out)).funs.at hNl
 obtain rfl : f0 = f1 := Option.some.inj (hfk.symm.trans hfk2)
 subst hyf
 have HIp := hid hIp
 have HIa := hid (HI.out.old ((HX6.out.trans Hy7.out).old n0))
 have g0 : ¬ ((P.nodesV : Int) + (N : Int) < (P.nodesV : Int)) := by omega
 have g1 : ¬ ((P.nodesV : Int) + (P.funs.length : Int) ≤ (P.nodesV : Int) + (N : Int)) := by omega
 have h1n : (z.node != r.a) = false := by unfold bne; rw [h1]; rfl
 have g2 : ¬ (P.funs.length ≤ N) := by omega
 have g3 : ¬ ((P.funs.length : Int) ≤ (N : Int)) := by omega
 have hfl1 : f0.params.length ≤ 1000 := by have := (PP.goodF (PP.funs_ok hw.1) (List.mem_of_getElem? hfk)).few; omega
 rw [hlen] at y1 HIp
 obtain ⟨W8, hW8⟩ : ∃ W8, W8 = w7.alloc (.cells #[.string f0.name, .slice afp r.args.length cfp, .int .i64 f0.ret] 78) := ⟨_, rfl⟩
 have x8 : Ext w7 W8 := by rw [hW8]; exact (Ext.refl _).alloc _
 have HX8 := hid (Hx7.out.trans x8)
 have HW8 := hid hW8
 have Hy8 := hid (Hy7.out.trans x8)
 have HBf8 : Hid (Blk W8 w7.heap.size #[.string f0.name, .slice afp r.args.length cfp, .int .i64 f0.ret] 78) := hid (by rw [hW8]; exact Blk.new _ _ _)
 clear r2 r4 t0 e0
 have r2 := (HBr6.out.ext Hy8.out).av 2 rfl
 have r4 := (HBr6.out.ext Hy8.out).av 4 rfl
 have t0 := (HBx6.out.ext Hy8.out).av 0 rfl
 have e0 := (HBs6.out.ext Hy8.out).av 0 rfl
 simp only [qA0, qA1, qA2] at r2 r4 t0 e0
 rw [hW8] at r2 r4 t0 e0
 clear hfk2 hIp hW8 x8
 generalize P.nodesV = NN at *
 cases hb1 : (x.node == f0.ret) with
 | true =>
  cases hb2 : (sn == r.b) with
  | true =>
   go_wp2
   go_ret
   rw [← HW8.out]
   exact ⟨rfl, HX8.out⟩
  | false =>
   have HIa8 := hid (HIa.out.old (((Ext.refl w7).trans (by rw [HW8.out]; exact (Ext.refl _).alloc _ : Ext w7 W8)).old n0))
   have HIp8 := hid (HIp.out.old (((Ext.refl w7).trans (by rw [HW8.out]; exact (Ext.refl _).alloc _ : Ext w7 W8)).old n0))
   have hml : m < r.args.length := (List.getElem?_eq_some_iff.1 hm1.out).1
   go_wp2
   rw [← HW8.out]
   clear u0 u1 r0 r1 r2 r4 t0 e0 e1 p1 y0 y1 y2 g0 g1
   go_loopw [13] (fun t13 wr => ∃ j : Nat, t13 = .int .i64 (j : Int) ∧ j ≤ m ∧ Ext W8 wr) (fun t13 _ => m - (intOf t13).toNat)
   case atStart => exact ⟨0, rfl, Nat.zero_le _, Ext.refl _⟩
   case round =>
    obtain ⟨j, rfl, hj, hxr⟩ := hrel
    have Hxr := hid hxr
    obtain ⟨ya, qa, hya, hqa, ca1⟩ := (HIa8.out.old (hxr.old n0)).at (k := j) (by omega)
    obtain ⟨yp, qp, hyp, hqp, cp1⟩ := (hlen ▸ (HIp8.out.old (hxr.old n0)) : IntsR wr n0 (.slice afp r.args.length cfp) f0.params).at (k := j) (by omega)
    subst hya hyp
    have Hqa := hid hqa
    have Hqp := hid hqp
    have f1 := (HBf8.out.ext hxr).av 1 rfl
    have k0 := ((HBx6.out.ext Hy8.out).ext hxr).kc (X := fun _ => False) (fun e => e) 0 rfl
    have k1 := ((HBr6.out.ext Hy8.out).ext hxr).kc (X := fun _ => False) (fun e => e) 4 rfl
    have k2 := ((HBs6.out.ext Hy8.out).ext hxr).kc (X := fun _ => False) (fun e => e) 0 rfl
    have k3 := (HBf8.out.ext hxr).kc (X := fun _ => False) (fun e => e) 1 rfl
    simp only [qA0, qA1, qA2] at f1 k0 k1 k2 k3
    have k4 : ∀ w1, Keep (fun _ => False) wr w1 → w1.cell? (ya.add j) = some (.int .i64 qa) := fun w1 kk => kk.ext.cellx ca1
    have k5 : ∀ w1, Keep (fun _ => False) wr w1 → w1.cell? (yp.add j) = some (.int .i64 qp) := fun w1 kk => kk.ext.cellx cp1
    clear hxr hqa hqp
    have hjl : (j : Int) < (r.args.length : Int) := by omega
    cases hc1 : (x.node == qa) with
    | true =>
     cases hc2 : (sn == qp) with
     | true =>
      go_wp2
      refine wp_flowT (fun _ => False) (by kernel_rfl) (by kernel_rfl) ?_
      repeat (apply FlowT.d; (intro w1 hk; unfold does; go_simp; (try go_ints); (first | exact DetR.mk | (simp only [↓IntWalk.iteOmega, Oper.doesUpon_value]; exact DetR.mk) | (simp only [↓IntWalk.iteOmega]; go_simp; (try go_ints); exact DetR.mk))); simp only [Act.put, qS0, qS1, qS2])
      refine FlowT.fin fun w9 hx9 hk9 => ?_
      have Hx9 := hid (HX8.out.trans (Hxr.out.trans hx9))
      clear hx9 hk9 k0 k1 k2 k3 k4 k5 f1
      go_wp2
      go_ret
      exact ⟨rfl, Hx9.out⟩
     | false =>
      have hjm : j < m := by
       rcases Nat.lt_or_ge j m with g | g
       ·exact g
       ·obtain rfl : j = m := by omega
        have := Option.some.inj (Hqp.out.symm.trans hm2.out)
        rw [this] at hc2; simp at hc2
      go_wp2
      refine wp_flowT (fun _ => False) (by kernel_rfl) (by kernel_rfl) ?_
      repeat (apply FlowT.d; (intro w1 hk; unfold does; go_simp; (try go_ints); (first | exact DetR.mk | (simp only [↓IntWalk.iteOmega, Oper.doesUpon_value]; exact DetR.mk) | (simp only [↓IntWalk.iteOmega]; go_simp; (try go_ints); exact DetR.mk))); simp only [Act.put, qS0, qS1, qS2])
      refine FlowT.fin fun w9 hx9 hk9 => ?_
      have Hx9 := hid (Hxr.out.trans hx9)
      clear hx9 hk9 k0 k1 k2 k3 k4 k5 f1
      go_wp2
      go_roundw
      case rel => exact ⟨j + 1, by go_num, by omega, Hx9.out⟩
      case measure => simp [intOf]; omega
    | false =>
     have hjm : j < m := by
      rcases Nat.lt_or_ge j m with g | g
      ·exact g
      ·obtain rfl : j = m := by omega
       have := Option.some.inj (Hqa.out.symm.trans hm1.out)
       rw [this] at hc1; simp at hc1
     go_wp2
     refine wp_flowT (fun _ => False) (by kernel_rfl) (by kernel_rfl) ?_
     repeat (apply FlowT.d; (intro w1 hk; unfold does; go_simp; (try go_ints); (first | exact DetR.mk | (simp only [↓IntWalk.iteOmega, Oper.doesUpon_value]; exact DetR.mk) | (simp only [↓IntWalk.iteOmega]; go_simp; (try go_ints); exact DetR.mk))); simp only [Act.put, qS0, qS1, qS2])
     refine FlowT.fin fun w9 hx9 hk9 => ?_
     have Hx9 := hid (Hxr.out.trans hx9)
     clear hx9 hk9 k0 k1 k2 k3 k4 k5 f1
     go_wp2
     go_roundw
     case rel => exact ⟨j + 1, by go_num, by omega, Hx9.out⟩
     case measure => simp [intOf]; omega
 | false =>
  have HIa8 := hid (HIa.out.old (((Ext.refl w7).trans (by rw [HW8.out]; exact (Ext.refl _).alloc _ : Ext w7 W8)).old n0))
  have HIp8 := hid (HIp.out.old (((Ext.refl w7).trans (by rw [HW8.out]; exact (Ext.refl _).alloc _ : Ext w7 W8)).old n0))
  have hml : m < r.args.length := (List.getElem?_eq_some_iff.1 hm1.out).1
  go_wp2
  rw [← HW8.out]
  clear u0 u1 r0 r1 r2 r4 t0 e0 e1 p1 y0 y1 y2 g0 g1
  go_loopw [13] (fun t13 wr => ∃ j : Nat, t13 = .int .i64 (j : Int) ∧ j ≤ m ∧ Ext W8 wr) (fun t13 _ => m - (intOf t13).toNat)
  case atStart => exact ⟨0, rfl, Nat.zero_le _, Ext.refl _⟩
  case round =>
   obtain ⟨j, rfl, hj, hxr⟩ := hrel
   have Hxr := hid hxr
   obtain ⟨ya, qa, hya, hqa, ca1⟩ := (HIa8.out.old (hxr.old n0)).at (k := j) (by omega)
   obtain ⟨yp, qp, hyp, hqp, cp1⟩ := (hlen ▸ (HIp8.out.old (hxr.old n0)) : IntsR wr n0 (.slice afp r.args.length cfp) f0.params).at (k := j) (by omega)
   subst hya hyp
   have Hqa := hid hqa
   have Hqp := hid hqp
   have f1 := (HBf8.out.ext hxr).av 1 rfl
   have k0 := ((HBx6.out.ext Hy8.out).ext hxr).kc (X := fun _ => False) (fun e => e) 0 rfl
   have k1 := ((HBr6.out.ext Hy8.out).ext hxr).kc (X := fun _ => False) (fun e => e) 4 rfl
   have k2 := ((HBs6.out.ext Hy8.out).ext hxr).kc (X := fun _ => False) (fun e => e) 0 rfl
   have k3 := (HBf8.out.ext hxr).kc (X := fun _ => False) (fun e => e) 1 rfl
   simp only [qA0, qA1, qA2] at f1 k0 k1 k2 k3
   have k4 : ∀ w1, Keep (fun _ => False) wr w1 → w1.cell? (ya.add j) = some (.int .i64 qa) := fun w1 kk => kk.ext.cellx ca1
   have k5 : ∀ w1, Keep (fun _ => False) wr w1 → w1.cell? (yp.add j) = some (.int .i64 qp) := fun w1 kk => kk.ext.cellx cp1
   clear hxr hqa hqp
   have hjl : (j : Int) < (r.args.length : Int) := by omega
   cases hc1 : (x.node == qa) with
   | true =>
    cases hc2 : (sn == qp) with
    | true =>
     go_wp2
     refine wp_flowT (fun _ => False) (by kernel_rfl) (by kernel_rfl) ?_
     repeat (apply FlowT.d; (intro w1 hk; unfold does; go_simp; (try go_ints); (first | exact DetR.mk | (simp only [↓IntWalk.iteOmega, Oper.doesUpon_value]; exact DetR.mk) | (simp only [↓IntWalk.iteOmega]; go_simp; (try go_ints); exact DetR.mk))); simp only [Act.put, qS0, qS1, qS2])
     refine FlowT.fin fun w9 hx9 hk9 => ?_
     have Hx9 := hid (HX8.out.trans (Hxr.out.trans hx9))
     clear hx9 hk9 k0 k1 k2 k3 k4 k5 f1
     go_wp2
     go_ret
     exact ⟨rfl, Hx9.out⟩
    | false =>
     have hjm : j < m := by
      rcases Nat.lt_or_ge j m with g | g
      ·exact g
      ·obtain rfl : j = m := by omega
       have := Option.some.inj (Hqp.out.symm.trans hm2.out)
       rw [this] at hc2; simp at hc2
     go_wp2
     refine wp_flowT (fun _ => False) (by kernel_rfl) (by kernel_rfl) ?_
     repeat (apply FlowT.d; (intro w1 hk; unfold does; go_simp; (try go_ints); (first | exact DetR.mk | (simp only [↓IntWalk.iteOmega, Oper.doesUpon_value]; exact DetR.mk) | (simp only [↓IntWalk.iteOmega]; go_simp; (try go_ints); exact DetR.mk))); simp only [Act.put, qS0, qS1, qS2])
     refine FlowT.fin fun w9 hx9 hk9 => ?_
     have Hx9 := hid (Hxr.out.trans hx9)
     clear hx9 hk9 k0 k1 k2 k3 k4 k5 f1
     go_wp2
     go_roundw
     case rel => exact ⟨j + 1, by go_num, by omega, Hx9.out⟩
     case measure => simp [intOf]; omega
   | false =>
    have hjm : j < m := by
     rcases Nat.lt_or_ge j m with g | g
     ·exact g
     ·obtain rfl : j = m := by omega
      have := Option.some.inj (Hqa.out.symm.trans hm1.out)
      rw [this] at hc1; simp at hc1
    go_wp2
    refine wp_flowT (fun _ => False) (by kernel_rfl) (by kernel_rfl) ?_
    repeat (apply FlowT.d; (intro w1 hk; unfold does; go_simp; (try go_ints); (first | exact DetR.mk | (simp only [↓IntWalk.iteOmega, Oper.doesUpon_value]; exact DetR.mk) | (simp only [↓IntWalk.iteOmega]; go_simp; (try go_ints); exact DetR.mk))); simp only [Act.put, qS0, qS1, qS2])
    refine FlowT.fin fun w9 hx9 hk9 => ?_
    have Hx9 := hid (Hxr.out.trans hx9)
    clear hx9 hk9 k0 k1 k2 k3 k4 k5 f1
    go_wp2
    go_roundw
    case rel => exact ⟨j + 1, by go_num, by omega, Hx9.out⟩
    case measure => simp [intOf]; omega
set_option maxRecDepth 100000 in
set_option maxHeartbeats 6400000 in
theorem rfollows_none (a1 a2 a3 : Option Addr) (c1 c2 c3 : Nat) (P : PP) (vl : Value) (L : List ST) (i : Nat) (s : ST) (k : Nat) (y : PS) (w : World) (n0 : Nat) (h : ProgR w n0 (.slice a1 P.vars.length c1) (.slice a2 P.funs.length c2) (.slice a3 P.stmts.length c3) P) (hw : P.Well) (n1 : Nat) (hr : StepsR w n1 vl L) (hll : L.length ≤ 2000) (hs : L[i]? = some s) (hk : s.stmt = (k : Int)) (hy : P.stmts[k]? = some y) (hkb : ((P.ruleR k y).kind.toList == [98, 97, 115, 101]) = false) (hkc : ((P.ruleR k y).kind.toList == [99, 111, 112, 121]) = false) (hkl : ((P.ruleR k y).kind.toList == [108, 111, 97, 100]) = false) (hks : ((P.ruleR k y).kind.toList == [115, 116, 111, 114, 101]) = false) (f : Nat) (x : ST) (hf : Hid (s.frm = (f : Int))) (hx : Hid (L[f]? = some x)) (hxo : Hid (x.obj = s.obj)) (v : Nat) (z : ST) (hv : Hid (s.via = (v : Int))) (hz : Hid (L[v]? = some z)) (h1 : (z.node == (P.ruleR k y).a) = true) (N : Nat) (hzo : Hid (z.obj = (P.nodesV : Int) + (N : Int))) (f0 : PF) (hfk : P.funs[N]? = some f0) (hlen : f0.params.length = (P.ruleR k y).args.length) (b1 b2 : Bool) (h2 : (x.node == f0.ret) = b1) (h3 : (s.node == (P.ruleR k y).b) = b2) (hb : (b1 && b2) = false) (Hno : Hid (∀ m : Nat, ¬ ((P.ruleR k y).args[m]? = some x.node ∧ f0.params[m]? = some s.node))) :
  Calls Tryz.prog 48 #[pval a1 a2 a3 c1 c2 c3 P, vl, .int .i64 (i : Int)] w fun e w' => e = .returned (.bool (false)) ∧ Ext w w' := by
 have hil := (List.getElem?_eq_some_iff.1 hs).1
 obtain ⟨y8, c8, rfl⟩ := hr.some (by omega)
 obtain ⟨sn, so, ss, sf, sv⟩ := s
 simp only at *
 subst hk
 obtain ⟨W1, hW1⟩ : ∃ W1, W1 = w.alloc (.cells #[.slice a1 P.vars.length c1, .slice a2 P.funs.length c2, .slice a3 P.stmts.length c3] 26) := ⟨_, rfl⟩
 obtain ⟨W, hW⟩ : ∃ W, W = W1.alloc (.cells #[.int .i64 sn, .int .i64 so, .int .i64 (k : Int), .int .i64 sf, .int .i64 sv] 48) := ⟨_, rfl⟩
 have x1 : Ext w W1 := by rw [hW1]; exact (Ext.refl _).alloc _
 have x2 : Ext W1 W := by rw [hW]; exact (Ext.refl _).alloc _
 have s1 : W1.heap.size = w.heap.size + 1 := by rw [hW1, heap_size_alloc]
 have HX := hid (x1.trans x2)
 have HBp : Hid (Blk W w.heap.size #[.slice a1 P.vars.length c1, .slice a2 P.funs.length c2, .slice a3 P.stmts.length c3] 26) := hid ((show Blk W1 w.heap.size _ 26 by rw [hW1]; exact Blk.new _ _ _).ext x2)
 have HBs : Hid (Blk W (w.heap.size + 1) #[.int .i64 sn, .int .i64 so, .int .i64 (k : Int), .int .i64 sf, .int .i64 sv] 48) := hid (by rw [← s1, hW]; exact Blk.new _ _ _)
 obtain ⟨q0, q1, q2, q3, q4⟩ := (hr.ext x1).at5 hs
 have HWe : Hid (W = (w.alloc (.cells #[.slice a1 P.vars.length c1, .slice a2 P.funs.length c2, .slice a3 P.stmts.length c3] 26)).alloc (.cells #[.int .i64 sn, .int .i64 so, .int .i64 (k : Int), .int .i64 sf, .int .i64 sv] 48)) := hid (by rw [hW, hW1])
 have HRu := hid (rruleof_any a1 a2 a3 c1 c2 c3 P k y hy W n0 (h.ext HX.out) hw)
 unfold pval at HRu
 have HP := hid (h.ext HX.out)
 have Hr := hid hr
 have p0 := HBp.out.av 0 rfl
 have p1 := HBp.out.av 1 rfl
 have p2 := HBp.out.av 2 rfl
 have e2 := HBs.out.av 2 rfl
 simp only [qA0, qA1, qA2] at p0 p1 p2 e2
 rw [HWe.out] at p0 p1 p2 e2
 simp only at q0 q1 q2 q3 q4
 rw [hW1] at q0 q1 q2 q3 q4
 unfold pval
 clear h hr hW hW1 x1 x2 s1 hs
 generalize P.ruleR k y = r at *
 go_enter Tryz.func48, Tryz.ntmps48
 go_wp2_with fail
 rw [← HWe.out]
 refine HRu.out.mono ?_
 intro e w2 hx
 obtain ⟨av, rfl, hI, hx2⟩ := hx
 obtain ⟨aa, ca, rfl, hal1, hal2, _⟩ := id hI
 have hal : (r.args.length : Int) ≤ 9223372036854775807 := by omega
 obtain ⟨W3, hW3⟩ : ∃ W3, W3 = w2.alloc (.cells #[.string r.kind, .int .i64 r.a, .int .i64 r.b, .int .i64 r.k, .slice aa r.args.length ca] 139) := ⟨_, rfl⟩
 have HX3 : Hid (Ext w2 W3) := hid (by rw [hW3]; exact (Ext.refl _).alloc _)
 have Hx2 := hid hx2
 have HI := hid hI
 have HBs3 := hid ((HBs.out.ext hx2).ext HX3.out)
 have HBp3 := hid ((HBp.out.ext hx2).ext HX3.out)
 have HBr3 : Hid (Blk W3 w2.heap.size #[.string r.kind, .int .i64 r.a, .int .i64 r.b, .int .i64 r.k, .slice aa r.args.length ca] 139) := hid (by rw [hW3]; exact Blk.new _ _ _)
 have HXw : Hid (Ext w W3) := hid ((HX.out.trans hx2).trans HX3.out)
 have HW3 := hid hW3
 unfold RV.val
 clear HRu hx2 hI hal1 hal2 q0 q1 q2 q3 q4 p0 p1 p2 e2 hW3
 have e0 := HBs3.out.av 0 rfl
 have e1 := HBs3.out.av 1 rfl
 have e3 := HBs3.out.av 3 rfl
 have e4 := HBs3.out.av 4 rfl
 have p0 := HBp3.out.av 0 rfl
 have p1 := HBp3.out.av 1 rfl
 have p2 := HBp3.out.av 2 rfl
 simp only [qA0, qA1, qA2] at e0 e1 e3 e4 p0 p1 p2
 rw [HW3.out] at e0 e1 e3 e4 p0 p1 p2
 have hnn := hw.nodes.1
 have hff := hw.few
 have hNl := (List.getElem?_eq_some_iff.1 hfk).1
 have hv := hv.out
 subst hv
 have hz := hz.out
 have hf := hf.out
 have hxo := hxo.out
 subst hf hxo
 have hx := hx.out
 have hfl := (List.getElem?_eq_some_iff.1 hx).1
 obtain ⟨t0, t1, t2, t3, t4⟩ := (Hr.out.ext HXw.out).at5 hx
 rw [HW3.out] at t0 t1 t2 t3 t4
 obtain ⟨W4, hW4⟩ : ∃ W4, W4 = W3.alloc (.cells #[.int .i64 x.node, .int .i64 x.obj, .int .i64 x.stmt, .int .i64 x.frm, .int .i64 x.via] 48) := ⟨_, rfl⟩
 obtain ⟨W5, hW5⟩ : ∃ W5, W5 = W4.alloc (.cells #[.int .i64 0, .int .i64 0, .int .i64 0, .int .i64 0, .int .i64 0] 48) := ⟨_, rfl⟩
 obtain ⟨W6, hW6⟩ : ∃ W6, W6 = W4.alloc (.cells #[.int .i64 z.node, .int .i64 z.obj, .int .i64 z.stmt, .int .i64 z.frm, .int .i64 z.via] 48) := ⟨_, rfl⟩
 have s3 : W3.heap.size = w2.heap.size + 1 := by rw [HW3.out, heap_size_alloc]
 have s4 : W4.heap.size = w2.heap.size + 2 := by rw [hW4, heap_size_alloc, s3]
 have x4 : Ext W3 W4 := by rw [hW4]; exact (Ext.refl _).alloc _
 have x5 : Ext W4 W5 := by rw [hW5]; exact (Ext.refl _).alloc _
 have x6 : Ext W4 W6 := by rw [hW6]; exact (Ext.refl _).alloc _
 have HXz := hid (HXw.out.trans (x4.trans x6))
 have HX6 : Hid (Ext W W6) := hid ((Hx2.out.trans HX3.out).trans (x4.trans x6))
 have HBx6 : Hid (Blk W6 (w2.heap.size + 1) #[.int .i64 x.node, .int .i64 x.obj, .int .i64 x.stmt, .int .i64 x.frm, .int .i64 x.via] 48) := hid ((show Blk W4 (w2.heap.size + 1) _ 48 by rw [← s3, hW4]; exact Blk.new _ _ _).ext x6)
 have HBz6 : Hid (Blk W6 (w2.heap.size + 2) #[.int .i64 z.node, .int .i64 z.obj, .int .i64 z.stmt, .int .i64 z.frm, .int .i64 z.via] 48) := hid (by rw [← s4, hW6]; exact Blk.new _ _ _)
 have HBs6 := hid ((HBs3.out.ext x4).ext x6)
 have HBp6 := hid ((HBp3.out.ext x4).ext x6)
 have HBr6 := hid ((HBr3.out.ext x4).ext x6)
 clear e1 e4 p0 p1 p2
 have e1 := (HBs3.out.ext x4).av 1 rfl
 have e4 := ((HBs3.out.ext x4).ext x5).av 4 rfl
 have p0 := HBp6.out.av 0 rfl
 have p1 := HBp6.out.av 1 rfl
 have p2 := HBp6.out.av 2 rfl
 simp only [qA0, qA1, qA2] at e1 e4 p0 p1 p2
 have HNo := hid (rnodesof_any a1 a2 a3 c1 c2 c3 P W6 n0 (HP.out.ext ((Hx2.out.trans HX3.out).trans (x4.trans x6))) (by have := hw.few; omega) (by have := hw.few; omega))
 unfold pval at HNo
 have HW6 : Hid (W6 = (((w2.alloc (.cells #[.string r.kind, .int .i64 r.a, .int .i64 r.b, .int .i64 r.k, .slice aa r.args.length ca] 139)).alloc (.cells #[.int .i64 x.node, .int .i64 x.obj, .int .i64 x.stmt, .int .i64 x.frm, .int .i64 x.via] 48)).alloc (.cells #[.int .i64 z.node, .int .i64 z.obj, .int .i64 z.stmt, .int .i64 z.frm, .int .i64 z.via] 48))) := hid (by rw [hW6, hW4, HW3.out])
 rw [hW4, HW3.out] at e1
 rw [hW5, hW4, HW3.out] at e4
 rw [HW6.out] at p0 p1 p2
 obtain ⟨v0, v1, v2, v3, v4⟩ := (Hr.out.ext ((HXw.out.trans x4).trans x5)).at5 hz
 rw [hW5, hW4, HW3.out] at v0 v1 v2 v3 v4
 have hvl := (List.getElem?_eq_some_iff.1 hz).1
 have b4 := (show Blk W5 (w2.heap.size + 2) #[.int .i64 0, .int .i64 0, .int .i64 0, .int .i64 0, .int .i64 0] 48 by rw [← s4, hW5]; exact Blk.new _ _ _)
 clear hz
 clear hW4 hW5 hW6 s3 s4 x4 x5 x6 hx
 go_wp2_with fail
 rw [← HW6.out]
 refine HNo.out.mono ?_
 intro e w7 hx
 obtain ⟨rfl, hx7⟩ := hx
 have Hx7 := hid (HXz.out.trans hx7)
 have Hy7 := hid hx7
 clear t0 t1 t2 t3 t4 e0 e1 e3 e4 p0 p1 p2
 have e0 := (HBs6.out.ext hx7).av 0 rfl
 have e1 := (HBs6.out.ext hx7).av 1 rfl
 have t0 := (HBx6.out.ext hx7).av 0 rfl
 have u0 := (HBz6.out.ext hx7).av 0 rfl
 have u1 := (HBz6.out.ext hx7).av 1 rfl
 have r0 := (HBr6.out.ext hx7).av 0 rfl
 have r1 := (HBr6.out.ext hx7).av 1 rfl
 have r2 := (HBr6.out.ext hx7).av 2 rfl
 simp only [qA0, qA1, qA2] at e0 e1 t0 u0 u1 r0 r1 r2
 clear HNo hx7
 clear v0 v1 v2 v3 v4 b4
 rw [hzo.out] at u1
 have r4 := (HBr6.out.ext Hy7.out).av 4 rfl
 have p1 := (HBp6.out.ext Hy7.out).av 1 rfl
 simp only [qA0, qA1, qA2] at r4 p1
 obtain ⟨yf, f1, afp, cfp, hyf, hfk2, y0, y1, y2, hIp⟩ := (HP.out.ext (HX6.out.trans Hy7.out)).funs.at hNl
 obtain rfl : f0 = f1 := Option.some.inj (hfk.symm.trans hfk2)
 subst hyf
 have HIp := hid hIp
 have HIa := hid (HI.out.old ((HX6.out.trans Hy7.out).old n0))
 have g0 : ¬ ((P.nodesV : Int) + (N : Int) < (P.nodesV : Int)) := by omega
 have g1 : ¬ ((P.nodesV : Int) + (P.funs.length : Int) ≤ (P.nodesV : Int) + (N : Int)) := by omega
 have h1n : (z.node != r.a) = false := by unfold bne; rw [h1]; rfl
 have g2 : ¬ (P.funs.length ≤ N) := by omega
 have g3 : ¬ ((P.funs.length : Int) ≤ (N : Int)) := by omega
 have hfl1 : f0.params.length ≤ 1000 := by have := (PP.goodF (PP.funs_ok hw.1) (List.mem_of_getElem? hfk)).few; omega
 rw [hlen] at y1 HIp
 obtain ⟨W8, hW8⟩ : ∃ W8, W8 = w7.alloc (.cells #[.string f0.name, .slice afp r.args.length cfp, .int .i64 f0.ret] 78) := ⟨_, rfl⟩
 have x8 : Ext w7 W8 := by rw [hW8]; exact (Ext.refl _).alloc _
 have HX8 := hid (Hx7.out.trans x8)
 have HW8 := hid hW8
 have Hy8 := hid (Hy7.out.trans x8)
 have HBf8 : Hid (Blk W8 w7.heap.size #[.string f0.name, .slice afp r.args.length cfp, .int .i64 f0.ret] 78) := hid (by rw [hW8]; exact Blk.new _ _ _)
 clear r2 r4 t0 e0
 have r2 := (HBr6.out.ext Hy8.out).av 2 rfl
 have r4 := (HBr6.out.ext Hy8.out).av 4 rfl
 have t0 := (HBx6.out.ext Hy8.out).av 0 rfl
 have e0 := (HBs6.out.ext Hy8.out).av 0 rfl
 simp only [qA0, qA1, qA2] at r2 r4 t0 e0
 rw [hW8] at r2 r4 t0 e0
 clear hfk2 hIp hW8 x8
 generalize P.nodesV = NN at *
 cases b1 with
 | true =>
  cases b2 with
  | true => cases hb
  | false =>
   have HIa8 := hid (HIa.out.old (((Ext.refl w7).trans (by rw [HW8.out]; exact (Ext.refl _).alloc _ : Ext w7 W8)).old n0))
   have HIp8 := hid (HIp.out.old (((Ext.refl w7).trans (by rw [HW8.out]; exact (Ext.refl _).alloc _ : Ext w7 W8)).old n0))
   go_wp2
   rw [← HW8.out]
   clear u0 u1 r0 r1 r2 r4 t0 e0 e1 p1 y0 y1 y2 g0 g1
   go_loopw [13] (fun t13 wr => ∃ j : Nat, t13 = .int .i64 (j : Int) ∧ j ≤ r.args.length ∧ Ext W8 wr) (fun t13 _ => r.args.length - (intOf t13).toNat)
   case atStart => exact ⟨0, rfl, Nat.zero_le _, Ext.refl _⟩
   case round =>
    obtain ⟨j, rfl, hj, hxr⟩ := hrel
    have Hxr := hid hxr
    have f1 := (HBf8.out.ext hxr).av 1 rfl
    simp only [qA0, qA1, qA2] at f1
    by_cases hjr : j < r.args.length
    ·obtain ⟨ya, qa, hya, hqa, ca1⟩ := (HIa8.out.old (hxr.old n0)).at (k := j) (by omega)
     obtain ⟨yp, qp, hyp, hqp, cp1⟩ := (hlen ▸ (HIp8.out.old (hxr.old n0)) : IntsR wr n0 (.slice afp r.args.length cfp) f0.params).at (k := j) (by omega)
     subst hya hyp
     have Hqa := hid hqa
     have Hqp := hid hqp
     have k0 := ((HBx6.out.ext Hy8.out).ext hxr).kc (X := fun _ => False) (fun e => e) 0 rfl
     have k1 := ((HBr6.out.ext Hy8.out).ext hxr).kc (X := fun _ => False) (fun e => e) 4 rfl
     have k2 := ((HBs6.out.ext Hy8.out).ext hxr).kc (X := fun _ => False) (fun e => e) 0 rfl
     have k3 := (HBf8.out.ext hxr).kc (X := fun _ => False) (fun e => e) 1 rfl
     simp only [qA0, qA1, qA2] at k0 k1 k2 k3
     have k4 : ∀ w1, Keep (fun _ => False) wr w1 → w1.cell? (ya.add j) = some (.int .i64 qa) := fun w1 kk => kk.ext.cellx ca1
     have k5 : ∀ w1, Keep (fun _ => False) wr w1 → w1.cell? (yp.add j) = some (.int .i64 qp) := fun w1 kk => kk.ext.cellx cp1
     clear hxr hqa hqp
     have hjl : (j : Int) < (r.args.length : Int) := by omega
     cases hc1 : (x.node == qa) with
     | true =>
      cases hc2 : (sn == qp) with
      | true =>
       exact absurd ⟨by rw [eq_of_beq hc1]; exact Hqa.out, by rw [eq_of_beq hc2]; exact Hqp.out⟩ (Hno.out j)
      | false =>
       go_wp2
       refine wp_flowT (fun _ => False) (by kernel_rfl) (by kernel_rfl) ?_
       repeat (apply FlowT.d; (intro w1 hk; unfold does; go_simp; (try go_ints); (first | exact DetR.mk | (simp only [↓IntWalk.iteOmega, Oper.doesUpon_value]; exact DetR.mk) | (simp only [↓IntWalk.iteOmega]; go_simp; (try go_ints); exact DetR.mk))); simp only [Act.put, qS0, qS1, qS2])
       refine FlowT.fin fun w9 hx9 hk9 => ?_
       have Hx9 := hid (Hxr.out.trans hx9)
       clear hx9 hk9 k0 k1 k2 k3 k4 k5 f1
       go_wp2
       go_roundw
       case rel => exact ⟨j + 1, by go_num, by omega, Hx9.out⟩
       case measure => simp [intOf]; omega
     | false =>
      go_wp2
      refine wp_flowT (fun _ => False) (by kernel_rfl) (by kernel_rfl) ?_
      repeat (apply FlowT.d; (intro w1 hk; unfold does; go_simp; (try go_ints); (first | exact DetR.mk | (simp only [↓IntWalk.iteOmega, Oper.doesUpon_value]; exact DetR.mk) | (simp only [↓IntWalk.iteOmega]; go_simp; (try go_ints); exact DetR.mk))); simp only [Act.put, qS0, qS1, qS2])
      refine FlowT.fin fun w9 hx9 hk9 => ?_
      have Hx9 := hid (Hxr.out.trans hx9)
      clear hx9 hk9 k0 k1 k2 k3 k4 k5 f1
      go_wp2
      go_roundw
      case rel => exact ⟨j + 1, by go_num, by omega, Hx9.out⟩
      case measure => simp [intOf]; omega
    ·obtain rfl : j = r.args.length := by omega
     clear hxr
     go_wp2
     go_ret
     exact ⟨rfl, HX8.out.trans Hxr.out⟩
 | false =>
  have HIa8 := hid (HIa.out.old (((Ext.refl w7).trans (by rw [HW8.out]; exact (Ext.refl _).alloc _ : Ext w7 W8)).old n0))
  have HIp8 := hid (HIp.out.old (((Ext.refl w7).trans (by rw [HW8.out]; exact (Ext.refl _).alloc _ : Ext w7 W8)).old n0))
  go_wp2
  rw [← HW8.out]
  clear u0 u1 r0 r1 r2 r4 t0 e0 e1 p1 y0 y1 y2 g0 g1
  go_loopw [13] (fun t13 wr => ∃ j : Nat, t13 = .int .i64 (j : Int) ∧ j ≤ r.args.length ∧ Ext W8 wr) (fun t13 _ => r.args.length - (intOf t13).toNat)
  case atStart => exact ⟨0, rfl, Nat.zero_le _, Ext.refl _⟩
  case round =>
   obtain ⟨j, rfl, hj, hxr⟩ := hrel
   have Hxr := hid hxr
   have f1 := (HBf8.out.ext hxr).av 1 rfl
   simp only [qA0, qA1, qA2] at f1
   by_cases hjr : j < r.args.length
   ·obtain ⟨ya, qa, hya, hqa, ca1⟩ := (HIa8.out.old (hxr.old n0)).at (k := j) (by omega)
    obtain ⟨yp, qp, hyp, hqp, cp1⟩ := (hlen ▸ (HIp8.out.old (hxr.old n0)) : IntsR wr n0 (.slice afp r.args.length cfp) f0.params).at (k := j) (by omega)
    subst hya hyp
    have Hqa := hid hqa
    have Hqp := hid hqp
    have k0 := ((HBx6.out.ext Hy8.out).ext hxr).kc (X := fun _ => False) (fun e => e) 0 rfl
    have k1 := ((HBr6.out.ext Hy8.out).ext hxr).kc (X := fun _ => False) (fun e => e) 4 rfl
    have k2 := ((HBs6.out.ext Hy8.out).ext hxr).kc (X := fun _ => False) (fun e => e) 0 rfl
    have k3 := (HBf8.out.ext hxr).kc (X := fun _ => False) (fun e => e) 1 rfl
    simp only [qA0, qA1, qA2] at k0 k1 k2 k3
    have k4 : ∀ w1, Keep (fun _ => False) wr w1 → w1.cell? (ya.add j) = some (.int .i64 qa) := fun w1 kk => kk.ext.cellx ca1
    have k5 : ∀ w1, Keep (fun _ => False) wr w1 → w1.cell? (yp.add j) = some (.int .i64 qp) := fun w1 kk => kk.ext.cellx cp1
    clear hxr hqa hqp
    have hjl : (j : Int) < (r.args.length : Int) := by omega
    cases hc1 : (x.node == qa) with
    | true =>
     cases hc2 : (sn == qp) with
     | true =>
      exact absurd ⟨by rw [eq_of_beq hc1]; exact Hqa.out, by rw [eq_of_beq hc2]; exact Hqp.out⟩ (Hno.out j)
     | false =>
      go_wp2
      refine wp_flowT (fun _ => False) (by kernel_rfl) (by kernel_rfl) ?_
      repeat (apply FlowT.d; (intro w1 hk; unfold does; go_simp; (try go_ints); (first | exact DetR.mk | (simp only [↓IntWalk.iteOmega, Oper.doesUpon_value]; exact DetR.mk) | (simp only [↓IntWalk.iteOmega]; go_simp; (try go_ints); exact DetR.mk))); simp only [Act.put, qS0, qS1, qS2])
      refine FlowT.fin fun w9 hx9 hk9 => ?_
      have Hx9 := hid (Hxr.out.trans hx9)
      clear hx9 hk9 k0 k1 k2 k3 k4 k5 f1
      go_wp2
      go_roundw
      case rel => exact ⟨j + 1, by go_num, by omega, Hx9.out⟩
      case measure => simp [intOf]; omega
    | false =>
     go_wp2
     refine wp_flowT (fun _ => False) (by kernel_rfl) (by kernel_rfl) ?_
     repeat (apply FlowT.d; (intro w1 hk; unfold does; go_simp; (try go_ints); (first | exact DetR.mk | (simp only [↓IntWalk.iteOmega, Oper.doesUpon_value]; exact DetR.mk) | (simp only [↓IntWalk.iteOmega]; go_simp; (try go_ints); exact DetR.mk))); simp only [Act.put, qS0, qS1, qS2])
     refine FlowT.fin fun w9 hx9 hk9 => ?_
     have Hx9 := hid (Hxr.out.trans hx9)
     clear hx9 hk9 k0 k1 k2 k3 k4 k5 f1
     go_wp2
     go_roundw
     case rel => exact ⟨j + 1, by go_num, by omega, Hx9.out⟩
     case measure => simp [intOf]; omega
   ·obtain rfl : j = r.args.length := by omega
    clear hxr
    go_wp2
    go_ret
    exact ⟨rfl, HX8.out.trans Hxr.out⟩
theorem rfollows_any (a1 a2 a3 : Option Addr) (c1 c2 c3 : Nat) (P : PP) (vl : Value) (L : List ST) (i : Nat) (s : ST) (k : Nat) (w : World) (n0 : Nat) (h : ProgR w n0 (.slice a1 P.vars.length c1) (.slice a2 P.funs.length c2) (.slice a3 P.stmts.length c3) P) (hw : P.Well) (n1 : Nat) (hr : StepsR w n1 vl L) (hll : L.length ≤ 2000) (hs : L[i]? = some s) (hk : s.stmt = (k : Int)) (hkl : k < P.stmts.length) (hf1 : -1 ≤ s.frm ∧ s.frm < i) (hv1 : -1 ≤ s.via ∧ s.via < i) (hsh : shapeV (P.ruleV k (P.stAt k)) s = true) :
  Calls Tryz.prog 48 #[pval a1 a2 a3 c1 c2 c3 P, vl, .int .i64 (i : Int)] w fun e w' => e = .returned (.bool (folB P (P.ruleV k (P.stAt k)) s (L.getD s.frm.toNat st0) (L.getD s.via.toNat st0))) ∧ Ext w w' := by
 have hy := stAt_some hkl
 obtain ⟨e1, e2, e3, _, _, e6⟩ := rule_same (hw.2 k (P.stAt k) hkl hy) k
 have hil := (List.getElem?_eq_some_iff.1 hs).1
 unfold shapeV needsV at hsh
 rw [Bool.and_eq_true] at hsh
 obtain ⟨h2a, h2b⟩ := hsh
 have h2a := eq_of_beq h2a
 have h2b := eq_of_beq h2b
 simp only at h2a h2b
 unfold folB
 cases hb : ((P.ruleV k (P.stAt k)).kind.toList == [98, 97, 115, 101]) with
 | true =>
  simp only [cond_true]
  exact rfollows_base a1 a2 a3 c1 c2 c3 P vl L i s k _ w n0 h hw n1 hr hll hs hk hy (by rw [e1]; exact hb) _ _ (by rw [e2]) (by rw [e3])
 | false =>
  rw [hb] at h2a
  have m1 := of_decide_eq_true h2a.symm
  obtain ⟨f, hf⟩ := Int.eq_ofNat_of_zero_le m1
  have hx := getD_at (L := L) (f := f) (by omega)
  rw [hf, Int.toNat_natCast]
  obtain ⟨x, hxe⟩ : ∃ x, x = L.getD f st0 := ⟨_, rfl⟩
  rw [← hxe] at hx ⊢
  clear hxe
  simp only [cond_false]
  cases hxo : (x.obj == s.obj) with
  | false =>
   simp only [Bool.not_false, cond_true]
   exact rfollows_xobj a1 a2 a3 c1 c2 c3 P vl L i s k _ w n0 h hw n1 hr hll hs hk hy (by rw [e1]; exact hb) f x (hid hf) (hid hx) hxo
  | true =>
   have hxo := beq_int' hxo
   simp only [Bool.not_true, cond_false]
   cases hc : ((P.ruleV k (P.stAt k)).kind.toList == [99, 111, 112, 121]) with
   | true =>
    have hce := eq_of_beq hc
    rw [hce] at h2b
    have n2 := of_decide_eq_false (h2b.symm.trans (by decide))
    simp only [cond_true]
    exact rfollows_copy a1 a2 a3 c1 c2 c3 P vl L i s k _ w n0 h hw n1 hr hll hs hk hy (by rw [e1]; exact hb) (by rw [e1]; exact hc) f x (hid hf) (hid hx) (hid hxo) (hid (by omega)) _ _ (by rw [e2]) (by rw [e3])
   | false =>
    have n2 : 0 ≤ s.via := by
     refine of_decide_eq_true (h2b.symm.trans ?_)
     have hrv : P.ruleV k (P.stAt k) ∈ P.rulesV := List.mem_map.2 ⟨k, List.mem_range.2 hkl, rfl⟩
     rcases rule_kinds hw hrv with g | g | g
     ·rw [eq_of_beq bBase_list] at g; rw [g] at hb; exact absurd hb (by decide)
     ·rw [g] at hc; exact absurd hc (by decide)
     ·exact g
    obtain ⟨v, hv⟩ := Int.eq_ofNat_of_zero_le n2
    have hz := getD_at (L := L) (f := v) (by omega)
    rw [hv, Int.toNat_natCast]
    obtain ⟨z, hze⟩ : ∃ z, z = L.getD v st0 := ⟨_, rfl⟩
    rw [← hze] at hz ⊢
    clear hze
    simp only [cond_false]
    cases hl : ((P.ruleV k (P.stAt k)).kind.toList == [108, 111, 97, 100]) with
    | true =>
     simp only [cond_true]
     exact rfollows_load a1 a2 a3 c1 c2 c3 P vl L i s k _ w n0 h hw n1 hr hll hs hk hy (by rw [e1]; exact hb) (by rw [e1]; exact hc) (by rw [e1]; exact hl) f x (hid hf) (hid hx) (hid hxo) v z (hid hv) (hid hz) _ _ _ (by rw [e2]) rfl (by rw [e3])
    | false =>
     simp only [cond_false]
     cases ht : ((P.ruleV k (P.stAt k)).kind.toList == [115, 116, 111, 114, 101]) with
     | true =>
      simp only [cond_true]
      exact rfollows_store a1 a2 a3 c1 c2 c3 P vl L i s k _ w n0 h hw n1 hr hll hs hk hy (by rw [e1]; exact hb) (by rw [e1]; exact hc) (by rw [e1]; exact hl) (by rw [e1]; exact ht) f x (hid hf) (hid hx) (hid hxo) v z (hid hv) (hid hz) _ _ _ _ (by rw [e3]) rfl rfl (by rw [e2])
     | false =>
      simp only [cond_false]
      cases hn : (z.node == (P.ruleV k (P.stAt k)).a) with
      | false =>
       simp only [Bool.false_and]
       exact rfollows_c1 a1 a2 a3 c1 c2 c3 P vl L i s k _ w n0 h hw n1 hr hll hs hk hy (by rw [e1]; exact hb) (by rw [e1]; exact hc) (by rw [e1]; exact hl) (by rw [e1]; exact ht) f x (hid hf) (hid hx) (hid hxo) v z (hid hv) (hid hz) (hid (.inl (by rw [e2]; exact hn)))
      | true =>
       simp only [Bool.true_and]
       unfold PP.callsOf PP.funV
       by_cases ho : 0 ≤ z.obj - (P.nodesV : Int) ∧ z.obj - (P.nodesV : Int) < P.funs.length
       ·rw [if_pos ho, if_pos ho.1]
        obtain ⟨N, hN⟩ := Int.eq_ofNat_of_zero_le ho.1
        have hNl : N < P.funs.length := by omega
        rw [hN, Int.toNat_natCast, List.getD_eq_getElem?_getD, List.getElem?_eq_getElem hNl, Option.getD_some]
        have hfk : P.funs[N]? = some P.funs[N] := List.getElem?_eq_getElem hNl
        obtain ⟨f0, hf0⟩ : ∃ f0, f0 = P.funs[N] := ⟨_, rfl⟩
        rw [← hf0] at hfk ⊢
        clear hf0
        unfold calledV
        by_cases hlen : f0.params.length = (P.ruleV k (P.stAt k)).args.length
        ·rw [if_pos hlen]
         cases hb1 : ((x.node == f0.ret) && (s.node == (P.ruleV k (P.stAt k)).b)) with
         | true =>
          rw [Bool.and_eq_true] at hb1
          rw [decide_eq_true (List.mem_cons.2 (.inl (by rw [beq_int' hb1.1, beq_int' hb1.2])))]
          exact rfollows_first a1 a2 a3 c1 c2 c3 P vl L i s k _ w n0 h hw n1 hr hll hs hk hy (by rw [e1]; exact hb) (by rw [e1]; exact hc) (by rw [e1]; exact hl) (by rw [e1]; exact ht) f x (hid hf) (hid hx) (hid hxo) v z (hid hv) (hid hz) (by rw [e2]; exact hn) N (hid (by omega)) f0 hfk (by rw [e6]; exact hlen) hb1.1 (by rw [e3]; exact hb1.2)
         | false =>
          by_cases hm : (x.node, s.node) ∈ (P.ruleV k (P.stAt k)).args.zip f0.params
          ·rw [decide_eq_true (List.mem_cons.2 (.inr hm))]
           obtain ⟨m, hm⟩ := List.getElem?_of_mem hm
           obtain ⟨q1, q2⟩ := List.getElem?_zip_eq_some.1 hm
           exact rfollows_later a1 a2 a3 c1 c2 c3 P vl L i s k _ w n0 h hw n1 hr hll hs hk hy (by rw [e1]; exact hb) (by rw [e1]; exact hc) (by rw [e1]; exact hl) (by rw [e1]; exact ht) f x (hid hf) (hid hx) (hid hxo) v z (hid hv) (hid hz) (by rw [e2]; exact hn) N (hid (by omega)) f0 hfk (by rw [e6]; exact hlen) m (hid (by rw [e6]; exact q1)) (hid q2)
          ·rw [decide_eq_false (fun hmm => by
            rcases List.mem_cons.1 hmm with q | q
            ·obtain ⟨q1, q2⟩ := Prod.mk.inj q
             rw [q1, q2] at hb1
             simp at hb1
            ·exact hm q)]
           exact rfollows_none a1 a2 a3 c1 c2 c3 P vl L i s k _ w n0 h hw n1 hr hll hs hk hy (by rw [e1]; exact hb) (by rw [e1]; exact hc) (by rw [e1]; exact hl) (by rw [e1]; exact ht) f x (hid hf) (hid hx) (hid hxo) v z (hid hv) (hid hz) (by rw [e2]; exact hn) N (hid (by omega)) f0 hfk (by rw [e6]; exact hlen) _ _ rfl rfl (by rw [e3]; exact hb1) (hid fun m ⟨q1, q2⟩ => hm (List.mem_of_getElem? (List.getElem?_zip_eq_some.2 ⟨by rw [← e6]; exact q1, q2⟩)))
        ·rw [if_neg hlen, decide_eq_false (List.not_mem_nil)]
         exact rfollows_c4 a1 a2 a3 c1 c2 c3 P vl L i s k _ w n0 h hw n1 hr hll hs hk hy (by rw [e1]; exact hb) (by rw [e1]; exact hc) (by rw [e1]; exact hl) (by rw [e1]; exact ht) f x (hid hf) (hid hx) (hid hxo) v z (hid hv) (hid hz) (by rw [e2]; exact hn) N (hid (by omega)) f0 hfk (by rw [e6]; exact hlen)
       ·rw [if_neg ho, if_neg (by decide), decide_eq_false (List.not_mem_nil)]
        by_cases hlo : z.obj < (P.nodesV : Int)
        ·exact rfollows_c1 a1 a2 a3 c1 c2 c3 P vl L i s k _ w n0 h hw n1 hr hll hs hk hy (by rw [e1]; exact hb) (by rw [e1]; exact hc) (by rw [e1]; exact hl) (by rw [e1]; exact ht) f x (hid hf) (hid hx) (hid hxo) v z (hid hv) (hid hz) (hid (.inr (.inl ⟨by rw [e2]; exact hn, hlo⟩)))
        ·exact rfollows_c1 a1 a2 a3 c1 c2 c3 P vl L i s k _ w n0 h hw n1 hr hll hs hk hy (by rw [e1]; exact hb) (by rw [e1]; exact hc) (by rw [e1]; exact hl) (by rw [e1]; exact ht) f x (hid hf) (hid hx) (hid hxo) v z (hid hv) (hid hz) (hid (.inr (.inr ⟨by rw [e2]; exact hn, by omega⟩)))
def SFaultIs (P : PP) (has : List (List Int)) (c : Nat) (p : Int) : Prop :=
 (has.length ≠ P.nodesV ∧ c = 3 ∧ p = -1) ∨ (has.length = P.nodesV ∧ (∀ l ∈ has, P.setE l = 0) ∧ c = 0 ∧ p = -1) ∨
 (has.length = P.nodesV ∧ ∃ (i : Nat) (l : List Int), has[i]? = some l ∧ P.setE l ≠ 0 ∧ (∀ j m, j < i → has[j]? = some m → P.setE m = 0) ∧ c = P.setE l ∧ p = (i : Int))
theorem setE_two {P : PP} {l : List Int} (h : chkE l = 0) {x : Int} (hx : x ∈ l) (hm : (P.objectsV : Int) ≤ x) : P.setE l = 2 := by
 have h0 : P.setE l ≠ 0 := fun e => by have := (setE_zero e).2 x hx; omega
 unfold PP.setE at h0 ⊢
 rw [if_pos h] at h0 ⊢
 by_cases hb : 0 < l.length ∧ (P.objectsV : Int) ≤ l.getD (l.length - 1) 0
 ·rw [if_pos hb]
 ·rw [if_neg hb] at h0; exact absurd rfl h0
theorem setE_chk {P : PP} {l : List Int} (h : chkE l ≠ 0) : P.setE l = chkE l := by unfold PP.setE; rw [if_neg h]
def SStep (P : PP) (l : List Int) (k e : Nat) : Prop := (e = chkE l ∧ chkE l ≠ 0 ∧ k = 0) ∨ (chkE l = 0 ∧ ((e = 0 ∧ ∀ x ∈ l.take k, x < (P.objectsV : Int)) ∨ (e = 2 ∧ ∃ x ∈ l, (P.objectsV : Int) ≤ x)))
theorem SStep.end {P : PP} {l : List Int} {k e : Nat} (h : SStep P l k e) (hk : e ≠ 0 ∨ k = l.length) : P.setE l = e := by
 rcases h with ⟨rfl, h2, _⟩ | ⟨h1, ⟨rfl, h3⟩ | ⟨rfl, x, hx, hm⟩⟩
 ·exact setE_chk h2
 ·rcases hk with hk | hk
  ·exact absurd rfl hk
  ·refine setE_of h1 fun x hx => h3 x ?_
   rw [hk, List.take_length]; exact hx
 ·exact setE_two h1 hx hm
end Go.Proofs.YtngdpnlgnpdkcaaGreatDoor
