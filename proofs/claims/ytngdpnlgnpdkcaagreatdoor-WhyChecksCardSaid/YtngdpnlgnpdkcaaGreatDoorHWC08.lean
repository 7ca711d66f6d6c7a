/- Texts of one proof, put together: ZZWx. -/
import Derived.Test.YtngdpnlgnpdkcaaGreatDoorHWC03
import Derived.Test.YtngdpnlgnpdkcaaGreatDoorHWC07
import Derived.Test.YtngdpnlgnpdkcaaGreatDoorHWC01
set_option linter.unusedSimpArgs false
set_option linter.unusedVariables false
namespace Go.Proofs.YtngdpnlgnpdkcaaGreatDoor
open Go Go.RowKit
set_option maxRecDepth 100000 in
set_option maxHeartbeats 6400000 in
theorem whyfollows_base (a1 a2 a3 : Option Addr) (c1 c2 c3 : Nat) (P : PP) (r : RV) (aa : Option Addr) (ca : Nat) (vl : Value) (L : List ST) (s : ST) (w : World) (n0 : Nat) (ad : Nat → Addr) (h : PW w n0 ad a1 a2 a3 c1 c2 c3 P) (ha : IntsR w n0 (.slice aa r.args.length ca) r.args) (n1 : Nat) (hr : StepsR w n1 vl L) (hll : L.length ≤ 2000) (hkb : (r.kind.toList == [98, 97, 115, 101]) = true) (b1 b2 : Bool) (h1 : (s.node == r.a) = b1) (h2 : (s.obj == r.b) = b2) :
  Calls Tryz.prog 111 #[pval a1 a2 a3 c1 c2 c3 P, vl, stval s, r.val (.slice aa r.args.length ca)] w fun e w' => e = .returned (.bool (b1 && b2)) ∧ Ext w w' := by
 obtain ⟨al, cl, rfl⟩ := hr.form2
 obtain ⟨sn, so, ss, sf, sv⟩ := s
 simp only at *
 obtain ⟨W1, hW1⟩ : ∃ W1, W1 = w.alloc (.cells #[.slice a1 P.vars.length c1, .slice a2 P.funs.length c2, .slice a3 P.stmts.length c3] 26) := ⟨_, rfl⟩
 obtain ⟨W2, hW2⟩ : ∃ W2, W2 = W1.alloc (.cells #[.int .i64 sn, .int .i64 so, .int .i64 ss, .int .i64 sf, .int .i64 sv] 47) := ⟨_, rfl⟩
 obtain ⟨W, hW⟩ : ∃ W, W = W2.alloc (.cells #[.string r.kind, .int .i64 r.a, .int .i64 r.b, .int .i64 r.k, .slice aa r.args.length ca] 87) := ⟨_, rfl⟩
 have x1 : Ext w W1 := by rw [hW1]; exact (Ext.refl _).alloc _
 have x2 : Ext W1 W2 := by rw [hW2]; exact (Ext.refl _).alloc _
 have x3 : Ext W2 W := by rw [hW]; exact (Ext.refl _).alloc _
 have s1 : W1.heap.size = w.heap.size + 1 := by rw [hW1, heap_size_alloc]
 have s2 : W2.heap.size = w.heap.size + 2 := by rw [hW2, heap_size_alloc, s1]
 have s3 : Hid (W.heap.size = w.heap.size + 3) := hid (by rw [hW, heap_size_alloc, s2])
 have HX := hid (x1.trans (x2.trans x3))
 have HBp : Hid (Blk W w.heap.size #[.slice a1 P.vars.length c1, .slice a2 P.funs.length c2, .slice a3 P.stmts.length c3] 26) := hid ((show Blk W1 w.heap.size _ 26 by rw [hW1]; exact Blk.new _ _ _).ext (x2.trans x3))
 have HBs : Hid (Blk W (w.heap.size + 1) #[.int .i64 sn, .int .i64 so, .int .i64 ss, .int .i64 sf, .int .i64 sv] 47) := hid ((show Blk W2 (w.heap.size + 1) _ 47 by rw [← s1, hW2]; exact Blk.new _ _ _).ext x3)
 have HBr : Hid (Blk W (w.heap.size + 2) #[.string r.kind, .int .i64 r.a, .int .i64 r.b, .int .i64 r.k, .slice aa r.args.length ca] 87) := hid (by rw [← s2, hW]; exact Blk.new _ _ _)
 have HWe : Hid (W = ((w.alloc (.cells #[.slice a1 P.vars.length c1, .slice a2 P.funs.length c2, .slice a3 P.stmts.length c3] 26)).alloc (.cells #[.int .i64 sn, .int .i64 so, .int .i64 ss, .int .i64 sf, .int .i64 sv] 47)).alloc (.cells #[.string r.kind, .int .i64 r.a, .int .i64 r.b, .int .i64 r.k, .slice aa r.args.length ca] 87)) := hid (by rw [hW, hW2, hW1])
 have HPW := hid h
 have HA := hid ha
 have Hr := hid hr
 have hal : (r.args.length : Int) ≤ 9223372036854775807 := by obtain ⟨a, cap, h1, h2, h3, _⟩ := ha; omega
 have e0 := HBs.out.av 0 rfl
 have e1 := HBs.out.av 1 rfl
 have e2 := HBs.out.av 2 rfl
 have e3 := HBs.out.av 3 rfl
 have e4 := HBs.out.av 4 rfl
 have r0 := HBr.out.av 0 rfl
 have r1 := HBr.out.av 1 rfl
 have r2 := HBr.out.av 2 rfl
 simp only [qA0, qA1, qA2] at e0 e1 e2 e3 e4 r0 r1 r2
 rw [HWe.out] at e0 e1 e2 e3 e4 r0 r1 r2
 unfold pval stval RV.val
 clear h ha hr hW hW1 hW2 x1 x2 x3 s1 s2
 go_enter Tryz.func111, Tryz.ntmps111
 cases b1 <;> cases b2 <;>
 (go_wp2
  go_ret
  rw [← HWe.out]
  exact ⟨rfl, HX.out⟩)
set_option maxRecDepth 100000 in
set_option maxHeartbeats 6400000 in
theorem whyfollows_xobj (a1 a2 a3 : Option Addr) (c1 c2 c3 : Nat) (P : PP) (r : RV) (aa : Option Addr) (ca : Nat) (vl : Value) (L : List ST) (s : ST) (w : World) (n0 : Nat) (ad : Nat → Addr) (h : PW w n0 ad a1 a2 a3 c1 c2 c3 P) (ha : IntsR w n0 (.slice aa r.args.length ca) r.args) (n1 : Nat) (hr : StepsR w n1 vl L) (hll : L.length ≤ 2000) (hkb : (r.kind.toList == [98, 97, 115, 101]) = false) (f : Nat) (x : ST) (hf : Hid (s.frm = (f : Int))) (hx : Hid (L[f]? = some x)) (hxo : (x.obj == s.obj) = false) :
  Calls Tryz.prog 111 #[pval a1 a2 a3 c1 c2 c3 P, vl, stval s, r.val (.slice aa r.args.length ca)] w fun e w' => e = .returned (.bool (false)) ∧ Ext w w' := by
 obtain ⟨al, cl, rfl⟩ := hr.form2
 obtain ⟨sn, so, ss, sf, sv⟩ := s
 simp only at *
 obtain ⟨W1, hW1⟩ : ∃ W1, W1 = w.alloc (.cells #[.slice a1 P.vars.length c1, .slice a2 P.funs.length c2, .slice a3 P.stmts.length c3] 26) := ⟨_, rfl⟩
 obtain ⟨W2, hW2⟩ : ∃ W2, W2 = W1.alloc (.cells #[.int .i64 sn, .int .i64 so, .int .i64 ss, .int .i64 sf, .int .i64 sv] 47) := ⟨_, rfl⟩
 obtain ⟨W, hW⟩ : ∃ W, W = W2.alloc (.cells #[.string r.kind, .int .i64 r.a, .int .i64 r.b, .int .i64 r.k, .slice aa r.args.length ca] 87) := ⟨_, rfl⟩
 have x1 : Ext w W1 := by rw [hW1]; exact (Ext.refl _).alloc _
 have x2 : Ext W1 W2 := by rw [hW2]; exact (Ext.refl _).alloc _
 have x3 : Ext W2 W := by rw [hW]; exact (Ext.refl _).alloc _
 have s1 : W1.heap.size = w.heap.size + 1 := by rw [hW1, heap_size_alloc]
 have s2 : W2.heap.size = w.heap.size + 2 := by rw [hW2, heap_size_alloc, s1]
 have s3 : Hid (W.heap.size = w.heap.size + 3) := hid (by rw [hW, heap_size_alloc, s2])
 have HX := hid (x1.trans (x2.trans x3))
 have HBp : Hid (Blk W w.heap.size #[.slice a1 P.vars.length c1, .slice a2 P.funs.length c2, .slice a3 P.stmts.length c3] 26) := hid ((show Blk W1 w.heap.size _ 26 by rw [hW1]; exact Blk.new _ _ _).ext (x2.trans x3))
 have HBs : Hid (Blk W (w.heap.size + 1) #[.int .i64 sn, .int .i64 so, .int .i64 ss, .int .i64 sf, .int .i64 sv] 47) := hid ((show Blk W2 (w.heap.size + 1) _ 47 by rw [← s1, hW2]; exact Blk.new _ _ _).ext x3)
 have HBr : Hid (Blk W (w.heap.size + 2) #[.string r.kind, .int .i64 r.a, .int .i64 r.b, .int .i64 r.k, .slice aa r.args.length ca] 87) := hid (by rw [← s2, hW]; exact Blk.new _ _ _)
 have HWe : Hid (W = ((w.alloc (.cells #[.slice a1 P.vars.length c1, .slice a2 P.funs.length c2, .slice a3 P.stmts.length c3] 26)).alloc (.cells #[.int .i64 sn, .int .i64 so, .int .i64 ss, .int .i64 sf, .int .i64 sv] 47)).alloc (.cells #[.string r.kind, .int .i64 r.a, .int .i64 r.b, .int .i64 r.k, .slice aa r.args.length ca] 87)) := hid (by rw [hW, hW2, hW1])
 have HPW := hid h
 have HA := hid ha
 have Hr := hid hr
 have hal : (r.args.length : Int) ≤ 9223372036854775807 := by obtain ⟨a, cap, h1, h2, h3, _⟩ := ha; omega
 have e0 := HBs.out.av 0 rfl
 have e1 := HBs.out.av 1 rfl
 have e2 := HBs.out.av 2 rfl
 have e3 := HBs.out.av 3 rfl
 have e4 := HBs.out.av 4 rfl
 have r0 := HBr.out.av 0 rfl
 have r1 := HBr.out.av 1 rfl
 have r2 := HBr.out.av 2 rfl
 simp only [qA0, qA1, qA2] at e0 e1 e2 e3 e4 r0 r1 r2
 rw [HWe.out] at e0 e1 e2 e3 e4 r0 r1 r2
 unfold pval stval RV.val
 clear h ha hr hW hW1 hW2 x1 x2 x3 s1 s2
 have hf := hf.out
 subst hf
 have hx := hx.out
 have hfl := (List.getElem?_eq_some_iff.1 hx).1
 obtain ⟨y8, c8, hge⟩ := Hr.out.some (by omega)
 simp only [Value.slice.injEq] at hge
 obtain ⟨rfl, -, rfl⟩ := hge
 obtain ⟨t0, t1, t2, t3, t4⟩ := (Hr.out.ext HX.out).at5 hx
 obtain ⟨V, hV⟩ : ∃ V, V = W.alloc (.cells #[.int .i64 x.node, .int .i64 x.obj, .int .i64 x.stmt, .int .i64 x.frm, .int .i64 x.via] 47) := ⟨_, rfl⟩
 have xv : Ext W V := by rw [hV]; exact (Ext.refl _).alloc _
 have HXV := hid (HX.out.trans xv)
 have HBx : Hid (Blk V (w.heap.size + 3) #[.int .i64 x.node, .int .i64 x.obj, .int .i64 x.stmt, .int .i64 x.frm, .int .i64 x.via] 47) := hid (by rw [← s3.out, hV]; exact Blk.new _ _ _)
 have HVe : Hid (V = (((w.alloc (.cells #[.slice a1 P.vars.length c1, .slice a2 P.funs.length c2, .slice a3 P.stmts.length c3] 26)).alloc (.cells #[.int .i64 sn, .int .i64 so, .int .i64 ss, .int .i64 (f : Int), .int .i64 sv] 47)).alloc (.cells #[.string r.kind, .int .i64 r.a, .int .i64 r.b, .int .i64 r.k, .slice aa r.args.length ca] 87)).alloc (.cells #[.int .i64 x.node, .int .i64 x.obj, .int .i64 x.stmt, .int .i64 x.frm, .int .i64 x.via] 47)) := hid (by rw [hV, HWe.out])
 have HBpV := hid (HBp.out.ext xv)
 have HBsV := hid (HBs.out.ext xv)
 have HBrV := hid (HBr.out.ext xv)
 have n1 := HBsV.out.av 1 rfl
 have m0 := HBrV.out.av 0 rfl
 have d1 := HBx.out.av 1 rfl
 simp only [qA0, qA1, qA2] at n1 m0 d1
 rw [HVe.out] at n1 m0 d1
 rw [HWe.out] at t0 t1 t2 t3 t4
 clear hx hV xv
 have hxn : (x.obj != so) = true := by unfold bne; rw [hxo]; rfl
 go_enter Tryz.func111, Tryz.ntmps111
 go_wp2
 go_ret
 rw [← HVe.out]
 exact ⟨rfl, HXV.out⟩
set_option maxRecDepth 100000 in
set_option maxHeartbeats 6400000 in
theorem whyfollows_copy (a1 a2 a3 : Option Addr) (c1 c2 c3 : Nat) (P : PP) (r : RV) (aa : Option Addr) (ca : Nat) (vl : Value) (L : List ST) (s : ST) (w : World) (n0 : Nat) (ad : Nat → Addr) (h : PW w n0 ad a1 a2 a3 c1 c2 c3 P) (ha : IntsR w n0 (.slice aa r.args.length ca) r.args) (n1 : Nat) (hr : StepsR w n1 vl L) (hll : L.length ≤ 2000) (hkb : (r.kind.toList == [98, 97, 115, 101]) = false) (hkc : (r.kind.toList == [99, 111, 112, 121]) = true) (f : Nat) (x : ST) (hf : Hid (s.frm = (f : Int))) (hx : Hid (L[f]? = some x)) (hxo : Hid (x.obj = s.obj)) (b1 b2 : Bool) (h1 : (x.node == r.a) = b1) (h2 : (s.node == r.b) = b2) :
  Calls Tryz.prog 111 #[pval a1 a2 a3 c1 c2 c3 P, vl, stval s, r.val (.slice aa r.args.length ca)] w fun e w' => e = .returned (.bool (b1 && b2)) ∧ Ext w w' := by
 obtain ⟨al, cl, rfl⟩ := hr.form2
 obtain ⟨sn, so, ss, sf, sv⟩ := s
 simp only at *
 obtain ⟨W1, hW1⟩ : ∃ W1, W1 = w.alloc (.cells #[.slice a1 P.vars.length c1, .slice a2 P.funs.length c2, .slice a3 P.stmts.length c3] 26) := ⟨_, rfl⟩
 obtain ⟨W2, hW2⟩ : ∃ W2, W2 = W1.alloc (.cells #[.int .i64 sn, .int .i64 so, .int .i64 ss, .int .i64 sf, .int .i64 sv] 47) := ⟨_, rfl⟩
 obtain ⟨W, hW⟩ : ∃ W, W = W2.alloc (.cells #[.string r.kind, .int .i64 r.a, .int .i64 r.b, .int .i64 r.k, .slice aa r.args.length ca] 87) := ⟨_, rfl⟩
 have x1 : Ext w W1 := by rw [hW1]; exact (Ext.refl _).alloc _
 have x2 : Ext W1 W2 := by rw [hW2]; exact (Ext.refl _).alloc _
 have x3 : Ext W2 W := by rw [hW]; exact (Ext.refl _).alloc _
 have s1 : W1.heap.size = w.heap.size + 1 := by rw [hW1, heap_size_alloc]
 have s2 : W2.heap.size = w.heap.size + 2 := by rw [hW2, heap_size_alloc, s1]
 have s3 : Hid (W.heap.size = w.heap.size + 3) := hid (by rw [hW, heap_size_alloc, s2])
 have HX := hid (x1.trans (x2.trans x3))
 have HBp : Hid (Blk W w.heap.size #[.slice a1 P.vars.length c1, .slice a2 P.funs.length c2, .slice a3 P.stmts.length c3] 26) := hid ((show Blk W1 w.heap.size _ 26 by rw [hW1]; exact Blk.new _ _ _).ext (x2.trans x3))
 have HBs : Hid (Blk W (w.heap.size + 1) #[.int .i64 sn, .int .i64 so, .int .i64 ss, .int .i64 sf, .int .i64 sv] 47) := hid ((show Blk W2 (w.heap.size + 1) _ 47 by rw [← s1, hW2]; exact Blk.new _ _ _).ext x3)
 have HBr : Hid (Blk W (w.heap.size + 2) #[.string r.kind, .int .i64 r.a, .int .i64 r.b, .int .i64 r.k, .slice aa r.args.length ca] 87) := hid (by rw [← s2, hW]; exact Blk.new _ _ _)
 have HWe : Hid (W = ((w.alloc (.cells #[.slice a1 P.vars.length c1, .slice a2 P.funs.length c2, .slice a3 P.stmts.length c3] 26)).alloc (.cells #[.int .i64 sn, .int .i64 so, .int .i64 ss, .int .i64 sf, .int .i64 sv] 47)).alloc (.cells #[.string r.kind, .int .i64 r.a, .int .i64 r.b, .int .i64 r.k, .slice aa r.args.length ca] 87)) := hid (by rw [hW, hW2, hW1])
 have HPW := hid h
 have HA := hid ha
 have Hr := hid hr
 have hal : (r.args.length : Int) ≤ 9223372036854775807 := by obtain ⟨a, cap, h1, h2, h3, _⟩ := ha; omega
 have e0 := HBs.out.av 0 rfl
 have e1 := HBs.out.av 1 rfl
 have e2 := HBs.out.av 2 rfl
 have e3 := HBs.out.av 3 rfl
 have e4 := HBs.out.av 4 rfl
 have r0 := HBr.out.av 0 rfl
 have r1 := HBr.out.av 1 rfl
 have r2 := HBr.out.av 2 rfl
 simp only [qA0, qA1, qA2] at e0 e1 e2 e3 e4 r0 r1 r2
 rw [HWe.out] at e0 e1 e2 e3 e4 r0 r1 r2
 unfold pval stval RV.val
 clear h ha hr hW hW1 hW2 x1 x2 x3 s1 s2
 have hf := hf.out
 subst hf
 have hx := hx.out
 have hfl := (List.getElem?_eq_some_iff.1 hx).1
 obtain ⟨y8, c8, hge⟩ := Hr.out.some (by omega)
 simp only [Value.slice.injEq] at hge
 obtain ⟨rfl, -, rfl⟩ := hge
 obtain ⟨t0, t1, t2, t3, t4⟩ := (Hr.out.ext HX.out).at5 hx
 obtain ⟨V, hV⟩ : ∃ V, V = W.alloc (.cells #[.int .i64 x.node, .int .i64 x.obj, .int .i64 x.stmt, .int .i64 x.frm, .int .i64 x.via] 47) := ⟨_, rfl⟩
 have xv : Ext W V := by rw [hV]; exact (Ext.refl _).alloc _
 have HXV := hid (HX.out.trans xv)
 have HBx : Hid (Blk V (w.heap.size + 3) #[.int .i64 x.node, .int .i64 x.obj, .int .i64 x.stmt, .int .i64 x.frm, .int .i64 x.via] 47) := hid (by rw [← s3.out, hV]; exact Blk.new _ _ _)
 have HVe : Hid (V = (((w.alloc (.cells #[.slice a1 P.vars.length c1, .slice a2 P.funs.length c2, .slice a3 P.stmts.length c3] 26)).alloc (.cells #[.int .i64 sn, .int .i64 so, .int .i64 ss, .int .i64 (f : Int), .int .i64 sv] 47)).alloc (.cells #[.string r.kind, .int .i64 r.a, .int .i64 r.b, .int .i64 r.k, .slice aa r.args.length ca] 87)).alloc (.cells #[.int .i64 x.node, .int .i64 x.obj, .int .i64 x.stmt, .int .i64 x.frm, .int .i64 x.via] 47)) := hid (by rw [hV, HWe.out])
 have HBpV := hid (HBp.out.ext xv)
 have HBsV := hid (HBs.out.ext xv)
 have HBrV := hid (HBr.out.ext xv)
 have n1 := HBsV.out.av 1 rfl
 have m0 := HBrV.out.av 0 rfl
 have d1 := HBx.out.av 1 rfl
 simp only [qA0, qA1, qA2] at n1 m0 d1
 rw [HVe.out] at n1 m0 d1
 rw [HWe.out] at t0 t1 t2 t3 t4
 clear hx hV xv
 have hxo := hxo.out
 subst hxo
 have hxn : (x.obj != x.obj) = false := by simp
 have d0 := HBx.out.av 0 rfl
 have n0' := HBsV.out.av 0 rfl
 have m1 := HBrV.out.av 1 rfl
 have m2 := HBrV.out.av 2 rfl
 simp only [qA0, qA1, qA2] at d0 n0' m1 m2
 rw [HVe.out] at d0 n0' m1 m2
 go_enter Tryz.func111, Tryz.ntmps111
 cases b1 <;> cases b2 <;>
 (go_wp2
  go_ret
  rw [← HVe.out]
  exact ⟨rfl, HXV.out⟩)
set_option maxRecDepth 100000 in
set_option maxHeartbeats 6400000 in
theorem whyfollows_load (a1 a2 a3 : Option Addr) (c1 c2 c3 : Nat) (P : PP) (r : RV) (aa : Option Addr) (ca : Nat) (vl : Value) (L : List ST) (s : ST) (w : World) (n0 : Nat) (ad : Nat → Addr) (h : PW w n0 ad a1 a2 a3 c1 c2 c3 P) (ha : IntsR w n0 (.slice aa r.args.length ca) r.args) (n1 : Nat) (hr : StepsR w n1 vl L) (hll : L.length ≤ 2000) (hkb : (r.kind.toList == [98, 97, 115, 101]) = false) (hkc : (r.kind.toList == [99, 111, 112, 121]) = false) (hkl : (r.kind.toList == [108, 111, 97, 100]) = true) (f : Nat) (x : ST) (hf : Hid (s.frm = (f : Int))) (hx : Hid (L[f]? = some x)) (hxo : Hid (x.obj = s.obj)) (v : Nat) (z : ST) (hv : Hid (s.via = (v : Int))) (hz : Hid (L[v]? = some z)) (b1 b2 b3 : Bool) (h1 : (z.node == r.a) = b1) (h2 : (z.obj == x.node) = b2) (h3 : (s.node == r.b) = b3) :
  Calls Tryz.prog 111 #[pval a1 a2 a3 c1 c2 c3 P, vl, stval s, r.val (.slice aa r.args.length ca)] w fun e w' => e = .returned (.bool (b1 && b2 && b3)) ∧ Ext w w' := by
 obtain ⟨al, cl, rfl⟩ := hr.form2
 obtain ⟨sn, so, ss, sf, sv⟩ := s
 simp only at *
 obtain ⟨W1, hW1⟩ : ∃ W1, W1 = w.alloc (.cells #[.slice a1 P.vars.length c1, .slice a2 P.funs.length c2, .slice a3 P.stmts.length c3] 26) := ⟨_, rfl⟩
 obtain ⟨W2, hW2⟩ : ∃ W2, W2 = W1.alloc (.cells #[.int .i64 sn, .int .i64 so, .int .i64 ss, .int .i64 sf, .int .i64 sv] 47) := ⟨_, rfl⟩
 obtain ⟨W, hW⟩ : ∃ W, W = W2.alloc (.cells #[.string r.kind, .int .i64 r.a, .int .i64 r.b, .int .i64 r.k, .slice aa r.args.length ca] 87) := ⟨_, rfl⟩
 have x1 : Ext w W1 := by rw [hW1]; exact (Ext.refl _).alloc _
 have x2 : Ext W1 W2 := by rw [hW2]; exact (Ext.refl _).alloc _
 have x3 : Ext W2 W := by rw [hW]; exact (Ext.refl _).alloc _
 have s1 : W1.heap.size = w.heap.size + 1 := by rw [hW1, heap_size_alloc]
 have s2 : W2.heap.size = w.heap.size + 2 := by rw [hW2, heap_size_alloc, s1]
 have s3 : Hid (W.heap.size = w.heap.size + 3) := hid (by rw [hW, heap_size_alloc, s2])
 have HX := hid (x1.trans (x2.trans x3))
 have HBp : Hid (Blk W w.heap.size #[.slice a1 P.vars.length c1, .slice a2 P.funs.length c2, .slice a3 P.stmts.length c3] 26) := hid ((show Blk W1 w.heap.size _ 26 by rw [hW1]; exact Blk.new _ _ _).ext (x2.trans x3))
 have HBs : Hid (Blk W (w.heap.size + 1) #[.int .i64 sn, .int .i64 so, .int .i64 ss, .int .i64 sf, .int .i64 sv] 47) := hid ((show Blk W2 (w.heap.size + 1) _ 47 by rw [← s1, hW2]; exact Blk.new _ _ _).ext x3)
 have HBr : Hid (Blk W (w.heap.size + 2) #[.string r.kind, .int .i64 r.a, .int .i64 r.b, .int .i64 r.k, .slice aa r.args.length ca] 87) := hid (by rw [← s2, hW]; exact Blk.new _ _ _)
 have HWe : Hid (W = ((w.alloc (.cells #[.slice a1 P.vars.length c1, .slice a2 P.funs.length c2, .slice a3 P.stmts.length c3] 26)).alloc (.cells #[.int .i64 sn, .int .i64 so, .int .i64 ss, .int .i64 sf, .int .i64 sv] 47)).alloc (.cells #[.string r.kind, .int .i64 r.a, .int .i64 r.b, .int .i64 r.k, .slice aa r.args.length ca] 87)) := hid (by rw [hW, hW2, hW1])
 have HPW := hid h
 have HA := hid ha
 have Hr := hid hr
 have hal : (r.args.length : Int) ≤ 9223372036854775807 := by obtain ⟨a, cap, h1, h2, h3, _⟩ := ha; omega
 have e0 := HBs.out.av 0 rfl
 have e1 := HBs.out.av 1 rfl
 have e2 := HBs.out.av 2 rfl
 have e3 := HBs.out.av 3 rfl
 have e4 := HBs.out.av 4 rfl
 have r0 := HBr.out.av 0 rfl
 have r1 := HBr.out.av 1 rfl
 have r2 := HBr.out.av 2 rfl
 simp only [qA0, qA1, qA2] at e0 e1 e2 e3 e4 r0 r1 r2
 rw [HWe.out] at e0 e1 e2 e3 e4 r0 r1 r2
 unfold pval stval RV.val
 clear h ha hr hW hW1 hW2 x1 x2 x3 s1 s2
 have hf := hf.out
 subst hf
 have hx := hx.out
 have hfl := (List.getElem?_eq_some_iff.1 hx).1
 obtain ⟨y8, c8, hge⟩ := Hr.out.some (by omega)
 simp only [Value.slice.injEq] at hge
 obtain ⟨rfl, -, rfl⟩ := hge
 obtain ⟨t0, t1, t2, t3, t4⟩ := (Hr.out.ext HX.out).at5 hx
 obtain ⟨V, hV⟩ : ∃ V, V = W.alloc (.cells #[.int .i64 x.node, .int .i64 x.obj, .int .i64 x.stmt, .int .i64 x.frm, .int .i64 x.via] 47) := ⟨_, rfl⟩
 have xv : Ext W V := by rw [hV]; exact (Ext.refl _).alloc _
 have HXV := hid (HX.out.trans xv)
 have HBx : Hid (Blk V (w.heap.size + 3) #[.int .i64 x.node, .int .i64 x.obj, .int .i64 x.stmt, .int .i64 x.frm, .int .i64 x.via] 47) := hid (by rw [← s3.out, hV]; exact Blk.new _ _ _)
 have HVe : Hid (V = (((w.alloc (.cells #[.slice a1 P.vars.length c1, .slice a2 P.funs.length c2, .slice a3 P.stmts.length c3] 26)).alloc (.cells #[.int .i64 sn, .int .i64 so, .int .i64 ss, .int .i64 (f : Int), .int .i64 sv] 47)).alloc (.cells #[.string r.kind, .int .i64 r.a, .int .i64 r.b, .int .i64 r.k, .slice aa r.args.length ca] 87)).alloc (.cells #[.int .i64 x.node, .int .i64 x.obj, .int .i64 x.stmt, .int .i64 x.frm, .int .i64 x.via] 47)) := hid (by rw [hV, HWe.out])
 have HBpV := hid (HBp.out.ext xv)
 have HBsV := hid (HBs.out.ext xv)
 have HBrV := hid (HBr.out.ext xv)
 have n1 := HBsV.out.av 1 rfl
 have m0 := HBrV.out.av 0 rfl
 have d1 := HBx.out.av 1 rfl
 simp only [qA0, qA1, qA2] at n1 m0 d1
 rw [HVe.out] at n1 m0 d1
 rw [HWe.out] at t0 t1 t2 t3 t4
 clear hx hV xv
 have hxo := hxo.out
 subst hxo
 have hxn : (x.obj != x.obj) = false := by simp
 have hv := hv.out
 subst hv
 have hz := hz.out
 have hvl := (List.getElem?_eq_some_iff.1 hz).1
 obtain ⟨v0, v1, v2, v3, v4⟩ := (Hr.out.ext HXV.out).at5 hz
 have k0 : ∀ w1, Keep (fun _ => False) V w1 → w1.cell? (y8.add (v * 5)) = some (.int .i64 z.node) := fun w1 kk => kk.ext.cellx v0
 have k1 : ∀ w1, Keep (fun _ => False) V w1 → w1.cell? ⟨(y8.add (v * 5)).block, (y8.add (v * 5)).off + 1, none⟩ = some (.int .i64 z.obj) := fun w1 kk => kk.ext.cellx v1
 have k2 := HBsV.out.kc (X := fun _ => False) (fun e => e) 0 rfl
 have k3 := HBsV.out.kc (X := fun _ => False) (fun e => e) 4 rfl
 have k4 := HBrV.out.kc (X := fun _ => False) (fun e => e) 1 rfl
 have k5 := HBrV.out.kc (X := fun _ => False) (fun e => e) 2 rfl
 have k6 := HBx.out.kc (X := fun _ => False) (fun e => e) 0 rfl
 have k7 := HBpV.out.kc (X := fun _ => False) (fun e => e) 0 rfl
 have k8 := HBpV.out.kc (X := fun _ => False) (fun e => e) 1 rfl
 have k9 := HBpV.out.kc (X := fun _ => False) (fun e => e) 2 rfl
 simp only [qA0, qA1, qA2] at k2 k3 k4 k5 k6 k7 k8 k9
 clear hz v0 v1 v2 v3 v4
 cases b1 <;> cases b2 <;> cases b3 <;>
 (skip
  go_enter Tryz.func111, Tryz.ntmps111
  go_wp2
  rw [← HVe.out]
  clear t0 t1 t2 t3 t4 n1 m0 d1 e0 e1 e2 e3 e4 r0 r1 r2
  refine wp_flowT (fun _ => False) (by kernel_rfl) (by kernel_rfl) ?_
  repeat (apply FlowT.d; (intro w1 hk; unfold does; go_simp; (try go_ints); (first | exact DetR.mk | (simp only [↓IntWalk.iteOmega, Oper.doesUpon_value]; exact DetR.mk) | (simp only [↓IntWalk.iteOmega]; go_simp; (try go_ints); exact DetR.mk))); simp only [Act.put, qS0, qS1, qS2])
  refine FlowT.fin fun w9 hx9 hk9 => ?_
  have Hx9 := hid (HXV.out.trans hx9)
  clear hx9 hk9 k0 k1 k2 k3 k4 k5 k6 k7 k8 k9
  go_wp2
  go_ret
  exact ⟨rfl, Hx9.out⟩
 )
set_option maxRecDepth 100000 in
set_option maxHeartbeats 6400000 in
theorem whyfollows_store (a1 a2 a3 : Option Addr) (c1 c2 c3 : Nat) (P : PP) (r : RV) (aa : Option Addr) (ca : Nat) (vl : Value) (L : List ST) (s : ST) (w : World) (n0 : Nat) (ad : Nat → Addr) (h : PW w n0 ad a1 a2 a3 c1 c2 c3 P) (ha : IntsR w n0 (.slice aa r.args.length ca) r.args) (n1 : Nat) (hr : StepsR w n1 vl L) (hll : L.length ≤ 2000) (hkb : (r.kind.toList == [98, 97, 115, 101]) = false) (hkc : (r.kind.toList == [99, 111, 112, 121]) = false) (hkl : (r.kind.toList == [108, 111, 97, 100]) = false) (hks : (r.kind.toList == [115, 116, 111, 114, 101]) = true) (f : Nat) (x : ST) (hf : Hid (s.frm = (f : Int))) (hx : Hid (L[f]? = some x)) (hxo : Hid (x.obj = s.obj)) (v : Nat) (z : ST) (hv : Hid (s.via = (v : Int))) (hz : Hid (L[v]? = some z)) (b1 b2 b3 b4 : Bool) (h1 : (z.node == r.b) = b1) (h2 : (z.obj == s.node) = b2) (h3 : decide (s.node < P.nodesV) = b3) (h4 : (x.node == r.a) = b4) :
  Calls Tryz.prog 111 #[pval a1 a2 a3 c1 c2 c3 P, vl, stval s, r.val (.slice aa r.args.length ca)] w fun e w' => e = .returned (.bool (b1 && b2 && b3 && b4)) ∧ Ext w w' := by
 obtain ⟨al, cl, rfl⟩ := hr.form2
 obtain ⟨sn, so, ss, sf, sv⟩ := s
 simp only at *
 obtain ⟨W1, hW1⟩ : ∃ W1, W1 = w.alloc (.cells #[.slice a1 P.vars.length c1, .slice a2 P.funs.length c2, .slice a3 P.stmts.length c3] 26) := ⟨_, rfl⟩
 obtain ⟨W2, hW2⟩ : ∃ W2, W2 = W1.alloc (.cells #[.int .i64 sn, .int .i64 so, .int .i64 ss, .int .i64 sf, .int .i64 sv] 47) := ⟨_, rfl⟩
 obtain ⟨W, hW⟩ : ∃ W, W = W2.alloc (.cells #[.string r.kind, .int .i64 r.a, .int .i64 r.b, .int .i64 r.k, .slice aa r.args.length ca] 87) := ⟨_, rfl⟩
 have x1 : Ext w W1 := by rw [hW1]; exact (Ext.refl _).alloc _
 have x2 : Ext W1 W2 := by rw [hW2]; exact (Ext.refl _).alloc _
 have x3 : Ext W2 W := by rw [hW]; exact (Ext.refl _).alloc _
 have s1 : W1.heap.size = w.heap.size + 1 := by rw [hW1, heap_size_alloc]
 have s2 : W2.heap.size = w.heap.size + 2 := by rw [hW2, heap_size_alloc, s1]
 have s3 : Hid (W.heap.size = w.heap.size + 3) := hid (by rw [hW, heap_size_alloc, s2])
 have HX := hid (x1.trans (x2.trans x3))
 have HBp : Hid (Blk W w.heap.size #[.slice a1 P.vars.length c1, .slice a2 P.funs.length c2, .slice a3 P.stmts.length c3] 26) := hid ((show Blk W1 w.heap.size _ 26 by rw [hW1]; exact Blk.new _ _ _).ext (x2.trans x3))
 have HBs : Hid (Blk W (w.heap.size + 1) #[.int .i64 sn, .int .i64 so, .int .i64 ss, .int .i64 sf, .int .i64 sv] 47) := hid ((show Blk W2 (w.heap.size + 1) _ 47 by rw [← s1, hW2]; exact Blk.new _ _ _).ext x3)
 have HBr : Hid (Blk W (w.heap.size + 2) #[.string r.kind, .int .i64 r.a, .int .i64 r.b, .int .i64 r.k, .slice aa r.args.length ca] 87) := hid (by rw [← s2, hW]; exact Blk.new _ _ _)
 have HWe : Hid (W = ((w.alloc (.cells #[.slice a1 P.vars.length c1, .slice a2 P.funs.length c2, .slice a3 P.stmts.length c3] 26)).alloc (.cells #[.int .i64 sn, .int .i64 so, .int .i64 ss, .int .i64 sf, .int .i64 sv] 47)).alloc (.cells #[.string r.kind, .int .i64 r.a, .int .i64 r.b, .int .i64 r.k, .slice aa r.args.length ca] 87)) := hid (by rw [hW, hW2, hW1])
 have HPW := hid h
 have HA := hid ha
 have Hr := hid hr
 have hal : (r.args.length : Int) ≤ 9223372036854775807 := by obtain ⟨a, cap, h1, h2, h3, _⟩ := ha; omega
 have e0 := HBs.out.av 0 rfl
 have e1 := HBs.out.av 1 rfl
 have e2 := HBs.out.av 2 rfl
 have e3 := HBs.out.av 3 rfl
 have e4 := HBs.out.av 4 rfl
 have r0 := HBr.out.av 0 rfl
 have r1 := HBr.out.av 1 rfl
 have r2 := HBr.out.av 2 rfl
 simp only [qA0, qA1, qA2] at e0 e1 e2 e3 e4 r0 r1 r2
 rw [HWe.out] at e0 e1 e2 e3 e4 r0 r1 r2
 unfold pval stval RV.val
 clear h ha hr hW hW1 hW2 x1 x2 x3 s1 s2
 have hnn := HPW.out.well.nodes.1
 have HN := fun w1 (y : Ext w w1) => hid (prognodes_any a1 a2 a3 c1 c2 c3 P w1 n0 ad (HPW.out.ext y).errs (HPW.out.ext y).prog HPW.out.z1 HPW.out.z2 HPW.out.well)
 unfold pval at HN
 generalize P.nodesV = NN at *
 have hf := hf.out
 subst hf
 have hx := hx.out
 have hfl := (List.getElem?_eq_some_iff.1 hx).1
 obtain ⟨y8, c8, hge⟩ := Hr.out.some (by omega)
 simp only [Value.slice.injEq] at hge
 obtain ⟨rfl, -, rfl⟩ := hge
 obtain ⟨t0, t1, t2, t3, t4⟩ := (Hr.out.ext HX.out).at5 hx
 obtain ⟨V, hV⟩ : ∃ V, V = W.alloc (.cells #[.int .i64 x.node, .int .i64 x.obj, .int .i64 x.stmt, .int .i64 x.frm, .int .i64 x.via] 47) := ⟨_, rfl⟩
 have xv : Ext W V := by rw [hV]; exact (Ext.refl _).alloc _
 have HXV := hid (HX.out.trans xv)
 have HBx : Hid (Blk V (w.heap.size + 3) #[.int .i64 x.node, .int .i64 x.obj, .int .i64 x.stmt, .int .i64 x.frm, .int .i64 x.via] 47) := hid (by rw [← s3.out, hV]; exact Blk.new _ _ _)
 have HVe : Hid (V = (((w.alloc (.cells #[.slice a1 P.vars.length c1, .slice a2 P.funs.length c2, .slice a3 P.stmts.length c3] 26)).alloc (.cells #[.int .i64 sn, .int .i64 so, .int .i64 ss, .int .i64 (f : Int), .int .i64 sv] 47)).alloc (.cells #[.string r.kind, .int .i64 r.a, .int .i64 r.b, .int .i64 r.k, .slice aa r.args.length ca] 87)).alloc (.cells #[.int .i64 x.node, .int .i64 x.obj, .int .i64 x.stmt, .int .i64 x.frm, .int .i64 x.via] 47)) := hid (by rw [hV, HWe.out])
 have HBpV := hid (HBp.out.ext xv)
 have HBsV := hid (HBs.out.ext xv)
 have HBrV := hid (HBr.out.ext xv)
 have n1 := HBsV.out.av 1 rfl
 have m0 := HBrV.out.av 0 rfl
 have d1 := HBx.out.av 1 rfl
 simp only [qA0, qA1, qA2] at n1 m0 d1
 rw [HVe.out] at n1 m0 d1
 rw [HWe.out] at t0 t1 t2 t3 t4
 clear hx hV xv
 have hxo := hxo.out
 subst hxo
 have hxn : (x.obj != x.obj) = false := by simp
 have hv := hv.out
 subst hv
 have hz := hz.out
 have hvl := (List.getElem?_eq_some_iff.1 hz).1
 obtain ⟨v0, v1, v2, v3, v4⟩ := (Hr.out.ext HXV.out).at5 hz
 have k0 : ∀ w1, Keep (fun _ => False) V w1 → w1.cell? (y8.add (v * 5)) = some (.int .i64 z.node) := fun w1 kk => kk.ext.cellx v0
 have k1 : ∀ w1, Keep (fun _ => False) V w1 → w1.cell? ⟨(y8.add (v * 5)).block, (y8.add (v * 5)).off + 1, none⟩ = some (.int .i64 z.obj) := fun w1 kk => kk.ext.cellx v1
 have k2 := HBsV.out.kc (X := fun _ => False) (fun e => e) 0 rfl
 have k3 := HBsV.out.kc (X := fun _ => False) (fun e => e) 4 rfl
 have k4 := HBrV.out.kc (X := fun _ => False) (fun e => e) 1 rfl
 have k5 := HBrV.out.kc (X := fun _ => False) (fun e => e) 2 rfl
 have k6 := HBx.out.kc (X := fun _ => False) (fun e => e) 0 rfl
 have k7 := HBpV.out.kc (X := fun _ => False) (fun e => e) 0 rfl
 have k8 := HBpV.out.kc (X := fun _ => False) (fun e => e) 1 rfl
 have k9 := HBpV.out.kc (X := fun _ => False) (fun e => e) 2 rfl
 simp only [qA0, qA1, qA2] at k2 k3 k4 k5 k6 k7 k8 k9
 clear hz v0 v1 v2 v3 v4
 cases b1 with
 | true =>
  cases b2 with
  | true =>
   cases b3 <;> cases b4 <;>
   (skip
    go_enter Tryz.func111, Tryz.ntmps111
    go_wp2
    rw [← HVe.out]
    clear t0 t1 t2 t3 t4 n1 m0 d1 e0 e1 e2 e3 e4 r0 r1 r2
    refine wp_flowT (fun _ => False) (by kernel_rfl) (by kernel_rfl) ?_
    repeat (apply FlowT.d; (intro w1 hk; unfold does; go_simp; (try go_ints); (first | exact DetR.mk | (simp only [↓IntWalk.iteOmega, Oper.doesUpon_value]; exact DetR.mk) | (simp only [↓IntWalk.iteOmega]; go_simp; (try go_ints); exact DetR.mk))); simp only [Act.put, qS0, qS1, qS2])
    apply FlowT.d
    ·intro w1 hk
     unfold does
     go_simp
     exact CallR.det ((HN w1 (HXV.out.trans hk.ext)).out)
    simp only [Act.put, qS0, qS1, qS2]
    repeat (apply FlowT.d; (intro w1 hk; unfold does; go_simp; (try go_ints); (first | exact DetR.mk | (simp only [↓IntWalk.iteOmega, Oper.doesUpon_value]; exact DetR.mk) | (simp only [↓IntWalk.iteOmega]; go_simp; (try go_ints); exact DetR.mk))); simp only [Act.put, qS0, qS1, qS2])
    refine FlowT.fin fun w9 hx9 hk9 => ?_
    have Hx9 := hid (HXV.out.trans hx9)
    clear hx9 hk9 k0 k1 k2 k3 k4 k5 k6 k7 k8 k9
    go_wp2
    go_ret
    exact ⟨rfl, Hx9.out⟩
   )
  | false =>
   go_enter Tryz.func111, Tryz.ntmps111
   go_wp2
   rw [← HVe.out]
   clear t0 t1 t2 t3 t4 n1 m0 d1 e0 e1 e2 e3 e4 r0 r1 r2
   refine wp_flowT (fun _ => False) (by kernel_rfl) (by kernel_rfl) ?_
   repeat (apply FlowT.d; (intro w1 hk; unfold does; go_simp; (try go_ints); (first | exact DetR.mk | (simp only [↓IntWalk.iteOmega, Oper.doesUpon_value]; exact DetR.mk) | (simp only [↓IntWalk.iteOmega]; go_simp; (try go_ints); exact DetR.mk))); simp only [Act.put, qS0, qS1, qS2])
   refine FlowT.fin fun w9 hx9 hk9 => ?_
   have Hx9 := hid (HXV.out.trans hx9)
   clear hx9 hk9 k0 k1 k2 k3 k4 k5 k6 k7 k8 k9
   go_wp2
   go_ret
   exact ⟨rfl, Hx9.out⟩
 | false =>
  go_enter Tryz.func111, Tryz.ntmps111
  go_wp2
  rw [← HVe.out]
  clear t0 t1 t2 t3 t4 n1 m0 d1 e0 e1 e2 e3 e4 r0 r1 r2
  refine wp_flowT (fun _ => False) (by kernel_rfl) (by kernel_rfl) ?_
  repeat (apply FlowT.d; (intro w1 hk; unfold does; go_simp; (try go_ints); (first | exact DetR.mk | (simp only [↓IntWalk.iteOmega, Oper.doesUpon_value]; exact DetR.mk) | (simp only [↓IntWalk.iteOmega]; go_simp; (try go_ints); exact DetR.mk))); simp only [Act.put, qS0, qS1, qS2])
  refine FlowT.fin fun w9 hx9 hk9 => ?_
  have Hx9 := hid (HXV.out.trans hx9)
  clear hx9 hk9 k0 k1 k2 k3 k4 k5 k6 k7 k8 k9
  go_wp2
  go_ret
  exact ⟨rfl, Hx9.out⟩
set_option maxRecDepth 100000 in
set_option maxHeartbeats 6400000 in
theorem whyfollows_call (a1 a2 a3 : Option Addr) (c1 c2 c3 : Nat) (P : PP) (r : RV) (aa : Option Addr) (ca : Nat) (vl : Value) (L : List ST) (s : ST) (w : World) (n0 : Nat) (ad : Nat → Addr) (h : PW w n0 ad a1 a2 a3 c1 c2 c3 P) (ha : IntsR w n0 (.slice aa r.args.length ca) r.args) (n1 : Nat) (hr : StepsR w n1 vl L) (hll : L.length ≤ 2000) (hkb : (r.kind.toList == [98, 97, 115, 101]) = false) (hkc : (r.kind.toList == [99, 111, 112, 121]) = false) (hkl : (r.kind.toList == [108, 111, 97, 100]) = false) (hks : (r.kind.toList == [115, 116, 111, 114, 101]) = false) (f : Nat) (x : ST) (hf : Hid (s.frm = (f : Int))) (hx : Hid (L[f]? = some x)) (hxo : Hid (x.obj = s.obj)) (v : Nat) (z : ST) (hv : Hid (s.via = (v : Int))) (hz : Hid (L[v]? = some z)) (hzo : 0 ≤ z.obj ∧ z.obj < 1000) (b1 b2 : Bool) (h1 : (z.node == r.a) = b1) (h2 : Hid (decide ((x.node, s.node) ∈ P.callsOf r z.obj) = b2)) :
  Calls Tryz.prog 111 #[pval a1 a2 a3 c1 c2 c3 P, vl, stval s, r.val (.slice aa r.args.length ca)] w fun e w' => e = .returned (.bool (b1 && b2)) ∧ Ext w w' := by
 obtain ⟨al, cl, rfl⟩ := hr.form2
 obtain ⟨sn, so, ss, sf, sv⟩ := s
 simp only at *
 obtain ⟨W1, hW1⟩ : ∃ W1, W1 = w.alloc (.cells #[.slice a1 P.vars.length c1, .slice a2 P.funs.length c2, .slice a3 P.stmts.length c3] 26) := ⟨_, rfl⟩
 obtain ⟨W2, hW2⟩ : ∃ W2, W2 = W1.alloc (.cells #[.int .i64 sn, .int .i64 so, .int .i64 ss, .int .i64 sf, .int .i64 sv] 47) := ⟨_, rfl⟩
 obtain ⟨W, hW⟩ : ∃ W, W = W2.alloc (.cells #[.string r.kind, .int .i64 r.a, .int .i64 r.b, .int .i64 r.k, .slice aa r.args.length ca] 87) := ⟨_, rfl⟩
 have x1 : Ext w W1 := by rw [hW1]; exact (Ext.refl _).alloc _
 have x2 : Ext W1 W2 := by rw [hW2]; exact (Ext.refl _).alloc _
 have x3 : Ext W2 W := by rw [hW]; exact (Ext.refl _).alloc _
 have s1 : W1.heap.size = w.heap.size + 1 := by rw [hW1, heap_size_alloc]
 have s2 : W2.heap.size = w.heap.size + 2 := by rw [hW2, heap_size_alloc, s1]
 have s3 : Hid (W.heap.size = w.heap.size + 3) := hid (by rw [hW, heap_size_alloc, s2])
 have HX := hid (x1.trans (x2.trans x3))
 have HBp : Hid (Blk W w.heap.size #[.slice a1 P.vars.length c1, .slice a2 P.funs.length c2, .slice a3 P.stmts.length c3] 26) := hid ((show Blk W1 w.heap.size _ 26 by rw [hW1]; exact Blk.new _ _ _).ext (x2.trans x3))
 have HBs : Hid (Blk W (w.heap.size + 1) #[.int .i64 sn, .int .i64 so, .int .i64 ss, .int .i64 sf, .int .i64 sv] 47) := hid ((show Blk W2 (w.heap.size + 1) _ 47 by rw [← s1, hW2]; exact Blk.new _ _ _).ext x3)
 have HBr : Hid (Blk W (w.heap.size + 2) #[.string r.kind, .int .i64 r.a, .int .i64 r.b, .int .i64 r.k, .slice aa r.args.length ca] 87) := hid (by rw [← s2, hW]; exact Blk.new _ _ _)
 have HWe : Hid (W = ((w.alloc (.cells #[.slice a1 P.vars.length c1, .slice a2 P.funs.length c2, .slice a3 P.stmts.length c3] 26)).alloc (.cells #[.int .i64 sn, .int .i64 so, .int .i64 ss, .int .i64 sf, .int .i64 sv] 47)).alloc (.cells #[.string r.kind, .int .i64 r.a, .int .i64 r.b, .int .i64 r.k, .slice aa r.args.length ca] 87)) := hid (by rw [hW, hW2, hW1])
 have HPW := hid h
 have HA := hid ha
 have Hr := hid hr
 have hal : (r.args.length : Int) ≤ 9223372036854775807 := by obtain ⟨a, cap, h1, h2, h3, _⟩ := ha; omega
 have e0 := HBs.out.av 0 rfl
 have e1 := HBs.out.av 1 rfl
 have e2 := HBs.out.av 2 rfl
 have e3 := HBs.out.av 3 rfl
 have e4 := HBs.out.av 4 rfl
 have r0 := HBr.out.av 0 rfl
 have r1 := HBr.out.av 1 rfl
 have r2 := HBr.out.av 2 rfl
 simp only [qA0, qA1, qA2] at e0 e1 e2 e3 e4 r0 r1 r2
 rw [HWe.out] at e0 e1 e2 e3 e4 r0 r1 r2
 unfold pval stval RV.val
 clear h ha hr hW hW1 hW2 x1 x2 x3 s1 s2
 have HC := fun w1 (y : Ext w w1) => hid (whycalled_any a1 a2 a3 c1 c2 c3 P r aa ca z.obj (x.node, sn) w1 n0 ad (HPW.out.ext y) hzo (HA.out.old (y.old _)))
 rw [h2.out] at HC
 unfold pval RV.val at HC
 clear h2 hzo
 have hf := hf.out
 subst hf
 have hx := hx.out
 have hfl := (List.getElem?_eq_some_iff.1 hx).1
 obtain ⟨y8, c8, hge⟩ := Hr.out.some (by omega)
 simp only [Value.slice.injEq] at hge
 obtain ⟨rfl, -, rfl⟩ := hge
 obtain ⟨t0, t1, t2, t3, t4⟩ := (Hr.out.ext HX.out).at5 hx
 obtain ⟨V, hV⟩ : ∃ V, V = W.alloc (.cells #[.int .i64 x.node, .int .i64 x.obj, .int .i64 x.stmt, .int .i64 x.frm, .int .i64 x.via] 47) := ⟨_, rfl⟩
 have xv : Ext W V := by rw [hV]; exact (Ext.refl _).alloc _
 have HXV := hid (HX.out.trans xv)
 have HBx : Hid (Blk V (w.heap.size + 3) #[.int .i64 x.node, .int .i64 x.obj, .int .i64 x.stmt, .int .i64 x.frm, .int .i64 x.via] 47) := hid (by rw [← s3.out, hV]; exact Blk.new _ _ _)
 have HVe : Hid (V = (((w.alloc (.cells #[.slice a1 P.vars.length c1, .slice a2 P.funs.length c2, .slice a3 P.stmts.length c3] 26)).alloc (.cells #[.int .i64 sn, .int .i64 so, .int .i64 ss, .int .i64 (f : Int), .int .i64 sv] 47)).alloc (.cells #[.string r.kind, .int .i64 r.a, .int .i64 r.b, .int .i64 r.k, .slice aa r.args.length ca] 87)).alloc (.cells #[.int .i64 x.node, .int .i64 x.obj, .int .i64 x.stmt, .int .i64 x.frm, .int .i64 x.via] 47)) := hid (by rw [hV, HWe.out])
 have HBpV := hid (HBp.out.ext xv)
 have HBsV := hid (HBs.out.ext xv)
 have HBrV := hid (HBr.out.ext xv)
 have n1 := HBsV.out.av 1 rfl
 have m0 := HBrV.out.av 0 rfl
 have d1 := HBx.out.av 1 rfl
 simp only [qA0, qA1, qA2] at n1 m0 d1
 rw [HVe.out] at n1 m0 d1
 rw [HWe.out] at t0 t1 t2 t3 t4
 clear hx hV xv
 have hxo := hxo.out
 subst hxo
 have hxn : (x.obj != x.obj) = false := by simp
 have hv := hv.out
 subst hv
 have hz := hz.out
 have hvl := (List.getElem?_eq_some_iff.1 hz).1
 obtain ⟨v0, v1, v2, v3, v4⟩ := (Hr.out.ext HXV.out).at5 hz
 have k0 : ∀ w1, Keep (fun _ => False) V w1 → w1.cell? (y8.add (v * 5)) = some (.int .i64 z.node) := fun w1 kk => kk.ext.cellx v0
 have k1 : ∀ w1, Keep (fun _ => False) V w1 → w1.cell? ⟨(y8.add (v * 5)).block, (y8.add (v * 5)).off + 1, none⟩ = some (.int .i64 z.obj) := fun w1 kk => kk.ext.cellx v1
 have k2 := HBsV.out.kc (X := fun _ => False) (fun e => e) 0 rfl
 have k3 := HBsV.out.kc (X := fun _ => False) (fun e => e) 4 rfl
 have k4 := HBrV.out.kc (X := fun _ => False) (fun e => e) 1 rfl
 have k5 := HBrV.out.kc (X := fun _ => False) (fun e => e) 2 rfl
 have k6 := HBx.out.kc (X := fun _ => False) (fun e => e) 0 rfl
 have k7 := HBpV.out.kc (X := fun _ => False) (fun e => e) 0 rfl
 have k8 := HBpV.out.kc (X := fun _ => False) (fun e => e) 1 rfl
 have k9 := HBpV.out.kc (X := fun _ => False) (fun e => e) 2 rfl
 simp only [qA0, qA1, qA2] at k2 k3 k4 k5 k6 k7 k8 k9
 clear hz v0 v1 v2 v3 v4
 have k10 := HBrV.out.kc (X := fun _ => False) (fun e => e) 0 rfl
 have k11 := HBrV.out.kc (X := fun _ => False) (fun e => e) 3 rfl
 have k12 := HBrV.out.kc (X := fun _ => False) (fun e => e) 4 rfl
 simp only [qA0, qA1, qA2] at k10 k11 k12
 cases b1 with
 | true =>
  go_enter Tryz.func111, Tryz.ntmps111
  go_wp2
  rw [← HVe.out]
  clear t0 t1 t2 t3 t4 n1 m0 d1 e0 e1 e2 e3 e4 r0 r1 r2
  refine wp_flowT (fun _ => False) (by kernel_rfl) (by kernel_rfl) ?_
  repeat (apply FlowT.d; (intro w1 hk; unfold does; go_simp; (try go_ints); (first | exact DetR.mk | (simp only [↓IntWalk.iteOmega, Oper.doesUpon_value]; exact DetR.mk) | (simp only [↓IntWalk.iteOmega]; go_simp; (try go_ints); exact DetR.mk))); simp only [Act.put, qS0, qS1, qS2])
  apply FlowT.d
  ·intro w1 hk
   unfold does
   go_simp
   exact CallR.det ((HC w1 (HXV.out.trans hk.ext)).out)
  simp only [Act.put, qS0, qS1, qS2]
  repeat (apply FlowT.d; (intro w1 hk; unfold does; go_simp; (try go_ints); (first | exact DetR.mk | (simp only [↓IntWalk.iteOmega, Oper.doesUpon_value]; exact DetR.mk) | (simp only [↓IntWalk.iteOmega]; go_simp; (try go_ints); exact DetR.mk))); simp only [Act.put, qS0, qS1, qS2])
  clear k10 k11 k12
  refine FlowT.fin fun w9 hx9 hk9 => ?_
  have Hx9 := hid (HXV.out.trans hx9)
  clear hx9 hk9 k0 k1 k2 k3 k4 k5 k6 k7 k8 k9
  go_wp2
  go_ret
  exact ⟨rfl, Hx9.out⟩
 | false =>
  go_enter Tryz.func111, Tryz.ntmps111
  go_wp2
  rw [← HVe.out]
  clear t0 t1 t2 t3 t4 n1 m0 d1 e0 e1 e2 e3 e4 r0 r1 r2
  refine wp_flowT (fun _ => False) (by kernel_rfl) (by kernel_rfl) ?_
  repeat (apply FlowT.d; (intro w1 hk; unfold does; go_simp; (try go_ints); (first | exact DetR.mk | (simp only [↓IntWalk.iteOmega, Oper.doesUpon_value]; exact DetR.mk) | (simp only [↓IntWalk.iteOmega]; go_simp; (try go_ints); exact DetR.mk))); simp only [Act.put, qS0, qS1, qS2])
  clear k10 k11 k12
  refine FlowT.fin fun w9 hx9 hk9 => ?_
  have Hx9 := hid (HXV.out.trans hx9)
  clear hx9 hk9 k0 k1 k2 k3 k4 k5 k6 k7 k8 k9
  go_wp2
  go_ret
  exact ⟨rfl, Hx9.out⟩
end Go.Proofs.YtngdpnlgnpdkcaaGreatDoor
