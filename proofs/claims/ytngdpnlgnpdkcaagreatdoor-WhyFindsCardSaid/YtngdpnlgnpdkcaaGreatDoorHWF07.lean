/- Texts of one proof, put together: ZZWn ZZWt E6 ZZWv ZZWna. -/
import Derived.Test.YtngdpnlgnpdkcaaGreatDoorHWF03
import Derived.Test.YtngdpnlgnpdkcaaGreatDoorHWF06
import Derived.Test.YtngdpnlgnpdkcaaGreatDoorHWF01
set_option linter.unusedSimpArgs false
set_option linter.unusedVariables false
namespace Go.Proofs.YtngdpnlgnpdkcaaGreatDoor
open Go Go.RowKit
set_option maxRecDepth 100000 in
set_option maxHeartbeats 3200000 in
theorem whycalled_any (a1 a2 a3 : Option Addr) (c1 c2 c3 : Nat) (P : PP) (r : RV) (aa : Option Addr) (ca : Nat) (o : Int) (e : Int × Int) (w : World) (n0 : Nat) (ad : Nat → Addr) (h : PW w n0 ad a1 a2 a3 c1 c2 c3 P) (ho : 0 ≤ o ∧ o < 1000) (ha : IntsR w n0 (.slice aa r.args.length ca) r.args) :
    Calls Tryz.prog 143 #[pval a1 a2 a3 c1 c2 c3 P, r.val (.slice aa r.args.length ca), .int .i64 o, .int .i64 e.1, .int .i64 e.2] w fun x w' => x = .returned (.bool (decide (e ∈ P.callsOf r o))) ∧ Ext w w' := by
  have hw := h.well
  obtain ⟨W1, hW1⟩ : ∃ W1, W1 = w.alloc (.cells (pcells a1 a2 a3 c1 c2 c3 P) 26) := ⟨_, rfl⟩
  obtain ⟨W, hW⟩ : ∃ W, W = W1.alloc (.cells #[.string r.kind, .int .i64 r.a, .int .i64 r.b, .int .i64 r.k, .slice aa r.args.length ca] 87) := ⟨_, rfl⟩
  have x1 : Ext w W1 := by rw [hW1]; exact (Ext.refl _).alloc _
  have x2 : Ext W1 W := by rw [hW]; exact (Ext.refl _).alloc _
  have s1 : W1.heap.size = w.heap.size + 1 := by rw [hW1, heap_size_alloc]
  have HX := hid (x1.trans x2)
  have HBp : Hid (Blk W w.heap.size (pcells a1 a2 a3 c1 c2 c3 P) 26) := hid ((show Blk W1 w.heap.size _ 26 by rw [hW1]; exact Blk.new _ _ _).ext x2)
  have HBx : Hid (Blk W (w.heap.size + 1) #[.string r.kind, .int .i64 r.a, .int .i64 r.b, .int .i64 r.k, .slice aa r.args.length ca] 87) := hid (by rw [← s1, hW]; exact Blk.new _ _ _)
  have HWe : Hid (W = (w.alloc (.cells #[.slice a1 P.vars.length c1, .slice a2 P.funs.length c2, .slice a3 P.stmts.length c3] 26)).alloc (.cells #[.string r.kind, .int .i64 r.a, .int .i64 r.b, .int .i64 r.k, .slice aa r.args.length ca] 87)) := hid (by rw [hW, hW1]; rfl)
  have HPW := hid (h.ext HX.out)
  have Hw := hid hw
  have HA := hid (ha.old (HX.out.old n0))
  have al := ha.form
  have hal : (r.args.length : Int) ≤ 9223372036854775807 := by obtain ⟨a, cap, h1, h2, h3, _⟩ := ha; omega
  have HF := hid (progfun_any a1 a2 a3 c1 c2 c3 P o W n0 ad HPW.out ho)
  unfold pval at HF
  obtain ⟨Fn, hFn⟩ : ∃ Fn, Fn = P.funV o := ⟨_, rfl⟩
  rw [← hFn] at HF
  have HFe := hid hFn
  have p0 := HBp.out.av 0 rfl
  have p1 := HBp.out.av 1 rfl
  have p2 := HBp.out.av 2 rfl
  simp only [pcells, qA0, qA1, qA2] at p0 p1 p2
  rw [HWe.out] at p0 p1 p2
  unfold RV.val pval
  clear hFn h ha hw hW hW1 x1 x2 s1 al
  go_enter Tryz.func143, Tryz.ntmps143
  go_wp2_with fail
  rw [← HWe.out]
  refine HF.out.mono ?_
  intro x w1 hx
  obtain ⟨rfl, hx1⟩ := hx
  have Hx1 := hid hx1
  have HBx1 := hid (HBx.out.ext hx1)
  have HBp1 := hid (HBp.out.ext hx1)
  have HA1 := hid (HA.out.old (hx1.old n0))
  have HPW1 := hid (HPW.out.ext hx1)
  clear HF hx1 p0 p1 p2
  by_cases hF0 : 0 ≤ Fn
  · obtain ⟨N, rfl⟩ := Int.eq_ofNat_of_zero_le hF0
    have hN : N < P.funs.length := by have := funV_lt (P := P) (o := o) (by rw [← HFe.out]; exact hF0); rw [← HFe.out] at this; omega
    obtain ⟨yf, f, afp, cfp, hyf, hfk, e0, e1, e2, hIp⟩ := HPW1.out.prog.funs.at hN
    subst hyf
    have hfm : f ∈ P.funs := List.mem_of_getElem? hfk
    have hpf := (PP.goodF (PP.funs_ok Hw.out.1) hfm).few
    obtain ⟨q, hq⟩ : ∃ q, q = calledV f r := ⟨_, rfl⟩
    have Hq : Hid (P.callsOf r o = q) := hid (by
      unfold PP.callsOf
      rw [if_pos (by rw [← HFe.out]; omega), ← HFe.out, hq]
      show calledV ((P.funs.getD N _)) r = _
      rw [List.getD_eq_getElem?_getD, hfk]; rfl)
    have HCl := fun wx (x : Ext w1 wx) => hid (conscalled_any f r (.slice afp f.params.length cfp) (.slice aa r.args.length ca) wx n0 (hIp.old (x.old _)) (HA1.out.old (x.old _)) (by omega))
    rw [← hq] at HCl
    unfold RV.val at HCl
    have f0 : ∀ wx, Keep (fun _ => False) w1 wx → wx.cell? (yf.add (N * 3)) = some (.string f.name) := fun wx kk => kk.ext.cellx e0
    have f1' : ∀ wx, Keep (fun _ => False) w1 wx → wx.cell? ⟨(yf.add (N * 3)).block, (yf.add (N * 3)).off + 1, none⟩ = some (.slice afp f.params.length cfp) := fun wx kk => kk.ext.cellx e1
    have f2 : ∀ wx, Keep (fun _ => False) w1 wx → wx.cell? ⟨(yf.add (N * 3)).block, (yf.add (N * 3)).off + 2, none⟩ = some (.int .i64 f.ret) := fun wx kk => kk.ext.cellx e2
    have b1 := HBp1.out.kc (X := fun _ => False) (fun e => e) 1 rfl
    have m0 := HBx1.out.kc (X := fun _ => False) (fun e => e) 0 rfl
    have m1' := HBx1.out.kc (X := fun _ => False) (fun e => e) 1 rfl
    have m2' := HBx1.out.kc (X := fun _ => False) (fun e => e) 2 rfl
    have m3 := HBx1.out.kc (X := fun _ => False) (fun e => e) 3 rfl
    have m4 := HBx1.out.kc (X := fun _ => False) (fun e => e) 4 rfl
    simp only [pcells, qA0, qA1, qA2] at b1 m0 m1' m2' m3 m4
    clear hfk e0 e1 e2 hIp hfm hq
    go_wp2
    refine wp_flow (fun _ => False) (by kernel_rfl) (by kernel_rfl) ?_
    apply Flow.d 0 _ rfl (by simp) (by kernel_rfl)
    · intro w1 hk; unfold does; go_simp; (try go_ints); exact DetR.mk
    simp only [qA0, qA1, qA2, Act.put, qS0, qS1, qS2]
    apply Flow.d 1 _ rfl (by simp) (by kernel_rfl)
    · intro w1 hk; unfold does; go_simp; (try go_ints); exact DetR.mk
    simp only [qA0, qA1, qA2, Act.put, qS0, qS1, qS2]
    apply Flow.d 2 _ rfl (by simp) (by kernel_rfl)
    · intro w1 hk; unfold does; go_simp; (try go_ints); exact DetR.mk
    simp only [qA0, qA1, qA2, Act.put, qS0, qS1, qS2]
    apply Flow.d 3 _ rfl (by simp) (by kernel_rfl)
    · intro w1 hk; unfold does; go_simp; (try go_ints); exact DetR.mk
    simp only [qA0, qA1, qA2, Act.put, qS0, qS1, qS2]
    apply Flow.d 4 _ rfl (by simp) (by kernel_rfl)
    · intro w1 hk; unfold does; go_simp; (try go_ints); exact DetR.mk
    simp only [qA0, qA1, qA2, Act.put, qS0, qS1, qS2]
    apply Flow.d 5 _ rfl (by simp) (by kernel_rfl)
    · intro w1 hk; unfold does; go_simp; (try go_ints); exact DetR.mk
    simp only [qA0, qA1, qA2, Act.put, qS0, qS1, qS2]
    apply Flow.d 6 _ rfl (by simp) (by kernel_rfl)
    · intro w1 hk; unfold does; go_simp; (try go_ints); exact DetR.mk
    simp only [qA0, qA1, qA2, Act.put, qS0, qS1, qS2]
    apply Flow.d 7 _ rfl (by simp) (by kernel_rfl)
    · intro w1 hk; unfold does; go_simp; (try go_ints); exact DetR.mk
    simp only [qA0, qA1, qA2, Act.put, qS0, qS1, qS2]
    apply Flow.d 8 _ rfl (by simp) (by kernel_rfl)
    · intro w1 hk; unfold does; go_simp; (try go_ints); exact DetR.mk
    simp only [qA0, qA1, qA2, Act.put, qS0, qS1, qS2]
    apply Flow.d 10 _ rfl (by simp) (by kernel_rfl)
    · intro w1 hk; unfold does; go_simp; (try go_ints); exact DetR.mk
    simp only [qA0, qA1, qA2, Act.put, qS0, qS1, qS2]
    apply Flow.d 11 _ rfl (by simp) (by kernel_rfl)
    · intro w1 hk; unfold does; go_simp; (try go_ints); exact DetR.mk
    simp only [qA0, qA1, qA2, Act.put, qS0, qS1, qS2]
    apply Flow.d 12 _ rfl (by simp) (by kernel_rfl)
    · intro w1 hk; unfold does; go_simp; (try go_ints); exact DetR.mk
    simp only [qA0, qA1, qA2, Act.put, qS0, qS1, qS2]
    refine Flow.one 9 _ rfl (by kernel_rfl) (fun v w' => (∃ a c, v = .slice a q.length c) ∧ ERow w.heap.size w' v q ∧ Ext w1 w') (fun _ _ _ ⟨h1, h2, h3⟩ y => ⟨h1, h2.ext y, h3.trans y⟩) (fun w2 hC hk2 => ?_) ?_
    · unfold does
      go_simp
      refine CallR.act ((HCl w2 hC).out.mono ?_)
      rintro e w3 ⟨v, rfl, hr, hx⟩
      exact ⟨v, rfl, hk2.trans (hx.keep _), row_form hr, hr.low (HX.out.trans (Hx1.out.trans hC)).size, hC.trans hx⟩
    rintro _ ⟨_, ⟨a8, c8, rfl⟩, _, _⟩
    simp only [qA0, qA1, qA2, Act.put, qS0, qS1, qS2]
    refine Flow.one 13 _ rfl (by kernel_rfl) (fun v w' => v = .bool (decide (e ∈ q)) ∧ Ext w1 w') (fun _ _ _ ⟨h1, h3⟩ y => ⟨h1, h3.trans y⟩) (fun w2 hC hk2 => ?_) ?_
    · obtain ⟨_, h5, h6⟩ := hC
      have HE := econtainse_any (.slice a8 q.length c8) q e w2 w.heap.size h5
      unfold does
      go_simp
      refine CallR.act (HE.mono ?_)
      rintro _ w3 ⟨rfl, hx⟩
      exact ⟨_, rfl, hk2.trans (hx.keep _), rfl, h6.trans hx⟩
    rintro _ ⟨_, rfl, _⟩
    simp only [qA0, qA1, qA2, Act.put, qS0, qS1, qS2]
    apply Flow.d 14 _ rfl (by simp) (by kernel_rfl)
    · intro w1 hk; unfold does; go_simp; (try go_ints); exact DetR.mk
    simp only [qA0, qA1, qA2, Act.put, qS0, qS1, qS2]
    apply Flow.d 15 _ rfl (by simp) (by kernel_rfl)
    · intro w1 hk; unfold does; go_simp; (try go_ints); exact DetR.mk
    simp only [qA0, qA1, qA2, Act.put, qS0, qS1, qS2]
    refine Flow.fin (by kernel_rfl) fun w4 hC4 hk4 => ?_
    obtain ⟨_, h6⟩ := hC4
    have Hx4 := hid (HX.out.trans (Hx1.out.trans h6))
    clear h6 hk4 HCl f0 f1' f2 b1 m0 m1' m2' m3 m4
    go_wp2
    go_ret
    exact ⟨by rw [Hq.out]; rfl, Hx4.out⟩
  · have Hno : Hid (P.callsOf r o = []) := hid (by
      unfold PP.callsOf
      rw [if_neg (by rw [← HFe.out]; exact hF0)])
    have hF1 : Fn < 0 := by omega
    clear HFe
    go_wp2
    refine wp_flowT (fun _ => False) (by kernel_rfl) (by kernel_rfl) ?_
    repeat (apply FlowT.d; (intro w1 hk; unfold does; go_simp; (try go_ints); (first | exact DetR.mk | (simp only [↓IntWalk.iteOmega, Oper.doesUpon_value]; exact DetR.mk) | (simp only [↓IntWalk.iteOmega]; go_simp; (try go_ints); exact DetR.mk))); simp only [Act.put, qS0, qS1, qS2])
    refine FlowT.fin fun w4 hx4 hk4 => ?_
    have Hx4 := hid (HX.out.trans (Hx1.out.trans hx4))
    clear hx4 hk4
    go_wp2
    go_ret
    exact ⟨by rw [Hno.out]; rfl, Hx4.out⟩
def folB (P : PP) (r : RV) (s x y : ST) : Bool :=
  bif r.kind.toList == [98, 97, 115, 101] then (s.node == r.a) && (s.obj == r.b) else
  bif !(x.obj == s.obj) then false else
  bif r.kind.toList == [99, 111, 112, 121] then (x.node == r.a) && (s.node == r.b) else
  bif r.kind.toList == [108, 111, 97, 100] then (y.node == r.a) && (y.obj == x.node) && (s.node == r.b) else
  bif r.kind.toList == [115, 116, 111, 114, 101] then (y.node == r.b) && (y.obj == s.node) && decide (s.node < P.nodesV) && (x.node == r.a) else
  (y.node == r.a) && decide ((x.node, s.node) ∈ P.callsOf r y.obj)
def st0 : ST := ⟨0, 0, 0, 0, 0⟩
def shapeV (r : RV) (s : ST) : Bool := ((needsV r.kind.toList).1 == decide (0 ≤ s.frm)) && ((needsV r.kind.toList).2 == decide (0 ≤ s.via))
def stepE (P : PP) (L : List ST) (i : Nat) (s : ST) : Nat :=
  bif !boundV P s i then 2 else
  bif !shapeV (P.ruleV s.stmt.toNat (P.stAt s.stmt.toNat)) s then 3 else
  bif !folB P (P.ruleV s.stmt.toNat (P.stAt s.stmt.toNat)) s (L.getD s.frm.toNat st0) (L.getD s.via.toNat st0) then 6 else 0
theorem stepE_zero {P : PP} {L : List ST} {i : Nat} {s : ST} : stepE P L i s = 0 ↔ boundV P s i = true ∧ shapeV (P.ruleV s.stmt.toNat (P.stAt s.stmt.toNat)) s = true ∧ folB P (P.ruleV s.stmt.toNat (P.stAt s.stmt.toNat)) s (L.getD s.frm.toNat st0) (L.getD s.via.toNat st0) = true := by
  unfold stepE
  cases boundV P s i with
  | false => exact ⟨fun h => (by cases h), fun h => (by cases h.1)⟩
  | true =>
  cases shapeV (P.ruleV s.stmt.toNat (P.stAt s.stmt.toNat)) s with
  | false => exact ⟨fun h => (by cases h), fun h => (by cases h.2.1)⟩
  | true =>
  cases folB P (P.ruleV s.stmt.toNat (P.stAt s.stmt.toNat)) s (L.getD s.frm.toNat st0) (L.getD s.via.toNat st0) with
  | false => exact ⟨fun h => (by cases h), fun h => (by cases h.2.2)⟩
  | true => exact ⟨fun _ => ⟨rfl, rfl, rfl⟩, fun _ => rfl⟩
theorem boundV_iff {P : PP} {s : ST} {i : Nat} : boundV P s i = true ↔ (0 ≤ s.stmt ∧ s.stmt < P.stmts.length) ∧ (-1 ≤ s.frm ∧ s.frm < i) ∧ (-1 ≤ s.via ∧ s.via < i) := by
  unfold boundV
  simp only [Bool.and_eq_true, decide_eq_true_eq]
  exact ⟨fun h => ⟨h.1.1, h.1.2, h.2⟩, fun h => ⟨⟨h.1, h.2.1⟩, h.2.2⟩⟩
def SoS (P : PP) (S : List (List Int)) (s : ST) : Prop := (0 ≤ s.node ∧ s.node < P.nodesV) ∧ s.obj ∈ S.getD s.node.toNat []
theorem beq_int' {a b : Int} (h : (a == b) = true) : a = b := eq_of_beq h
theorem getD_at {L : List ST} {f : Nat} (h : f < L.length) : L[f]? = some (L.getD f st0) := by
  rw [List.getD_eq_getElem?_getD, List.getElem?_eq_getElem h]; rfl
theorem stepE_fol {P : PP} {S : List (List Int)} {L : List ST} {i : Nat} {s : ST} (hg : P.GoodS S) (hc : ClosedP P S) (hs : L[i]? = some s) (hprev : ∀ (j : Nat) t, j < i → L[j]? = some t → SoS P S t) (h : stepE P L i s = 0) : FolS P L s i ∧ SoS P S s := by
  obtain ⟨h1, h2, h3⟩ := stepE_zero.1 h
  obtain ⟨⟨b1, b2⟩, ⟨b3, b4⟩, b5, b6⟩ := boundV_iff.1 h1
  have hil := (List.getElem?_eq_some_iff.1 hs).1
  obtain ⟨k, hk⟩ := Int.eq_ofNat_of_zero_le b1
  rw [hk, Int.toNat_natCast] at h2 h3
  have hkl : k < P.stmts.length := by omega
  have hrv : P.ruleV k (P.stAt k) ∈ P.rulesV := List.mem_map.2 ⟨k, List.mem_range.2 hkl, rfl⟩
  have hbb := eq_of_beq bBase_list
  unfold shapeV needsV at h2
  unfold folB at h3
  rw [Bool.and_eq_true] at h2
  obtain ⟨h2a, h2b⟩ := h2
  have h2a := eq_of_beq h2a
  have h2b := eq_of_beq h2b
  rcases rule_kinds hg.1 hrv with g | g | g
  · rw [hbb] at g
    rw [g] at h2a h2b h3
    simp only [beq_self_eq_true, cond_true, Bool.not_true, Bool.and_eq_true] at h2a h3
    obtain ⟨h3a, h3b⟩ := h3
    have h3a := beq_int' h3a
    have h3b := beq_int' h3b
    have n1 := of_decide_eq_false h2a.symm
    have n2 := of_decide_eq_false (h2b.symm.trans (by decide))
    have ha := rule_a_in hg.1 hkl
    have hnv := nodes_vars P
    refine ⟨⟨k, hk, hkl, .inl ⟨by rw [hbb]; exact g, by unfold ST.fact; rw [h3a, h3b], by omega, by omega⟩⟩, ⟨by omega, by omega⟩, ?_⟩
    rw [h3a, h3b]
    exact hc.base k hkl (by rw [hbb]; exact g)
  · have q1 : ((P.ruleV k (P.stAt k)).kind.toList == [98, 97, 115, 101]) = false := by rw [g]; decide
    have q2 : ((P.ruleV k (P.stAt k)).kind.toList == [99, 111, 112, 121]) = true := by rw [g]; decide
    rw [q1] at h2a h3
    rw [g] at h2b
    rw [q2] at h3
    have n1 := of_decide_eq_true h2a.symm
    have n2 := of_decide_eq_false (h2b.symm.trans (by decide))
    obtain ⟨f, hf⟩ := Int.eq_ofNat_of_zero_le n1
    rw [hf, Int.toNat_natCast] at h3
    have hfi : f < i := by omega
    have hx := getD_at (L := L) (f := f) (by omega)
    generalize L.getD f st0 = x at *
    cases hxo : (x.obj == s.obj) with
    | false => rw [hxo] at h3; simp at h3
    | true =>
      rw [hxo] at h3
      simp only [Bool.not_true, cond_false, cond_true, Bool.and_eq_true] at h3
      obtain ⟨h3a, h3b⟩ := h3
      have h3a := beq_int' h3a
      have h3b := beq_int' h3b
      have hxo := beq_int' hxo
      have hse : SndE P S ((P.ruleV k (P.stAt k)).a, (P.ruleV k (P.stAt k)).b) := sndE_of hg hc hrv (by unfold PP.redges; rw [show ((P.ruleV k (P.stAt k)).kind.toList == kCopy) = true from q2, cond_true]; exact List.mem_singleton.2 rfl)
      have hxs := hprev f x hfi hx
      refine ⟨⟨k, hk, hkl, .inr (.inl ⟨g, by omega, f, x, hf, hfi, hx, by unfold ST.fact; rw [h3a, hxo], h3b⟩)⟩, ?_, ?_⟩
      · rw [h3b]; exact hse.2.1
      · rw [h3b]
        refine hse.2.2 _ ?_
        rw [← hxo]
        have := hxs.2
        rw [h3a] at this
        exact this
  · have hg1 := g
    obtain ⟨k1, k2⟩ := fired_kinds g
    rw [hbb] at k1
    have q1 : ((P.ruleV k (P.stAt k)).kind.toList == [98, 97, 115, 101]) = false := by
      cases e : ((P.ruleV k (P.stAt k)).kind.toList == [98, 97, 115, 101]) with
      | false => rfl
      | true => exact absurd (eq_of_beq e) k1
    have q2 : ((P.ruleV k (P.stAt k)).kind.toList == [99, 111, 112, 121]) = false := by
      cases e : ((P.ruleV k (P.stAt k)).kind.toList == [99, 111, 112, 121]) with
      | false => rfl
      | true => exact absurd (eq_of_beq e) k2
    unfold RV.fired at g
    rw [q1] at h2a h3
    rw [q2] at h3
    have n1 := of_decide_eq_true h2a.symm
    have n2 := of_decide_eq_true (h2b.symm.trans g)
    obtain ⟨f, hf⟩ := Int.eq_ofNat_of_zero_le n1
    obtain ⟨v, hv⟩ := Int.eq_ofNat_of_zero_le n2
    rw [hf, hv, Int.toNat_natCast, Int.toNat_natCast] at h3
    have hfi : f < i := by omega
    have hvi : v < i := by omega
    have hx := getD_at (L := L) (f := f) (by omega)
    have hy := getD_at (L := L) (f := v) (by omega)
    generalize L.getD f st0 = x at *
    generalize L.getD v st0 = y at *
    have hxs := hprev f x hfi hx
    have hys := hprev v y hvi hy
    cases hxo : (x.obj == s.obj) with
    | false => rw [hxo] at h3; simp at h3
    | true =>
      rw [hxo] at h3
      simp only [Bool.not_true, cond_false] at h3
      have hxo := beq_int' hxo
      have key : y.node = (P.ruleV k (P.stAt k)).pivot → (x.node, s.node) ∈ P.fires (P.ruleV k (P.stAt k)) y.obj → FolS P L s i ∧ SoS P S s := fun p1 p2 => by
        have hpo := hys.2
        rw [p1] at hpo
        have hse := sndE_of hg hc hrv (fires_in hg1 hpo p2)
        refine ⟨⟨k, hk, hkl, .inr (.inr ⟨hg1, f, x, v, y, hf, hfi, hx, hxo, hv, hvi, hy, p1, p2⟩)⟩, hse.2.1, hse.2.2 _ ?_⟩
        rw [← hxo]; exact hxs.2
      cases hl : ((P.ruleV k (P.stAt k)).kind.toList == kLoad) with
      | true =>
        have hle := eq_of_beq hl
        rw [show ((P.ruleV k (P.stAt k)).kind.toList == [108, 111, 97, 100]) = true from hl, cond_true, Bool.and_eq_true, Bool.and_eq_true] at h3
        obtain ⟨⟨r1, r2⟩, r3⟩ := h3
        have r1 := beq_int' r1
        have r2 := beq_int' r2
        have r3 := beq_int' r3
        refine key ?_ ?_
        · unfold RV.pivot
          rw [show ((P.ruleV k (P.stAt k)).kind.toList == kStore) = false by rw [hle]; decide, cond_false]
          exact r1
        · unfold PP.fires
          rw [show ((P.ruleV k (P.stAt k)).kind.toList == kCall) = false by rw [hle]; decide, cond_false, if_neg (by rw [r2]; have := hxs.1; omega), hl, cond_true, r2, r3]
          exact List.mem_singleton.2 rfl
      | false =>
        rw [show ((P.ruleV k (P.stAt k)).kind.toList == [108, 111, 97, 100]) = false from hl, cond_false] at h3
        cases hst : ((P.ruleV k (P.stAt k)).kind.toList == kStore) with
        | true =>
          have hse := eq_of_beq hst
          rw [show ((P.ruleV k (P.stAt k)).kind.toList == [115, 116, 111, 114, 101]) = true from hst, cond_true, Bool.and_eq_true, Bool.and_eq_true, Bool.and_eq_true] at h3
          obtain ⟨⟨⟨r1, r2⟩, r3⟩, r4⟩ := h3
          have r1 := beq_int' r1
          have r2 := beq_int' r2
          have r3 := of_decide_eq_true r3
          have r4 := beq_int' r4
          refine key ?_ ?_
          · unfold RV.pivot
            rw [hst, cond_true]
            exact r1
          · unfold PP.fires
            rw [show ((P.ruleV k (P.stAt k)).kind.toList == kCall) = false by rw [hse]; decide, cond_false, if_neg (by rw [r2]; omega), hl, cond_false, r2, r4]
            exact List.mem_singleton.2 rfl
        | false =>
          rw [show ((P.ruleV k (P.stAt k)).kind.toList == [115, 116, 111, 114, 101]) = false from hst, cond_false, Bool.and_eq_true] at h3
          obtain ⟨r1, r2⟩ := h3
          have r1 := beq_int' r1
          have r2 := of_decide_eq_true r2
          have hca : ((P.ruleV k (P.stAt k)).kind.toList == kCall) = true := by rw [hl, hst] at g; exact g
          refine key ?_ ?_
          · unfold RV.pivot
            rw [hst, cond_false]
            exact r1
          · unfold PP.fires
            rw [hca, cond_true]
            exact r2
def StepsOk (P : PP) (L : List ST) (n : Nat) : Prop := ∀ (j : Nat) t, j < n → L[j]? = some t → stepE P L j t = 0
theorem StepsOk.succ {P : PP} {L : List ST} {n : Nat} {s : ST} (h : StepsOk P L n) (hs : L[n]? = some s) (h0 : stepE P L n s = 0) : StepsOk P L (n + 1) := fun j t hj ht => by
  rcases Nat.lt_or_ge j n with g | g
  · exact h j t g ht
  · obtain rfl : j = n := by omega
    obtain rfl := Option.some.inj (hs.symm.trans ht)
    exact h0
theorem StepsOk.snd {P : PP} {S : List (List Int)} {L : List ST} (hg : P.GoodS S) (hc : ClosedP P S) : ∀ {n : Nat}, StepsOk P L n → ∀ (j : Nat) t, j < n → L[j]? = some t → FolS P L t j ∧ SoS P S t
  | 0, _, _, _, h, _ => absurd h (Nat.not_lt_zero _)
  | n + 1, h, j, t, hj, ht => by
    have ih := StepsOk.snd hg hc (n := n) (fun a b ha hb => h a b (by omega) hb)
    rcases Nat.lt_or_ge j n with g | g
    · exact ih j t g ht
    · obtain rfl : j = n := by omega
      exact stepE_fol hg hc ht (fun a b ha hb => (ih a b ha hb).2) (h j t hj ht)
theorem fol_stepE {P : PP} {L : List ST} {i : Nat} {s : ST} (hw : P.Well) (hs : L[i]? = some s) (hn : s.node < P.nodesV) (h : FolS P L s i) : stepE P L i s = 0 := by
  obtain ⟨k, hk, hkl, hc⟩ := h
  have hil := (List.getElem?_eq_some_iff.1 hs).1
  have hbb := eq_of_beq bBase_list
  have hgd : ∀ {f : Nat} {x : ST}, L[f]? = some x → L.getD f st0 = x := fun h => by rw [List.getD_eq_getElem?_getD, h]; rfl
  refine stepE_zero.2 ?_
  rw [boundV_iff, hk, Int.toNat_natCast]
  unfold shapeV needsV folB
  rcases hc with ⟨g1, g2, g3, g4⟩ | ⟨g1, g2, f, x, g3, g4, g5, g6, g7⟩ | ⟨g1, f, x, v, z, g2, g3, g4, g5, g6, g7, g8, g9, g10⟩
  · obtain ⟨q1, q2⟩ := Prod.mk.inj g2
    rw [hbb] at g1
    rw [g1, g3, g4, q1, q2]
    refine ⟨⟨⟨by omega, by omega⟩, ⟨by omega, by omega⟩, by omega, by omega⟩, by decide, ?_⟩
    simp
  · obtain ⟨q1, q2⟩ := Prod.mk.inj g6
    rw [g1, g2, g3, Int.toNat_natCast, hgd g5, q1, q2, g7]
    refine ⟨⟨⟨by omega, by omega⟩, ⟨by omega, by omega⟩, by omega, by omega⟩, ?_, ?_⟩
    · rw [decide_eq_true (by omega : (0 : Int) ≤ (f : Int))]; decide
    · simp [kCopy]
  · obtain ⟨k1, k2⟩ := fired_kinds g1
    rw [hbb] at k1
    rw [g2, g6, Int.toNat_natCast, Int.toNat_natCast, hgd g4, hgd g8]
    have q1 : ((P.ruleV k (P.stAt k)).kind.toList == [98, 97, 115, 101]) = false := by
      cases e : ((P.ruleV k (P.stAt k)).kind.toList == [98, 97, 115, 101]) with
      | false => rfl
      | true => exact absurd (eq_of_beq e) k1
    have q2 : ((P.ruleV k (P.stAt k)).kind.toList == [99, 111, 112, 121]) = false := by
      cases e : ((P.ruleV k (P.stAt k)).kind.toList == [99, 111, 112, 121]) with
      | false => rfl
      | true => exact absurd (eq_of_beq e) k2
    have g1' := g1
    unfold RV.fired at g1'
    refine ⟨⟨⟨by omega, by omega⟩, ⟨by omega, by omega⟩, by omega, by omega⟩, ?_, ?_⟩
    · rw [q1, show (((P.ruleV k (P.stAt k)).kind.toList == [108, 111, 97, 100]) || ((P.ruleV k (P.stAt k)).kind.toList == [115, 116, 111, 114, 101]) || ((P.ruleV k (P.stAt k)).kind.toList == [99, 97, 108, 108])) = true from g1', decide_eq_true (by omega : (0 : Int) ≤ (f : Int)), decide_eq_true (by omega : (0 : Int) ≤ (v : Int))]; rfl
    · rw [q1, q2, g5, beq_self_eq_true, Bool.not_true, cond_false, cond_false, cond_false]
      unfold PP.fires at g10
      unfold RV.pivot at g9
      cases hl : ((P.ruleV k (P.stAt k)).kind.toList == kLoad) with
      | true =>
        have hle := eq_of_beq hl
        rw [show ((P.ruleV k (P.stAt k)).kind.toList == kStore) = false by rw [hle]; decide, cond_false] at g9
        rw [show ((P.ruleV k (P.stAt k)).kind.toList == [108, 111, 97, 100]) = true from hl, cond_true]
        rw [show ((P.ruleV k (P.stAt k)).kind.toList == kCall) = false by rw [hle]; decide, cond_false] at g10
        by_cases ho : (P.nodesV : Int) ≤ z.obj
        · rw [if_pos ho] at g10; cases g10
        · rw [if_neg ho, hl, cond_true] at g10
          obtain ⟨p1, p2⟩ := Prod.mk.inj (List.mem_singleton.1 g10)
          rw [g9, p1, p2]
          simp
      | false =>
        rw [show ((P.ruleV k (P.stAt k)).kind.toList == [108, 111, 97, 100]) = false from hl, cond_false]
        cases hst : ((P.ruleV k (P.stAt k)).kind.toList == kStore) with
        | true =>
          have hse := eq_of_beq hst
          rw [hst, cond_true] at g9
          rw [show ((P.ruleV k (P.stAt k)).kind.toList == [115, 116, 111, 114, 101]) = true from hst, cond_true]
          rw [show ((P.ruleV k (P.stAt k)).kind.toList == kCall) = false by rw [hse]; decide, cond_false] at g10
          by_cases ho : (P.nodesV : Int) ≤ z.obj
          · rw [if_pos ho] at g10; cases g10
          · rw [if_neg ho, hl, cond_false] at g10
            obtain ⟨p1, p2⟩ := Prod.mk.inj (List.mem_singleton.1 g10)
            rw [g9, p1, p2, decide_eq_true (by omega)]
            simp
        | false =>
          rw [show ((P.ruleV k (P.stAt k)).kind.toList == [115, 116, 111, 114, 101]) = false from hst, cond_false]
          rw [hst, cond_false] at g9
          have hca : ((P.ruleV k (P.stAt k)).kind.toList == kCall) = true := by rw [hl, hst] at g1'; exact g1'
          rw [hca, cond_true] at g10
          rw [g9, decide_eq_true g10]
          simp
def ProofIs (P : PP) (L : List ST) (c : Nat) (p : Int) : Prop :=
  (2000 < L.length ∧ c = 8 ∧ p = -1) ∨ (L.length ≤ 2000 ∧ StepsOk P L L.length ∧ c = 0 ∧ p = -1) ∨
  (L.length ≤ 2000 ∧ ∃ (i : Nat) (s : ST), L[i]? = some s ∧ StepsOk P L i ∧ stepE P L i s ≠ 0 ∧ c = stepE P L i s ∧ p = (i : Int))
theorem ProofIs.uniq {P : PP} {L : List ST} {c d : Nat} {p q : Int} (h : ProofIs P L c p) (g : ProofIs P L d q) : c = d ∧ p = q := by
  rcases h with ⟨h1, h2, h3⟩ | ⟨h1, h2, h3, h4⟩ | ⟨h1, i, s, h2, h3, h4, h5, h6⟩ <;> rcases g with ⟨g1, g2, g3⟩ | ⟨g1, g2, g3, g4⟩ | ⟨g1, j, t, g2, g3, g4, g5, g6⟩
  · exact ⟨h2.trans g2.symm, h3.trans g3.symm⟩
  · omega
  · omega
  · omega
  · exact ⟨h3.trans g3.symm, h4.trans g4.symm⟩
  · exact absurd (h2 j t (List.getElem?_eq_some_iff.1 g2).1 g2) g4
  · omega
  · exact absurd (g2 i s (List.getElem?_eq_some_iff.1 h2).1 h2) h4
  · have hij : i = j := by
      rcases Nat.lt_trichotomy i j with k | k | k
      · exact absurd (g3 i s k h2) h4
      · exact k
      · exact absurd (h3 j t k g2) g4
    subst hij
    obtain rfl := Option.some.inj (h2.symm.trans g2)
    exact ⟨h5.trans g5.symm, h6.trans g6.symm⟩
def ProofErr (ad : Nat → Addr) (P : PP) (L : List ST) (w : World) (v : Value) : Prop :=
  (2000 < L.length ∧ v = evOf ad 8) ∨ (L.length ≤ 2000 ∧ StepsOk P L L.length ∧ v = .nilIface) ∨
  (L.length ≤ 2000 ∧ ∃ (i : Nat) (s : ST) (b : Nat), L[i]? = some s ∧ StepsOk P L i ∧ stepE P L i s ≠ 0 ∧ v = .iface 126 (.pointer (some ⟨b, 0, none⟩)) ∧ Blk w b #[.int .i64 (i : Int), evOf ad (stepE P L i s)] 128)
theorem needs_kind {P : PP} (hw : P.Well) {k : Nat} (hk : k < P.stmts.length) : needsV (P.ruleV k (P.stAt k)).kind.toList = (!((P.stAt k).isK kAddr || (P.stAt k).isK kNew || (P.stAt k).isK kFun), (P.stAt k).isK kLoad || (P.stAt k).isK kStore || (P.stAt k).isK kCall) := by
  have hbb := eq_of_beq bBase_list
  have hcl := eq_of_beq bCall_list
  have hks : ∀ (ks : List UInt8), (P.stAt k).kind.toList = ks → ((P.stAt k).isK kAddr = (ks == kAddr)) ∧ ((P.stAt k).isK kNew = (ks == kNew)) ∧ ((P.stAt k).isK kFun = (ks == kFun)) ∧ ((P.stAt k).isK kLoad = (ks == kLoad)) ∧ ((P.stAt k).isK kStore = (ks == kStore)) ∧ ((P.stAt k).isK kCall = (ks == kCall)) := fun ks e => by
    unfold PS.isK
    rw [e]
    exact ⟨rfl, rfl, rfl, rfl, rfl, rfl⟩
  have hkd := kind_cases (hw.2 k (P.stAt k) hk (stAt_some hk))
  unfold needsV PP.ruleV
  have go : ∀ ks, (P.stAt k).kind.toList = ks → needsV (bif ks == kAddr then bBase.toList else bif ks == kNew then bBase.toList else bif ks == kFun then bBase.toList else bif ks == kCall then bCall.toList else ks) = (!((ks == kAddr) || (ks == kNew) || (ks == kFun)), (ks == kLoad) || (ks == kStore) || (ks == kCall)) → needsV (P.ruleV k (P.stAt k)).kind.toList = (!((P.stAt k).isK kAddr || (P.stAt k).isK kNew || (P.stAt k).isK kFun), (P.stAt k).isK kLoad || (P.stAt k).isK kStore || (P.stAt k).isK kCall) := fun ks e h => by
    obtain ⟨q1, q2, q3, q4, q5, q6⟩ := hks ks e
    unfold PP.ruleV
    rw [q1, q2, q3, q4, q5, q6, ← h]
    cases ks == kAddr with
    | true => rfl
    | false =>
    cases ks == kNew with
    | true => rfl
    | false =>
    cases ks == kFun with
    | true => rfl
    | false =>
    cases ks == kCall with
    | true => rfl
    | false => exact congrArg needsV e
  show needsV (P.ruleV k (P.stAt k)).kind.toList = _
  rcases hkd with h | h | h | h | h | h | h
  · exact go kAddr (eq_of_beq h) (by rw [hbb, hcl]; decide)
  · exact go kCopy (eq_of_beq h) (by rw [hbb, hcl]; decide)
  · exact go kLoad (eq_of_beq h) (by rw [hbb, hcl]; decide)
  · exact go kStore (eq_of_beq h) (by rw [hbb, hcl]; decide)
  · exact go kNew (eq_of_beq h) (by rw [hbb, hcl]; decide)
  · exact go kFun (eq_of_beq h) (by rw [hbb, hcl]; decide)
  · exact go kCall (eq_of_beq h) (by rw [hbb, hcl]; decide)
theorem setok_few {l : List Int} (h : chkE l = 0) (i : Nat) : l.getD i 0 ≤ 9223372036854775807 := by
  rw [List.getD_eq_getElem?_getD]
  cases hx : l[i]? with
  | none => exact (by decide : (0 : Int) ≤ 9223372036854775807)
  | some x =>
    have := (chkE_zero.1 h).1 x (List.mem_of_getElem? hx)
    show x ≤ _
    omega
set_option maxRecDepth 100000 in
set_option maxHeartbeats 1600000 in
theorem samesets_any (va vb : Value) (A B : List (List Int)) (w : World) (n0 : Nat) (ha : SetsR w n0 va A) (hb : SetsR w n0 vb B) (ka : ∀ l ∈ A, chkE l = 0) (kb : ∀ l ∈ B, chkE l = 0) :
    Calls Tryz.prog 47 #[va, vb] w fun e w' => e = .returned (.bool (decide (A = B))) ∧ Ext w w' := by
  have hal := ha.len
  have hbl := hb.len
  have HA := hid ha
  have HB := hid hb
  have HKa := hid ka
  have HKb := hid kb
  obtain ⟨aa, ca, rfl⟩ := ha.form
  obtain ⟨ab, cb, rfl⟩ := hb.form
  clear ha hb ka kb
  by_cases hl : A.length = B.length
  · have Hl := hid hl
    have e0 : ((A.length : Int) != (B.length : Int)) = false := by rw [hl]; simp
    clear hl
    go_enter Tryz.func47, Tryz.ntmps47
    go_wp2
    clear e0
    go_loopw [5] (fun t5 wr => ∃ k : Nat, t5 = .int .i64 (k : Int) ∧ k ≤ A.length ∧ (∀ j, j < k → A[j]? = B[j]?) ∧ Ext w wr) (fun t5 _ => A.length - (intOf t5).toNat)
    case atStart => exact ⟨0, rfl, Nat.zero_le _, fun j h => by omega, Ext.refl _⟩
    case round =>
      obtain ⟨k, rfl, hk, hp, hx⟩ := hrel
      have Hp := hid hp
      have Hx := hid hx
      clear hp hx
      by_cases hlt : k < A.length
      · have hlt2 : k < B.length := by rw [← Hl.out]; exact hlt
        obtain ⟨ya, l, bl, cl, hya, hpk, hcp, hI⟩ := (HA.out.ext Hx.out).at hlt
        subst hya
        obtain ⟨yb, m, bm, cm, hyb, hqk, hcq, hI'⟩ := (HB.out.ext Hx.out).at hlt2
        subst hyb
        have hll := hI.len
        have hml := hI'.len
        have HC := fun w1 (x : Ext wr w1) => hid (sameints_any bl bm l.length m.length cl cm l m w1 (IntsR.ints (hI.old (x.old _)) (setok_few (HKa.out l (List.mem_of_getElem? hpk)))) (IntsR.ints (hI'.old (x.old _)) (setok_few (HKb.out m (List.mem_of_getElem? hqk)))) hll hml)
        have c0 : ∀ w1, Keep (fun _ => False) wr w1 → w1.cell? (ya.add k) = some (.slice bl l.length cl) := fun w1 k => k.ext.cellx hcp
        have c1 : ∀ w1, Keep (fun _ => False) wr w1 → w1.cell? (yb.add k) = some (.slice bm m.length cm) := fun w1 k => k.ext.cellx hcq
        obtain ⟨d, hd⟩ : ∃ d, d = decide (l = m) := ⟨_, rfl⟩
        rw [← hd] at HC
        have Hd := hid hd
        have Hpk := hid hpk
        have Hqk := hid hqk
        clear hpk hqk hI hI' hd hcp hcq
        go_wp2
        refine wp_flowT (fun _ => False) (by kernel_rfl) (by kernel_rfl) ?_
        repeat (apply FlowT.d; (intro w1 hk; unfold does; go_simp; (try go_ints); (first | exact DetR.mk | (simp only [↓IntWalk.iteOmega, Oper.doesUpon_value]; exact DetR.mk) | (simp only [↓IntWalk.iteOmega]; go_simp; (try go_ints); exact DetR.mk))); simp only [Act.put, qS0, qS1, qS2])
        apply FlowT.d
        · intro w1 hk
          unfold does
          go_simp
          exact CallR.det ((HC w1 hk.ext).out)
        simp only [Act.put, qS0, qS1, qS2]
        repeat (apply FlowT.d; (intro w1 hk; unfold does; go_simp; (try go_ints); (first | exact DetR.mk | (simp only [↓IntWalk.iteOmega, Oper.doesUpon_value]; exact DetR.mk) | (simp only [↓IntWalk.iteOmega]; go_simp; (try go_ints); exact DetR.mk))); simp only [Act.put, qS0, qS1, qS2])
        refine FlowT.fin fun w1 hx1 hk1 => ?_
        have Hx1 := hid (Hx.out.trans hx1)
        clear HC hx1 hk1 c0 c1
        cases d with
        | true =>
          have He : Hid (l = m) := hid (of_decide_eq_true Hd.out.symm)
          go_wp2
          go_roundw
          case rel =>
            refine ⟨k + 1, by go_num, by omega, fun j hj => ?_, Hx1.out⟩
            by_cases hjk : j = k
            · subst hjk; rw [Hpk.out, Hqk.out, He.out]
            · exact Hp.out j (by omega)
          case measure => simp [intOf]; omega
        | false =>
          have Hne : Hid (decide (A = B) = false) := hid (decide_eq_false fun h => (of_decide_eq_false Hd.out.symm) (by
            have h1 := Hpk.out
            rw [h] at h1
            exact Option.some.inj (h1.symm.trans Hqk.out)))
          go_wp2
          go_ret
          exact ⟨by rw [Hne.out]; rfl, Hx1.out⟩
      · have Heq : Hid (decide (A = B) = true) := hid (decide_eq_true (ext_take Hl.out fun j hj => Hp.out j (by omega)))
        obtain rfl : k = A.length := by omega
        go_wp2
        go_ret
        exact ⟨by rw [Heq.out]; rfl, Hx.out⟩
  · have e0 : ((A.length : Int) != (B.length : Int)) = true := bne_iff_ne.2 (fun h => hl (Int.ofNat_inj.1 h))
    have Hne : Hid (decide (A = B) = false) := hid (decide_eq_false fun h => hl (by rw [h]))
    clear hl
    go_enter Tryz.func47, Tryz.ntmps47
    go_wp2
    go_ret
    exact ⟨by rw [Hne.out]; rfl, Ext.refl _⟩
def fixedP : PP := ⟨[⟨#[97]⟩, ⟨#[98]⟩], [], [⟨⟨#[97, 100, 100, 114]⟩, 0, 1, []⟩, ⟨⟨#[99, 111, 112, 121]⟩, 1, 0, []⟩]⟩
theorem fixed_well : fixedP.Well := by
  refine ⟨by decide +kernel, fun j t hj ht => ?_⟩
  have hj2 : j < 2 := hj
  rcases (by omega : j = 0 ∨ j = 1) with rfl | rfl
  · obtain rfl := Option.some.inj ht
    decide +kernel
  · obtain rfl := Option.some.inj ht
    decide +kernel
theorem fixed_least : LeastAt fixedP 2 [[1], [1]] := by
  refine ⟨by decide +kernel, by decide +kernel, fun m hm => ?_⟩
  rcases (by omega : m = 0 ∨ m = 1) with rfl | rfl <;> decide +kernel
theorem fixed_nodes : fixedP.nodesV = 2 := by decide +kernel
def fixedS : Array Value := #[.string ⟨#[97, 100, 100, 114]⟩, .int .i64 0, .int .i64 1, .slice none 0 0, .string ⟨#[99, 111, 112, 121]⟩, .int .i64 1, .int .i64 0, .slice none 0 0]
theorem fixed_prog {w : World} {a b n0 : Nat} (ha : Blk w a #[.string ⟨#[97]⟩, .string ⟨#[98]⟩] 9) (hb : Blk w b fixedS 76) (h1 : a < n0) (h2 : b < n0) : ProgR w n0 (.slice (some ⟨a, 0, none⟩) 2 2) (.slice none 0 0) (.slice (some ⟨b, 0, none⟩) 2 2) fixedP := by
  refine ⟨⟨_, 2, rfl, by decide, by decide, fun _ => ⟨_, rfl⟩, fun y hy _ => ?_⟩, ⟨_, 0, rfl, by decide, by decide, fun h => absurd h (by decide), fun y hy => by cases hy⟩, ⟨_, 2, rfl, by decide, by decide, fun _ => ⟨_, rfl⟩, fun y hy _ => ?_⟩⟩
  · obtain rfl := Option.some.inj hy
    refine ⟨h1, fun i hi s hs => ?_⟩
    have hi2 : i < 2 := hi
    rcases (by omega : i = 0 ∨ i = 1) with rfl | rfl
    · obtain rfl := Option.some.inj hs
      exact ha.av 0 rfl
    · obtain rfl := Option.some.inj hs
      exact ha.av 1 rfl
  · obtain rfl := Option.some.inj hy
    refine ⟨h2, fun i hi s hs => ?_⟩
    have hi2 : i < 2 := hi
    have hn : IntsR w n0 (.slice none 0 0) [] := ⟨none, 0, rfl, by decide, by decide, fun h => absurd h (by decide), fun y hy => by cases hy⟩
    rcases (by omega : i = 0 ∨ i = 1) with rfl | rfl
    · obtain rfl := Option.some.inj hs
      exact ⟨.slice none 0 0, hb.av 0 rfl, hb.av 1 rfl, hb.av 2 rfl, hb.av 3 rfl, hn⟩
    · obtain rfl := Option.some.inj hs
      exact ⟨.slice none 0 0, hb.av 4 rfl, hb.av 5 rfl, hb.av 6 rfl, hb.av 7 rfl, hn⟩
def rectL (A B : Nat) : List (Int × Int) := (List.range A).flatMap fun a : Nat => (List.range B).map fun b : Nat => ((a : Int), (b : Int))
theorem rectL_len (A B : Nat) : (rectL A B).length = A * B := by
  unfold rectL
  rw [List.length_flatMap]
  have : (List.range A).map (fun a : Nat => ((List.range B).map fun b : Nat => ((a : Int), (b : Int))).length) = List.replicate A B := by
    refine List.eq_replicate_iff.2 ⟨by simp, fun b hb => ?_⟩
    obtain ⟨a, _, rfl⟩ := List.mem_map.1 hb
    simp
  rw [this, List.sum_replicate_nat]
theorem mem_rectL {A B : Nat} {e : Int × Int} (h1 : 0 ≤ e.1 ∧ e.1 < A) (h2 : 0 ≤ e.2 ∧ e.2 < B) : e ∈ rectL A B :=
  List.mem_flatMap.2 ⟨e.1.toNat, List.mem_range.2 (by omega), List.mem_map.2 ⟨e.2.toNat, List.mem_range.2 (by omega), by
    rw [Int.toNat_of_nonneg h1.1, Int.toNat_of_nonneg h2.1]⟩⟩
theorem WhyOk.few2 {P : PP} {S : List (List Int)} {l : List ST} (hg : P.GoodS S) (h : WhyOk P S l) : l.length ≤ P.nodesV * P.objectsV := by
  have := nodup_le (facts l) (rectL P.nodesV P.objectsV) h.nd fun x hx => by
    obtain ⟨s, hs, rfl⟩ := List.mem_map.1 hx
    obtain ⟨k1, k2⟩ := h.snd s hs
    exact mem_rectL (A := P.nodesV) (B := P.objectsV) k1 (objs_in hg k1 k2)
  rw [rectL_len] at this
  unfold facts at this
  rw [List.length_map] at this
  exact this
theorem WhyOk.few3 {P : PP} {S : List (List Int)} {l : List ST} (hg : P.GoodS S) (h : WhyOk P S l) (hv : P.vars.length ≤ 15) (hs : P.stmts.length ≤ 20) : l.length ≤ 2000 := by
  have h1 := h.few2 hg
  have h2 := hg.1.few
  have h3 := P.nodesV_le2
  have h4 : P.nodesV ≤ 35 := by omega
  have h5 : P.objectsV ≤ 43 := by unfold PP.objectsV; omega
  have h6 := Nat.mul_le_mul h4 h5
  omega
theorem WhyOk.steps {P : PP} {S : List (List Int)} {l : List ST} (hw : P.Well) (h : WhyOk P S l) : StepsOk P l l.length := fun j t _ ht => fol_stepE hw ht (h.snd t (List.mem_of_getElem? ht)).1.2 (h.fol j t ht)
theorem because_two {m : List ST} {s : ST} (h : WhyOk fixedP [[1], [1]] (m ++ [s])) (hs : s.fact = (1, 1)) : (m ++ [s]).length = 2 := by
  have hn : fixedP.nodesV = 2 := fixed_nodes
  have h1 := nodup_le (facts (m ++ [s])) [(0, 1), (1, 1)] h.nd fun x hx => by
    obtain ⟨t, ht, rfl⟩ := List.mem_map.1 hx
    obtain ⟨⟨k1, k2⟩, k3⟩ := h.snd t ht
    rw [hn] at k2
    unfold ST.fact
    rcases (by omega : t.node = 0 ∨ t.node = 1) with e | e
    · rw [e] at k3 ⊢
      rw [List.mem_singleton.1 (show t.obj ∈ [1] from k3)]
      exact List.mem_cons_self
    · rw [e] at k3 ⊢
      rw [List.mem_singleton.1 (show t.obj ∈ [1] from k3)]
      exact List.mem_cons_of_mem _ List.mem_cons_self
  unfold facts at h1
  rw [List.length_map] at h1
  have h1 : (m ++ [s]).length ≤ 2 := h1
  rcases Nat.lt_or_ge m.length 1 with g | g
  · exfalso
    obtain rfl := List.eq_nil_of_length_eq_zero (show m.length = 0 by omega)
    have hf := h.fol 0 s rfl
    obtain ⟨k, hk, hkl, hc⟩ := hf
    have hk2 : k < 2 := hkl
    rcases hc with ⟨c1, c2, _⟩ | ⟨_, _, f, x, _, c4, _⟩ | ⟨_, f, x, v, y, _, c4, _⟩
    · rw [hs] at c2
      obtain ⟨d1, d2⟩ := Prod.mk.inj c2
      rcases (by omega : k = 0 ∨ k = 1) with rfl | rfl
      · exact absurd d1 (by decide +kernel)
      · exact absurd c1 (by decide +kernel)
    · omega
    · omega
  · rw [List.length_append, List.length_singleton] at h1 ⊢
    omega
def StepsR (w : World) (n0 : Nat) (v : Value) (l : List ST) : Prop := ElR n0 v l.length fun i y => ∀ s, l[i]? = some s → w.cell? (y.add (i * 5)) = some (.int .i64 s.node) ∧ w.cell? ((y.add (i * 5)).add 1) = some (.int .i64 s.obj) ∧ w.cell? ((y.add (i * 5)).add 2) = some (.int .i64 s.stmt) ∧ w.cell? ((y.add (i * 5)).add 3) = some (.int .i64 s.frm) ∧ w.cell? ((y.add (i * 5)).add 4) = some (.int .i64 s.via)
section
variable {w w' : World} {n0 n1 : Nat} {v : Value} {l : List ST}
theorem StepsR.old (h : StepsR w n0 v l) (k : Old n0 w w') : StepsR w' n0 v l :=
  ElR.mono h (Nat.le_refl _) fun i y _ hy hE s hs => by
    obtain ⟨h1, h2, h3, h4, h5⟩ := hE s hs
    exact ⟨k.cellx h1 (by rw [add_block]; exact hy), k.cellx h2 (by rw [add_block, add_block]; exact hy), k.cellx h3 (by rw [add_block, add_block]; exact hy), k.cellx h4 (by rw [add_block, add_block]; exact hy), k.cellx h5 (by rw [add_block, add_block]; exact hy)⟩
theorem StepsR.ext (h : StepsR w n0 v l) (x : Ext w w') : StepsR w' n0 v l := h.old (x.old _)
theorem StepsR.lift (h : StepsR w n0 v l) (hn : n0 ≤ n1) : StepsR w n1 v l := ElR.lift h hn
theorem StepsR.form2 (h : StepsR w n0 v l) : ∃ a c, v = .slice a l.length c := by
  obtain ⟨a, cap, h1, _⟩ := h
  exact ⟨a, cap, h1⟩
theorem StepsR.len (h : StepsR w n0 v l) : (l.length : Int) ≤ 9223372036854775807 := by
  obtain ⟨_, _, _, h2, h3, _⟩ := h
  omega
theorem StepsR.some (h : StepsR w n0 v l) (hl : 0 < l.length) : ∃ y c, v = .slice (some y) l.length c := by
  obtain ⟨a, cap, h1, _, _, h4, _⟩ := h
  obtain ⟨y, rfl⟩ := h4 hl
  exact ⟨y, cap, h1⟩
theorem StepsR.at5 {y : Addr} {n c : Nat} (h : StepsR w n0 (.slice (Option.some y) n c) l) {i : Nat} {x : ST} (hx : l[i]? = Option.some x) :
    w.cell? (y.add (i * 5)) = Option.some (.int .i64 x.node) ∧ w.cell? ⟨(y.add (i * 5)).block, (y.add (i * 5)).off + 1, none⟩ = Option.some (.int .i64 x.obj) ∧ w.cell? ⟨(y.add (i * 5)).block, (y.add (i * 5)).off + 2, none⟩ = Option.some (.int .i64 x.stmt) ∧ w.cell? ⟨(y.add (i * 5)).block, (y.add (i * 5)).off + 3, none⟩ = Option.some (.int .i64 x.frm) ∧ w.cell? ⟨(y.add (i * 5)).block, (y.add (i * 5)).off + 4, none⟩ = Option.some (.int .i64 x.via) := by
  obtain ⟨a', cap', h1, _, _, h4, h5⟩ := h
  have hil := (List.getElem?_eq_some_iff.1 hx).1
  simp only [Value.slice.injEq] at h1
  obtain ⟨h1, -, -⟩ := h1
  obtain ⟨e0, e1, e2, e3, e4⟩ := (h5 y h1.symm (by omega)).2 i hil x hx
  rw [add_posU _ _ (by decide)] at e1 e2 e3 e4
  exact ⟨e0, e1, e2, e3, e4⟩
theorem StepsR.own {base : Nat} {t : TypeId} (h : w.ownsRow base t 5 v l.length (l.flatMap stCells)) (h0 : w.heap.size ≤ n0) : StepsR w n0 v l :=
  ElR.own h h0 fun g hc i hi s hs => by
    have c : ∀ j u, (stCells s)[j]? = Option.some u → j < 5 → w.cell? (((⟨g, 0, none⟩ : Addr).add (i * 5)).add j) = Option.some u := fun j u hv hj => by
      rw [show ((⟨g, 0, none⟩ : Addr).add (i * 5)).add j = (⟨g, 0, none⟩ : Addr).add (i * 5 + j) from Go.Deep.add_add _ _ _]
      exact hc _ _ ((fm_get stCells 5 stCells_len l i j s hs hj).trans hv)
    exact ⟨by have := c 0 _ rfl (by omega); simpa [Go.Deep.add_add] using this, c 1 _ rfl (by omega), c 2 _ rfl (by omega), c 3 _ rfl (by omega), c 4 _ rfl (by omega)⟩
end
end Go.Proofs.YtngdpnlgnpdkcaaGreatDoor
