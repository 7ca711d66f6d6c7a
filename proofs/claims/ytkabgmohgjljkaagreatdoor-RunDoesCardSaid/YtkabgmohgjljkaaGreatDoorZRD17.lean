/- Texts of one proof, put together: WG. -/
import Derived.Test.YtkabgmohgjljkaaGreatDoorZRD16

/- ObjectOf of the reference. -/
namespace Go.Proofs.YtkabgmohgjljkaaGreatDoor
set_option linter.unusedSimpArgs false
set_option linter.unusedVariables false
open Go Go.RowKit

def vkVar : List UInt8 := [118, 97, 114]
def vkThing : List UInt8 := [116, 104, 105, 110, 103]
def vkFun : List UInt8 := [102, 117, 110]
def PP.objV (P : PP) (pl : List Int) (k : List UInt8) (n : Int) : Int :=
  bif k == vkVar then (if 0 ≤ n ∧ n < P.vars.length then n else -1) else
  bif k == vkThing then (if 0 ≤ n ∧ n < pl.length then P.placeV (pl.getD n.toNat 0) else -1) else
  bif k == vkFun then (if 0 ≤ n ∧ n < P.funs.length then (P.nodesV : Int) + n else -1) else -1
theorem PP.nodesV_le (P : PP) : P.nodesV ≤ P.vars.length + P.stmts.length := by
  unfold PP.nodesV
  have := P.newsN_le P.stmts.length
  omega

set_option maxRecDepth 100000 in
set_option maxHeartbeats 3200000 in
theorem robject_any (a1 a2 a3 : Option Addr) (c1 c2 c3 : Nat) (P : PP) (kd : ByteArray) (n : Int) (s : Rn) (w : World) (n0 sb : Nat) (vv tv pv : Value) (hR : RfAt w n0 sb vv tv pv s) (hP : ProgR w n0 (.slice a1 P.vars.length c1) (.slice a2 P.funs.length c2) (.slice a3 P.stmts.length c3) P)
    (hv : P.vars.length ≤ 1000) (hs : P.stmts.length ≤ 1000) (hf : P.funs.length ≤ 1000) (hpl : s.places.length ≤ 100000) :
    Calls Tryz.prog 16 #[.pointer (some ⟨sb, 0, none⟩), pval a1 a2 a3 c1 c2 c3 P, .agg #[.string kd, .int .i64 n]] w fun e w' => e = .returned (.int .i64 (P.objV s.pl kd.toList n)) ∧ Ext w w' := by
  have hlen : s.pl.length = s.places.length := by simp [Rn.pl]
  obtain ⟨W1, hW1⟩ : ∃ W1, W1 = w.alloc (.cells (pcells a1 a2 a3 c1 c2 c3 P) 26) := ⟨_, rfl⟩
  have hx1 : Ext w W1 := by rw [hW1]; exact (Ext.refl _).alloc _
  obtain ⟨W2, hW2⟩ : ∃ W2, W2 = W1.alloc (.cells #[.string kd, .int .i64 n] 52) := ⟨_, rfl⟩
  have hx2 : Ext W1 W2 := by rw [hW2]; exact (Ext.refl _).alloc _
  have HX := hid (hx1.trans hx2)
  have hs1 : W1.heap.size = w.heap.size + 1 := by rw [hW1, heap_size_alloc]
  have HB1 : Hid (Blk W2 w.heap.size (pcells a1 a2 a3 c1 c2 c3 P) 26) := hid (by
    have : Blk W1 w.heap.size (pcells a1 a2 a3 c1 c2 c3 P) 26 := by rw [hW1]; exact Blk.new _ _ _
    exact this.ext hx2)
  have HB2 : Hid (Blk W2 (w.heap.size + 1) #[.string kd, .int .i64 n] 52) := hid (by
    rw [← hs1, hW2]; exact Blk.new _ _ _)
  have HWe : Hid (W2 = (w.alloc (.cells #[.slice a1 P.vars.length c1, .slice a2 P.funs.length c2, .slice a3 P.stmts.length c3] 26)).alloc (.cells #[.string kd, .int .i64 n] 52)) := hid (by rw [hW2, hW1]; rfl)
  have HR := hid (hR.ext HX.out)
  have HP := hid hP
  have HPl := fun p w1 (x : Ext w w1) => hid (rplaceof_any a1 a2 a3 c1 c2 c3 P p w1 n0 (hP.ext x) hv hs)
  have HNo := fun w1 (x : Ext w w1) => hid (rnodesof_any a1 a2 a3 c1 c2 c3 P w1 n0 (hP.ext x) hv hs)
  have hnl := P.nodesV_le
  unfold pval at HPl HNo ⊢
  clear hW1 hW2 hx1 hx2 hs1 hP
  cases h1 : (kd.toList == [118, 97, 114]) with
  | true =>
    by_cases hn : 0 ≤ n ∧ n < P.vars.length
    · have Hr := hid (show P.objV s.pl kd.toList n = n by unfold PP.objV vkVar; rw [h1, cond_true, if_pos hn])
      obtain ⟨hn1, hn2⟩ := hn
      clear hR
      go_enter Tryz.func16, Tryz.ntmps16
      go_wp2
      go_ret
      exact ⟨by rw [Hr.out]; rfl, ((Ext.refl w).alloc _).alloc _⟩
    · have Hr := hid (show P.objV s.pl kd.toList n = -1 by unfold PP.objV vkVar; rw [h1, cond_true, if_neg hn])
      clear hR
      go_enter Tryz.func16, Tryz.ntmps16
      by_cases hn1 : 0 ≤ n
      · have hn2 : ¬ n < P.vars.length := fun h => hn ⟨hn1, h⟩
        clear hn
        go_wp2
        go_ret
        exact ⟨by rw [Hr.out]; rfl, ((Ext.refl w).alloc _).alloc _⟩
      · clear hn
        go_wp2
        go_ret
        exact ⟨by rw [Hr.out]; rfl, ((Ext.refl w).alloc _).alloc _⟩
  | false =>
    cases h2 : (kd.toList == [116, 104, 105, 110, 103]) with
    | true =>
      obtain ⟨pa, pc, rfl⟩ := row_form hR.places
      by_cases hn : 0 ≤ n ∧ n < s.places.length
      · obtain ⟨N, rfl⟩ := Int.eq_ofNat_of_zero_le hn.1
        have hN : N < s.pl.length := by omega
        obtain ⟨q, hq⟩ : ∃ q, s.pl[N]? = some q := ⟨_, List.getElem?_eq_getElem hN⟩
        have Hr := hid (show P.objV s.pl kd.toList (N : Int) = P.placeV q by unfold PP.objV vkVar vkThing; rw [h1, cond_false, h2, cond_true, if_pos ⟨hn.1, by omega⟩, Int.toNat_natCast, List.getD_eq_getElem?_getD, hq]; rfl)
        obtain ⟨g, cap, hg⟩ := own_some hR.places (by omega)
        simp only [Value.slice.injEq] at hg
        obtain ⟨rfl, _, rfl⟩ := hg
        have hcp := own_get (own_ext hR.places HX.out) N (u := .int .i64 q) (by unfold icells; rw [List.getElem?_map, hq]; rfl)
        have Hcp := hid hcp
        have HN2 := hid (show N < s.places.length by omega)
        have hN3 := HN2.out
        clear hR hq hcp hN hn
        generalize s.places.length = pn at *
        go_enter Tryz.func16, Tryz.ntmps16
        go_wp2
        rw [← HWe.out]
        have x0 := Ext.refl W2
        have b0 := (HB1.out.ext x0).kc (X := fun _ => False) (fun e => e) 0 rfl
        have b1 := (HB1.out.ext x0).kc (X := fun _ => False) (fun e => e) 1 rfl
        have b2 := (HB1.out.ext x0).kc (X := fun _ => False) (fun e => e) 2 rfl
        have m1 := (HB2.out.ext x0).kc (X := fun _ => False) (fun e => e) 1 rfl
        have m0 := (HB2.out.ext x0).kc (X := fun _ => False) (fun e => e) 0 rfl
        have d2 := (HR.out.blk.ext x0).kc (X := fun _ => False) (fun e => e) 2 rfl
        simp only [pcells, List.getElem_toArray, List.getElem_cons_zero, List.getElem_cons_succ] at b0 b1 b2 m0 m1 d2
        have r0 : ∀ w1, Keep (fun _ => False) W2 w1 → w1.cell? ⟨g, N, none⟩ = some (.int .i64 q) := fun w1 k => k.ext.cellx Hcp.out
        clear x0
        refine wp_flowT (fun _ => False) (by kernel_rfl) (by kernel_rfl) ?_
        repeat (apply FlowT.d; (intro w1 hk; unfold does; go_simp; (try go_ints); (first | exact DetR.mk | (simp only [↓IntWalk.iteOmega, Oper.doesUpon_value]; exact DetR.mk) | (simp only [↓IntWalk.iteOmega]; go_simp; (try go_ints); exact DetR.mk))); simp only [Act.put, List.setIfInBounds_toArray, List.set_cons_zero, List.set_cons_succ])
        refine FlowT.fin fun w2 hx2 hk2 => ?_
        have X2 := hid hx2
        clear hk2 hx2 b0 b1 b2 m0 m1 d2 r0
        go_wp2
        have b0 := (HB1.out.ext X2.out).kc (X := fun _ => False) (fun e => e) 0 rfl
        have b1 := (HB1.out.ext X2.out).kc (X := fun _ => False) (fun e => e) 1 rfl
        have b2 := (HB1.out.ext X2.out).kc (X := fun _ => False) (fun e => e) 2 rfl
        have m1 := (HB2.out.ext X2.out).kc (X := fun _ => False) (fun e => e) 1 rfl
        have m0 := (HB2.out.ext X2.out).kc (X := fun _ => False) (fun e => e) 0 rfl
        have d2 := (HR.out.blk.ext X2.out).kc (X := fun _ => False) (fun e => e) 2 rfl
        simp only [pcells, List.getElem_toArray, List.getElem_cons_zero, List.getElem_cons_succ] at b0 b1 b2 m0 m1 d2
        have r0 : ∀ w1, Keep (fun _ => False) w2 w1 → w1.cell? ⟨g, N, none⟩ = some (.int .i64 q) := fun w1 k => (X2.out.trans k.ext).cellx Hcp.out
        refine wp_flowT (fun _ => False) (by kernel_rfl) (by kernel_rfl) ?_
        repeat (apply FlowT.d; (intro w1 hk; unfold does; go_simp; (try go_ints); (first | exact DetR.mk | (simp only [↓IntWalk.iteOmega, Oper.doesUpon_value]; exact DetR.mk) | (simp only [↓IntWalk.iteOmega]; go_simp; (try go_ints); exact DetR.mk))); simp only [Act.put, List.setIfInBounds_toArray, List.set_cons_zero, List.set_cons_succ])
        apply FlowT.d
        · intro w1 hk
          unfold does
          go_simp
          exact CallR.det ((HPl q w1 (HX.out.trans (X2.out.trans hk.ext))).out)
        simp only [Act.put, List.setIfInBounds_toArray, List.set_cons_zero, List.set_cons_succ]
        repeat (apply FlowT.d; (intro w1 hk; unfold does; go_simp; (try go_ints); (first | exact DetR.mk | (simp only [↓IntWalk.iteOmega, Oper.doesUpon_value]; exact DetR.mk) | (simp only [↓IntWalk.iteOmega]; go_simp; (try go_ints); exact DetR.mk))); simp only [Act.put, List.setIfInBounds_toArray, List.set_cons_zero, List.set_cons_succ])
        refine FlowT.fin fun w3 hx3 hk3 => ?_
        have X3 := hid (HX.out.trans (X2.out.trans hk3.ext))
        clear hk3 hx3 b0 b1 b2 m0 m1 d2 r0
        go_wp2
        go_ret
        exact ⟨by rw [Hr.out]; rfl, X3.out⟩
      · have Hr := hid (show P.objV s.pl kd.toList n = -1 by unfold PP.objV vkVar vkThing; rw [h1, cond_false, h2, cond_true, if_neg (by rw [hlen]; exact hn)])
        clear hR
        generalize s.places.length = pn at *
        go_enter Tryz.func16, Tryz.ntmps16
        by_cases hn1 : 0 ≤ n
        · have hn2 : ¬ n < pn := fun h => hn ⟨hn1, h⟩
          clear hn
          go_wp2
          rw [← HWe.out]
          have x0 := Ext.refl W2
          have b0 := (HB1.out.ext x0).kc (X := fun _ => False) (fun e => e) 0 rfl
          have b1 := (HB1.out.ext x0).kc (X := fun _ => False) (fun e => e) 1 rfl
          have b2 := (HB1.out.ext x0).kc (X := fun _ => False) (fun e => e) 2 rfl
          have m1 := (HB2.out.ext x0).kc (X := fun _ => False) (fun e => e) 1 rfl
          have m0 := (HB2.out.ext x0).kc (X := fun _ => False) (fun e => e) 0 rfl
          have d2 := (HR.out.blk.ext x0).kc (X := fun _ => False) (fun e => e) 2 rfl
          simp only [pcells, List.getElem_toArray, List.getElem_cons_zero, List.getElem_cons_succ] at b0 b1 b2 m0 m1 d2
          clear x0
          refine wp_flowT (fun _ => False) (by kernel_rfl) (by kernel_rfl) ?_
          repeat (apply FlowT.d; (intro w1 hk; unfold does; go_simp; (try go_ints); (first | exact DetR.mk | (simp only [↓IntWalk.iteOmega, Oper.doesUpon_value]; exact DetR.mk) | (simp only [↓IntWalk.iteOmega]; go_simp; (try go_ints); exact DetR.mk))); simp only [Act.put, List.setIfInBounds_toArray, List.set_cons_zero, List.set_cons_succ])
          refine FlowT.fin fun w2 hx2 hk2 => ?_
          have X2 := hid (HX.out.trans hk2.ext)
          clear hk2 hx2 b0 b1 b2 m0 m1 d2
          go_wp2
          go_ret
          exact ⟨by rw [Hr.out]; rfl, X2.out⟩
        · clear hn
          go_wp2
          rw [← HWe.out]
          have x0 := Ext.refl W2
          have b0 := (HB1.out.ext x0).kc (X := fun _ => False) (fun e => e) 0 rfl
          have b1 := (HB1.out.ext x0).kc (X := fun _ => False) (fun e => e) 1 rfl
          have b2 := (HB1.out.ext x0).kc (X := fun _ => False) (fun e => e) 2 rfl
          have m1 := (HB2.out.ext x0).kc (X := fun _ => False) (fun e => e) 1 rfl
          have m0 := (HB2.out.ext x0).kc (X := fun _ => False) (fun e => e) 0 rfl
          have d2 := (HR.out.blk.ext x0).kc (X := fun _ => False) (fun e => e) 2 rfl
          simp only [pcells, List.getElem_toArray, List.getElem_cons_zero, List.getElem_cons_succ] at b0 b1 b2 m0 m1 d2
          clear x0
          refine wp_flowT (fun _ => False) (by kernel_rfl) (by kernel_rfl) ?_
          repeat (apply FlowT.d; (intro w1 hk; unfold does; go_simp; (try go_ints); (first | exact DetR.mk | (simp only [↓IntWalk.iteOmega, Oper.doesUpon_value]; exact DetR.mk) | (simp only [↓IntWalk.iteOmega]; go_simp; (try go_ints); exact DetR.mk))); simp only [Act.put, List.setIfInBounds_toArray, List.set_cons_zero, List.set_cons_succ])
          refine FlowT.fin fun w2 hx2 hk2 => ?_
          have X2 := hid (HX.out.trans hk2.ext)
          clear hk2 hx2 b0 b1 b2 m0 m1 d2
          go_wp2
          go_ret
          exact ⟨by rw [Hr.out]; rfl, X2.out⟩
    | false =>
      cases h3 : (kd.toList == [102, 117, 110]) with
      | true =>
        by_cases hn : 0 ≤ n ∧ n < P.funs.length
        · have Hr := hid (show P.objV s.pl kd.toList n = (P.nodesV : Int) + n by unfold PP.objV vkVar vkThing vkFun; rw [h1, cond_false, h2, cond_false, h3, cond_true, if_pos hn])
          obtain ⟨hn1, hn2⟩ := hn
          clear hR
          go_enter Tryz.func16, Tryz.ntmps16
          go_wp2
          rw [← HWe.out]
          have x0 := Ext.refl W2
          have b0 := (HB1.out.ext x0).kc (X := fun _ => False) (fun e => e) 0 rfl
          have b1 := (HB1.out.ext x0).kc (X := fun _ => False) (fun e => e) 1 rfl
          have b2 := (HB1.out.ext x0).kc (X := fun _ => False) (fun e => e) 2 rfl
          have m1 := (HB2.out.ext x0).kc (X := fun _ => False) (fun e => e) 1 rfl
          have m0 := (HB2.out.ext x0).kc (X := fun _ => False) (fun e => e) 0 rfl
          have d2 := (HR.out.blk.ext x0).kc (X := fun _ => False) (fun e => e) 2 rfl
          simp only [pcells, List.getElem_toArray, List.getElem_cons_zero, List.getElem_cons_succ] at b0 b1 b2 m0 m1 d2
          clear x0
          refine wp_flowT (fun _ => False) (by kernel_rfl) (by kernel_rfl) ?_
          repeat (apply FlowT.d; (intro w1 hk; unfold does; go_simp; (try go_ints); (first | exact DetR.mk | (simp only [↓IntWalk.iteOmega, Oper.doesUpon_value]; exact DetR.mk) | (simp only [↓IntWalk.iteOmega]; go_simp; (try go_ints); exact DetR.mk))); simp only [Act.put, List.setIfInBounds_toArray, List.set_cons_zero, List.set_cons_succ])
          apply FlowT.d
          · intro w1 hk
            unfold does
            go_simp
            exact CallR.det ((HNo w1 (HX.out.trans hk.ext)).out)
          simp only [Act.put, List.setIfInBounds_toArray, List.set_cons_zero, List.set_cons_succ]
          repeat (apply FlowT.d; (intro w1 hk; unfold does; go_simp; (try go_ints); (first | exact DetR.mk | (simp only [↓IntWalk.iteOmega, Oper.doesUpon_value]; exact DetR.mk) | (simp only [↓IntWalk.iteOmega]; go_simp; (try go_ints); exact DetR.mk))); simp only [Act.put, List.setIfInBounds_toArray, List.set_cons_zero, List.set_cons_succ])
          refine FlowT.fin fun w3 hx3 hk3 => ?_
          have X3 := hid (HX.out.trans hk3.ext)
          clear hk3 hx3 b0 b1 b2 m0 m1 d2
          go_wp2
          go_ret
          exact ⟨by rw [Hr.out]; rfl, X3.out⟩
        · have Hr := hid (show P.objV s.pl kd.toList n = -1 by unfold PP.objV vkVar vkThing vkFun; rw [h1, cond_false, h2, cond_false, h3, cond_true, if_neg hn])
          clear hR
          go_enter Tryz.func16, Tryz.ntmps16
          by_cases hn1 : 0 ≤ n
          · have hn2 : ¬ n < P.funs.length := fun h => hn ⟨hn1, h⟩
            clear hn
            go_wp2
            go_ret
            exact ⟨by rw [Hr.out]; rfl, ((Ext.refl w).alloc _).alloc _⟩
          · clear hn
            go_wp2
            go_ret
            exact ⟨by rw [Hr.out]; rfl, ((Ext.refl w).alloc _).alloc _⟩
      | false =>
        have Hr := hid (show P.objV s.pl kd.toList n = -1 by unfold PP.objV vkVar vkThing vkFun; rw [h1, cond_false, h2, cond_false, h3]; rfl)
        clear hR
        go_enter Tryz.func16, Tryz.ntmps16
        go_wp2
        go_ret
        exact ⟨by rw [Hr.out]; rfl, ((Ext.refl w).alloc _).alloc _⟩
end Go.Proofs.YtkabgmohgjljkaaGreatDoor
