/- Texts of one proof, put together: ZZYm ZZYn ZZYr ZW ZX ZY ZZ ZZ1 ZZ2 ZZ3 ZZ4. -/
import Derived.Test.YtbagppdibncfdaaGreatDoorHHN03
import Derived.Test.YtbagppdibncfdaaGreatDoorHHN08
import Derived.Test.YtbagppdibncfdaaGreatDoorHHN11
import Derived.Test.YtbagppdibncfdaaGreatDoorHHN13
import Derived.Test.YtbagppdibncfdaaGreatDoorHHN15
import Derived.Test.YtbagppdibncfdaaGreatDoorHHN16
import Derived.Test.YtbagppdibncfdaaGreatDoorHHN18
import Derived.Test.YtbagppdibncfdaaGreatDoorHHN19
import Derived.Test.YtbagppdibncfdaaGreatDoorHHN01
set_option linter.unusedSimpArgs false
set_option linter.unusedVariables false
namespace Go.Proofs.YtbagppdibncfdaaGreatDoor
open Go Go.RowKit
def SC.own (c : SC) (n : Int) : Bool := decide (0 ≤ n ∧ n < (c.P.nodesV : Int) ∧ n % (c.k : Int) = (c.me : Int))
set_option maxRecDepth 100000 in
set_option maxHeartbeats 3200000 in
theorem shardown_any (c : SC) (s : SH) (n : Int) (w : World) (G F : Nat → Prop) (g : Nat) (hS : ShAt w G F g c s) :
    Calls Tryz.prog 120 #[.pointer (some ⟨g, 0, none⟩), .int .i64 n] w fun e w' => e = .returned (.bool (c.own n)) ∧ Ext w w' := by
  have hS0 := hS
  obtain ⟨m1, m2, f1, f2, vt, vo, ts, os, h⟩ := hS
  have hnn := h.con.well.nodes.1
  have b6 := h.blk.kc (X := fun _ => False) (fun e => e) 6 rfl
  have b4 := h.blk.kc (X := fun _ => False) (fun e => e) 4 rfl
  simp only [shCells, qA0, qA1, qA2] at b6 b4
  by_cases hn0 : 0 ≤ n
  · by_cases hn1 : n < (c.P.nodesV : Int)
    · obtain ⟨i, rfl⟩ := Int.eq_ofNat_of_zero_le hn0
      have HO := fun w1 (x : Ext w w1) => hid (shardowner_any c s i w1 G F g (hS0.ext x) (by omega))
      have hr : c.own (i : Int) = decide ((i % c.k : Nat) = c.me) := by
        unfold SC.own
        rw [natmod]
        by_cases hm : i % c.k = c.me
        · rw [decide_eq_true hm, decide_eq_true ⟨hn0, hn1, by rw [hm]⟩]
        · rw [decide_eq_false hm, decide_eq_false fun h => hm (by have := h.2.2; omega)]
      have Hr := hid hr
      generalize i % c.k = r at HO Hr
      have g0 : decide ((0 : Int) ≤ (i : Int)) = true := decide_eq_true hn0
      have g1 : decide ((i : Int) < (c.P.nodesV : Int)) = true := decide_eq_true hn1
      have g2 : ((r : Int) == (c.me : Int)) = decide (r = c.me) := by
        by_cases hm : r = c.me
        · rw [hm]; simp
        · rw [decide_eq_false hm]; exact beq_eq_false_iff_ne.2 (by omega)
      clear hS0 h hr
      generalize c.P.nodesV = NN at *
      go_enter Tryz.func120, Tryz.ntmps120
      go_wp2
      refine wp_flowT (fun _ => False) (by kernel_rfl) (by kernel_rfl) ?_
      repeat (apply FlowT.d; (intro w1 hk; unfold does; go_simp; (try go_ints); (first | exact DetR.mk | (simp only [↓IntWalk.iteOmega, Oper.doesUpon_value]; exact DetR.mk) | (simp only [↓IntWalk.iteOmega]; go_simp; (try go_ints); exact DetR.mk))); simp only [Act.put, qS0, qS1, qS2])
      apply FlowT.d
      · intro w1 hk
        unfold does
        go_simp
        exact CallR.det ((HO w1 hk.ext).out)
      simp only [Act.put, qS0, qS1, qS2]
      repeat (apply FlowT.d; (intro w1 hk; unfold does; go_simp; (try go_ints); (first | exact DetR.mk | (simp only [↓IntWalk.iteOmega, Oper.doesUpon_value]; exact DetR.mk) | (simp only [↓IntWalk.iteOmega]; go_simp; (try go_ints); exact DetR.mk))); simp only [Act.put, qS0, qS1, qS2])
      refine FlowT.fin fun w2 hx2 hk2 => ?_
      go_wp2
      go_ret
      exact ⟨by rw [Hr.out]; rfl, hx2⟩
    · have hr : c.own n = false := decide_eq_false fun h => hn1 h.2.1
      have Hr := hid hr
      clear hS0 h hr
      generalize c.P.nodesV = NN at *
      go_enter Tryz.func120, Tryz.ntmps120
      go_wp2
      refine wp_flowT (fun _ => False) (by kernel_rfl) (by kernel_rfl) ?_
      repeat (apply FlowT.d; (intro w1 hk; unfold does; go_simp; (try go_ints); (first | exact DetR.mk | (simp only [↓IntWalk.iteOmega, Oper.doesUpon_value]; exact DetR.mk) | (simp only [↓IntWalk.iteOmega]; go_simp; (try go_ints); exact DetR.mk))); simp only [Act.put, qS0, qS1, qS2])
      refine FlowT.fin fun w2 hx2 hk2 => ?_
      go_wp2
      go_ret
      exact ⟨by rw [Hr.out]; rfl, hx2⟩
  · have hr : c.own n = false := decide_eq_false fun h => hn0 h.1
    have Hr := hid hr
    clear hS0 h hr
    generalize c.P.nodesV = NN at *
    go_enter Tryz.func120, Tryz.ntmps120
    go_wp2
    refine wp_flowT (fun _ => False) (by kernel_rfl) (by kernel_rfl) ?_
    repeat (apply FlowT.d; (intro w1 hk; unfold does; go_simp; (try go_ints); (first | exact DetR.mk | (simp only [↓IntWalk.iteOmega, Oper.doesUpon_value]; exact DetR.mk) | (simp only [↓IntWalk.iteOmega]; go_simp; (try go_ints); exact DetR.mk))); simp only [Act.put, qS0, qS1, qS2])
    refine FlowT.fin fun w2 hx2 hk2 => ?_
    go_wp2
    go_ret
    exact ⟨by rw [Hr.out]; rfl, hx2⟩
def SC.hasL (c : SC) (s : SH) (n : Int) : List Int := if c.own n = true then keysL s.has n else []
set_option maxRecDepth 100000 in
set_option maxHeartbeats 1600000 in
theorem shardhas_any (c : SC) (s : SH) (n : Int) (w : World) (G F : Nat → Prop) (g : Nat) (hS : ShAt w G F g c s) (hok : s.Ok c.P (c.me : Nat) (c.k : Nat)) :
    Calls Tryz.prog 74 #[.pointer (some ⟨g, 0, none⟩), .int .i64 n] w fun e w' => ∃ v, e = .returned v ∧ IRow w.heap.size w' v (c.hasL s n) ∧ Ext w w' := by
  have HO := hid (shardown_any c s n w G F g hS)
  cases hb : c.own n with
  | false =>
    have Hr : Hid (c.hasL s n = []) := hid (by unfold SC.hasL; rw [hb]; rfl)
    rw [hb] at HO
    clear hb hok
    go_enter Tryz.func74, Tryz.ntmps74
    go_wp2_with fail
    refine HO.out.mono ?_
    intro e w1 hx
    obtain ⟨rfl, hx1⟩ := hx
    have Hx1 := hid hx1
    clear HO hx1
    go_wp2
    go_ret
    exact ⟨_, rfl, by rw [Hr.out]; exact IRow.nil _ _, Hx1.out⟩
  | true =>
    have Hr : Hid (c.hasL s n = keysL s.has n) := hid (by unfold SC.hasL; rw [hb]; rfl)
    rw [hb] at HO
    have hin := of_decide_eq_true hb
    obtain ⟨m1, m2, f1, f2, vt, vo, ts, os, h⟩ := hS
    have hnn := h.con.well.nodes.1
    obtain ⟨i, rfl⟩ := Int.eq_ofNat_of_zero_le hin.1
    have hi : i < 1000000 := by omega
    have Hh126 := hid (hok.has126 h.con.well)
    have HS := hid h
    clear hb hok hin h
    go_enter Tryz.func74, Tryz.ntmps74
    go_wp2_with fail
    refine HO.out.mono ?_
    intro e w1 hx
    obtain ⟨rfl, hx1⟩ := hx
    have HS1 := hid (HS.out.ext hx1)
    have l4 := HS1.out.mm1.look1 (b := (i : Int)) (by omega)
    have HKy := hid (shardkeys_any (i : Int) w1 HS1.out.mm1 Hh126.out)
    obtain ⟨vk, hvk⟩ : ∃ vk, vk = (f1 (i : Int)).getD (.map none) := ⟨_, rfl⟩
    rw [← hvk] at l4 HKy
    have b8 := HS1.out.blk.av 8 rfl
    simp only [shCells, qA0, qA1, qA2] at b8
    have Hx1 := hid hx1
    clear HO hx1 hvk
    go_wp2_with fail
    refine HKy.out.mono ?_
    intro e w4 hx
    obtain ⟨v4, rfl, hr4, hx4⟩ := hx
    have HR4 : Hid (IRow w.heap.size w4 v4 (keysL s.has (i : Int))) := hid (own_low hr4 Hx1.out.size)
    have Hx4 := hid (Hx1.out.trans hx4)
    clear HKy hr4 hx4 l4 b8
    go_wp2
    go_ret
    exact ⟨_, rfl, by rw [Hr.out]; exact HR4.out, Hx4.out⟩
theorem shardboundc_any (g : Nat) (m n : Int) (w : World) (hB : Blk w g #[.int .i64 m] 3) :
    Calls Tryz.prog 127 #[.int .i64 n, .pointer (some ⟨g, 0, none⟩)] w fun e w' => e = .returned (.bool (decide (n < 0) || decide (m ≤ n))) ∧ Ext w w' := by
  have c0 := hB.av 0 rfl
  simp only [qA0, qA1] at c0
  clear hB
  by_cases hn : n < 0
  · have Hr : Hid ((decide (n < 0) || decide (m ≤ n)) = true) := hid (by rw [decide_eq_true hn]; rfl)
    go_enter Tryz.func127, Tryz.ntmps127
    go_wp2
    go_ret
    exact ⟨by rw [Hr.out]; rfl, Ext.refl _⟩
  · have Hr : Hid ((decide (n < 0) || decide (m ≤ n)) = decide (m ≤ n)) := hid (by rw [decide_eq_false hn]; rfl)
    go_enter Tryz.func127, Tryz.ntmps127
    go_wp2
    go_ret
    exact ⟨by rw [Hr.out]; rfl, Ext.refl _⟩
set_option maxRecDepth 100000 in
set_option maxHeartbeats 800000 in
theorem indexfi_sbd (b : Value) (p : Int → Bool) (v : Value) (l : List Int) (w : World) (n0 : Nat) (h : IntsR w n0 v l) (hF : ∀ n w1, Ext w w1 → Calls Tryz.prog 127 #[.int .i64 n, b] w1 fun e w' => e = .returned (.bool (p n)) ∧ Ext w1 w') :
    Calls Tryz.prog 138 #[v, .func (.func 127) #[] #[b]] w fun e w' => ∃ r : Int, e = .returned (.int .i64 r) ∧ IdxF p l r ∧ Ext w w' := by
  have HS := hid h
  have HF := hid hF
  obtain ⟨a, cap, rfl, h2, h3, h4, _⟩ := h
  have H4 := hid h4
  have hml : (l.length : Int) ≤ 9223372036854775807 := by omega
  clear h2 h3 h4 hF
  go_enter Tryz.func138, Tryz.ntmps138
  go_wp2
  go_loopw [8] (fun t8 wr => ∃ k : Nat, t8 = .int .i64 (k : Int) ∧ k ≤ l.length ∧ (∀ j t, j < k → l[j]? = some t → p t = false) ∧ Ext w wr) (fun t8 _ => l.length - (intOf t8).toNat)
  case atStart => exact ⟨0, rfl, Nat.zero_le _, fun j t h => by omega, Ext.refl _⟩
  case round =>
    obtain ⟨k, rfl, hk, hne, hx⟩ := hrel
    have Hne := hid hne
    clear hne
    by_cases hlt : k < l.length
    · obtain ⟨y, rfl⟩ := H4.out (by omega)
      have hxk : l[k]? = some (l[k]'hlt) := List.getElem?_eq_getElem hlt
      obtain ⟨t, ht⟩ : ∃ t, t = l[k]'hlt := ⟨_, rfl⟩
      rw [← ht] at hxk
      obtain ⟨a', cap', h1, _, _, _, h5⟩ := HS.out.old (hx.old n0)
      obtain ⟨rfl, rfl⟩ : some y = a' ∧ cap = cap' := by simpa using h1
      have hc := (h5 y rfl (by omega)).2 k hlt t hxk
      have HN := hid (HF.out t wr hx)
      have Hxk := hid hxk
      have Hx := hid hx
      clear hxk ht h1 h5 hx
      go_wp2_with fail
      refine HN.out.mono ?_
      intro e w1 hx1
      obtain ⟨rfl, hx1⟩ := hx1
      have Hx1 := hid (Hx.out.trans hx1)
      clear HN hx1 Hx hc
      cases he : p t with
      | true =>
        have Hin := hid (show IdxF p l (k : Int) from .inr ⟨k, t, rfl, hlt, Hxk.out, he, Hne.out⟩)
        go_wp2
        go_ret
        exact ⟨(k : Int), rfl, Hin.out, Hx1.out⟩
      | false =>
        have Hf := hid he
        clear he
        go_wp2
        go_roundw
        case rel =>
          refine ⟨k + 1, by go_num, by omega, fun j u hj hu => ?_, Hx1.out⟩
          by_cases hjk : j = k
          · subst hjk
            obtain rfl := Option.some.inj (Hxk.out.symm.trans hu)
            exact Hf.out
          · exact Hne.out j u (by omega) hu
        case measure => simp [intOf]; omega
    · obtain rfl : k = l.length := by omega
      have Hx := hid hx
      clear hx
      have Hnot := hid (show IdxF p l (-1) from .inl ⟨rfl, fun x hx => by
        obtain ⟨j, hj, e2⟩ := List.mem_iff_getElem.1 hx
        exact Hne.out j x hj (by rw [List.getElem?_eq_getElem hj, e2])⟩)
      go_wp2
      go_ret
      exact ⟨(-1 : Int), rfl, Hnot.out, Hx.out⟩
set_option maxRecDepth 100000 in
set_option maxHeartbeats 800000 in
theorem containsfi_sbd (b : Value) (p : Int → Bool) (v : Value) (l : List Int) (w : World) (n0 : Nat) (h : IntsR w n0 v l) (hF : ∀ n w1, Ext w w1 → Calls Tryz.prog 127 #[.int .i64 n, b] w1 fun e w' => e = .returned (.bool (p n)) ∧ Ext w1 w') :
    Calls Tryz.prog 97 #[v, .func (.func 127) #[] #[b]] w fun e w' => e = .returned (.bool (l.any p)) ∧ Ext w w' := by
  have H := hid (indexfi_sbd b p v l w n0 h hF)
  obtain ⟨a, cap, rfl, h2, h3, _⟩ := h
  have hml : (l.length : Int) ≤ 9223372036854775807 := by omega
  clear hF
  go_enter Tryz.func97, Tryz.ntmps97
  go_wp2_with fail
  refine H.out.mono ?_
  intro e w1 hx
  obtain ⟨r, rfl, hr, hx⟩ := hx
  clear H
  rcases hr with ⟨rfl, hr⟩ | ⟨i, x, rfl, hi, hxi, hp, _⟩
  · have Hr := hid (show l.any p = false from List.any_eq_false.2 fun x hx => by rw [hr x hx]; simp)
    clear hr
    go_wp2
    go_ret
    exact ⟨by rw [Hr.out]; rfl, hx⟩
  · have Hr := hid (show l.any p = true from List.any_eq_true.2 ⟨x, List.mem_of_getElem? hxi, hp⟩)
    clear hp hxi
    go_wp2
    go_ret
    exact ⟨by rw [Hr.out]; rfl, hx⟩
def SC.most (c : SC) (kd : Int) : Int := if kd = 101 then (c.P.nodesV : Int) else (c.P.objectsV : Int)
def SC.bnd (c : SC) (kd : Int) (x : Int) (l : List Int) : Bool := c.own x && !(l.any fun n => decide (n < 0) || decide (c.most kd ≤ n))
theorem irow_tail {w : World} {gn cv : Nat} {x : Int} {l : List Int} (h : IRow 0 w (.slice (some ⟨gn, 0, none⟩) (l.length + 1) cv) (x :: l)) : IntsR w w.heap.size (.slice (some ⟨gn, 1, none⟩) l.length (cv - 1)) l := by
  have hb := own_ty h (k := gn) rfl
  obtain ⟨c', hc⟩ := hb
  obtain ⟨_, hx | ⟨_, _, _, hx, _, _, hx4, hx5, _⟩⟩ := id h
  · cases hx.1
  · simp only [Value.slice.injEq] at hx
    unfold maxLen at hx5
    rw [← hx.2.2] at hx4 hx5
    simp only [List.length_cons] at hx4
    refine ⟨_, _, rfl, by omega, by omega, fun _ => ⟨_, rfl⟩, fun y hy h0 => ?_⟩
    obtain rfl := Option.some.inj hy
    refine ⟨hc.lt, fun i hi z hz => ?_⟩
    rw [Addr.add_lit, Nat.add_comm 1 i]
    exact own_i h (i := i + 1) (x := z) (by rw [List.getElem?_cons_succ]; exact hz)
set_option maxRecDepth 100000 in
set_option maxHeartbeats 3200000 in
theorem shardbound_any (c : SC) (s : SH) (kd : Int) (v : Value) (x : Int) (l : List Int) (w : World) (G F : Nat → Prop) (g : Nat) (hS : ShAt w G F g c s) (hv : IRow 0 w v (x :: l)) :
    Calls Tryz.prog 83 #[.pointer (some ⟨g, 0, none⟩), .int .u8 kd, v] w fun e w' => e = .returned (.bool (c.bnd kd x l)) ∧ Ext w w' := by
  obtain ⟨gn, cv, rfl⟩ := own_some hv (by simp)
  have hcv : l.length + 1 ≤ cv ∧ (cv : Int) ≤ 9223372036854775807 := by
    obtain ⟨_, hx | ⟨_, _, _, hx, _, _, hx4, hx5, _⟩⟩ := id hv
    · cases hx.1
    · simp only [Value.slice.injEq] at hx
      unfold maxLen at hx5
      rw [hx.2.2]
      simp only [List.length_cons] at hx4
      exact ⟨hx4, by omega⟩
  simp only [List.length_cons] at hv ⊢
  obtain ⟨W, hW⟩ : ∃ W, W = w.alloc (.cells #[.int .i64 (c.most kd)] 3) := ⟨_, rfl⟩
  have hBx : Blk W w.heap.size #[.int .i64 (c.most kd)] 3 := by rw [hW]; exact Blk.new w _ _
  have hxW : Ext w W := by rw [hW]; exact (Ext.refl _).alloc _
  have HO := hid (shardown_any c s x W G F g (hS.ext hxW))
  obtain ⟨m1, m2, f1, f2, vt, vo, ts, os, h⟩ := hS
  have b7 := h.blk.av 7 rfl
  have b6 := (h.blk.ext ((Ext.refl w).alloc (.cells #[.int .i64 (c.P.objectsV : Int)] 3))).av 6 rfl
  simp only [shCells, qA0, qA1, qA2] at b6 b7
  have hvW : IRow 0 W (.slice (some ⟨gn, 0, none⟩) (l.length + 1) cv) (x :: l) := own_ext hv hxW
  have n0 := own_i hvW (i := 0) (x := x) rfl
  have HBx := hid hBx
  have HxW := hid hxW
  have HCt := fun w1 (y : Ext W w1) => hid (containsfi_sbd (.pointer (some ⟨w.heap.size, 0, none⟩)) (fun n => decide (n < 0) || decide (c.most kd ≤ n)) (.slice (some ⟨gn, 1, none⟩) l.length (cv - 1)) l w1 w1.heap.size (irow_tail (own_ext hvW y)) fun n w2 x2 => shardboundc_any w.heap.size (c.most kd) n w2 (HBx.out.ext (y.trans x2)))
  have HC0 := fun w1 (y : Ext W w1) => hid (containsfi_sbd (.pointer (some ⟨w.heap.size, 0, none⟩)) (fun n => decide (n < 0) || decide (c.most kd ≤ n)) (.slice (some ⟨gn, 0, none⟩) 0 0) [] w1 w1.heap.size ⟨_, _, rfl, Nat.le_refl _, by omega, fun h => absurd h (by simp), fun y hy h => absurd h (by simp)⟩ fun n w2 x2 => shardboundc_any w.heap.size (c.most kd) n w2 (HBx.out.ext (y.trans x2)))
  clear h hv hBx hxW hvW
  cases hb : c.own x with
  | false =>
    have Hr : Hid (c.bnd kd x l = false) := hid (by unfold SC.bnd; rw [hb]; rfl)
    rw [hb] at HO
    clear hb HCt HC0
    by_cases hk : kd = 101
    · rw [show c.most kd = (c.P.nodesV : Int) by unfold SC.most; rw [if_pos hk]] at hW
      have HWe := hid hW
      rw [hW] at n0
      subst hk
      clear hW
      go_enter Tryz.func83, Tryz.ntmps83
      go_wp2_with fail
      rw [← HWe.out]
      refine HO.out.mono ?_
      intro e w1 hx
      obtain ⟨rfl, hx1⟩ := hx
      have Hx1 := hid hx1
      clear HO hx1
      go_wp2
      go_ret
      exact ⟨by rw [Hr.out]; rfl, HxW.out.trans Hx1.out⟩
    · rw [show c.most kd = (c.P.objectsV : Int) by unfold SC.most; rw [if_neg hk]] at hW
      have HWe := hid hW
      rw [hW] at n0
      clear hW
      go_enter Tryz.func83, Tryz.ntmps83
      go_wp2_with fail
      rw [← HWe.out]
      refine HO.out.mono ?_
      intro e w1 hx
      obtain ⟨rfl, hx1⟩ := hx
      have Hx1 := hid hx1
      clear HO hx1
      go_wp2
      go_ret
      exact ⟨by rw [Hr.out]; rfl, HxW.out.trans Hx1.out⟩
  | true =>
    have Hr : Hid (c.bnd kd x l = !(l.any fun n => decide (n < 0) || decide (c.most kd ≤ n))) := hid (by unfold SC.bnd; rw [hb]; rfl)
    rw [hb] at HO
    clear hb
    generalize hp : (fun n => decide (n < 0) || decide (c.most kd ≤ n)) = p at HCt HC0 Hr
    clear hp
    by_cases hk : kd = 101
    · rw [show c.most kd = (c.P.nodesV : Int) by unfold SC.most; rw [if_pos hk]] at hW
      have HWe := hid hW
      rw [hW] at n0
      subst hk
      clear hW
      by_cases hc1 : cv = 1
      · subst hc1
        obtain rfl : l = [] := List.eq_nil_of_length_eq_zero (by omega)
        simp only [List.length_nil, Nat.zero_add] at hcv
        go_enter Tryz.func83, Tryz.ntmps83
        go_wp2_with fail
        rw [← HWe.out]
        refine HO.out.mono ?_
        intro e w1 hx
        obtain ⟨rfl, hx1⟩ := hx
        have Hx1 := hid hx1
        clear HO hx1
        have HC := HC0 w1 Hx1.out
        clear HC0 HCt n0
        go_wp2_with fail
        refine HC.out.mono ?_
        intro e w2 hx
        obtain ⟨rfl, hx2⟩ := hx
        have Hx2 := hid (HxW.out.trans (Hx1.out.trans hx2))
        clear HC hx2
        go_wp2
        go_ret
        exact ⟨by rw [Hr.out]; rfl, Hx2.out⟩
      ·
        go_enter Tryz.func83, Tryz.ntmps83
        go_wp2_with fail
        rw [← HWe.out]
        refine HO.out.mono ?_
        intro e w1 hx
        obtain ⟨rfl, hx1⟩ := hx
        have Hx1 := hid hx1
        clear HO hx1
        have HC := HCt w1 Hx1.out
        clear HC0 HCt n0
        generalize l.any p = d at HC Hr
        go_wp2_with fail
        refine HC.out.mono ?_
        intro e w2 hx
        obtain ⟨rfl, hx2⟩ := hx
        have Hx2 := hid (HxW.out.trans (Hx1.out.trans hx2))
        clear HC hx2
        go_wp2
        go_ret
        exact ⟨by rw [Hr.out]; rfl, Hx2.out⟩
    · rw [show c.most kd = (c.P.objectsV : Int) by unfold SC.most; rw [if_neg hk]] at hW
      have HWe := hid hW
      rw [hW] at n0
      clear hW
      by_cases hc1 : cv = 1
      · subst hc1
        obtain rfl : l = [] := List.eq_nil_of_length_eq_zero (by omega)
        simp only [List.length_nil, Nat.zero_add] at hcv
        go_enter Tryz.func83, Tryz.ntmps83
        go_wp2_with fail
        rw [← HWe.out]
        refine HO.out.mono ?_
        intro e w1 hx
        obtain ⟨rfl, hx1⟩ := hx
        have Hx1 := hid hx1
        clear HO hx1
        have HC := HC0 w1 Hx1.out
        clear HC0 HCt n0
        go_wp2_with fail
        refine HC.out.mono ?_
        intro e w2 hx
        obtain ⟨rfl, hx2⟩ := hx
        have Hx2 := hid (HxW.out.trans (Hx1.out.trans hx2))
        clear HC hx2
        go_wp2
        go_ret
        exact ⟨by rw [Hr.out]; rfl, Hx2.out⟩
      ·
        go_enter Tryz.func83, Tryz.ntmps83
        go_wp2_with fail
        rw [← HWe.out]
        refine HO.out.mono ?_
        intro e w1 hx
        obtain ⟨rfl, hx1⟩ := hx
        have Hx1 := hid hx1
        clear HO hx1
        have HC := HCt w1 Hx1.out
        clear HC0 HCt n0
        generalize l.any p = d at HC Hr
        go_wp2_with fail
        refine HC.out.mono ?_
        intro e w2 hx
        obtain ⟨rfl, hx2⟩ := hx
        have Hx2 := hid (HxW.out.trans (Hx1.out.trans hx2))
        clear HC hx2
        go_wp2
        go_ret
        exact ⟨by rw [Hr.out]; rfl, Hx2.out⟩
def SH.push (s : SH) (x : NV) : SH := { s with todo := s.todo ++ [x] }
theorem bnd_ok {c : SC} {kd x : Int} {l : List Int} (hb : c.bnd kd x l = true) (hk : kd = 100 ∨ (kd = 101 ∧ l.length = 1)) : NOk c.P (c.k : Nat) ⟨(c.me : Nat), kd, x :: l⟩ ∧ x % ((c.k : Nat) : Int) = ((c.me : Nat) : Int) := by
  unfold SC.bnd at hb
  rw [Bool.and_eq_true] at hb
  obtain ⟨h1, h2⟩ := hb
  obtain ⟨h3, h4, h5⟩ := of_decide_eq_true h1
  have h6 : ∀ n ∈ l, 0 ≤ n ∧ n < c.most kd := fun n hn => by
    have h7 : (l.any fun n => decide (n < 0) || decide (c.most kd ≤ n)) = false := by simpa using h2
    have := List.any_eq_false.1 h7 n hn
    simp at this
    omega
  refine ⟨⟨?_⟩, h5⟩
  rcases hk with rfl | ⟨rfl, hl⟩
  · exact .inl ⟨rfl, x, l, rfl, ⟨h3, h4⟩, h5.symm, fun o ho => by
      have := h6 o ho
      rwa [show c.most 100 = (c.P.objectsV : Int) by unfold SC.most; rw [if_neg (by decide)]] at this⟩
  · obtain ⟨b, rfl⟩ : ∃ b, l = [b] := by
      match l, hl with
      | [b], _ => exact ⟨b, rfl⟩
    have := h6 b (List.mem_singleton.2 rfl)
    rw [show c.most 101 = (c.P.nodesV : Int) by unfold SC.most; rw [if_pos rfl]] at this
    exact .inr ⟨rfl, x, b, rfl, ⟨h3, h4⟩, h5.symm, this.1, this.2⟩
theorem push_ok {P : PP} {me k : Int} {s : SH} (h : s.Ok P me k) {x : NV} (hx : NOk P k x) (hm : x.to = me) : (s.push x).Ok P me k :=
  ⟨h.hnd, h.has, h.nnd, h.nxt, fun y hy => by
    rcases List.mem_append.1 hy with hy | hy
    · exact h.todo y hy
    · rw [List.mem_singleton.1 hy]; exact ⟨hx, hm⟩, h.out⟩
theorem push_phi (s : SH) (x : NV) : (s.push x).phi = s.phi + 1 := by
  unfold SH.phi SH.load SH.push
  simp only [List.length_append, List.length_singleton]
  omega
set_option maxRecDepth 100000 in
set_option maxHeartbeats 6400000 in
theorem shardtake_good (c : SC) (s : SH) (kd : Int) (v : Value) (x : Int) (l : List Int) (w : World) (G F : Nat → Prop) (g : Nat) (hS : ShAt w G F g c s) (hok : s.Ok c.P (c.me : Nat) (c.k : Nat)) (hv : IRow 0 w v (x :: l)) (hk : kd = 100 ∨ (kd = 101 ∧ l.length = 1)) (hb : c.bnd kd x l = true) (hl : l.length ≤ 1000) (hph : s.phi ≤ 500000000) :
    Calls Tryz.prog 31 #[.pointer (some ⟨g, 0, none⟩), .int .u8 kd, v] w fun e w' => ∃ (u : Value) (t : SH) (os : List N2) (F' : Nat → Prop), e = .returned (.tuple #[u, .nilIface]) ∧ Runs c.P (c.me : Nat) (c.k : Nat) (s.push ⟨(c.me : Nat), kd, x :: l⟩) t ∧ t.todo = [] ∧ ShAt w' G F' g c { t with out := [] } ∧ NotesR w' F' u t.out os ∧ (∀ b, F b → F' b) ∧ (∀ b, IsInt w' b → F' b) ∧ Keep (fun b => ¬ F b) w w' := by
  have HB := hid (shardbound_any c s kd v x l w G F g hS hv)
  obtain ⟨hno, hxm⟩ := bnd_ok hb hk
  have Hpo := hid (push_ok hok hno rfl)
  have Hld : Hid (s.load ≤ 500000000) := hid (Nat.le_trans (load_phi s) hph)
  have Hph := hid hph
  obtain ⟨a, cv, rfl⟩ := row_form hv
  obtain ⟨m1, m2, f1, f2, vt, vo, ts, os, h⟩ := hS
  have H0 := hid h
  have Hv := hid hv
  have Hl := hid hl
  rw [hb] at HB
  clear hok hv hb hph hno hxm h
  rcases hk with rfl | ⟨rfl, hl1⟩
  · obtain ⟨LL, hLL⟩ : ∃ LL, LL = x :: l := ⟨_, rfl⟩
    obtain ⟨NL, hNL⟩ : ∃ NL, NL = l.length + 1 := ⟨_, rfl⟩
    have HNL : Hid (LL.length = NL) := hid (by rw [hLL, hNL]; rfl)
    rw [← hLL] at HB Hpo Hv ⊢
    rw [HNL.out] at HB Hv ⊢
    have hlt : decide ((NL : Int) < 1) = false := decide_eq_false (by omega)
    have Hl2 : Hid (NL ≤ 1001) := hid (by have := Hl.out; omega)
    clear hLL hNL
    go_enter Tryz.func31, Tryz.ntmps31
    go_wp2_with fail
    refine HB.out.mono ?_
    intro e w2 hx
    obtain ⟨rfl, hx2⟩ := hx
    have HX2 := hid hx2
    have HS := hid (H0.out.ext hx2)
    have HvI := hid (IntsR.own (n0 := w2.heap.size) (own_ext Hv.out hx2) (Nat.le_refl _))
    clear HB hx2
    obtain ⟨aw, cw, hvt⟩ := HS.out.tq.form
    subst hvt
    have hXq : ∀ (b : Nat) (e : TypeId), (Value.slice aw s.todo.length cw).ownBlock = some b → 57 ≠ e → ∀ c, ¬ Blk w2 b c e := fun _ _ hb he c' hc => by
      obtain ⟨c'', hc'⟩ := HS.out.tblk hb
      exact off_of hc' he ⟨_, hc⟩
    have b10 := HS.out.blk.kc (X := fun q => (Value.slice aw s.todo.length cw).ownBlock = some q) (fun hb => hXq _ _ hb (by decide) _ HS.out.blk) 10 rfl
    have b4 := HS.out.blk.kc (X := fun q => (Value.slice aw s.todo.length cw).ownBlock = some q) (fun hb => hXq _ _ hb (by decide) _ HS.out.blk) 4 rfl
    simp only [shCells, qA0, qA1, qA2] at b10 b4
    have HXq := hid hXq
    clear hXq
    go_wp2
    refine wp_flowT (fun q => (Value.slice aw s.todo.length cw).ownBlock = some q) (by kernel_rfl) (by kernel_rfl) ?_
    repeat (apply FlowT.d; (intro w1 hk; unfold does; go_simp; (try go_ints); (first | exact DetR.mk | (simp only [↓IntWalk.iteOmega, Oper.doesUpon_value]; exact DetR.mk) | (simp only [↓IntWalk.iteOmega]; go_simp; (try go_ints); exact DetR.mk))); simp only [Act.put, qS0, qS1, qS2])
    refine FlowT.s (fun v' w' => (∃ a c, v' = .slice a NL c) ∧ IRow 0 w' v' LL ∧ Ext w2 w') 11 rfl (by kernel_rfl) (fun _ _ _ ⟨h1, h2, h3⟩ he => ⟨h1, own_ext h2 he, h3.trans he⟩) (fun w4 hC hk => ?_) ?_
    · unfold does
      go_simp
      refine CallR.act ((clone_big _ LL w4 w2.heap.size (HvI.out.old (hC.old _)) (by rw [HNL.out]; have := Hl2.out; omega)).mono ?_)
      rintro e w5 ⟨v', rfl, hx5, hr5⟩
      refine ⟨_, rfl, hk.trans (hx5.keep _), ?_, own_low hr5 (Nat.zero_le _), hC.trans hx5⟩
      have := row_form hr5
      rwa [HNL.out] at this
    rintro _ ⟨_, ⟨an, cn, rfl⟩, _, _⟩
    simp only [Act.put, qS0, qS1, qS2]
    repeat (apply FlowT.d; (intro w1 hk; unfold does; go_simp; (try go_ints); (first | exact DetR.mk | (simp only [↓IntWalk.iteOmega, Oper.doesUpon_value]; exact DetR.mk) | (simp only [↓IntWalk.iteOmega]; go_simp; (try go_ints); exact DetR.mk))); simp only [Act.put, qS0, qS1, qS2])
    refine FlowT.s (fun v' w' => ∃ q, v' = .slice (some ⟨q, 0, none⟩) 1 1 ∧ Blk w' q #[.int .i64 (c.me : Int), .int .u8 100, .slice an NL cn] 57 ∧ IRow 0 w' (.slice an NL cn) LL ∧ Ext w2 w') 13 rfl (by kernel_rfl) (fun _ _ _ ⟨q, h1, h2, h3, h4⟩ he => ⟨q, h1, h2.ext he, own_ext h3 he, h4.trans he⟩) (fun w4 hC hk => ?_) ?_
    · unfold does
      go_simp
      exact ⟨hk.alloc _, _, rfl, Blk.new _ _ _, own_ext hC.2.1 ((Ext.refl _).alloc _), hC.2.2.alloc _⟩
    rintro _ ⟨_, q3, rfl, _, _⟩
    simp only [Act.put, qS0, qS1, qS2]
    refine FlowT.s (fun v' w' => (∃ a c, v' = .slice a (s.todo.length + 1) c) ∧ OwnsQ w' 0 57 3 v' (s.todo.length + 1) (ts.flatMap N2.cells ++ N2.cells ⟨⟨(c.me : Int), 100, LL⟩, .slice an NL cn⟩) ∧ (∀ b, v'.ownBlock = some b → (Value.slice aw s.todo.length cw).ownBlock = some b ∨ w2.heap.size ≤ b) ∧ IRow 0 w' (.slice an NL cn) LL) 14 rfl (by kernel_rfl) (fun _ _ _ ⟨h1, h2, h3, h4⟩ he => ⟨h1, h2.ext he, h3, own_ext h4 he⟩) (fun w4 hC hk => ?_) ?_
    · obtain ⟨q', e, hg, hI, hE⟩ := hC
      obtain rfl : q3 = q' := by simpa using e
      refine does_append_q 0 (Nat.zero_le _) 48 57 (.agg #[.int .i64 0, .int .u8 0, .slice none 0 0]) 3 40 Tryz.underlying48 note_info rfl (by omega) (by omega) rfl _ _ rfl _ _ _ rfl (HS.out.tq.ext hE) q3 (N2.cells ⟨⟨(c.me : Int), 100, LL⟩, .slice an NL cn⟩) rfl (by simp [N2.cells, Value.oneCell']) rfl hg (by have := Hld.out; unfold SH.load at this; omega) fun v' w' h1 h2 h3 => ⟨hk.trans h2, h1.form, h1, fun b hb => (h3 b hb).imp id fun h => Nat.le_trans hE.size h, ?_⟩
      refine own_off hI h2 fun b hb => ?_
      obtain ⟨c', hc⟩ := (HS.out.tq.ext hE).ty hb |>.2
      exact off_of hc (by decide)
    rintro _ ⟨_, ⟨a9, c9, rfl⟩, _, _⟩
    simp only [Act.put, qS0, qS1, qS2]
    repeat (apply FlowT.d; (intro w1 hk; unfold does; go_simp; (try go_ints); (first | exact DetR.mk | (simp only [↓IntWalk.iteOmega, Oper.doesUpon_value]; exact DetR.mk) | (simp only [↓IntWalk.iteOmega]; go_simp; (try go_ints); exact DetR.mk))); simp only [Act.put, qS0, qS1, qS2])
    refine FlowT.last (fun _ w' => ShAt w' G F g c (s.push ⟨(c.me : Int), 100, LL⟩) ∧ Keep (fun b => ¬ F b) w w') 17 rfl (by kernel_rfl) (by kernel_rfl) (fun w5 hC hk => ?_) (fun _ w6 hR => ?_)
    · obtain ⟨_, hq, hob, hI⟩ := hC
      have q8 := b10 w5 hk
      have f8 := (HS.out.blk.keep hk fun hb => HXq.out _ _ hb (by decide) _ HS.out.blk).free 10
      unfold does
      go_simp
      refine ⟨⟨_, _, _, _, _, _, _, _, HS.out.setTodo hk (l := s.todo ++ [⟨(c.me : Int), 100, LL⟩]) (ts' := ts ++ [⟨⟨(c.me : Int), 100, LL⟩, .slice an NL cn⟩]) (by rw [List.map_append, HS.out.tn]; rfl) ?_ (fun x hx => ?_) hob⟩, ?_⟩
      · rw [List.length_append, List.flatMap_append]
        simpa using hq
      · rcases List.mem_append.1 hx with hx | hx
        · exact own_off (HS.out.tr x hx) hk fun b hb ⟨c', hc⟩ => HXq.out _ _ hb (by decide) c' hc
        · rw [List.mem_singleton.1 hx]; exact hI
      · exact (HX2.out.keep _).trans ((hk.mono fun b _ e => HS.out.own b (.inr (.inr (.inr (.inr (.inr (.inl e))))))).set (HS.out.own g (.inl rfl)) _)
    simp only [Act.put]
    obtain ⟨hS9, hK9⟩ := hR
    have HWk := hid (shardwork_any c (s.push ⟨(c.me : Int), 100, LL⟩) w6 G F g hS9 Hpo.out (by rw [push_phi]; have := Hph.out; omega))
    have HK9 := hid hK9
    clear hS9 hK9 b10 b4 HXq
    go_wp2_with fail
    refine HWk.out.mono ?_
    intro e w7 hx
    obtain ⟨u, t, os7, F', rfl, h1, h2, h3, h4, h5, h7, h6⟩ := hx
    have H := hid (And.intro h1 (And.intro h2 (And.intro h3 (And.intro h4 (And.intro h5 h7)))))
    have HK7 := hid (HK9.out.trans h6)
    clear HWk h1 h2 h3 h4 h5 h6 h7
    go_wp2
    go_ret2
    exact ⟨u, t, os7, F', rfl, H.out.1, H.out.2.1, H.out.2.2.1, H.out.2.2.2.1, H.out.2.2.2.2.1, H.out.2.2.2.2.2, HK7.out⟩
  · obtain ⟨LL, hLL⟩ : ∃ LL, LL = x :: l := ⟨_, rfl⟩
    have HNL : Hid (LL.length = 2) := hid (by rw [hLL, List.length_cons, hl1])
    rw [← hLL] at HB Hpo Hv ⊢
    rw [HNL.out] at HB Hv ⊢
    have Hl2 : Hid (2 ≤ 1001) := hid (by omega)
    clear hLL hl1
    go_enter Tryz.func31, Tryz.ntmps31
    go_wp2_with fail
    refine HB.out.mono ?_
    intro e w2 hx
    obtain ⟨rfl, hx2⟩ := hx
    have HX2 := hid hx2
    have HS := hid (H0.out.ext hx2)
    have HvI := hid (IntsR.own (n0 := w2.heap.size) (own_ext Hv.out hx2) (Nat.le_refl _))
    clear HB hx2
    obtain ⟨aw, cw, hvt⟩ := HS.out.tq.form
    subst hvt
    have hXq : ∀ (b : Nat) (e : TypeId), (Value.slice aw s.todo.length cw).ownBlock = some b → 57 ≠ e → ∀ c, ¬ Blk w2 b c e := fun _ _ hb he c' hc => by
      obtain ⟨c'', hc'⟩ := HS.out.tblk hb
      exact off_of hc' he ⟨_, hc⟩
    have b10 := HS.out.blk.kc (X := fun q => (Value.slice aw s.todo.length cw).ownBlock = some q) (fun hb => hXq _ _ hb (by decide) _ HS.out.blk) 10 rfl
    have b4 := HS.out.blk.kc (X := fun q => (Value.slice aw s.todo.length cw).ownBlock = some q) (fun hb => hXq _ _ hb (by decide) _ HS.out.blk) 4 rfl
    simp only [shCells, qA0, qA1, qA2] at b10 b4
    have HXq := hid hXq
    clear hXq
    go_wp2
    refine wp_flowT (fun q => (Value.slice aw s.todo.length cw).ownBlock = some q) (by kernel_rfl) (by kernel_rfl) ?_
    repeat (apply FlowT.d; (intro w1 hk; unfold does; go_simp; (try go_ints); (first | exact DetR.mk | (simp only [↓IntWalk.iteOmega, Oper.doesUpon_value]; exact DetR.mk) | (simp only [↓IntWalk.iteOmega]; go_simp; (try go_ints); exact DetR.mk))); simp only [Act.put, qS0, qS1, qS2])
    refine FlowT.s (fun v' w' => (∃ a c, v' = .slice a 2 c) ∧ IRow 0 w' v' LL ∧ Ext w2 w') 11 rfl (by kernel_rfl) (fun _ _ _ ⟨h1, h2, h3⟩ he => ⟨h1, own_ext h2 he, h3.trans he⟩) (fun w4 hC hk => ?_) ?_
    · unfold does
      go_simp
      refine CallR.act ((clone_big _ LL w4 w2.heap.size (HvI.out.old (hC.old _)) (by rw [HNL.out]; have := Hl2.out; omega)).mono ?_)
      rintro e w5 ⟨v', rfl, hx5, hr5⟩
      refine ⟨_, rfl, hk.trans (hx5.keep _), ?_, own_low hr5 (Nat.zero_le _), hC.trans hx5⟩
      have := row_form hr5
      rwa [HNL.out] at this
    rintro _ ⟨_, ⟨an, cn, rfl⟩, _, _⟩
    simp only [Act.put, qS0, qS1, qS2]
    repeat (apply FlowT.d; (intro w1 hk; unfold does; go_simp; (try go_ints); (first | exact DetR.mk | (simp only [↓IntWalk.iteOmega, Oper.doesUpon_value]; exact DetR.mk) | (simp only [↓IntWalk.iteOmega]; go_simp; (try go_ints); exact DetR.mk))); simp only [Act.put, qS0, qS1, qS2])
    refine FlowT.s (fun v' w' => ∃ q, v' = .slice (some ⟨q, 0, none⟩) 1 1 ∧ Blk w' q #[.int .i64 (c.me : Int), .int .u8 101, .slice an 2 cn] 57 ∧ IRow 0 w' (.slice an 2 cn) LL ∧ Ext w2 w') 13 rfl (by kernel_rfl) (fun _ _ _ ⟨q, h1, h2, h3, h4⟩ he => ⟨q, h1, h2.ext he, own_ext h3 he, h4.trans he⟩) (fun w4 hC hk => ?_) ?_
    · unfold does
      go_simp
      exact ⟨hk.alloc _, _, rfl, Blk.new _ _ _, own_ext hC.2.1 ((Ext.refl _).alloc _), hC.2.2.alloc _⟩
    rintro _ ⟨_, q3, rfl, _, _⟩
    simp only [Act.put, qS0, qS1, qS2]
    refine FlowT.s (fun v' w' => (∃ a c, v' = .slice a (s.todo.length + 1) c) ∧ OwnsQ w' 0 57 3 v' (s.todo.length + 1) (ts.flatMap N2.cells ++ N2.cells ⟨⟨(c.me : Int), 101, LL⟩, .slice an 2 cn⟩) ∧ (∀ b, v'.ownBlock = some b → (Value.slice aw s.todo.length cw).ownBlock = some b ∨ w2.heap.size ≤ b) ∧ IRow 0 w' (.slice an 2 cn) LL) 14 rfl (by kernel_rfl) (fun _ _ _ ⟨h1, h2, h3, h4⟩ he => ⟨h1, h2.ext he, h3, own_ext h4 he⟩) (fun w4 hC hk => ?_) ?_
    · obtain ⟨q', e, hg, hI, hE⟩ := hC
      obtain rfl : q3 = q' := by simpa using e
      refine does_append_q 0 (Nat.zero_le _) 48 57 (.agg #[.int .i64 0, .int .u8 0, .slice none 0 0]) 3 40 Tryz.underlying48 note_info rfl (by omega) (by omega) rfl _ _ rfl _ _ _ rfl (HS.out.tq.ext hE) q3 (N2.cells ⟨⟨(c.me : Int), 101, LL⟩, .slice an 2 cn⟩) rfl (by simp [N2.cells, Value.oneCell']) rfl hg (by have := Hld.out; unfold SH.load at this; omega) fun v' w' h1 h2 h3 => ⟨hk.trans h2, h1.form, h1, fun b hb => (h3 b hb).imp id fun h => Nat.le_trans hE.size h, ?_⟩
      refine own_off hI h2 fun b hb => ?_
      obtain ⟨c', hc⟩ := (HS.out.tq.ext hE).ty hb |>.2
      exact off_of hc (by decide)
    rintro _ ⟨_, ⟨a9, c9, rfl⟩, _, _⟩
    simp only [Act.put, qS0, qS1, qS2]
    repeat (apply FlowT.d; (intro w1 hk; unfold does; go_simp; (try go_ints); (first | exact DetR.mk | (simp only [↓IntWalk.iteOmega, Oper.doesUpon_value]; exact DetR.mk) | (simp only [↓IntWalk.iteOmega]; go_simp; (try go_ints); exact DetR.mk))); simp only [Act.put, qS0, qS1, qS2])
    refine FlowT.last (fun _ w' => ShAt w' G F g c (s.push ⟨(c.me : Int), 101, LL⟩) ∧ Keep (fun b => ¬ F b) w w') 17 rfl (by kernel_rfl) (by kernel_rfl) (fun w5 hC hk => ?_) (fun _ w6 hR => ?_)
    · obtain ⟨_, hq, hob, hI⟩ := hC
      have q8 := b10 w5 hk
      have f8 := (HS.out.blk.keep hk fun hb => HXq.out _ _ hb (by decide) _ HS.out.blk).free 10
      unfold does
      go_simp
      refine ⟨⟨_, _, _, _, _, _, _, _, HS.out.setTodo hk (l := s.todo ++ [⟨(c.me : Int), 101, LL⟩]) (ts' := ts ++ [⟨⟨(c.me : Int), 101, LL⟩, .slice an 2 cn⟩]) (by rw [List.map_append, HS.out.tn]; rfl) ?_ (fun x hx => ?_) hob⟩, ?_⟩
      · rw [List.length_append, List.flatMap_append]
        simpa using hq
      · rcases List.mem_append.1 hx with hx | hx
        · exact own_off (HS.out.tr x hx) hk fun b hb ⟨c', hc⟩ => HXq.out _ _ hb (by decide) c' hc
        · rw [List.mem_singleton.1 hx]; exact hI
      · exact (HX2.out.keep _).trans ((hk.mono fun b _ e => HS.out.own b (.inr (.inr (.inr (.inr (.inr (.inl e))))))).set (HS.out.own g (.inl rfl)) _)
    simp only [Act.put]
    obtain ⟨hS9, hK9⟩ := hR
    have HWk := hid (shardwork_any c (s.push ⟨(c.me : Int), 101, LL⟩) w6 G F g hS9 Hpo.out (by rw [push_phi]; have := Hph.out; omega))
    have HK9 := hid hK9
    clear hS9 hK9 b10 b4 HXq
    go_wp2_with fail
    refine HWk.out.mono ?_
    intro e w7 hx
    obtain ⟨u, t, os7, F', rfl, h1, h2, h3, h4, h5, h7, h6⟩ := hx
    have H := hid (And.intro h1 (And.intro h2 (And.intro h3 (And.intro h4 (And.intro h5 h7)))))
    have HK7 := hid (HK9.out.trans h6)
    clear HWk h1 h2 h3 h4 h5 h6 h7
    go_wp2
    go_ret2
    exact ⟨u, t, os7, F', rfl, H.out.1, H.out.2.1, H.out.2.2.1, H.out.2.2.2.1, H.out.2.2.2.2.1, H.out.2.2.2.2.2, HK7.out⟩
set_option maxRecDepth 100000 in
theorem shardnew_no (a1 a2 a3 : Option Addr) (c1 c2 c3 : Nat) (P : PP) (me kk : Int) (w : World) (n0 : Nat) (ad : Nat → Addr) (h : PS0 w n0 ad a1 a2 a3 c1 c2 c3 P) (hn0 : n0 ≤ w.heap.size) (hw : ¬ P.Well) :
    Calls Tryz.prog 27 #[pval a1 a2 a3 c1 c2 c3 P, .int .i64 me, .int .i64 kk] w fun e w' => ∃ t x, e = .returned (.tuple #[.pointer none, .slice none 0 0, .iface t (.pointer (some x))]) ∧ ErrIs ad P w' (.iface t (.pointer (some x))) ∧ Ext w w' := by
  obtain ⟨W, hW⟩ : ∃ W, W = w.alloc (.cells (pcells a1 a2 a3 c1 c2 c3 P) 26) := ⟨_, rfl⟩
  have HX : Hid (Ext w W) := hid (by rw [hW]; exact (Ext.refl _).alloc _)
  have HWe : Hid (W = w.alloc (.cells #[.slice a1 P.vars.length c1, .slice a2 P.funs.length c2, .slice a3 P.stmts.length c3] 26)) := hid (by rw [hW]; rfl)
  have hq := h.on hn0 HX.out
  have HC := hid (consof_no a1 a2 a3 c1 c2 c3 P W W.heap.size ad hq.errs hq.prog hq.z1 hq.z2 hw)
  unfold pval at HC ⊢
  clear hW h hq
  go_enter Tryz.func27, Tryz.ntmps27
  go_wp2_with fail
  rw [← HWe.out]
  refine HC.out.mono ?_
  intro e w1 hx
  obtain ⟨t, x, rfl, hi, hx1⟩ := hx
  have Hi := hid hi
  have Hx1 := hid (HX.out.trans hx1)
  clear HC hi hx1
  go_wp2
  go_ret3
  exact ⟨_, _, rfl, Hi.out, Hx1.out⟩
set_option maxRecDepth 100000 in
set_option maxHeartbeats 3200000 in
theorem shardnew_bound (a1 a2 a3 : Option Addr) (c1 c2 c3 : Nat) (P : PP) (me kk : Int) (w : World) (n0 : Nat) (ad : Nat → Addr) (h : PW w n0 ad a1 a2 a3 c1 c2 c3 P) (hb : kk < 1 ∨ 6 < kk ∨ me < 0 ∨ kk ≤ me) :
    Calls Tryz.prog 27 #[pval a1 a2 a3 c1 c2 c3 P, .int .i64 me, .int .i64 kk] w fun e w' => e = .returned (.tuple #[.pointer none, .slice none 0 0, evOf ad 2]) ∧ Ext w w' := by
  obtain ⟨W, hW⟩ : ∃ W, W = w.alloc (.cells (pcells a1 a2 a3 c1 c2 c3 P) 26) := ⟨_, rfl⟩
  have HX : Hid (Ext w W) := hid (by rw [hW]; exact (Ext.refl _).alloc _)
  have HWe : Hid (W = w.alloc (.cells #[.slice a1 P.vars.length c1, .slice a2 P.funs.length c2, .slice a3 P.stmts.length c3] 26)) := hid (by rw [hW]; rfl)
  have HC := hid (consof_yes a1 a2 a3 c1 c2 c3 P W n0 ad (h.ext HX.out))
  have he := h.errs.at2
  unfold evOf at he ⊢
  have He := hid he
  unfold pval at HC ⊢
  clear hW h he
  by_cases h1 : kk < 1
  · clear hb
    go_enter Tryz.func27, Tryz.ntmps27
    go_wp2_with fail
    rw [← HWe.out]
    refine HC.out.mono ?_
    intro e w1 hx
    obtain ⟨v, rs, rfl, hi, hx1⟩ := hx
    obtain ⟨av, cv, rfl⟩ := row_form hi.row
    have Hx1 := hid (HX.out.trans hx1)
    have e2 : ∀ w2, Keep (fun _ => False) w1 w2 → w2.cell? ⟨3, 0, none⟩ = some (.iface 282 (.pointer (some (ad 2)))) := fun w2 k => k.ext.cellx (Hx1.out.cellx He.out)
    clear HC hi hx1
    go_wp2
    refine wp_flowT (fun _ => False) (by kernel_rfl) (by kernel_rfl) ?_
    repeat (apply FlowT.d; (intro w1 hk; unfold does; go_simp; (try go_ints); (first | exact DetR.mk | (simp only [↓IntWalk.iteOmega, Oper.doesUpon_value]; exact DetR.mk) | (simp only [↓IntWalk.iteOmega]; go_simp; (try go_ints); exact DetR.mk))); simp only [Act.put, qS0, qS1, qS2])
    refine FlowT.fin fun w2 hx2 hk2 => ?_
    have Hx2 := hid (Hx1.out.trans hx2)
    clear hx2 hk2 e2
    go_wp2
    go_ret3
    exact ⟨rfl, Hx2.out⟩
  · by_cases h2 : 6 < kk
    · clear hb
      go_enter Tryz.func27, Tryz.ntmps27
      go_wp2_with fail
      rw [← HWe.out]
      refine HC.out.mono ?_
      intro e w1 hx
      obtain ⟨v, rs, rfl, hi, hx1⟩ := hx
      obtain ⟨av, cv, rfl⟩ := row_form hi.row
      have Hx1 := hid (HX.out.trans hx1)
      have e2 : ∀ w2, Keep (fun _ => False) w1 w2 → w2.cell? ⟨3, 0, none⟩ = some (.iface 282 (.pointer (some (ad 2)))) := fun w2 k => k.ext.cellx (Hx1.out.cellx He.out)
      clear HC hi hx1
      go_wp2
      refine wp_flowT (fun _ => False) (by kernel_rfl) (by kernel_rfl) ?_
      repeat (apply FlowT.d; (intro w1 hk; unfold does; go_simp; (try go_ints); (first | exact DetR.mk | (simp only [↓IntWalk.iteOmega, Oper.doesUpon_value]; exact DetR.mk) | (simp only [↓IntWalk.iteOmega]; go_simp; (try go_ints); exact DetR.mk))); simp only [Act.put, qS0, qS1, qS2])
      refine FlowT.fin fun w2 hx2 hk2 => ?_
      have Hx2 := hid (Hx1.out.trans hx2)
      clear hx2 hk2 e2
      go_wp2
      go_ret3
      exact ⟨rfl, Hx2.out⟩
    · by_cases h3 : me < 0
      · clear hb
        go_enter Tryz.func27, Tryz.ntmps27
        go_wp2_with fail
        rw [← HWe.out]
        refine HC.out.mono ?_
        intro e w1 hx
        obtain ⟨v, rs, rfl, hi, hx1⟩ := hx
        obtain ⟨av, cv, rfl⟩ := row_form hi.row
        have Hx1 := hid (HX.out.trans hx1)
        have e2 : ∀ w2, Keep (fun _ => False) w1 w2 → w2.cell? ⟨3, 0, none⟩ = some (.iface 282 (.pointer (some (ad 2)))) := fun w2 k => k.ext.cellx (Hx1.out.cellx He.out)
        clear HC hi hx1
        go_wp2
        refine wp_flowT (fun _ => False) (by kernel_rfl) (by kernel_rfl) ?_
        repeat (apply FlowT.d; (intro w1 hk; unfold does; go_simp; (try go_ints); (first | exact DetR.mk | (simp only [↓IntWalk.iteOmega, Oper.doesUpon_value]; exact DetR.mk) | (simp only [↓IntWalk.iteOmega]; go_simp; (try go_ints); exact DetR.mk))); simp only [Act.put, qS0, qS1, qS2])
        refine FlowT.fin fun w2 hx2 hk2 => ?_
        have Hx2 := hid (Hx1.out.trans hx2)
        clear hx2 hk2 e2
        go_wp2
        go_ret3
        exact ⟨rfl, Hx2.out⟩
      · have h4 : kk ≤ me := by omega
        clear hb
        go_enter Tryz.func27, Tryz.ntmps27
        go_wp2_with fail
        rw [← HWe.out]
        refine HC.out.mono ?_
        intro e w1 hx
        obtain ⟨v, rs, rfl, hi, hx1⟩ := hx
        obtain ⟨av, cv, rfl⟩ := row_form hi.row
        have Hx1 := hid (HX.out.trans hx1)
        have e2 : ∀ w2, Keep (fun _ => False) w1 w2 → w2.cell? ⟨3, 0, none⟩ = some (.iface 282 (.pointer (some (ad 2)))) := fun w2 k => k.ext.cellx (Hx1.out.cellx He.out)
        clear HC hi hx1
        go_wp2
        refine wp_flowT (fun _ => False) (by kernel_rfl) (by kernel_rfl) ?_
        repeat (apply FlowT.d; (intro w1 hk; unfold does; go_simp; (try go_ints); (first | exact DetR.mk | (simp only [↓IntWalk.iteOmega, Oper.doesUpon_value]; exact DetR.mk) | (simp only [↓IntWalk.iteOmega]; go_simp; (try go_ints); exact DetR.mk))); simp only [Act.put, qS0, qS1, qS2])
        refine FlowT.fin fun w2 hx2 hk2 => ?_
        have Hx2 := hid (Hx1.out.trans hx2)
        clear hx2 hk2 e2
        go_wp2
        go_ret3
        exact ⟨rfl, Hx2.out⟩
theorem wait_in {P : PP} {S : List (List Int)} {s : SV} (hg : P.GoodS S) (h : Core P S s) : ∀ f ∈ s.wait, (0 ≤ f.1 ∧ f.1 < P.nodesV) ∧ (0 ≤ f.2 ∧ f.2 < P.objectsV) := fun f hf => by
  have hfw := h.wait f hf
  have hlen := hg.2.1
  have hin : f.2 ∈ S.getD f.1.toNat [] := hfw.2
  rw [List.getD_eq_getElem?_getD, List.getElem?_eq_getElem (show f.1.toNat < S.length by omega)] at hin
  have hk := hg.ok.ok _ (List.getElem_mem (show f.1.toNat < S.length by omega))
  exact ⟨hfw.1, ((chkE_zero.1 hk.1).1 _ hin).1, hk.2 _ hin⟩
def lenAt (w : World) (g : Nat) : Nat := match w.cell? ⟨g, 8, none⟩ with
  | some (.slice _ n _) => n
  | _ => 0
def SV.ask (P : PP) (f : Int × Int) (s : SV) (r : RV) : SV := bif r.fired && decide (r.pivot = f.1) then s.fire P r f.2 else s
def SV.told1 (s : SV) (f : Int × Int) : SV := { s with wait := s.wait ++ (s.succ f.1).map fun t => (t, f.2) }
theorem came_ask (P : PP) (s : SV) (f : Int × Int) : s.came P f = s.rules.foldl (SV.ask P f) (s.told1 f) := rfl
theorem ask_step {P : PP} {S : List (List Int)} (hg : P.GoodS S) (hc : ClosedP P S) {f : Int × Int} (hf : f.2 ∈ S.getD f.1.toNat []) {s : SV} (h : Core P S s) (hb : s.Bnd P) {r : RV} (hr : r ∈ P.rulesV) :
    Core P S (s.ask P f r) ∧ (s.ask P f r).Bnd P ∧ (s.ask P f r).rules = s.rules := by
  unfold SV.ask
  cases h1 : (r.fired && decide (r.pivot = f.1)) with
  | false => exact ⟨h, hb, rfl⟩
  | true =>
    rw [Bool.and_eq_true] at h1
    have hp := of_decide_eq_true h1.2
    have ho : f.2 ∈ S.getD r.pivot.toNat [] := by rw [hp]; exact hf
    obtain ⟨k1, _, k3, _⟩ := h.fire hg hc hr h1.1 ho
    exact ⟨k1, bnd_fire hg hc h hb hr h1.1 ho, k3⟩
section
variable {P : PP} {S : List (List Int)} {s : SV}
theorem asks_fold (hg : P.GoodS S) (hc : ClosedP P S) {f : Int × Int} (hf : f.2 ∈ S.getD f.1.toNat []) : ∀ (l : List RV) {s : SV}, Core P S s → s.Bnd P → (∀ r ∈ l, r ∈ P.rulesV) → Core P S (l.foldl (SV.ask P f) s) ∧ (l.foldl (SV.ask P f) s).Bnd P ∧ (l.foldl (SV.ask P f) s).rules = s.rules
  | [], _, h, b, _ => ⟨h, b, rfl⟩
  | r :: l, _, h, b, hr => by
    obtain ⟨k1, k2, k3⟩ := ask_step hg hc hf h b (hr r List.mem_cons_self)
    obtain ⟨j1, j2, j3⟩ := asks_fold hg hc hf l k1 k2 fun q hq => hr q (List.mem_cons_of_mem _ hq)
    exact ⟨j1, j2, j3.trans k3⟩
theorem wait_fact (hg : P.GoodS S) (h : Full P S s) {f : Int × Int} {r : List (Int × Int)} (hw : s.wait = f :: r) : ((0 ≤ f.1 ∧ f.1 < P.nodesV) ∧ f.2 ∈ S.getD f.1.toNat []) ∧ 0 ≤ f.2 ∧ f.2 < P.objectsV := by
  have hm : f ∈ s.wait := by rw [hw]; exact List.mem_cons_self
  exact ⟨h.core.wait f hm, (wait_in hg h.core f hm).2⟩
theorem mark_tot (hg : P.GoodS S) (h : Full P S s) (hr : s.ready) {f : Int × Int} {r : List (Int × Int)} (hw : s.wait = f :: r) : (s.mark f).tot P = s.tot P + 1 := by
  obtain ⟨hf, h2⟩ := wait_fact hg h hw
  have hl1 : f.1.toNat < s.has.length := by rw [h.core.len]; omega
  refine tot_mark h.core.len hf.1 ⟨h2.1, ?_⟩ (hr f r hw)
  rw [List.getD_eq_getElem?_getD, List.getElem?_eq_getElem hl1]
  have := h.core.row _ (List.getElem_mem hl1)
  show f.2.toNat < (s.has[f.1.toNat]).length
  omega
theorem told1_bnd (hg : P.GoodS S) (h : Full P S s) (b : s.Bnd P) (hr : s.ready) {f : Int × Int} {r : List (Int × Int)} (hw : s.wait = f :: r) : ((s.mark f).told1 f).Bnd P := by
  have e : ((s.mark f).told1 f).tot P = s.tot P + 1 := by rw [← mark_tot hg h hr hw]; exact tot_has rfl
  refine ⟨b.nd, b.ru, ?_⟩
  rw [e]
  have h1 : (s.succ f.1).length ≤ 14400 := Nat.le_trans (succ_few s f.1) (h.core.edges_few hg.1 b.nd)
  have h2 := b.le
  show (s.wait ++ (s.succ f.1).map fun t => (t, f.2)).length ≤ s.rules.length + s.edges.length * P.objectsV + _
  rw [List.length_append, List.length_map]
  omega
theorem bnd_came (hg : P.GoodS S) (hc : ClosedP P S) (h : Full P S s) (b : s.Bnd P) (hr : s.ready) {f : Int × Int} {r : List (Int × Int)} (hw : s.wait = f :: r) : ((s.mark f).came P f).Bnd P := by
  obtain ⟨hf, h2⟩ := wait_fact hg h hw
  rw [came_ask]
  exact (asks_fold hg hc hf.2 _ (h.marked hg hf h2) (told1_bnd hg h b hr hw) fun q hq => h.of q hq).2.1
theorem bnd_clean (b : s.Bnd P) : s.clean.Bnd P := by
  refine ⟨b.nd, b.ru, ?_⟩
  rw [tot_has (clean_has s)]
  refine Nat.le_trans ?_ b.le
  exact (List.dropWhile_suffix s.bit).length_le
theorem bnd_one (hg : P.GoodS S) (hc : ClosedP P S) (h : Full P S s) (b : s.Bnd P) (hr : s.ready) : (s.one P).Bnd P := by
  cases hw : s.wait with
  | nil =>
    have e : s.one P = s := by unfold SV.one; rw [hw]
    rw [e]; exact b
  | cons f r =>
    have e : s.one P = ((s.mark f).came P f).clean := by unfold SV.one; rw [hw]
    rw [e]
    exact bnd_clean (bnd_came hg hc h b hr hw)
def SV.step (P : PP) (s : SV) (n : Int) : SV × Nat := s.clean.steps P n.toNat
theorem steps_nil (P : PP) : ∀ (k : Nat) {s : SV}, s.wait = [] → s.steps P k = (s, 0)
  | 0, _, _ => rfl
  | k + 1, _, h => by unfold SV.steps; rw [h]
theorem steps_cons (P : PP) (k : Nat) {s : SV} {f : Int × Int} {r : List (Int × Int)} (h : s.wait = f :: r) : s.steps P (k + 1) = (((s.one P).steps P k).1, ((s.one P).steps P k).2 + 1) := by
  conv => lhs; unfold SV.steps
  rw [h]
theorem steps_bnd (hg : P.GoodS S) (hc : ClosedP P S) : ∀ (k : Nat) {s : SV}, Full P S s → s.Bnd P → s.ready → (s.steps P k).1.Bnd P
  | 0, _, _, b, _ => b
  | k + 1, s, h, b, hr => by
    cases hw : s.wait with
    | nil => rw [steps_nil P _ hw]; exact b
    | cons f r =>
      rw [steps_cons P k hw]
      obtain ⟨k1, k2, _⟩ := h.one hg hc hr hw
      exact steps_bnd hg hc k k1 (bnd_one hg hc h b hr) k2
structure SolvOk (P : PP) (S : List (List Int)) (s : SV) : Prop where
  full : Full P S s
  bnd : s.Bnd P
theorem SolvOk.clean (h : SolvOk P S s) : SolvOk P S s.clean := ⟨h.full.cleaned, bnd_clean h.bnd⟩
theorem SolvOk.step (hg : P.GoodS S) (hc : ClosedP P S) (h : SolvOk P S s) (n : Int) :
    SolvOk P S (s.step P n).1 ∧ (s.step P n).1.ready ∧ (s.step P n).1.rules = s.rules ∧ (s.step P n).1.tot P = s.tot P + (s.step P n).2 ∧ (s.step P n).2 ≤ n.toNat ∧ ((s.step P n).2 < n.toNat → (s.step P n).1.wait = []) := by
  obtain ⟨k1, k2, k3, k4, k5, k6⟩ := steps_keep hg hc n.toNat h.full.cleaned (clean_ready s)
  exact ⟨⟨k1, steps_bnd hg hc _ h.full.cleaned (bnd_clean h.bnd) (clean_ready s)⟩, k2, k3, by rw [← tot_has (clean_has s)]; exact k4, k5, k6⟩
end
def SV.hasL (P : PP) (s : SV) (n : Int) : List Int := if n < 0 ∨ (P.nodesV : Int) ≤ n then [] else s.objs n
theorem Core.push {P : PP} {S : List (List Int)} {s : SV} (h : Core P S s) {r : RV} (n1 : r.kind.toList ≠ bBase.toList) (n2 : r.kind.toList ≠ kCopy) : Core P S { s with rules := s.rules ++ [r] } :=
  ⟨h.len, h.row, h.wait, h.bit, h.edge, h.along, fun q hq hk => by
      rcases List.mem_append.1 hq with hq | hq
      · exact h.base q hq hk
      · obtain rfl := List.mem_singleton.1 hq
        exact absurd hk n1, fun q hq hk => by
      rcases List.mem_append.1 hq with hq | hq
      · exact h.copy q hq hk
      · obtain rfl := List.mem_singleton.1 hq
        exact absurd hk n2⟩
theorem bnd_push {P : PP} {s : SV} (b : s.Bnd P) (r : RV) (h : s.rules.length < 80) : SV.Bnd P { s with rules := s.rules ++ [r] } := by
  have h1 := b.le
  refine ⟨b.nd, by simp only [List.length_append, List.length_singleton]; omega, ?_⟩
  have e : SV.tot P { s with rules := s.rules ++ [r] } = s.tot P := tot_has rfl
  rw [e]
  simp only [List.length_append, List.length_singleton]
  omega
theorem bnd_fires {P : PP} {S : List (List Int)} (hg : P.GoodS S) (hc : ClosedP P S) {r : RV} (hr : r ∈ P.rulesV) (hf : r.fired = true) : ∀ (l : List Int) {s : SV}, Core P S s → s.Bnd P → (∀ o ∈ l, o ∈ S.getD r.pivot.toNat []) → (l.foldl (fun s o => s.fire P r o) s).Bnd P
  | [], _, _, b, _ => b
  | o :: l, _, h, b, hs => bnd_fires hg hc hr hf l (h.fire hg hc hr hf (hs o List.mem_cons_self)).1 (bnd_fire hg hc h b hr hf (hs o List.mem_cons_self)) fun q hq => hs q (List.mem_cons_of_mem _ hq)
theorem bnd_add {P : PP} {S : List (List Int)} {s : SV} (hg : P.GoodS S) (hc : ClosedP P S) (h : Full P S s) (b : s.Bnd P) {r : RV} (hr : r ∈ P.rulesV) (h80 : s.rules.length < 80) : (s.add P r).Bnd P := by
  unfold SV.add
  cases h1 : (r.kind.toList == bBase.toList) with
  | true =>
    rw [cond_true]
    have h2 := b.le
    refine ⟨b.nd, by simp only [List.length_append, List.length_singleton]; omega, ?_⟩
    have e : SV.tot P { s with rules := s.rules ++ [r], wait := s.wait ++ [(r.a, r.b)] } = s.tot P := tot_has rfl
    rw [e]
    simp only [List.length_append, List.length_singleton]
    omega
  | false =>
  have n1 : r.kind.toList ≠ bBase.toList := fun e => by rw [e] at h1; simp at h1
  rw [cond_false]
  have hb := bnd_push b r h80
  cases h2 : (r.kind.toList == kCopy) with
  | true =>
    rw [cond_true]
    have hm : SV.edge { s with rules := s.rules ++ [r] } (r.a, r.b) = { s.edge (r.a, r.b) with rules := s.rules ++ [r] } := by unfold SV.edge; split <;> rfl
    have := (b.edgeTo h.core (r.a, r.b))
    rw [hm]
    have h5 := bnd_push (s := s.edge (r.a, r.b)) this r (by rw [edge_rules]; exact h80)
    rw [edge_rules] at h5
    exact h5
  | false =>
  have n2 : r.kind.toList ≠ kCopy := fun e => by rw [e] at h2; simp at h2
  have hf : r.fired = true := by
    rcases rule_kinds hg.1 hr with g | g | g
    · exact absurd g n1
    · exact absurd g n2
    · exact g
  rw [cond_false]
  refine bnd_fires hg hc hr hf _ (h.core.push n1 n2) hb fun o ho => ?_
  obtain ⟨h0, hb⟩ := mem_objs.1 ho
  exact h.core.bit (r.pivot, o) hb h0
theorem SolvOk.add {P : PP} {S : List (List Int)} {s : SV} (hg : P.GoodS S) (hc : ClosedP P S) (h : SolvOk P S s) {r : RV} (hr : r ∈ P.rulesV) (h80 : s.rules.length < 80) : SolvOk P S (s.add P r) := ⟨(h.full.added hg hc hr).1, bnd_add hg hc h.full h.bnd hr h80⟩
end Go.Proofs.YtbagppdibncfdaaGreatDoor
