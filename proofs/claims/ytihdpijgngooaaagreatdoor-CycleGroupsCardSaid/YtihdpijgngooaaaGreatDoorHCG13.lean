/- Texts of one proof, put together: YE YF YH YL YR YI S5 YW YJ. -/
import Derived.Test.YtihdpijgngooaaaGreatDoorHCG11
import Derived.Test.YtihdpijgngooaaaGreatDoorHCG12
import Derived.Sort.Grow
import Derived.Deep.Draws
import Derived.Laws.StructEq
import Derived.Test.YtihdpijgngooaaaGreatDoorProg
import Derived.Shelf.SlSortCmp.NoneTotal
import Derived.Test.YtihdpijgngooaaaGreatDoorHCG01
set_option linter.unusedSimpArgs false
set_option linter.unusedVariables false
namespace Go.Proofs.YtihdpijgngooaaaGreatDoor
open Go Go.RowKit
set_option maxRecDepth 100000 in
set_option maxHeartbeats 1600000 in
theorem cmpor_any (g : Nat) (x y : Int) (w : World) (hB : Blk w g #[.int .i64 x, .int .i64 y] 3) :
    Calls Tryz.prog 99 #[.slice (some ⟨g, 0, none⟩) 2 2] w fun e w' => e = .returned (.int .i64 (if x = 0 then y else x)) ∧ w = w' := by
  have c0 := hB.av 0 rfl
  have c1 := hB.av 1 rfl
  simp only [qA0, qA1, qA2] at c0 c1
  clear hB
  by_cases hx : x = 0
  · subst hx
    by_cases hy : y = 0
    · subst hy
      go_enter Tryz.func99, Tryz.ntmps99
      go_wp2
      go_loop [8] (fun t8 => ∃ k : Nat, t8 = .int .i64 (k : Int) ∧ (k = 0 ∨ k = 1 ∨ k = 2)) (fun t8 => 2 - (intOf t8).toNat)
      case atStart => exact ⟨0, rfl, .inl rfl⟩
      case round =>
        obtain ⟨k, rfl, rfl | rfl | rfl⟩ := hrel
        · go_wp2
          exact ⟨⟨1, rfl, .inr (.inl rfl)⟩, by simp [intOf]⟩
        · go_wp2
          exact ⟨⟨2, rfl, .inr (.inr rfl)⟩, by simp [intOf]⟩
        · go_wp2
          go_ret
          exact ⟨rfl, rfl⟩
    · have hy1 : (y != 0) = true := bne_iff_ne.2 hy
      have hr : Hid ((if (0 : Int) = 0 then y else 0) = y) := hid (if_pos rfl)
      go_enter Tryz.func99, Tryz.ntmps99
      go_wp2
      go_loop [8] (fun t8 => ∃ k : Nat, t8 = .int .i64 (k : Int) ∧ (k = 0 ∨ k = 1)) (fun t8 => 2 - (intOf t8).toNat)
      case atStart => exact ⟨0, rfl, .inl rfl⟩
      case round =>
        obtain ⟨k, rfl, rfl | rfl⟩ := hrel
        · go_wp2
          exact ⟨⟨1, rfl, .inr rfl⟩, by simp [intOf]⟩
        · go_wp2
          go_ret
          exact ⟨rfl, rfl⟩
  · have hx1 : (x != 0) = true := bne_iff_ne.2 hx
    have hr : Hid ((if x = 0 then y else x) = x) := hid (if_neg hx)
    go_enter Tryz.func99, Tryz.ntmps99
    go_wp2
    go_loop [8] (fun t8 => t8 = .int .i64 0) (fun _ => 0)
    case atStart => exact rfl
    case round =>
      obtain rfl := hrel
      go_wp2
      go_ret
      exact ⟨rfl, rfl⟩
def eCmp (a b : Int × Int) : Int := if a.1 - b.1 = 0 then a.2 - b.2 else a.1 - b.1
set_option maxRecDepth 100000 in
set_option maxHeartbeats 1600000 in
theorem consedgesc2_grow (a b : Int × Int) (w : World) (ha : 0 ≤ a.1 ∧ a.1 < 1000 ∧ 0 ≤ a.2 ∧ a.2 < 1000) (hb : 0 ≤ b.1 ∧ b.1 < 1000 ∧ 0 ≤ b.2 ∧ b.2 < 1000) :
    Calls Tryz.prog 98 #[eVal a, eVal b] w fun r w' => r = .returned (.int .i64 (eCmp a b)) ∧ ∃ os, w' = Sort.grow (w.drewN 0) os := by
  obtain ⟨a1, a2⟩ := a
  obtain ⟨b1, b2⟩ := b
  simp only at ha hb
  obtain ⟨h1, h2, h3, h4⟩ := ha
  obtain ⟨h5, h6, h7, h8⟩ := hb
  unfold eVal
  obtain ⟨W1, hW1⟩ : ∃ W1, W1 = w.alloc (.cells #[.int .i64 a1, .int .i64 a2] 95) := ⟨_, rfl⟩
  obtain ⟨W2, hW2⟩ : ∃ W2, W2 = W1.alloc (.cells #[.int .i64 b1, .int .i64 b2] 95) := ⟨_, rfl⟩
  obtain ⟨W3, hW3⟩ : ∃ W3, W3 = W2.alloc (.cells #[.int .i64 (a1 - b1), .int .i64 (a2 - b2)] 3) := ⟨_, rfl⟩
  have hx : ∃ os, W3 = Sort.grow (w.drewN 0) os := ⟨_, by rw [hW3, hW2, hW1, Sort.alloc_eq_grow, Sort.alloc_eq_grow, Sort.alloc_eq_grow, Sort.grow_grow, Sort.grow_grow]; rfl⟩
  have s1 : W1.heap.size = w.heap.size + 1 := by rw [hW1, heap_size_alloc]
  have s2 : W2.heap.size = w.heap.size + 1 + 1 := by rw [hW2, heap_size_alloc, s1]
  have HC := hid (cmpor_any (w.heap.size + 1 + 1) (a1 - b1) (a2 - b2) W3 (by rw [← s2, hW3]; exact Blk.new _ _ _))
  obtain ⟨d, hd⟩ : ∃ d, d = (if a1 - b1 = 0 then a2 - b2 else a1 - b1) := ⟨_, rfl⟩
  have Hd : Hid (eCmp (a1, a2) (b1, b2) = d) := hid (by rw [hd]; rfl)
  rw [← hd] at HC
  have HW : Hid (W3 = ((w.alloc (.cells #[.int .i64 a1, .int .i64 a2] 95)).alloc (.cells #[.int .i64 b1, .int .i64 b2] 95)).alloc (.cells #[.int .i64 (a1 - b1), .int .i64 (a2 - b2)] 3)) := hid (by rw [hW3, hW2, hW1])
  have Hx := hid hx
  clear hW1 hW2 hW3 s1 s2 hx hd
  go_enter Tryz.func98, Tryz.ntmps98
  go_wp2_with fail
  rw [← HW.out]
  refine HC.out.mono ?_
  intro e w2 hx
  obtain ⟨rfl, rfl⟩ := hx
  clear HC
  go_wp2
  go_ret
  exact ⟨by rw [Hd.out]; rfl, Hx.out⟩
set_option maxRecDepth 100000 in
@[go_sem high] theorem eql_edge (w : World) (a b c d : Int) :
    (binOp .eql 95 (.agg #[.int .i64 a, .int .i64 b]) (.agg #[.int .i64 c, .int .i64 d])).run Tryz.prog w = .ok (.bool (a == c && b == d)) w := by
  have hS : Tryz.prog.underlying 95 = some (.struct (Tryz.prog.fieldsOf 95)) := by kernel_rfl
  have hp : Tryz.prog.stoodInHeld 95 = false := by kernel_rfl
  rw [run_eql_struct, show (10000 : Nat) = 9999 + 1 from rfl, run_equalIn_agg w 9999 95 _ _ hS hp]
  simp only [Program.fieldsOf, Tryz.underlying95]
  go_simp
  by_cases h1 : a = c <;> by_cases h2 : b = d <;> simp [h1, h2]
set_option maxRecDepth 100000 in
@[go_sem high] theorem neq_edge (w : World) (a b c d : Int) :
    (binOp .neq 95 (.agg #[.int .i64 a, .int .i64 b]) (.agg #[.int .i64 c, .int .i64 d])).run Tryz.prog w = .ok (.bool (a != c || b != d)) w := by
  have hS : Tryz.prog.underlying 95 = some (.struct (Tryz.prog.fieldsOf 95)) := by kernel_rfl
  have hp : Tryz.prog.stoodInHeld 95 = false := by kernel_rfl
  rw [run_neq_struct, show (10000 : Nat) = 9999 + 1 from rfl, run_equalIn_agg w 9999 95 _ _ hS hp]
  simp only [Program.fieldsOf, Tryz.underlying95]
  go_simp
  by_cases h1 : a = c <;> by_cases h2 : b = d <;> simp [h1, h2]
set_option maxRecDepth 100000 in
set_option maxHeartbeats 3200000 in
theorem ecompact_any (lv : Value) (l : List (Int × Int)) (w0 w : World) (n0 : Nat) (hx0 : Ext w0 w) (hb0 : w0.heap.size ≤ n0) (hr : ERow n0 w lv l) (hfew : l.length ≤ 100000) :
    Calls Tryz.prog 100 #[lv] w fun e w' => ∃ lv', e = .returned lv' ∧ ERow n0 w' lv' (Lib.compact l) ∧ Ext w0 w' := by
  unfold ERow at hr
  obtain ⟨a, c, rfl⟩ := row_form hr
  have Hr := hid hr
  have Hx0 := hid hx0
  have Hb0 := hid hb0
  clear hr hx0 hb0
  by_cases h2 : l.length < 2
  · have Hc : Hid (Lib.compact l = l) := hid (Lib.compact_all l fun j hj => by
      have : j = 0 := by omega
      subst this
      simp [Lib.keeps])
    go_enter Tryz.func100, Tryz.ntmps100
    go_wp2
    go_ret
    exact ⟨_, rfl, by rw [Hc.out]; exact Hr.out, Hx0.out⟩
  · obtain ⟨g, cp, he⟩ := own_some Hr.out (by omega)
    simp only [Value.slice.injEq, true_and] at he
    obtain ⟨rfl, rfl⟩ := he
    go_enter Tryz.func100, Tryz.ntmps100
    go_wp2
    go_loopw [3] (fun t3 wr => ∃ k : Nat, t3 = .int .i64 (k : Int) ∧ 1 ≤ k ∧ k ≤ l.length ∧ (∀ j, j < k → Lib.keeps l.toArray j = true) ∧ Ext w wr) (fun t3 _ => l.length - (intOf t3).toNat)
    case atStart => exact ⟨1, rfl, Nat.le_refl _, by omega, fun j hj => (by obtain rfl : j = 0 := by omega
                                                                            simp [Lib.keeps]), Ext.refl _⟩
    case round =>
      obtain ⟨k, rfl, hk1, hk, hp, hx⟩ := hrel
      have Hp := hid hp
      have Hx := hid hx
      clear hp hx
      by_cases hlt : k < l.length
      · obtain ⟨p, hpk⟩ : ∃ p, l[k - 1]? = some p := ⟨_, List.getElem?_eq_getElem (by omega)⟩
        obtain ⟨q, hqk⟩ : ∃ q, l[k]? = some q := ⟨_, List.getElem?_eq_getElem hlt⟩
        have Hkeep : Hid (Lib.keeps l.toArray k = decide (q ≠ p)) := hid (by
          unfold Lib.keeps
          rw [show l.toArray[k]! = q by simp [hqk], show l.toArray[k - 1]! = p by simp [hpk]]
          have : k ≠ 0 := by omega
          simp [this])
        obtain ⟨p0, p1⟩ := own_e (own_ext Hr.out Hx.out) hpk
        obtain ⟨q0, q1⟩ := own_e (own_ext Hr.out Hx.out) hqk
        have c0 : ∀ w1, Keep (fun _ => False) wr w1 → w1.cell? ⟨g, (k - 1) * 2, none⟩ = some (.int .i64 p.1) := fun w1 kk => kk.ext.cellx p0
        have c1 : ∀ w1, Keep (fun _ => False) wr w1 → w1.cell? ⟨g, (k - 1) * 2 + 1, none⟩ = some (.int .i64 p.2) := fun w1 kk => kk.ext.cellx p1
        have c2 : ∀ w1, Keep (fun _ => False) wr w1 → w1.cell? ⟨g, k * 2, none⟩ = some (.int .i64 q.1) := fun w1 kk => kk.ext.cellx q0
        have c3 : ∀ w1, Keep (fun _ => False) wr w1 → w1.cell? ⟨g, k * 2 + 1, none⟩ = some (.int .i64 q.2) := fun w1 kk => kk.ext.cellx q1
        clear hpk hqk p0 p1 q0 q1
        go_wp2
        refine wp_flowT (fun _ => False) (by kernel_rfl) (by kernel_rfl) ?_
        repeat (apply FlowT.d; (intro w1 hk; unfold does; go_simp; (try go_ints); (first | exact DetR.mk | (simp only [↓IntWalk.iteOmega, Oper.doesUpon_value]; exact DetR.mk) | (simp only [↓IntWalk.iteOmega]; go_simp; (try go_ints); exact DetR.mk))); simp only [Act.put, qS0, qS1, qS2])
        refine FlowT.fin fun w1 hx1 hk1 => ?_
        have Hx1 := hid (Hx.out.trans hx1)
        clear hx1 hk1 c0 c1 c2 c3
        by_cases hqp : q = p
        · rw [show (q.1 == p.1 && q.2 == p.2) = true by rw [hqp]; simp]
          have Hdup : Hid (Lib.keeps l.toArray k = false) := hid (by rw [Hkeep.out, hqp]; simp)
          clear hqp Hkeep
          have Hr1 := hid (own_ext Hr.out Hx1.out)
          obtain ⟨_, _, hbase, hcap, hmx, _⟩ := own_blk Hr1.out
          have Hbase := hid hbase
          have hmx' : (c : Int) ≤ 9223372036854775807 := by unfold maxLen at hmx; omega
          have hcl : (l.length : Int) ≤ (c : Int) := by omega
          clear hbase hcap hmx
          go_wp2
          go_loopw [3, 5] (fun t3 t5 wq => ∃ (k1 j : Nat) (R : List (Int × Int)), t3 = .int .i64 (k1 : Int) ∧ t5 = .int .i64 (j : Int) ∧ 1 ≤ j ∧ k + j ≤ l.length ∧ R.length = l.length ∧ Lib.CompInv l.toArray (k + j) k1 R.toArray ∧
            wq.ownsRow n0 95 2 (.slice (some ⟨g, 0, none⟩) l.length c) l.length (R.flatMap eCells) ∧ Ext w0 wq) (fun _ t5 _ => l.length - (intOf t5).toNat)
          case atStart => exact ⟨k, 1, l, rfl, rfl, Nat.le_refl _, by omega, rfl, Lib.CompInv.start Hp.out Hdup.out, Hr1.out, Hx0.out.trans Hx1.out⟩
          case round =>
            obtain ⟨k1, j, R, rfl, rfl, hj1, hj, hRl, hinv, hrow, hxq⟩ := hrel
            have HRl := hid hRl
            have Hinv := hid hinv
            have Hrow := hid hrow
            have Hxq := hid hxq
            clear hRl hinv hrow hxq
            by_cases hlt2 : k + j < l.length
            · obtain ⟨p2, hpk⟩ : ∃ p2, l[k + j - 1]? = some p2 := ⟨_, List.getElem?_eq_getElem (by omega)⟩
              obtain ⟨q2, hqk⟩ : ∃ q2, l[k + j]? = some q2 := ⟨_, List.getElem?_eq_getElem hlt2⟩
              have Hkeep : Hid (Lib.keeps l.toArray (k + j) = decide (q2 ≠ p2)) := hid (by
                unfold Lib.keeps
                rw [show l.toArray[k + j]! = q2 by simp [hqk], show l.toArray[k + j - 1]! = p2 by simp [hpk]]
                have h0 : ¬ (k + j = 0) := by omega
                exact decide_eq_decide.2 ⟨fun h => h.resolve_left h0, Or.inr⟩)
              have Hq2 : Hid (l.toArray[k + j]! = q2) := hid (by simp [hqk])
              have hRg : ∀ i, k1 ≤ i → i < l.length → R[i]? = l[i]? := fun i h1 h3 => by
                have := Hinv.out.high i h1
                have h4 : i < R.length := by rw [HRl.out]; exact h3
                rw [List.getElem?_eq_getElem h4, List.getElem?_eq_getElem h3]
                simpa [List.getElem?_eq_getElem h4, List.getElem?_eq_getElem h3] using this
              have hlt3 := Hinv.out.lt
              rw [← hRg _ (by omega) (by omega)] at hpk hqk
              obtain ⟨p0, p1⟩ := own_e Hrow.out hpk
              obtain ⟨q0, q1⟩ := own_e Hrow.out hqk
              rw [show (k + j - 1) * 2 = k * 2 + (j - 1) * 2 by omega] at p0 p1
              rw [show (k + j) * 2 = k * 2 + j * 2 by omega] at q0 q1
              have c0 : ∀ w1, Keep (fun _ => False) wr w1 → w1.cell? ⟨g, k * 2 + (j - 1) * 2, none⟩ = some (.int .i64 p2.1) := fun w1 kk => kk.ext.cellx p0
              have c1 : ∀ w1, Keep (fun _ => False) wr w1 → w1.cell? ⟨g, k * 2 + (j - 1) * 2 + 1, none⟩ = some (.int .i64 p2.2) := fun w1 kk => kk.ext.cellx p1
              have c2 : ∀ w1, Keep (fun _ => False) wr w1 → w1.cell? ⟨g, k * 2 + j * 2, none⟩ = some (.int .i64 q2.1) := fun w1 kk => kk.ext.cellx q0
              have c3 : ∀ w1, Keep (fun _ => False) wr w1 → w1.cell? ⟨g, k * 2 + j * 2 + 1, none⟩ = some (.int .i64 q2.2) := fun w1 kk => kk.ext.cellx q1
              have hlt4 : (j : Int) < (↑(l.length - k) : Int) := by omega
              have hk1l : (k1 : Int) < (l.length : Int) := by omega
              clear hpk hqk p0 p1 q0 q1 hRg
              go_wp2
              refine wp_flowT (fun _ => False) (by kernel_rfl) (by kernel_rfl) ?_
              repeat (apply FlowT.d; (intro w1 hk; unfold does; go_simp; (try go_ints); (first | exact DetR.mk | (simp only [↓IntWalk.iteOmega, Oper.doesUpon_value]; exact DetR.mk) | (simp only [↓IntWalk.iteOmega]; go_simp; (try go_ints); exact DetR.mk))); simp only [Act.put, qS0, qS1, qS2])
              refine FlowT.fin fun w2 hx2 hk2 => ?_
              have d0 := c2 w2 hk2
              have d1 := c3 w2 hk2
              have Hxq2 := hid (Hxq.out.trans hx2)
              have Hrow2 := hid (own_ext Hrow.out hx2)
              clear hx2 hk2 c0 c1 c2 c3
              by_cases hqp : q2 = p2
              · rw [show (q2.1 != p2.1 || q2.2 != p2.2) = false by rw [hqp]; simp]
                have Hd : Hid (Lib.keeps l.toArray (k + j) = false) := hid (by rw [Hkeep.out, hqp]; simp)
                clear hqp Hkeep
                go_wp2
                go_roundw
                case rel => exact ⟨k1, j + 1, R, rfl, by go_num, by omega, by omega, HRl.out, Lib.CompInv.skip Hinv.out Hd.out, Hrow2.out, Hxq2.out⟩
                case measure => simp [intOf]; omega
              · rw [show (q2.1 != p2.1 || q2.2 != p2.2) = true by
                  cases hb : (q2.1 != p2.1 || q2.2 != p2.2) with
                  | true => rfl
                  | false =>
                    rw [Bool.or_eq_false_iff, bne_eq_false_iff_eq, bne_eq_false_iff_eq] at hb
                    exact absurd (Prod.ext hb.1 hb.2) hqp]
                have Hd : Hid (Lib.keeps l.toArray (k + j) = true) := hid (by rw [Hkeep.out]; simp [hqp])
                clear hqp Hkeep
                have hiR : k1 < R.length := by have := HRl.out; omega
                obtain ⟨y0, y1⟩ := own_e Hrow2.out (List.getElem?_eq_getElem hiR)
                have hfr := own_free Hrow2.out
                have hput := hid (own_putE Hrow2.out k1 hiR q2)
                have hkp2 := hid (Keep.new Hxq2.out (storeE_keep w2 g (k1 * 2) q2) fun b e => by rw [e]; exact Nat.le_trans Hb0.out Hbase.out)
                unfold storeE at hput hkp2
                generalize hyv : R[k1] = y at *
                clear hyv
                go_wp2
                go_roundw
                case rel => exact ⟨k1 + 1, j + 1, R.set k1 q2, by go_num, by go_num, by omega, by omega, by rw [List.length_set]; exact HRl.out, (by
                  have := Lib.CompInv.keep Hinv.out (by simpa using hlt2) Hd.out
                  rw [Hq2.out] at this
                  rw [← Nat.add_assoc]
                  simpa using this), hput.out, hkp2.out⟩
                case measure => simp [intOf]; omega
            · have hm : k + j = l.length := by omega
              have Hinv2 : Hid (Lib.CompInv l.toArray l.length k1 R.toArray) := hid (by rw [← hm]; exact Hinv.out)
              obtain rfl : j = l.length - k := by omega
              have hk1l := Hinv2.out.lt
              have hlen : (Lib.compact l).length = k1 := Hinv2.out.len
              have hTf : R.take k1 = Lib.compact l := by
                apply List.ext_getElem?
                intro i
                by_cases hi : i < k1
                · have h1 : (Lib.compact l)[i]? = some R.toArray[i]! := Hinv2.out.low i hi
                  have h4 : i < R.length := by rw [HRl.out]; omega
                  rw [h1, List.getElem?_take, if_pos hi, List.getElem?_eq_getElem h4]
                  simp [List.getElem?_eq_getElem h4]
                · rw [List.getElem?_eq_none (by rw [List.length_take]; omega), List.getElem?_eq_none (by omega)]
              obtain ⟨cu, hcu, hb0, hcap, hmx, hcs, htk⟩ := own_blk Hrow.out
              obtain ⟨ti, hi, hz0, hz1, hz2⟩ := info_parts edge_info
              have hsz : k1 * 2 + (l.length - k1) * 2 ≤ cu.size := by rw [hcs]; omega
              have hclr := fun ty => run_clear_row (P := Tryz.prog) wr 64 ty 95 ti _ Tryz.underlying64 hi hz0 (by simp [Value.cells, Value.oneCell']) g (k1 * 2) (l.length - k1) (c - k1) (by omega) cu hcu hsz
              obtain ⟨cu', hcu'⟩ : ∃ cu', cu' = (cu.toList.take (k1 * 2) ++ (Builtin.zeroCells (Value.agg #[.int .i64 0, .int .i64 0]).cells (l.length - k1)).toList ++ cu.toList.drop (k1 * 2 + (l.length - k1) * (Value.agg #[.int .i64 0, .int .i64 0]).cells.size)).toArray := ⟨_, rfl⟩
              rw [← hcu'] at hclr
              have hsz' : cu'.size = c * 2 := by
                have h6 : (Value.agg #[.int .i64 0, .int .i64 0]).cells.size = 2 := rfl
                rw [hcu', List.size_toArray, List.length_append, List.length_append, List.length_take, List.length_drop, Array.length_toList, Array.length_toList, size_zeroCells, h6, hcs]
                omega
              have htk' : cu'.toList.take (k1 * 2) = (Lib.compact l).flatMap eCells := by
                rw [hcu', List.toList_toArray, List.append_assoc, List.take_append_of_le_length (by rw [List.length_take, Array.length_toList]; omega), List.take_take, Nat.min_self, ← hTf, ← fm_take eCells 2 eCells_len, ← htk, List.take_take, Nat.min_eq_left (by omega)]
              have hfin := hid (own_of_blk (setRow_blk hcu cu') hb0 (show k1 ≤ c by omega) hmx hsz' htk')
              have hkf : Hid (Ext w0 _) := hid (Keep.new Hxq.out (setRow_keep wr g cu') fun b e => by rw [e]; exact Nat.le_trans Hb0.out Hbase.out)
              have HRi := hid hlen
              have hci : (k1 : Int) ≤ (l.length : Int) := by omega
              clear hTf hlen hcu hb0 hcap hmx hcs htk hi hz0 hz1 hz2 hsz hcu' hsz' htk' HRl Hinv Hinv2 hm
              go_wp2
              go_ret
              exact ⟨.slice (some ⟨g, 0, none⟩) k1 c, rfl, by unfold ERow; rw [HRi.out]; exact hfin.out, hkf.out⟩
        · rw [show (q.1 == p.1 && q.2 == p.2) = false by
            cases hb : (q.1 == p.1 && q.2 == p.2) with
            | false => rfl
            | true =>
              rw [Bool.and_eq_true, beq_iff_eq, beq_iff_eq] at hb
              exact absurd (Prod.ext hb.1 hb.2) hqp]
          have Hd : Hid (Lib.keeps l.toArray k = true) := hid (by rw [Hkeep.out]; simp [hqp])
          clear hqp Hkeep
          go_wp2
          go_roundw
          case rel => exact ⟨k + 1, by go_num, by omega, by omega, fun j hj => (by
                                                                  by_cases e : j = k
                                                                  · rw [e]; exact Hd.out
                                                                  · exact Hp.out j (by omega)), Hx1.out⟩
          case measure => simp [intOf]; omega
      · obtain rfl : k = l.length := by omega
        have Hc : Hid (Lib.compact l = l) := hid (Lib.compact_all l Hp.out)
        go_wp2
        go_ret
        exact ⟨_, rfl, by rw [Hc.out]; exact own_ext Hr.out Hx.out, Hx0.out.trans Hx.out⟩
theorem srt_lt {l : List Int} {M : Nat} (h : chkE l = 0) (hm : ∀ x ∈ l, x < (M : Int)) (hM : M ≤ 1000) : l.length ≤ M := by
  obtain ⟨h1, h2⟩ := chkE_zero.1 h
  rw [← sset_self h2 h1]
  unfold sset
  rw [List.length_map]
  have e : List.range 1000 = List.range M ++ (List.range (1000 - M)).map (M + ·) := by
    rw [← List.range_add]; congr 1; omega
  have e2 : ((List.range (1000 - M)).map (M + ·)).filter (fun n : Nat => decide ((n : Int) ∈ l)) = [] := by
    rw [List.filter_eq_nil_iff]
    intro n hn hd
    obtain ⟨j, _, rfl⟩ := List.mem_map.1 hn
    have := hm _ (of_decide_eq_true hd)
    omega
  rw [e, List.filter_append, e2, List.append_nil]
  have := List.length_filter_le (fun n : Nat => decide ((n : Int) ∈ l)) (List.range M)
  rw [List.length_range] at this
  exact this
theorem flatMap_len {α β : Type} (f : α → List β) (c : Nat) : ∀ l : List α, (∀ x ∈ l, (f x).length ≤ c) → (l.flatMap f).length ≤ l.length * c
  | [], _ => Nat.zero_le _
  | x :: r, h => by
    have h1 := h x List.mem_cons_self
    have h2 := flatMap_len f c r fun y hy => h y (List.mem_cons_of_mem _ hy)
    rw [List.flatMap_cons, List.length_append, List.length_cons, Nat.add_mul]
    omega
theorem calledV_len (f : PF) (r : RV) : (calledV f r).length ≤ r.args.length + 1 := by
  unfold calledV
  split
  · rw [List.length_cons, List.length_zip]; omega
  · exact Nat.zero_le _
theorem callsOf_len (P : PP) (r : RV) (o : Int) : (P.callsOf r o).length ≤ r.args.length + 1 := by
  unfold PP.callsOf
  split
  · exact calledV_len _ _
  · exact Nat.zero_le _
theorem getD_len {has : List (List Int)} {M : Nat} (h : ∀ l ∈ has, l.length ≤ M) (i : Nat) : (has.getD i []).length ≤ M := by
  rw [List.getD_eq_getElem?_getD]
  cases he : has[i]? with
  | none => exact Nat.zero_le _
  | some l => exact h l (List.mem_of_getElem? he)
theorem redges_len (P : PP) (r : RV) (has : List (List Int)) (M : Nat) (h : ∀ l ∈ has, l.length ≤ M) (ha : r.args.length ≤ 3) : (P.redges r has).length ≤ M * 4 + 1 := by
  unfold PP.redges
  cases r.kind.toList == kCopy
  · cases r.kind.toList == kLoad
    · cases r.kind.toList == kStore
      · cases r.kind.toList == kCall
        · exact Nat.zero_le _
        · simp only [cond_true, cond_false]
          have h1 := flatMap_len (P.callsOf r) 4 (has.getD r.a.toNat []) fun o _ => by have := callsOf_len P r o; omega
          have h2 := getD_len h r.a.toNat
          omega
      · simp only [cond_true, cond_false, List.length_map]
        have h1 := List.length_filter_le (fun x => !decide ((P.nodesV : Int) ≤ x)) (has.getD r.b.toNat [])
        have h2 := getD_len h r.b.toNat
        unfold PP.nodesOf
        omega
    · simp only [cond_true, cond_false, List.length_map]
      have h1 := List.length_filter_le (fun x => !decide ((P.nodesV : Int) ≤ x)) (has.getD r.a.toNat [])
      have h2 := getD_len h r.a.toNat
      unfold PP.nodesOf
      omega
  · simp only [cond_true, List.length_cons, List.length_nil]; omega
theorem ruleV_few {P : PP} (hw : P.Well) {k : Nat} (hk : k < P.stmts.length) : (P.ruleV k (P.stAt k)).args.length ≤ 3 := by
  have h0 := hw.2 k (P.stAt k) hk (stAt_some hk)
  unfold PP.ruleV
  cases (P.stAt k).isK kAddr
  · cases (P.stAt k).isK kNew
    · cases (P.stAt k).isK kFun
      · cases hc : (P.stAt k).isK kCall
        · exact Nat.zero_le _
        · exact call_few h0 hc
      · exact Nat.zero_le _
    · exact Nat.zero_le _
  · exact Nat.zero_le _
theorem rulesUp_len {P : PP} {has : List (List Int)} (hw : P.Well) (hs : SetsOk P has) (k : Nat) (hk : k ≤ P.stmts.length) : ((P.rulesUp k).flatMap fun r => P.redges r has).length ≤ 50000 := by
  obtain ⟨f1, f2, f3⟩ := hw.few
  have hn := P.newsN_le P.stmts.length
  have hM : ∀ l ∈ has, l.length ≤ 126 := fun l hl => by
    have := srt_lt (M := P.objectsV) (hs.ok l hl).1 (hs.ok l hl).2 (by unfold PP.objectsV PP.nodesV; omega)
    unfold PP.objectsV PP.nodesV at this
    omega
  have h1 := flatMap_len (fun r => P.redges r has) (126 * 4 + 1) (P.rulesUp k) fun r hr => by
    unfold PP.rulesUp at hr
    obtain ⟨j, hj, rfl⟩ := List.mem_map.1 hr
    exact redges_len P _ has 126 hM (ruleV_few hw (by have := List.mem_range.1 hj; omega))
  have h2 : (P.rulesUp k).length = k := by unfold PP.rulesUp; rw [List.length_map, List.length_range]
  rw [h2] at h1
  omega
end Go.Proofs.YtihdpijgngooaaaGreatDoor
namespace Go.Proofs
open Go.Shelf
def Tryz.sortE_ren : Go.Shelf.Ren := ⟨fun | 6 => 97 | 15 => 109 | 14 => 127 | 28 => 144 | 29 => 145 | 20 => 151 | 21 => 152 | 22 => 153 | 23 => 154 | 24 => 155 | 25 => 156 | 26 => 157 | 27 => 158 | 46 => 172 | 47 => 164 | 48 => 165 | 49 => 173 | 50 => 174 | 57 => 184 | n => n, fun | 22 => 64 | 24 => 95 | 25 => 153 | 3 => 3 | 39 => 142 | 0 => 0 | 53 => 175 | 55 => 178 | 4 => 4 | 46 => 195 | 45 => 194 | 50 => 200 | 5 => 5 | 9 => 9 | 66 => 229 | 70 => 233 | 76 => 247 | 77 => 100 | n => n, fun | n => n⟩
theorem Tryz.sortE : Go.Proofs.SlLaysF0.n6 Tryz.prog Tryz.sortE_ren := {
  mixed := by kernel_rfl
  f6 := ⟨Tryz.f97.name, by decide, Tryz.func97.trans (congrArg some (by kernel_rfl))⟩
  f14 := ⟨Tryz.f127.name, by decide, Tryz.func127.trans (congrArg some (by kernel_rfl))⟩
  f15 := Tryz.func109.trans (congrArg some (by kernel_rfl))
  f20 := ⟨Tryz.f151.name, by decide, Tryz.func151.trans (congrArg some (by kernel_rfl))⟩
  f21 := ⟨Tryz.f152.name, by decide, Tryz.func152.trans (congrArg some (by kernel_rfl))⟩
  f22 := ⟨Tryz.f153.name, by decide, Tryz.func153.trans (congrArg some (by kernel_rfl))⟩
  f23 := ⟨Tryz.f154.name, by decide, Tryz.func154.trans (congrArg some (by kernel_rfl))⟩
  f24 := ⟨Tryz.f155.name, by decide, Tryz.func155.trans (congrArg some (by kernel_rfl))⟩
  f25 := ⟨Tryz.f156.name, by decide, Tryz.func156.trans (congrArg some (by kernel_rfl))⟩
  f26 := ⟨Tryz.f157.name, by decide, Tryz.func157.trans (congrArg some (by kernel_rfl))⟩
  f27 := ⟨Tryz.f158.name, by decide, Tryz.func158.trans (congrArg some (by kernel_rfl))⟩
  f28 := Tryz.func144.trans (congrArg some (by kernel_rfl))
  f29 := Tryz.func145.trans (congrArg some (by kernel_rfl))
  f46 := ⟨Tryz.f172.name, by decide, Tryz.func172.trans (congrArg some (by kernel_rfl))⟩
  f47 := Tryz.func164.trans (congrArg some (by kernel_rfl))
  f48 := Tryz.func165.trans (congrArg some (by kernel_rfl))
  f49 := ⟨Tryz.f173.name, by decide, Tryz.func173.trans (congrArg some (by kernel_rfl))⟩
  f50 := ⟨Tryz.f174.name, by decide, Tryz.func174.trans (congrArg some (by kernel_rfl))⟩
  f57 := ⟨Tryz.f184.name, by decide, Tryz.func184.trans (congrArg some (by kernel_rfl))⟩
  t0 := Tryz.underlying0
  a0 := Tryz.isAgg0
  z0 := Tryz.sizeOf0
  v0 := Tryz.zeroValue0
  t3 := Tryz.underlying3
  a3 := Tryz.isAgg3
  z3 := Tryz.sizeOf3
  v3 := Tryz.zeroValue3
  t4 := Tryz.underlying4
  a4 := Tryz.isAgg4
  z4 := Tryz.sizeOf4
  v4 := Tryz.zeroValue4
  t5 := Tryz.underlying5
  a5 := Tryz.isAgg5
  z5 := Tryz.sizeOf5
  v5 := Tryz.zeroValue5
  t9 := Tryz.underlying9
  a9 := Tryz.isAgg9
  z9 := Tryz.sizeOf9
  v9 := Tryz.zeroValue9
  t22 := Tryz.underlying64
  a22 := Tryz.isAgg64
  z22 := Tryz.sizeOf64
  v22 := Tryz.zeroValue64
  t25 := Tryz.underlying153
  a25 := Tryz.isAgg153
  z25 := Tryz.sizeOf153
  v25 := Tryz.zeroValue153
  t39 := Tryz.underlying142
  a39 := Tryz.isAgg142
  z39 := Tryz.sizeOf142
  v39 := Tryz.zeroValue142
  t45 := Tryz.underlying194
  a45 := Tryz.isAgg194
  z45 := Tryz.sizeOf194
  v45 := Tryz.zeroValue194
  t46 := Tryz.underlying195
  a46 := Tryz.isAgg195
  z46 := Tryz.sizeOf195
  v46 := Tryz.zeroValue195
  t50 := Tryz.underlying200
  a50 := Tryz.isAgg200
  z50 := Tryz.sizeOf200
  v50 := Tryz.zeroValue200
  t53 := Tryz.underlying175
  a53 := Tryz.isAgg175
  z53 := Tryz.sizeOf175
  v53 := Tryz.zeroValue175
  t55 := Tryz.underlying178
  a55 := Tryz.isAgg178
  z55 := Tryz.sizeOf178
  v55 := Tryz.zeroValue178
  t66 := Tryz.underlying229
  a66 := Tryz.isAgg229
  z66 := Tryz.sizeOf229
  v66 := Tryz.zeroValue229
  t70 := Tryz.underlying233
  a70 := Tryz.isAgg233
  z70 := Tryz.sizeOf233
  v70 := Tryz.zeroValue233
  t76 := Tryz.underlying247
  a76 := Tryz.isAgg247
  z76 := Tryz.sizeOf247
  v76 := Tryz.zeroValue247
  t77 := Tryz.underlying100
  a77 := Tryz.isAgg100
  z77 := Tryz.sizeOf100
  v77 := Tryz.zeroValue100 }
end Go.Proofs
namespace Go.Proofs.YtihdpijgngooaaaGreatDoor
open Go Go.RowKit Go.Sort
def InE (e : Int × Int) : Prop := 0 ≤ e.1 ∧ e.1 < 1000 ∧ 0 ≤ e.2 ∧ e.2 < 1000
abbrev SE := { e : Int × Int // InE e }
instance : Inhabited SE := ⟨⟨(0, 0), by unfold InE; omega⟩⟩
def seCells (x : SE) : List Value := eCells x.1
def seCmp (x y : SE) : Int := eCmp x.1 y.1
theorem eCmp_lt (a b : Int × Int) : eCmp a b < 0 ↔ lexLt a b := by
  unfold eCmp lexLt
  split <;> omega
theorem ltOf_se (x y : SE) : ltOf seCmp x y = true ↔ lexLt x.1 y.1 := by
  unfold ltOf seCmp
  rw [decide_eq_true_iff, eCmp_lt]
theorem ltOf_se_no (x y : SE) : ltOf seCmp x y = false ↔ ¬ lexLt x.1 y.1 := by
  rw [← ltOf_se, Bool.not_eq_true]
theorem se_swo : SWO (ltOf seCmp) where
  irrefl x := (ltOf_se_no x x).2 (lexLt.irr _)
  trans x y z h k := (ltOf_se x z).2 (((ltOf_se x y).1 h).trans ((ltOf_se y z).1 k))
  ntrans x y z h k := by
    rw [ltOf_se_no] at *
    unfold lexLt at *
    omega
theorem se_tot (x y : SE) (h : ltOf seCmp x y = false) (k : ltOf seCmp y x = false) : x = y := by
  rw [ltOf_se_no] at h k
  rcases lexLt.tri x.1 y.1 with g | g | g
  · exact absurd g h
  · exact Subtype.ext g
  · exact absurd g k
theorem se_of : ∀ l : List (Int × Int), (∀ e ∈ l, InE e) → ∃ d : List SE, d.map (·.1) = l
  | [], _ => ⟨[], rfl⟩
  | e :: l, h => by
    obtain ⟨d, hd⟩ := se_of l fun x hx => h x (List.mem_cons_of_mem _ hx)
    exact ⟨⟨e, h e List.mem_cons_self⟩ :: d, by rw [List.map_cons, hd]⟩
theorem flat_se (d : List SE) : (flatK seCells 2 d.toArray).toList = (d.map (·.1)).flatMap eCells := by
  apply List.ext_getElem?
  intro t
  have hlen : ((d.map (·.1)).flatMap eCells).length = d.length * 2 := by rw [fm_len eCells 2 eCells_len, List.length_map]
  by_cases ht : t < d.length * 2
  · have hi : t / 2 < d.length := by omega
    have e1 : ((d.map (·.1)).flatMap eCells)[t / 2 * 2 + t % 2]? = (eCells (d[t / 2]'hi).1)[t % 2]? := fm_get eCells 2 eCells_len _ _ _ _ (by rw [List.getElem?_map, List.getElem?_eq_getElem hi]; rfl) (by omega)
    rw [show t / 2 * 2 + t % 2 = t by omega] at e1
    rw [e1, Array.getElem?_toList]
    have e2 := get_flatK seCells 2 d.toArray t (by simpa using ht)
    rw [getElem!_pos (flatK seCells 2 d.toArray) t (by simpa using ht)] at e2
    rw [Array.getElem?_eq_getElem (by simpa using ht), e2]
    have e3 : d.toArray[t / 2]! = d[t / 2]'hi := by simp [getElem!_pos, hi]
    rw [e3]
    have hm : t % 2 < (seCells (d[t / 2]'hi)).length := by
      have : (seCells (d[t / 2]'hi)).length = 2 := rfl
      omega
    rw [getElem!_pos (seCells (d[t / 2]'hi)) (t % 2) hm]
    exact (List.getElem?_eq_getElem hm).symm
  · rw [List.getElem?_eq_none (by rw [Array.length_toList, size_flatK]; simp; omega), List.getElem?_eq_none (by rw [hlen]; omega)]
theorem putF_at {w : World} {g q : Nat} {cur : Array Value} {t : TypeId} {F : Array Value} {os : Array Obj} (hb : Blk w g cur t) :
    Blk (grow (putRow id (Sort.ahead w q) g 0 F) os) g (putCells id 0 F cur) t ∧ Keep (fun b => b = g) w (grow (putRow id (Sort.ahead w q) g 0 F) os) := by
  have hlt := hb.lt
  have hh : ∀ k, k < w.heap.size → (grow (putRow id (Sort.ahead w q) g 0 F) os).heap[k]? = (w.heap.modify g (onCells (putCells id 0 F)))[k]? := fun k hk => by
    unfold grow putRow mapBlock Sort.ahead
    simp only
    rw [Array.getElem?_append_left (by simpa using hk)]
  constructor
  · unfold Blk
    rw [hh g hlt, Array.getElem?_modify, if_pos rfl]
    have : w.heap[g]? = some (.cells cur t (0, 0)) := hb
    rw [this]
    rfl
  · refine ⟨rfl, rfl, rfl, ?_, fun k hk hx => ?_⟩
    · unfold grow putRow mapBlock Sort.ahead
      simp
    · rw [hh k hk, Array.getElem?_modify, if_neg (fun e => hx e.symm)]
theorem putF_cells (F cur : Array Value) (hc : F.size ≤ cur.size) : (putCells id 0 F cur).toList.take F.size = F.toList := by
  apply List.ext_getElem?
  intro i
  rw [List.getElem?_take]
  by_cases hi : i < F.size
  · rw [if_pos hi, Array.getElem?_toList, Array.getElem?_toList]
    unfold putCells
    rw [Array.getElem?_mapIdx, Array.getElem?_eq_getElem (by omega), Array.getElem?_eq_getElem hi]
    simp only [Option.map_some, Nat.zero_le, true_and, Nat.zero_add, Nat.sub_zero]
    rw [if_pos hi]
    simp [getElem!_pos, hi]
  · rw [if_neg hi, List.getElem?_eq_none (by rw [Array.length_toList]; omega)]
theorem esort_le (d : List SE) : ((d.mergeSort fun x y => !(ltOf seCmp) y x).map (·.1)).Pairwise lexLe := by
  have h := List.pairwise_mergeSort (le := fun x y : SE => !(ltOf seCmp) y x) (fun a b c h1 h2 => by
    simp only [Bool.not_eq_true', ltOf_se_no] at h1 h2 ⊢
    unfold lexLt at *
    omega) (fun a b => by
    simp only [Bool.or_eq_true, Bool.not_eq_true', ltOf_se_no]
    unfold lexLt
    omega) d
  rw [List.pairwise_map]
  refine h.imp fun {a b} g => ?_
  simp only [Bool.not_eq_true', ltOf_se_no] at g
  rcases lexLt.tri a.1 b.1 with k | k | k
  · exact .inl k
  · exact .inr k
  · exact absurd k g
set_option maxRecDepth 100000 in
set_option maxHeartbeats 1600000 in
theorem esort_any (lv : Value) (l : List (Int × Int)) (hin : ∀ e ∈ l, InE e) (w0 w : World) (n0 : Nat) (hx0 : Ext w0 w) (hb0 : w0.heap.size ≤ n0) (hr : ERow n0 w lv l) (hfew : l.length ≤ 100000) :
    Calls Tryz.prog 97 #[lv, .func (.func 98) #[] #[]] w fun e w' => e = .returned (.tuple #[]) ∧ ∃ l', ERow n0 w' lv l' ∧ l'.length = l.length ∧ (∀ x, x ∈ l' ↔ x ∈ l) ∧ l'.Pairwise lexLe ∧ Ext w0 w' := by
  by_cases h0 : l.length = 0
  · obtain rfl := List.eq_nil_of_length_eq_zero h0
    obtain ⟨a, c, rfl⟩ := row_form hr
    refine (AnyF.slices_SortFunc_none Tryz.sortE a c (.func (.func 98) #[] #[]) w).mono ?_
    rintro e w' ⟨rfl, rfl⟩
    exact ⟨rfl, [], hr, rfl, fun x => Iff.rfl, List.Pairwise.nil, hx0⟩
  · obtain ⟨g, cap, rfl⟩ := own_some hr (by omega)
    obtain ⟨d, rfl⟩ := se_of l hin
    obtain ⟨cur, hb, hbase, hcap, hmx, hcs, htk⟩ := own_blk hr
    have hH : HoldsK seCells 2 w g 0 d.toArray := fun j hj => by
      have hj2 : j < d.length * 2 := by simpa using hj
      rw [Nat.zero_add]
      refine ⟨own_get hr j ?_, own_free hr j⟩
      rw [← flat_se, Array.getElem?_toList, Array.getElem?_eq_getElem hj, getElem!_pos (flatK seCells 2 d.toArray) j hj]
      rfl
    have hC : CmpLays Tryz.prog 98 #[] seCells 2 seCmp g 0 d.toArray.size w := fun m os dk hs x y => by
      have h := consedgesc2_grow x.1 y.1 (sortWorldK seCells 2 w g 0 m dk os) x.2 y.2
      refine h.mono ?_
      rintro e w' ⟨rfl, os', rfl⟩
      exact ⟨rfl, 0, os', rfl⟩
    have hS := AnyQ.slices_SortFunc_total Tryz.sortE 2 Tryz.isAgg95 Tryz.sizeOf95 seCells (fun _ => rfl) (fun x v hv => eCells_one (E := [x.1]) v (by simpa [seCells] using hv)) seCmp se_swo 98 #[] g 0 cap d.toArray w (fun args w => by kernel_rfl) hC hH hb.lt (by simp at hfew ⊢; omega) se_tot
    have hsz : d.toArray.size = (d.map (·.1)).length := by simp
    rw [hsz] at hS
    refine hS.mono ?_
    rintro e w' ⟨rfl, q, os, rfl⟩
    obtain ⟨d', hd'⟩ : ∃ d', d' = d.mergeSort fun x y => !(ltOf seCmp) y x := ⟨_, rfl⟩
    have hp : d'.Perm d := by rw [hd']; exact List.mergeSort_perm _ _
    have hle := esort_le d
    rw [← hd'] at hle
    obtain ⟨p1, p2⟩ := putF_at (q := q) (F := flatK seCells 2 d'.toArray) (os := os) hb
    have hFs : (flatK seCells 2 d'.toArray).size = (d.map (·.1)).length * 2 := by rw [size_flatK]; simp [hp.length_eq]
    have hw : sortWorldK seCells 2 w g 0 q (d.toArray.toList.mergeSort fun x y => !(ltOf seCmp) y x).toArray os = grow (putRow id (Sort.ahead w q) g 0 (flatK seCells 2 d'.toArray)) os := by rw [hd']; rfl
    rw [hw]
    have hlen : (d'.map (·.1)).length = (d.map (·.1)).length := by simp [hp.length_eq]
    refine ⟨rfl, d'.map (·.1), ?_, hlen, fun x => (hp.map _).mem_iff, hle, Keep.new hx0 p2 fun b e => by rw [e]; exact Nat.le_trans hb0 hbase⟩
    unfold ERow
    rw [hlen]
    refine own_of_blk p1 hbase hcap hmx (by unfold putCells; rw [Array.size_mapIdx]; exact hcs) ?_
    rw [← hFs, putF_cells _ _ (by rw [hFs, hcs]; exact Nat.mul_le_mul_right _ hcap), flat_se]
end Go.Proofs.YtihdpijgngooaaaGreatDoor
namespace Go.Proofs.YtihdpijgngooaaaGreatDoor
open Go Go.RowKit
theorem compactE_upto (l : List (Int × Int)) : ∀ m, (Lib.compactUpTo l.toArray m).length ≤ m
  | 0 => by simp [Lib.compactUpTo]
  | m + 1 => by
    have := compactE_upto l m
    rw [Lib.compactUpTo_succ]
    split <;> simp <;> omega
theorem compactE_len (l : List (Int × Int)) : (Lib.compact l).length ≤ l.length := by
  unfold Lib.compact
  exact compactE_upto l _
theorem own_r {w : World} {base g n cap : Nat} {rs : List R2} (h : w.ownsRow base 90 5 (.slice (some ⟨g, 0, none⟩) n cap) n (rs.flatMap R2.cells)) {i : Nat} {x : R2} (hx : rs[i]? = some x) :
    w.cell? ⟨g, i * 5, none⟩ = some (.string x.r.kind) ∧ w.cell? ⟨g, i * 5 + 1, none⟩ = some (.int .i64 x.r.a) ∧ w.cell? ⟨g, i * 5 + 2, none⟩ = some (.int .i64 x.r.b) ∧ w.cell? ⟨g, i * 5 + 3, none⟩ = some (.int .i64 x.r.k) ∧ w.cell? ⟨g, i * 5 + 4, none⟩ = some x.v := by
  have c : ∀ j v, x.cells[j]? = some v → j < 5 → w.cell? ⟨g, i * 5 + j, none⟩ = some v := fun j v hv hj => own_get h _ ((fm_get R2.cells 5 R2.cells_len rs i j x hx hj).trans hv)
  exact ⟨c 0 _ rfl (by omega), c 1 _ rfl (by omega), c 2 _ rfl (by omega), c 3 _ rfl (by omega), c 4 _ rfl (by omega)⟩
theorem rules_at {P : PP} {rs : List R2} (h : rs.map R2.r = P.rulesV) {k : Nat} (hk : k < P.stmts.length) : ∃ x, rs[k]? = some x ∧ x.r = P.ruleV k (P.stAt k) := by
  have hl : rs.length = P.stmts.length := by have := congrArg List.length h; rw [List.length_map] at this; rw [this]; exact P.rulesUp_len _
  have hkr : k < rs.length := by omega
  refine ⟨rs[k], List.getElem?_eq_getElem hkr, ?_⟩
  have h1 : (rs.map R2.r)[k]? = some (rs[k]).r := by rw [List.getElem?_map, List.getElem?_eq_getElem hkr]; rfl
  rw [h] at h1
  unfold PP.rulesV PP.rulesUp at h1
  rw [List.getElem?_map, List.getElem?_range hk] at h1
  exact (Option.some.inj h1).symm
theorem sets_nil {ad : Nat → Addr} {P : PP} {has : List (List Int)} {w : World} {v : Value} (h : SetsIs ad P has w v) (hl : has.length = P.nodesV) (he : ∀ l ∈ has, P.setE l = 0) : v = .nilIface := by
  rcases h with ⟨h, _⟩ | ⟨_, _, h⟩ | ⟨_, i, l, _, h1, h2, _⟩
  · exact absurd hl h
  · exact h
  · exact absurd (he l (List.mem_of_getElem? h1)) h2
set_option maxRecDepth 100000 in
set_option maxHeartbeats 6400000 in
theorem consedges_ok (a1 a2 a3 : Option Addr) (c1 c2 c3 : Nat) (P : PP) (hv : Value) (has : List (List Int)) (w : World) (n0 : Nat) (ad : Nat → Addr) (h : PW w n0 ad a1 a2 a3 c1 c2 c3 P) (hS : ErrS w ad) (hh : SetsR w n0 hv has)
    (hl : has.length = P.nodesV) (he : ∀ l ∈ has, P.setE l = 0) (hn0 : n0 ≤ w.heap.size) :
    Calls Tryz.prog 72 #[pval a1 a2 a3 c1 c2 c3 P, hv] w fun e w' => ∃ v l, e = .returned (.tuple #[v, .nilIface]) ∧ ERow w.heap.size w' v l ∧ EdgesAre P has l ∧ l.length ≤ 50000 ∧ Ext w w' := by
  obtain ⟨ah, ch, rfl⟩ := hh.form
  have Hs := hid (SetsOk.of hl he)
  have Hl := hid hl
  have He := hid he
  have Hw := hid h.well
  obtain ⟨hf1, hf2, hf3⟩ := h.well.few
  obtain ⟨W, hW⟩ : ∃ W, W = w.alloc (.cells (pcells a1 a2 a3 c1 c2 c3 P) 26) := ⟨_, rfl⟩
  have HX : Hid (Ext w W) := hid (by rw [hW]; exact (Ext.refl _).alloc _)
  have HBx : Hid (Blk W w.heap.size (pcells a1 a2 a3 c1 c2 c3 P) 26) := hid (by rw [hW]; exact Blk.new _ _ _)
  have HWe : Hid (W = w.alloc (.cells #[.slice a1 P.vars.length c1, .slice a2 P.funs.length c2, .slice a3 P.stmts.length c3] 26)) := hid (by rw [hW]; rfl)
  have HK := hid (consof_yes a1 a2 a3 c1 c2 c3 P W n0 ad (h.ext HX.out))
  have HN := fun w1 (x : Ext W w1) => hid (conssets_any a1 a2 a3 c1 c2 c3 P _ has w1 n0 ad (h.ext (HX.out.trans x)) (hS.ext (HX.out.trans x)) (hh.ext (HX.out.trans x)))
  have HRe := fun k (hk : k < P.stmts.length) av n1 w1 (hn1 : n0 ≤ n1) (hn2 : n1 ≤ w1.heap.size) (x : Ext W w1) (ha : IntsR w1 n1 av (P.ruleV k (P.stAt k)).args) => hid (redges_any a1 a2 a3 c1 c2 c3 P k hk av (.slice ah has.length ch) has w1 n1 ad ((h.ext (HX.out.trans x)).lift hn1) ha ((hh.ext (HX.out.trans x)).lift hn1) Hs.out hn2)
  have Hn0 := hid (Nat.le_trans hn0 HX.out.size)
  have d0 := HBx.out.av 0 rfl
  have d1 := HBx.out.av 1 rfl
  have d2 := HBx.out.av 2 rfl
  simp only [pcells, qA0, qA1, qA2] at d0 d1 d2
  unfold pval at HK HN HRe ⊢
  clear hW h hS hh hl he hn0
  go_enter Tryz.func72, Tryz.ntmps72
  go_wp2_with fail
  rw [← HWe.out]
  refine HK.out.mono ?_
  intro e w1 hx
  obtain ⟨v, rs, rfl, hi, hx1⟩ := hx
  obtain ⟨av, cv, rfl⟩ := row_form hi.row
  rw [show P.rulesV.length = P.stmts.length from P.rulesUp_len _] at hi ⊢
  have HI := hid hi
  have Hx1 := hid hx1
  have HN1 := HN w1 hx1
  clear HK hi d0 d1 d2 HN hx1
  have d0 := (HBx.out.ext Hx1.out).av 0 rfl
  have d1 := (HBx.out.ext Hx1.out).av 1 rfl
  have d2 := (HBx.out.ext Hx1.out).av 2 rfl
  simp only [pcells, qA0, qA1, qA2] at d0 d1 d2
  go_wp2_with fail
  refine HN1.out.mono ?_
  intro e w2 hx
  obtain ⟨v2, rfl, hi, hx2⟩ := hx
  obtain rfl := sets_nil hi Hl.out He.out
  have Hx2 := hid (Hx1.out.trans hx2)
  have HI2 := hid (HI.out.ext hx2)
  have Hx12 := hid hx2
  clear HN1 hi hx2 d0 d1 d2 HI
  go_wp2
  go_loopw [9, 28] (fun t9 t28 wr => ∃ (k : Nat) (E : List (Int × Int)), t28 = .int .i64 (k : Int) ∧ k ≤ P.stmts.length ∧ E = (P.rulesUp k).flatMap (fun r => P.redges r has) ∧ wr.ownsRow w2.heap.size 95 2 t9 E.length (E.flatMap eCells) ∧ Ext w2 wr) (fun _ t28 _ => P.stmts.length - (intOf t28).toNat)
  case atStart => exact ⟨0, [], rfl, Nat.zero_le _, rfl, World.ownsRow_nil _ _ _ _, Ext.refl _⟩
  case round =>
    obtain ⟨k, E, rfl, hk, hE, hr, hx⟩ := hrel
    obtain ⟨a9, c9, rfl⟩ := row_form hr
    have hE5 : E.length ≤ 50000 := by rw [hE]; exact rulesUp_len Hw.out Hs.out k hk
    have HE := hid hE
    have Hr := hid hr
    have Hx := hid hx
    have HxW := hid (Hx2.out.trans hx)
    clear hr hx hE
    by_cases hlt : k < P.stmts.length
    · obtain ⟨g, cp, hge⟩ := own_some HI2.out.row (by rw [show P.rulesV.length = P.stmts.length from P.rulesUp_len _]; omega)
      simp only [Value.slice.injEq] at hge
      obtain ⟨rfl, -, rfl⟩ := hge
      obtain ⟨x, hxk, hxr⟩ := rules_at HI2.out.eq hlt
      have hrow := own_ext HI2.out.row Hx.out
      rw [show P.rulesV.length = P.stmts.length from P.rulesUp_len _] at hrow
      obtain ⟨q0, q1, q2, q3, q4⟩ := own_r hrow hxk
      have hT := HI2.out.args x (List.mem_of_getElem? hxk)
      obtain ⟨aa, ca, hav⟩ := hT.form
      obtain ⟨r, xv⟩ := x
      simp only at hav hxr q0 q1 q2 q3 q4 hT
      subst hav
      obtain ⟨V, hV⟩ : ∃ V, V = wr.alloc (.cells #[.string r.kind, .int .i64 r.a, .int .i64 r.b, .int .i64 r.k, .slice aa r.args.length ca] 90) := ⟨_, rfl⟩
      have hxV : Ext wr V := by rw [hV]; exact (Ext.refl _).alloc _
      have HVe := hid hV
      have HVx := hid (HxW.out.trans hxV)
      have HBr : Hid (Blk V wr.heap.size #[.string r.kind, .int .i64 r.a, .int .i64 r.b, .int .i64 r.k, .slice aa r.args.length ca] 90) := hid (by rw [hV]; exact Blk.new _ _ _)
      have HC := HRe k hlt (.slice aa r.args.length ca) w2.heap.size V (Nat.le_trans Hn0.out Hx2.out.size) (Nat.le_trans Hx.out.size hxV.size) HVx.out (by rw [← hxr]; exact hT.1.old ((Hx.out.trans hxV).old _))
      rw [← hxr] at HC
      have hq4 := redges_len P (P.ruleV k (P.stAt k)) has 1000 (fun l hl => srt_few (Hs.out.ok l hl).1) (ruleV_few Hw.out hlt)
      rw [← hxr] at hq4
      obtain ⟨q, hq⟩ : ∃ q, q = P.redges r has := ⟨_, rfl⟩
      rw [← hq] at HC hq4
      have Hn : Hid ((P.rulesUp (k + 1)).flatMap (fun r => P.redges r has) = E ++ q) := hid (by rw [PP.rulesUp_succ, List.flatMap_append, ← HE.out, ← hxr, hq]; simp)
      have m0 := HBr.out.av 0 rfl
      have m1 := HBr.out.av 1 rfl
      have m2 := HBr.out.av 2 rfl
      have m3 := HBr.out.av 3 rfl
      have m4 := HBr.out.av 4 rfl
      simp only [qA0, qA1, qA2] at m0 m1 m2 m3 m4
      have d0 := (HBx.out.ext HVx.out).av 0 rfl
      have d1 := (HBx.out.ext HVx.out).av 1 rfl
      have d2 := (HBx.out.ext HVx.out).av 2 rfl
      simp only [pcells, qA0, qA1, qA2] at d0 d1 d2
      rw [HVe.out] at m0 m1 m2 m3 m4 d0 d1 d2
      unfold RV.val at HC
      have HrV := hid (own_ext Hr.out hxV)
      clear HRe hV hxV hxk hxr hrow hT hq
      go_wp2_with fail
      rw [← HVe.out]
      refine HC.out.mono ?_
      intro e w3 hx
      obtain ⟨vq, rfl, hq3, hx3⟩ := hx
      unfold ERow at hq3
      obtain ⟨aq, cq, rfl⟩ := row_form hq3
      have Hq3 := hid hq3
      have Hx3 := hid (HVx.out.trans hx3)
      have Hr3 := hid (own_ext HrV.out hx3)
      have Hx23 := hid ((Hx.out.trans (show Ext wr V by rw [HVe.out]; exact (Ext.refl _).alloc _)).trans hx3)
      have hl6 : E.length + q.length ≤ 1000000 := by omega
      clear HC hq3 hx3 m0 m1 m2 m3 m4 d0 d1 d2 q0 q1 q2 q3 q4
      go_wp2_with (at_builtin; refine wpList_append_src w2.heap.size Hx23.out.size 64 95 (.agg #[.int .i64 0, .int .i64 0]) 2 16 Tryz.underlying64 edge_info rfl (by omega) (by omega) rfl _ _ rfl (.slice a9 E.length c9) E.length (E.flatMap eCells) rfl Hr3.out aq q.length cq (q.flatMap eCells) rfl (own_src Hq3.out eCells_one) hl6 ?_; intro v' w' h1 h2 h4; obtain ⟨a', c', rfl⟩ := row_form h1; have h3 := hid (Keep.new Hx23.out h2 (fun b e => (World.ownsRow.lt Hr3.out b e).1)); have h1 := hid h1; clear h2 h4)
      go_roundw
      case rel => exact ⟨k + 1, E ++ q, by go_num, by omega, Hn.out.symm, by rw [List.length_append, List.flatMap_append]; exact h1.out, h3.out⟩
      case measure => simp [intOf]; omega
    · obtain rfl : k = P.stmts.length := by omega
      have HE0 : Hid (E = P.edges0 has) := hid HE.out
      have hin : ∀ e ∈ E, InE e := fun e he => by
        rw [HE0.out] at he
        have hi := edges0_in Hw.out Hs.out e he
        have hn := nodesV_le P Hw.out
        unfold PP.InN at hi
        unfold InE
        omega
      have Hin := hid hin
      have HD := hid (edel_same (fun e => decide (e.1 = e.2)) (.slice a9 E.length c9) E w2 wr w2.heap.size Hx.out (Nat.le_refl _) Hr.out (fun n w1 _ => consedgesc1_any n w1) (by omega))
      have HS := fun lv l w3 (hin : ∀ e ∈ l, InE e) (x : Ext w2 w3) (hr : ERow w2.heap.size w3 lv l) (hf : l.length ≤ 100000) => hid (esort_any lv l hin w2 w3 w2.heap.size x (Nat.le_refl _) hr hf)
      have HC := fun lv l w3 (x : Ext w2 w3) (hr : ERow w2.heap.size w3 lv l) (hf : l.length ≤ 100000) => hid (ecompact_any lv l w2 w3 w2.heap.size x (Nat.le_refl _) hr hf)
      clear HRe hin
      go_wp2_with fail
      refine HD.out.mono ?_
      intro e w3 hx
      obtain ⟨v3, rfl, hr3, hx3⟩ := hx
      obtain ⟨a3', c3', hv3⟩ := row_form hr3
      subst hv3
      obtain ⟨E3, hE3⟩ : ∃ E3, E3 = E.filter (fun x => !(decide (x.1 = x.2))) := ⟨_, rfl⟩
      have h3l : E3.length ≤ E.length := by rw [hE3]; exact List.length_filter_le _ _
      rw [← hE3] at hr3 ⊢
      have HE3 := hid hE3
      have HS3 := HS _ E3 w3 (fun e he => by rw [hE3] at he; exact Hin.out e (List.mem_filter.1 he).1) hx3 hr3 (by omega)
      clear HD HS hr3 hx3 hE3
      go_wp2_with fail
      refine HS3.out.mono ?_
      intro e w4 hx
      obtain ⟨rfl, E4, hr4, h4l, hm4, hp4, hx4⟩ := hx
      have HC4 := HC (.slice a3' E3.length c3') E4 w4 hx4 (by rw [← h4l] at hr4 ⊢; exact hr4) (by omega)
      have Hfin : Hid (EdgesAre P has (Lib.compact E4)) := hid (by
        obtain ⟨g1, g2⟩ := compactP E4 hp4
        refine ⟨g2, fun e => ?_⟩
        rw [g1, hm4, HE3.out, List.mem_filter, ← HE0.out]
        simp)
      have hcl := compactE_len E4
      have Hcl : Hid ((Lib.compact E4).length ≤ 50000) := hid (by omega)
      clear HS3 HC hr4 hm4 hp4 hx4 hcl
      go_wp2_with fail
      refine HC4.out.mono ?_
      intro e w5 hx
      obtain ⟨v5, rfl, hr5, hx5⟩ := hx
      obtain ⟨a5, c5, hv5⟩ := row_form hr5
      subst hv5
      have Hr5 := hid hr5
      have Hx5 := hid (HX.out.trans (Hx2.out.trans hx5))
      clear HC4 hr5 hx5
      go_wp2
      go_ret2
      exact ⟨_, _, rfl, Hr5.out.low (HX.out.trans Hx2.out).size, Hfin.out, Hcl.out, Hx5.out⟩
end Go.Proofs.YtihdpijgngooaaaGreatDoor
