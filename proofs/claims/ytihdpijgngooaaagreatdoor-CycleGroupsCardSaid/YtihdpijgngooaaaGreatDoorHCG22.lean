/- Texts of one proof, put together: V3q X1 T3 T4 T2 T5 T6 T1. -/
import Derived.Test.YtihdpijgngooaaaGreatDoorHCG05
import Derived.Test.YtihdpijgngooaaaGreatDoorHCG07
import Derived.Test.YtihdpijgngooaaaGreatDoorHCG08
import Derived.Test.YtihdpijgngooaaaGreatDoorHCG09
import Derived.Test.YtihdpijgngooaaaGreatDoorHCG10
import Derived.Test.YtihdpijgngooaaaGreatDoorHCG13
import Derived.Test.YtihdpijgngooaaaGreatDoorHCG14
import Derived.Test.YtihdpijgngooaaaGreatDoorHCG16
import Derived.Test.YtihdpijgngooaaaGreatDoorHCG21
import Derived.Test.YtihdpijgngooaaaGreatDoorHCG01
set_option linter.unusedSimpArgs false
set_option linter.unusedVariables false
namespace Go.Proofs.YtihdpijgngooaaaGreatDoor
open Go Go.RowKit
set_option maxRecDepth 100000 in
set_option maxHeartbeats 12800000 in
theorem large_q (a1 a2 a3 : Option Addr) (c1 c2 c3 : Nat) (q : Nat) (hq80 : q ≤ 80) (P : PP) (w : World) (n0 : Nat) (h : ProgR w n0 (.slice a1 P.vars.length c1) (.slice a2 P.funs.length c2) (.slice a3 P.stmts.length c3) P) :
    Calls Tryz.prog 8 #[pval a1 a2 a3 c1 c2 c3 P, .int .i64 (q : Int)] w fun e w' => ∃ r : Int, e = .returned (.int .i64 r) ∧ (0 ≤ r ∧ r ≤ 1) ∧ (r = 0 → P.Small ∧ (P.stmts.length ≤ q ∨ P.stmts.length = 81) ∧ (P.vars.length ≤ 15 ∨ P.vars.length = 41)) ∧ Ext w w' := by
  have hl1 := h.vars.len
  have hl2 := h.funs.len
  have hl3 := h.stmts.len
  obtain ⟨W, hW⟩ : ∃ W, W = w.alloc (.cells (pcells a1 a2 a3 c1 c2 c3 P) 26) := ⟨_, rfl⟩
  have HX : Hid (Ext w W) := hid (by rw [hW]; exact (Ext.refl _).alloc _)
  have hB : Blk W w.heap.size (pcells a1 a2 a3 c1 c2 c3 P) 26 := by rw [hW]; exact Blk.new _ _ _
  have HP := hid (h.ext HX.out)
  have d0 := hB.av 0 rfl
  have d1 := hB.av 1 rfl
  have d2 := hB.av 2 rfl
  simp only [pcells, qA0, qA1, qA2] at d0 d1 d2
  unfold pcells at hW
  have HWe := hid hW
  unfold pval
  clear hW hB h
  go_enter Tryz.func8, Tryz.ntmps8
  by_cases b1 : 15 < P.vars.length
  · by_cases b2 : (P.vars.length : Int) = 41
    · have Hv8 : Hid (P.vars.length ≤ 15 ∨ P.vars.length = 41) := hid (.inr (by omega))
      by_cases b3 : 8 < P.funs.length
      · go_wp2
        go_ret
        exact ⟨1, rfl, by omega, (fun h => absurd h (by decide)), (Ext.refl w).alloc _⟩
      · by_cases b4 : q < P.stmts.length
        · by_cases b5 : (P.stmts.length : Int) = 81
          · have Hq8 : Hid (P.stmts.length ≤ q ∨ P.stmts.length = 81) := hid (.inr (by omega))
            have Hb := hid (show P.vars.length ≤ 41 ∧ P.funs.length ≤ 8 ∧ P.stmts.length ≤ 81 from ⟨by omega, by omega, by omega⟩)
            go_wp2
            rw [← HWe.out]
            clear b1 b3 b4
            clear b5
            clear b2
            go_loop [5] (fun t5 => ∃ k : Nat, t5 = .int .i64 (k : Int) ∧ k ≤ P.vars.length ∧ ∀ j s, j < k → P.vars[j]? = some s → s.size ≤ 20) (fun t5 => P.vars.length - (intOf t5).toNat)
            case atStart => exact ⟨0, rfl, Nat.zero_le _, fun j s h => by omega⟩
            case round =>
              obtain ⟨k, rfl, hk, hp⟩ := hrel
              have Hp := hid hp
              clear hp
              by_cases hlt : k < P.vars.length
              · obtain ⟨y, q, rfl, hq, hc⟩ := HP.out.vars.at hlt
                have Hq := hid hq
                clear hq
                by_cases hz : 20 < q.size
                · go_wp2
                  go_ret
                  exact ⟨1, rfl, by omega, (fun h => absurd h (by decide)), HX.out⟩
                · have hz2 : q.size ≤ 20 := by omega
                  go_wp2
                  refine ⟨⟨k + 1, by go_num, by omega, fun j s hj hs => ?_⟩, by simp [intOf]; omega⟩
                  by_cases hjk : j = k
                  · subst hjk
                    obtain rfl := Option.some.inj (Hq.out.symm.trans hs)
                    exact hz2
                  · exact Hp.out j s (by omega) hs
              · obtain rfl : k = P.vars.length := by omega
                have Hv := hid (show ∀ s ∈ P.vars, s.size ≤ 20 from fun s hs => by
                  obtain ⟨j, hj, e⟩ := List.mem_iff_getElem.1 hs
                  exact Hp.out j s hj (by rw [List.getElem?_eq_getElem hj, e]))
                clear Hp
                go_wp2
                go_loop [6] (fun t6 => ∃ k : Nat, t6 = .int .i64 (k : Int) ∧ k ≤ P.funs.length ∧ ∀ j f, j < k → P.funs[j]? = some f → f.name.size ≤ 20 ∧ f.params.length ≤ 8) (fun t6 => P.funs.length - (intOf t6).toNat)
                case atStart => exact ⟨0, rfl, Nat.zero_le _, fun j s h => by omega⟩
                case round =>
                  obtain ⟨k, rfl, hk, hp⟩ := hrel
                  have Hp := hid hp
                  clear hp
                  by_cases hlt : k < P.funs.length
                  · obtain ⟨y, f, av, cv, rfl, hq, e0, e1, e2, _⟩ := HP.out.funs.at hlt
                    have Hq := hid hq
                    clear hq
                    by_cases hz : 20 < f.name.size
                    · go_wp2
                      go_ret
                      exact ⟨1, rfl, by omega, (fun h => absurd h (by decide)), HX.out⟩
                    · by_cases hz3 : 8 < f.params.length
                      · go_wp2
                        go_ret
                        exact ⟨1, rfl, by omega, (fun h => absurd h (by decide)), HX.out⟩
                      · have hz2 : f.name.size ≤ 20 ∧ f.params.length ≤ 8 := ⟨by omega, by omega⟩
                        have Hz2 := hid hz2
                        clear hz2
                        go_wp2
                        refine ⟨⟨k + 1, by go_num, by omega, fun j s hj hs => ?_⟩, by simp [intOf]; omega⟩
                        by_cases hjk : j = k
                        · subst hjk
                          obtain rfl := Option.some.inj (Hq.out.symm.trans hs)
                          exact Hz2.out
                        · exact Hp.out j s (by omega) hs
                  · obtain rfl : k = P.funs.length := by omega
                    have Hf := hid (show ∀ f ∈ P.funs, f.name.size ≤ 20 ∧ f.params.length ≤ 8 from fun s hs => by
                      obtain ⟨j, hj, e⟩ := List.mem_iff_getElem.1 hs
                      exact Hp.out j s hj (by rw [List.getElem?_eq_getElem hj, e]))
                    clear Hp
                    go_wp2
                    go_loop [7] (fun t7 => ∃ k : Nat, t7 = .int .i64 (k : Int) ∧ k ≤ P.stmts.length ∧ ∀ j s, j < k → P.stmts[j]? = some s → s.kind.size ≤ 20 ∧ s.args.length ≤ 8) (fun t7 => P.stmts.length - (intOf t7).toNat)
                    case atStart => exact ⟨0, rfl, Nat.zero_le _, fun j s h => by omega⟩
                    case round =>
                      obtain ⟨k, rfl, hk, hp⟩ := hrel
                      have Hp := hid hp
                      clear hp
                      by_cases hlt : k < P.stmts.length
                      · obtain ⟨y, s, av, cv, rfl, hq, e0, e1, e2, e3, _⟩ := HP.out.stmts.at hlt
                        have Hq := hid hq
                        clear hq
                        by_cases hz : 20 < s.kind.size
                        · go_wp2
                          go_ret
                          exact ⟨1, rfl, by omega, (fun h => absurd h (by decide)), HX.out⟩
                        · by_cases hz3 : 8 < s.args.length
                          · go_wp2
                            go_ret
                            exact ⟨1, rfl, by omega, (fun h => absurd h (by decide)), HX.out⟩
                          · have hz2 : s.kind.size ≤ 20 ∧ s.args.length ≤ 8 := ⟨by omega, by omega⟩
                            have Hz2 := hid hz2
                            clear hz2
                            go_wp2
                            refine ⟨⟨k + 1, by go_num, by omega, fun j s hj hs => ?_⟩, by simp [intOf]; omega⟩
                            by_cases hjk : j = k
                            · subst hjk
                              obtain rfl := Option.some.inj (Hq.out.symm.trans hs)
                              exact Hz2.out
                            · exact Hp.out j s (by omega) hs
                      · obtain rfl : k = P.stmts.length := by omega
                        have Hs := hid (show P.Small from ⟨Hb.out.1, Hb.out.2.1, Hb.out.2.2, Hv.out, Hf.out, fun s hs => by
                          obtain ⟨j, hj, e⟩ := List.mem_iff_getElem.1 hs
                          exact Hp.out j s hj (by rw [List.getElem?_eq_getElem hj, e])⟩)
                        go_wp2
                        go_ret
                        exact ⟨0, rfl, by omega, fun _ => ⟨Hs.out, Hq8.out, Hv8.out⟩, HX.out⟩
          · have b5n : ((P.stmts.length : Int) != 81) = true := bne_iff_ne.2 b5
            go_wp2
            go_ret
            exact ⟨1, rfl, by omega, (fun h => absurd h (by decide)), (Ext.refl w).alloc _⟩
        · have Hq8 : Hid (P.stmts.length ≤ q ∨ P.stmts.length = 81) := hid (.inl (by omega))
          have Hb := hid (show P.vars.length ≤ 41 ∧ P.funs.length ≤ 8 ∧ P.stmts.length ≤ 81 from ⟨by omega, by omega, by omega⟩)
          go_wp2
          rw [← HWe.out]
          clear b1 b3 b4
          clear b2
          go_loop [5] (fun t5 => ∃ k : Nat, t5 = .int .i64 (k : Int) ∧ k ≤ P.vars.length ∧ ∀ j s, j < k → P.vars[j]? = some s → s.size ≤ 20) (fun t5 => P.vars.length - (intOf t5).toNat)
          case atStart => exact ⟨0, rfl, Nat.zero_le _, fun j s h => by omega⟩
          case round =>
            obtain ⟨k, rfl, hk, hp⟩ := hrel
            have Hp := hid hp
            clear hp
            by_cases hlt : k < P.vars.length
            · obtain ⟨y, q, rfl, hq, hc⟩ := HP.out.vars.at hlt
              have Hq := hid hq
              clear hq
              by_cases hz : 20 < q.size
              · go_wp2
                go_ret
                exact ⟨1, rfl, by omega, (fun h => absurd h (by decide)), HX.out⟩
              · have hz2 : q.size ≤ 20 := by omega
                go_wp2
                refine ⟨⟨k + 1, by go_num, by omega, fun j s hj hs => ?_⟩, by simp [intOf]; omega⟩
                by_cases hjk : j = k
                · subst hjk
                  obtain rfl := Option.some.inj (Hq.out.symm.trans hs)
                  exact hz2
                · exact Hp.out j s (by omega) hs
            · obtain rfl : k = P.vars.length := by omega
              have Hv := hid (show ∀ s ∈ P.vars, s.size ≤ 20 from fun s hs => by
                obtain ⟨j, hj, e⟩ := List.mem_iff_getElem.1 hs
                exact Hp.out j s hj (by rw [List.getElem?_eq_getElem hj, e]))
              clear Hp
              go_wp2
              go_loop [6] (fun t6 => ∃ k : Nat, t6 = .int .i64 (k : Int) ∧ k ≤ P.funs.length ∧ ∀ j f, j < k → P.funs[j]? = some f → f.name.size ≤ 20 ∧ f.params.length ≤ 8) (fun t6 => P.funs.length - (intOf t6).toNat)
              case atStart => exact ⟨0, rfl, Nat.zero_le _, fun j s h => by omega⟩
              case round =>
                obtain ⟨k, rfl, hk, hp⟩ := hrel
                have Hp := hid hp
                clear hp
                by_cases hlt : k < P.funs.length
                · obtain ⟨y, f, av, cv, rfl, hq, e0, e1, e2, _⟩ := HP.out.funs.at hlt
                  have Hq := hid hq
                  clear hq
                  by_cases hz : 20 < f.name.size
                  · go_wp2
                    go_ret
                    exact ⟨1, rfl, by omega, (fun h => absurd h (by decide)), HX.out⟩
                  · by_cases hz3 : 8 < f.params.length
                    · go_wp2
                      go_ret
                      exact ⟨1, rfl, by omega, (fun h => absurd h (by decide)), HX.out⟩
                    · have hz2 : f.name.size ≤ 20 ∧ f.params.length ≤ 8 := ⟨by omega, by omega⟩
                      have Hz2 := hid hz2
                      clear hz2
                      go_wp2
                      refine ⟨⟨k + 1, by go_num, by omega, fun j s hj hs => ?_⟩, by simp [intOf]; omega⟩
                      by_cases hjk : j = k
                      · subst hjk
                        obtain rfl := Option.some.inj (Hq.out.symm.trans hs)
                        exact Hz2.out
                      · exact Hp.out j s (by omega) hs
                · obtain rfl : k = P.funs.length := by omega
                  have Hf := hid (show ∀ f ∈ P.funs, f.name.size ≤ 20 ∧ f.params.length ≤ 8 from fun s hs => by
                    obtain ⟨j, hj, e⟩ := List.mem_iff_getElem.1 hs
                    exact Hp.out j s hj (by rw [List.getElem?_eq_getElem hj, e]))
                  clear Hp
                  go_wp2
                  go_loop [7] (fun t7 => ∃ k : Nat, t7 = .int .i64 (k : Int) ∧ k ≤ P.stmts.length ∧ ∀ j s, j < k → P.stmts[j]? = some s → s.kind.size ≤ 20 ∧ s.args.length ≤ 8) (fun t7 => P.stmts.length - (intOf t7).toNat)
                  case atStart => exact ⟨0, rfl, Nat.zero_le _, fun j s h => by omega⟩
                  case round =>
                    obtain ⟨k, rfl, hk, hp⟩ := hrel
                    have Hp := hid hp
                    clear hp
                    by_cases hlt : k < P.stmts.length
                    · obtain ⟨y, s, av, cv, rfl, hq, e0, e1, e2, e3, _⟩ := HP.out.stmts.at hlt
                      have Hq := hid hq
                      clear hq
                      by_cases hz : 20 < s.kind.size
                      · go_wp2
                        go_ret
                        exact ⟨1, rfl, by omega, (fun h => absurd h (by decide)), HX.out⟩
                      · by_cases hz3 : 8 < s.args.length
                        · go_wp2
                          go_ret
                          exact ⟨1, rfl, by omega, (fun h => absurd h (by decide)), HX.out⟩
                        · have hz2 : s.kind.size ≤ 20 ∧ s.args.length ≤ 8 := ⟨by omega, by omega⟩
                          have Hz2 := hid hz2
                          clear hz2
                          go_wp2
                          refine ⟨⟨k + 1, by go_num, by omega, fun j s hj hs => ?_⟩, by simp [intOf]; omega⟩
                          by_cases hjk : j = k
                          · subst hjk
                            obtain rfl := Option.some.inj (Hq.out.symm.trans hs)
                            exact Hz2.out
                          · exact Hp.out j s (by omega) hs
                    · obtain rfl : k = P.stmts.length := by omega
                      have Hs := hid (show P.Small from ⟨Hb.out.1, Hb.out.2.1, Hb.out.2.2, Hv.out, Hf.out, fun s hs => by
                        obtain ⟨j, hj, e⟩ := List.mem_iff_getElem.1 hs
                        exact Hp.out j s hj (by rw [List.getElem?_eq_getElem hj, e])⟩)
                      go_wp2
                      go_ret
                      exact ⟨0, rfl, by omega, fun _ => ⟨Hs.out, Hq8.out, Hv8.out⟩, HX.out⟩
    · go_wp2
      go_ret
      exact ⟨1, rfl, by omega, (fun h => absurd h (by decide)), (Ext.refl w).alloc _⟩
  · have Hv8 : Hid (P.vars.length ≤ 15 ∨ P.vars.length = 41) := hid (.inl (by omega))
    by_cases b3 : 8 < P.funs.length
    · go_wp2
      go_ret
      exact ⟨1, rfl, by omega, (fun h => absurd h (by decide)), (Ext.refl w).alloc _⟩
    · by_cases b4 : q < P.stmts.length
      · by_cases b5 : (P.stmts.length : Int) = 81
        · have Hq8 : Hid (P.stmts.length ≤ q ∨ P.stmts.length = 81) := hid (.inr (by omega))
          have Hb := hid (show P.vars.length ≤ 41 ∧ P.funs.length ≤ 8 ∧ P.stmts.length ≤ 81 from ⟨by omega, by omega, by omega⟩)
          go_wp2
          rw [← HWe.out]
          clear b1 b3 b4
          clear b5
          skip
          go_loop [5] (fun t5 => ∃ k : Nat, t5 = .int .i64 (k : Int) ∧ k ≤ P.vars.length ∧ ∀ j s, j < k → P.vars[j]? = some s → s.size ≤ 20) (fun t5 => P.vars.length - (intOf t5).toNat)
          case atStart => exact ⟨0, rfl, Nat.zero_le _, fun j s h => by omega⟩
          case round =>
            obtain ⟨k, rfl, hk, hp⟩ := hrel
            have Hp := hid hp
            clear hp
            by_cases hlt : k < P.vars.length
            · obtain ⟨y, q, rfl, hq, hc⟩ := HP.out.vars.at hlt
              have Hq := hid hq
              clear hq
              by_cases hz : 20 < q.size
              · go_wp2
                go_ret
                exact ⟨1, rfl, by omega, (fun h => absurd h (by decide)), HX.out⟩
              · have hz2 : q.size ≤ 20 := by omega
                go_wp2
                refine ⟨⟨k + 1, by go_num, by omega, fun j s hj hs => ?_⟩, by simp [intOf]; omega⟩
                by_cases hjk : j = k
                · subst hjk
                  obtain rfl := Option.some.inj (Hq.out.symm.trans hs)
                  exact hz2
                · exact Hp.out j s (by omega) hs
            · obtain rfl : k = P.vars.length := by omega
              have Hv := hid (show ∀ s ∈ P.vars, s.size ≤ 20 from fun s hs => by
                obtain ⟨j, hj, e⟩ := List.mem_iff_getElem.1 hs
                exact Hp.out j s hj (by rw [List.getElem?_eq_getElem hj, e]))
              clear Hp
              go_wp2
              go_loop [6] (fun t6 => ∃ k : Nat, t6 = .int .i64 (k : Int) ∧ k ≤ P.funs.length ∧ ∀ j f, j < k → P.funs[j]? = some f → f.name.size ≤ 20 ∧ f.params.length ≤ 8) (fun t6 => P.funs.length - (intOf t6).toNat)
              case atStart => exact ⟨0, rfl, Nat.zero_le _, fun j s h => by omega⟩
              case round =>
                obtain ⟨k, rfl, hk, hp⟩ := hrel
                have Hp := hid hp
                clear hp
                by_cases hlt : k < P.funs.length
                · obtain ⟨y, f, av, cv, rfl, hq, e0, e1, e2, _⟩ := HP.out.funs.at hlt
                  have Hq := hid hq
                  clear hq
                  by_cases hz : 20 < f.name.size
                  · go_wp2
                    go_ret
                    exact ⟨1, rfl, by omega, (fun h => absurd h (by decide)), HX.out⟩
                  · by_cases hz3 : 8 < f.params.length
                    · go_wp2
                      go_ret
                      exact ⟨1, rfl, by omega, (fun h => absurd h (by decide)), HX.out⟩
                    · have hz2 : f.name.size ≤ 20 ∧ f.params.length ≤ 8 := ⟨by omega, by omega⟩
                      have Hz2 := hid hz2
                      clear hz2
                      go_wp2
                      refine ⟨⟨k + 1, by go_num, by omega, fun j s hj hs => ?_⟩, by simp [intOf]; omega⟩
                      by_cases hjk : j = k
                      · subst hjk
                        obtain rfl := Option.some.inj (Hq.out.symm.trans hs)
                        exact Hz2.out
                      · exact Hp.out j s (by omega) hs
                · obtain rfl : k = P.funs.length := by omega
                  have Hf := hid (show ∀ f ∈ P.funs, f.name.size ≤ 20 ∧ f.params.length ≤ 8 from fun s hs => by
                    obtain ⟨j, hj, e⟩ := List.mem_iff_getElem.1 hs
                    exact Hp.out j s hj (by rw [List.getElem?_eq_getElem hj, e]))
                  clear Hp
                  go_wp2
                  go_loop [7] (fun t7 => ∃ k : Nat, t7 = .int .i64 (k : Int) ∧ k ≤ P.stmts.length ∧ ∀ j s, j < k → P.stmts[j]? = some s → s.kind.size ≤ 20 ∧ s.args.length ≤ 8) (fun t7 => P.stmts.length - (intOf t7).toNat)
                  case atStart => exact ⟨0, rfl, Nat.zero_le _, fun j s h => by omega⟩
                  case round =>
                    obtain ⟨k, rfl, hk, hp⟩ := hrel
                    have Hp := hid hp
                    clear hp
                    by_cases hlt : k < P.stmts.length
                    · obtain ⟨y, s, av, cv, rfl, hq, e0, e1, e2, e3, _⟩ := HP.out.stmts.at hlt
                      have Hq := hid hq
                      clear hq
                      by_cases hz : 20 < s.kind.size
                      · go_wp2
                        go_ret
                        exact ⟨1, rfl, by omega, (fun h => absurd h (by decide)), HX.out⟩
                      · by_cases hz3 : 8 < s.args.length
                        · go_wp2
                          go_ret
                          exact ⟨1, rfl, by omega, (fun h => absurd h (by decide)), HX.out⟩
                        · have hz2 : s.kind.size ≤ 20 ∧ s.args.length ≤ 8 := ⟨by omega, by omega⟩
                          have Hz2 := hid hz2
                          clear hz2
                          go_wp2
                          refine ⟨⟨k + 1, by go_num, by omega, fun j s hj hs => ?_⟩, by simp [intOf]; omega⟩
                          by_cases hjk : j = k
                          · subst hjk
                            obtain rfl := Option.some.inj (Hq.out.symm.trans hs)
                            exact Hz2.out
                          · exact Hp.out j s (by omega) hs
                    · obtain rfl : k = P.stmts.length := by omega
                      have Hs := hid (show P.Small from ⟨Hb.out.1, Hb.out.2.1, Hb.out.2.2, Hv.out, Hf.out, fun s hs => by
                        obtain ⟨j, hj, e⟩ := List.mem_iff_getElem.1 hs
                        exact Hp.out j s hj (by rw [List.getElem?_eq_getElem hj, e])⟩)
                      go_wp2
                      go_ret
                      exact ⟨0, rfl, by omega, fun _ => ⟨Hs.out, Hq8.out, Hv8.out⟩, HX.out⟩
        · have b5n : ((P.stmts.length : Int) != 81) = true := bne_iff_ne.2 b5
          go_wp2
          go_ret
          exact ⟨1, rfl, by omega, (fun h => absurd h (by decide)), (Ext.refl w).alloc _⟩
      · have Hq8 : Hid (P.stmts.length ≤ q ∨ P.stmts.length = 81) := hid (.inl (by omega))
        have Hb := hid (show P.vars.length ≤ 41 ∧ P.funs.length ≤ 8 ∧ P.stmts.length ≤ 81 from ⟨by omega, by omega, by omega⟩)
        go_wp2
        rw [← HWe.out]
        clear b1 b3 b4
        skip
        go_loop [5] (fun t5 => ∃ k : Nat, t5 = .int .i64 (k : Int) ∧ k ≤ P.vars.length ∧ ∀ j s, j < k → P.vars[j]? = some s → s.size ≤ 20) (fun t5 => P.vars.length - (intOf t5).toNat)
        case atStart => exact ⟨0, rfl, Nat.zero_le _, fun j s h => by omega⟩
        case round =>
          obtain ⟨k, rfl, hk, hp⟩ := hrel
          have Hp := hid hp
          clear hp
          by_cases hlt : k < P.vars.length
          · obtain ⟨y, q, rfl, hq, hc⟩ := HP.out.vars.at hlt
            have Hq := hid hq
            clear hq
            by_cases hz : 20 < q.size
            · go_wp2
              go_ret
              exact ⟨1, rfl, by omega, (fun h => absurd h (by decide)), HX.out⟩
            · have hz2 : q.size ≤ 20 := by omega
              go_wp2
              refine ⟨⟨k + 1, by go_num, by omega, fun j s hj hs => ?_⟩, by simp [intOf]; omega⟩
              by_cases hjk : j = k
              · subst hjk
                obtain rfl := Option.some.inj (Hq.out.symm.trans hs)
                exact hz2
              · exact Hp.out j s (by omega) hs
          · obtain rfl : k = P.vars.length := by omega
            have Hv := hid (show ∀ s ∈ P.vars, s.size ≤ 20 from fun s hs => by
              obtain ⟨j, hj, e⟩ := List.mem_iff_getElem.1 hs
              exact Hp.out j s hj (by rw [List.getElem?_eq_getElem hj, e]))
            clear Hp
            go_wp2
            go_loop [6] (fun t6 => ∃ k : Nat, t6 = .int .i64 (k : Int) ∧ k ≤ P.funs.length ∧ ∀ j f, j < k → P.funs[j]? = some f → f.name.size ≤ 20 ∧ f.params.length ≤ 8) (fun t6 => P.funs.length - (intOf t6).toNat)
            case atStart => exact ⟨0, rfl, Nat.zero_le _, fun j s h => by omega⟩
            case round =>
              obtain ⟨k, rfl, hk, hp⟩ := hrel
              have Hp := hid hp
              clear hp
              by_cases hlt : k < P.funs.length
              · obtain ⟨y, f, av, cv, rfl, hq, e0, e1, e2, _⟩ := HP.out.funs.at hlt
                have Hq := hid hq
                clear hq
                by_cases hz : 20 < f.name.size
                · go_wp2
                  go_ret
                  exact ⟨1, rfl, by omega, (fun h => absurd h (by decide)), HX.out⟩
                · by_cases hz3 : 8 < f.params.length
                  · go_wp2
                    go_ret
                    exact ⟨1, rfl, by omega, (fun h => absurd h (by decide)), HX.out⟩
                  · have hz2 : f.name.size ≤ 20 ∧ f.params.length ≤ 8 := ⟨by omega, by omega⟩
                    have Hz2 := hid hz2
                    clear hz2
                    go_wp2
                    refine ⟨⟨k + 1, by go_num, by omega, fun j s hj hs => ?_⟩, by simp [intOf]; omega⟩
                    by_cases hjk : j = k
                    · subst hjk
                      obtain rfl := Option.some.inj (Hq.out.symm.trans hs)
                      exact Hz2.out
                    · exact Hp.out j s (by omega) hs
              · obtain rfl : k = P.funs.length := by omega
                have Hf := hid (show ∀ f ∈ P.funs, f.name.size ≤ 20 ∧ f.params.length ≤ 8 from fun s hs => by
                  obtain ⟨j, hj, e⟩ := List.mem_iff_getElem.1 hs
                  exact Hp.out j s hj (by rw [List.getElem?_eq_getElem hj, e]))
                clear Hp
                go_wp2
                go_loop [7] (fun t7 => ∃ k : Nat, t7 = .int .i64 (k : Int) ∧ k ≤ P.stmts.length ∧ ∀ j s, j < k → P.stmts[j]? = some s → s.kind.size ≤ 20 ∧ s.args.length ≤ 8) (fun t7 => P.stmts.length - (intOf t7).toNat)
                case atStart => exact ⟨0, rfl, Nat.zero_le _, fun j s h => by omega⟩
                case round =>
                  obtain ⟨k, rfl, hk, hp⟩ := hrel
                  have Hp := hid hp
                  clear hp
                  by_cases hlt : k < P.stmts.length
                  · obtain ⟨y, s, av, cv, rfl, hq, e0, e1, e2, e3, _⟩ := HP.out.stmts.at hlt
                    have Hq := hid hq
                    clear hq
                    by_cases hz : 20 < s.kind.size
                    · go_wp2
                      go_ret
                      exact ⟨1, rfl, by omega, (fun h => absurd h (by decide)), HX.out⟩
                    · by_cases hz3 : 8 < s.args.length
                      · go_wp2
                        go_ret
                        exact ⟨1, rfl, by omega, (fun h => absurd h (by decide)), HX.out⟩
                      · have hz2 : s.kind.size ≤ 20 ∧ s.args.length ≤ 8 := ⟨by omega, by omega⟩
                        have Hz2 := hid hz2
                        clear hz2
                        go_wp2
                        refine ⟨⟨k + 1, by go_num, by omega, fun j s hj hs => ?_⟩, by simp [intOf]; omega⟩
                        by_cases hjk : j = k
                        · subst hjk
                          obtain rfl := Option.some.inj (Hq.out.symm.trans hs)
                          exact Hz2.out
                        · exact Hp.out j s (by omega) hs
                  · obtain rfl : k = P.stmts.length := by omega
                    have Hs := hid (show P.Small from ⟨Hb.out.1, Hb.out.2.1, Hb.out.2.2, Hv.out, Hf.out, fun s hs => by
                      obtain ⟨j, hj, e⟩ := List.mem_iff_getElem.1 hs
                      exact Hp.out j s hj (by rw [List.getElem?_eq_getElem hj, e])⟩)
                    go_wp2
                    go_ret
                    exact ⟨0, rfl, by omega, fun _ => ⟨Hs.out, Hq8.out, Hv8.out⟩, HX.out⟩
set_option maxRecDepth 100000 in
set_option maxHeartbeats 3200000 in
theorem risedge_copy (a1 a2 a3 : Option Addr) (c1 c2 c3 : Nat) (P : PP) (r : RV) (av hv : Value) (has : List (List Int)) (p q : Int) (w : World) (n0 : Nat) (h : ProgR w n0 (.slice a1 P.vars.length c1) (.slice a2 P.funs.length c2) (.slice a3 P.stmts.length c3) P) (hf1 : P.vars.length ≤ 1000) (hf3 : P.stmts.length ≤ 1000) (ha : IntsR w n0 av r.args) (hh : SetsR w n0 hv has) (hkd : (r.kind.toList == [99, 111, 112, 121]) = true) :
    Calls Tryz.prog 74 #[pval a1 a2 a3 c1 c2 c3 P, r.val av, hv, .int .i64 p, .int .i64 q] w fun e w' => e = .returned (.bool (P.isE r has p q)) ∧ Ext w w' := by
  obtain ⟨aa, ca, rfl, _⟩ := id ha
  obtain ⟨ah, ch, rfl⟩ := hh.form
  have hhl := hh.len
  have hal := ha.len
  obtain ⟨W1, hW1⟩ : ∃ W1, W1 = w.alloc (.cells (pcells a1 a2 a3 c1 c2 c3 P) 26) := ⟨_, rfl⟩
  have hx1 : Ext w W1 := by rw [hW1]; exact (Ext.refl _).alloc _
  obtain ⟨W, hW⟩ : ∃ W, W = W1.alloc (.cells #[.string r.kind, .int .i64 r.a, .int .i64 r.b, .int .i64 r.k, .slice aa r.args.length ca] 126) := ⟨_, rfl⟩
  have hx2 : Ext W1 W := by rw [hW]; exact (Ext.refl _).alloc _
  have s1 : W1.heap.size = w.heap.size + 1 := by rw [hW1, heap_size_alloc]
  have HX := hid (hx1.trans hx2)
  have HB0 : Hid (Blk W w.heap.size (pcells a1 a2 a3 c1 c2 c3 P) 26) := hid (by
    have : Blk W1 w.heap.size (pcells a1 a2 a3 c1 c2 c3 P) 26 := by rw [hW1]; exact Blk.new _ _ _
    exact this.ext hx2)
  have HB1 : Hid (Blk W (w.heap.size + 1) #[.string r.kind, .int .i64 r.a, .int .i64 r.b, .int .i64 r.k, .slice aa r.args.length ca] 126) := hid (by rw [← s1, hW]; exact Blk.new _ _ _)
  have HWe : Hid (W = (w.alloc (.cells #[.slice a1 P.vars.length c1, .slice a2 P.funs.length c2, .slice a3 P.stmts.length c3] 26)).alloc (.cells #[.string r.kind, .int .i64 r.a, .int .i64 r.b, .int .i64 r.k, .slice aa r.args.length ca] 126)) := hid (by rw [hW, hW1]; rfl)
  have HP := hid (h.ext HX.out)
  have HH := hid (hh.ext HX.out)
  have HA := hid (ha.old (HX.out.old n0))
  have hnl := P.nodesV_le2
  have HNo := hid (rnodesof_any a1 a2 a3 c1 c2 c3 P W n0 (h.ext HX.out) hf1 hf3)
  obtain ⟨N, hN⟩ : ∃ N, N = P.nodesV := ⟨_, rfl⟩
  rw [← hN] at HNo hnl
  have HN := hid hN
  have d0 := HB0.out.av 0 rfl
  have d1 := HB0.out.av 1 rfl
  have d2 := HB0.out.av 2 rfl
  simp only [pcells, qA0, qA1, qA2] at d0 d1 d2
  rw [HWe.out] at d0 d1 d2
  unfold RV.val
  unfold pval at HNo ⊢
  clear h ha hh hW1 hW hx1 hx2 s1 hN
  have Hr : Hid (P.isE r has p q = (decide (p = r.a) && decide (q = r.b))) := hid (by unfold PP.isE kCopy; rw [hkd]; rfl)
  obtain ⟨ra, hra⟩ : ∃ x, x = r.a := ⟨_, rfl⟩
  obtain ⟨rb, hrb⟩ : ∃ x, x = r.b := ⟨_, rfl⟩
  go_enter Tryz.func74, Tryz.ntmps74
  go_wp2_with fail
  rw [← HWe.out]
  refine HNo.out.mono ?_
  intro e w1 hx
  obtain ⟨rfl, hx1⟩ := hx
  have Hx1 := hid hx1
  have m0 := (HB1.out.ext hx1).av 0 rfl
  have m1 := (HB1.out.ext hx1).av 1 rfl
  have m2 := (HB1.out.ext hx1).av 2 rfl
  have m3 := (HB1.out.ext hx1).av 3 rfl
  have m4 := (HB1.out.ext hx1).av 4 rfl
  simp only [qA0, qA1, qA2] at m0 m1 m2 m3 m4
  clear HNo hx1 d0 d1 d2
  rw [← hra] at m1 Hr
  rw [← hrb] at m2 Hr
  clear hra hrb
  by_cases h1 : p = ra
  · subst h1
    by_cases h2 : q = rb
    · subst h2
      go_wp2
      go_ret
      exact ⟨by rw [Hr.out]; simp, HX.out.trans Hx1.out⟩
    · have h2' : (q == rb) = false := beq_eq_false_iff_ne.2 h2
      have Hr2 : Hid (P.isE r has p q = false) := hid (by rw [Hr.out, decide_eq_false h2, Bool.and_false])
      go_wp2
      go_ret
      exact ⟨by rw [Hr2.out]; rfl, HX.out.trans Hx1.out⟩
  · have h1' : (p == ra) = false := beq_eq_false_iff_ne.2 h1
    have Hr2 : Hid (P.isE r has p q = false) := hid (by rw [Hr.out, decide_eq_false h1, Bool.false_and])
    go_wp2
    go_ret
    exact ⟨by rw [Hr2.out]; rfl, HX.out.trans Hx1.out⟩
set_option maxRecDepth 100000 in
set_option maxHeartbeats 3200000 in
theorem risedge_load (a1 a2 a3 : Option Addr) (c1 c2 c3 : Nat) (P : PP) (r : RV) (av hv : Value) (has : List (List Int)) (p q : Int) (w : World) (n0 : Nat) (h : ProgR w n0 (.slice a1 P.vars.length c1) (.slice a2 P.funs.length c2) (.slice a3 P.stmts.length c3) P) (hf1 : P.vars.length ≤ 1000) (hf3 : P.stmts.length ≤ 1000) (ha : IntsR w n0 av r.args) (hh : SetsR w n0 hv has) (hkd : (r.kind.toList == [108, 111, 97, 100]) = true) (hidx : 0 ≤ r.a ∧ r.a < has.length) :
    Calls Tryz.prog 74 #[pval a1 a2 a3 c1 c2 c3 P, r.val av, hv, .int .i64 p, .int .i64 q] w fun e w' => e = .returned (.bool (P.isE r has p q)) ∧ Ext w w' := by
  obtain ⟨aa, ca, rfl, _⟩ := id ha
  obtain ⟨ah, ch, rfl⟩ := hh.form
  have hhl := hh.len
  have hal := ha.len
  obtain ⟨W1, hW1⟩ : ∃ W1, W1 = w.alloc (.cells (pcells a1 a2 a3 c1 c2 c3 P) 26) := ⟨_, rfl⟩
  have hx1 : Ext w W1 := by rw [hW1]; exact (Ext.refl _).alloc _
  obtain ⟨W, hW⟩ : ∃ W, W = W1.alloc (.cells #[.string r.kind, .int .i64 r.a, .int .i64 r.b, .int .i64 r.k, .slice aa r.args.length ca] 126) := ⟨_, rfl⟩
  have hx2 : Ext W1 W := by rw [hW]; exact (Ext.refl _).alloc _
  have s1 : W1.heap.size = w.heap.size + 1 := by rw [hW1, heap_size_alloc]
  have HX := hid (hx1.trans hx2)
  have HB0 : Hid (Blk W w.heap.size (pcells a1 a2 a3 c1 c2 c3 P) 26) := hid (by
    have : Blk W1 w.heap.size (pcells a1 a2 a3 c1 c2 c3 P) 26 := by rw [hW1]; exact Blk.new _ _ _
    exact this.ext hx2)
  have HB1 : Hid (Blk W (w.heap.size + 1) #[.string r.kind, .int .i64 r.a, .int .i64 r.b, .int .i64 r.k, .slice aa r.args.length ca] 126) := hid (by rw [← s1, hW]; exact Blk.new _ _ _)
  have HWe : Hid (W = (w.alloc (.cells #[.slice a1 P.vars.length c1, .slice a2 P.funs.length c2, .slice a3 P.stmts.length c3] 26)).alloc (.cells #[.string r.kind, .int .i64 r.a, .int .i64 r.b, .int .i64 r.k, .slice aa r.args.length ca] 126)) := hid (by rw [hW, hW1]; rfl)
  have HP := hid (h.ext HX.out)
  have HH := hid (hh.ext HX.out)
  have HA := hid (ha.old (HX.out.old n0))
  have hnl := P.nodesV_le2
  have HNo := hid (rnodesof_any a1 a2 a3 c1 c2 c3 P W n0 (h.ext HX.out) hf1 hf3)
  obtain ⟨N, hN⟩ : ∃ N, N = P.nodesV := ⟨_, rfl⟩
  rw [← hN] at HNo hnl
  have HN := hid hN
  have d0 := HB0.out.av 0 rfl
  have d1 := HB0.out.av 1 rfl
  have d2 := HB0.out.av 2 rfl
  simp only [pcells, qA0, qA1, qA2] at d0 d1 d2
  rw [HWe.out] at d0 d1 d2
  unfold RV.val
  unfold pval at HNo ⊢
  clear h ha hh hW1 hW hx1 hx2 s1 hN
  have hk0 : (r.kind.toList == [99, 111, 112, 121]) = false := by rw [eq_of_beq hkd]; rfl
  have Hr : Hid (P.isE r has p q = (decide (q = r.b) && (decide (p < (P.nodesV : Int)) && decide (p ∈ has.getD r.a.toNat [])))) := hid (by unfold PP.isE kCopy kLoad; rw [hk0, hkd]; rfl)
  obtain ⟨K, hK⟩ := Int.eq_ofNat_of_zero_le hidx.1
  have hKl : K < has.length := by omega
  obtain ⟨y, l, bl, cl, hya, hl, hc, hI⟩ := HH.out.at hKl
  subst hya
  have Hl : Hid (has.getD (r.a).toNat [] = l) := hid (by rw [hK, List.getD_eq_getElem?_getD]; show (has[K]?).getD [] = l; rw [hl]; rfl)
  have HC := fun w1 (x : Ext W w1) => hid (rhas_any (.slice bl l.length cl) l p w1 n0 (hI.old (x.old n0)))
  have Hc := hid hc
  have HK := hid hK
  clear hl hI hidx hc hK
  go_enter Tryz.func74, Tryz.ntmps74
  go_wp2_with fail
  rw [← HWe.out]
  refine HNo.out.mono ?_
  intro e w1 hx
  obtain ⟨rfl, hx1⟩ := hx
  have Hx1 := hid hx1
  have m0 := (HB1.out.ext hx1).av 0 rfl
  have m1 := (HB1.out.ext hx1).av 1 rfl
  have m2 := (HB1.out.ext hx1).av 2 rfl
  have m3 := (HB1.out.ext hx1).av 3 rfl
  have m4 := (HB1.out.ext hx1).av 4 rfl
  simp only [qA0, qA1, qA2] at m0 m1 m2 m3 m4
  clear HNo hx1 d0 d1 d2
  have c0 := Hx1.out.cellx Hc.out
  have HC1 := HC w1 Hx1.out
  rw [Hl.out, ← HN.out] at Hr
  obtain ⟨rb, hrb⟩ : ∃ x, x = r.b := ⟨_, rfl⟩
  rw [← hrb] at m2 Hr
  rw [HK.out] at m1
  clear hrb HC
  by_cases h1 : q = rb
  · subst h1
    by_cases h2 : p < (N : Int)
    · obtain ⟨d, hd⟩ : ∃ d, d = decide (p ∈ l) := ⟨_, rfl⟩
      rw [← hd] at HC1
      have Hr2 : Hid (P.isE r has p q = d) := hid (by rw [Hr.out, decide_eq_true rfl, decide_eq_true h2, ← hd]; rfl)
      clear hd
      go_wp2_with fail
      refine HC1.out.mono ?_
      intro e w2 hx
      obtain ⟨rfl, rfl⟩ := hx
      clear HC1
      go_wp2
      go_ret
      exact ⟨by rw [Hr2.out]; rfl, HX.out.trans Hx1.out⟩
    · have Hr2 : Hid (P.isE r has p q = false) := hid (by rw [Hr.out, decide_eq_false h2, Bool.false_and, Bool.and_false])
      go_wp2
      go_ret
      exact ⟨by rw [Hr2.out]; rfl, HX.out.trans Hx1.out⟩
  · have h1' : (q == rb) = false := beq_eq_false_iff_ne.2 h1
    have Hr2 : Hid (P.isE r has p q = false) := hid (by rw [Hr.out, decide_eq_false h1, Bool.false_and])
    go_wp2
    go_ret
    exact ⟨by rw [Hr2.out]; rfl, HX.out.trans Hx1.out⟩
set_option maxRecDepth 100000 in
set_option maxHeartbeats 3200000 in
theorem risedge_store (a1 a2 a3 : Option Addr) (c1 c2 c3 : Nat) (P : PP) (r : RV) (av hv : Value) (has : List (List Int)) (p q : Int) (w : World) (n0 : Nat) (h : ProgR w n0 (.slice a1 P.vars.length c1) (.slice a2 P.funs.length c2) (.slice a3 P.stmts.length c3) P) (hf1 : P.vars.length ≤ 1000) (hf3 : P.stmts.length ≤ 1000) (ha : IntsR w n0 av r.args) (hh : SetsR w n0 hv has) (hkd : (r.kind.toList == [115, 116, 111, 114, 101]) = true) (hidx : 0 ≤ r.b ∧ r.b < has.length) :
    Calls Tryz.prog 74 #[pval a1 a2 a3 c1 c2 c3 P, r.val av, hv, .int .i64 p, .int .i64 q] w fun e w' => e = .returned (.bool (P.isE r has p q)) ∧ Ext w w' := by
  obtain ⟨aa, ca, rfl, _⟩ := id ha
  obtain ⟨ah, ch, rfl⟩ := hh.form
  have hhl := hh.len
  have hal := ha.len
  obtain ⟨W1, hW1⟩ : ∃ W1, W1 = w.alloc (.cells (pcells a1 a2 a3 c1 c2 c3 P) 26) := ⟨_, rfl⟩
  have hx1 : Ext w W1 := by rw [hW1]; exact (Ext.refl _).alloc _
  obtain ⟨W, hW⟩ : ∃ W, W = W1.alloc (.cells #[.string r.kind, .int .i64 r.a, .int .i64 r.b, .int .i64 r.k, .slice aa r.args.length ca] 126) := ⟨_, rfl⟩
  have hx2 : Ext W1 W := by rw [hW]; exact (Ext.refl _).alloc _
  have s1 : W1.heap.size = w.heap.size + 1 := by rw [hW1, heap_size_alloc]
  have HX := hid (hx1.trans hx2)
  have HB0 : Hid (Blk W w.heap.size (pcells a1 a2 a3 c1 c2 c3 P) 26) := hid (by
    have : Blk W1 w.heap.size (pcells a1 a2 a3 c1 c2 c3 P) 26 := by rw [hW1]; exact Blk.new _ _ _
    exact this.ext hx2)
  have HB1 : Hid (Blk W (w.heap.size + 1) #[.string r.kind, .int .i64 r.a, .int .i64 r.b, .int .i64 r.k, .slice aa r.args.length ca] 126) := hid (by rw [← s1, hW]; exact Blk.new _ _ _)
  have HWe : Hid (W = (w.alloc (.cells #[.slice a1 P.vars.length c1, .slice a2 P.funs.length c2, .slice a3 P.stmts.length c3] 26)).alloc (.cells #[.string r.kind, .int .i64 r.a, .int .i64 r.b, .int .i64 r.k, .slice aa r.args.length ca] 126)) := hid (by rw [hW, hW1]; rfl)
  have HP := hid (h.ext HX.out)
  have HH := hid (hh.ext HX.out)
  have HA := hid (ha.old (HX.out.old n0))
  have hnl := P.nodesV_le2
  have HNo := hid (rnodesof_any a1 a2 a3 c1 c2 c3 P W n0 (h.ext HX.out) hf1 hf3)
  obtain ⟨N, hN⟩ : ∃ N, N = P.nodesV := ⟨_, rfl⟩
  rw [← hN] at HNo hnl
  have HN := hid hN
  have d0 := HB0.out.av 0 rfl
  have d1 := HB0.out.av 1 rfl
  have d2 := HB0.out.av 2 rfl
  simp only [pcells, qA0, qA1, qA2] at d0 d1 d2
  rw [HWe.out] at d0 d1 d2
  unfold RV.val
  unfold pval at HNo ⊢
  clear h ha hh hW1 hW hx1 hx2 s1 hN
  have hk0 : (r.kind.toList == [99, 111, 112, 121]) = false := by rw [eq_of_beq hkd]; rfl
  have hk1 : (r.kind.toList == [108, 111, 97, 100]) = false := by rw [eq_of_beq hkd]; rfl
  have Hr : Hid (P.isE r has p q = (decide (p = r.a) && (decide (q < (P.nodesV : Int)) && decide (q ∈ has.getD r.b.toNat [])))) := hid (by unfold PP.isE kCopy kLoad kStore; rw [hk0, hk1, hkd]; rfl)
  obtain ⟨K, hK⟩ := Int.eq_ofNat_of_zero_le hidx.1
  have hKl : K < has.length := by omega
  obtain ⟨y, l, bl, cl, hya, hl, hc, hI⟩ := HH.out.at hKl
  subst hya
  have Hl : Hid (has.getD (r.b).toNat [] = l) := hid (by rw [hK, List.getD_eq_getElem?_getD]; show (has[K]?).getD [] = l; rw [hl]; rfl)
  have HC := fun w1 (x : Ext W w1) => hid (rhas_any (.slice bl l.length cl) l q w1 n0 (hI.old (x.old n0)))
  have Hc := hid hc
  have HK := hid hK
  clear hl hI hidx hc hK
  go_enter Tryz.func74, Tryz.ntmps74
  go_wp2_with fail
  rw [← HWe.out]
  refine HNo.out.mono ?_
  intro e w1 hx
  obtain ⟨rfl, hx1⟩ := hx
  have Hx1 := hid hx1
  have m0 := (HB1.out.ext hx1).av 0 rfl
  have m1 := (HB1.out.ext hx1).av 1 rfl
  have m2 := (HB1.out.ext hx1).av 2 rfl
  have m3 := (HB1.out.ext hx1).av 3 rfl
  have m4 := (HB1.out.ext hx1).av 4 rfl
  simp only [qA0, qA1, qA2] at m0 m1 m2 m3 m4
  clear HNo hx1 d0 d1 d2
  have c0 := Hx1.out.cellx Hc.out
  have HC1 := HC w1 Hx1.out
  rw [Hl.out, ← HN.out] at Hr
  obtain ⟨rb, hrb⟩ : ∃ x, x = r.a := ⟨_, rfl⟩
  rw [← hrb] at m1 Hr
  rw [HK.out] at m2
  clear hrb HC
  by_cases h1 : p = rb
  · subst h1
    by_cases h2 : q < (N : Int)
    · obtain ⟨d, hd⟩ : ∃ d, d = decide (q ∈ l) := ⟨_, rfl⟩
      rw [← hd] at HC1
      have Hr2 : Hid (P.isE r has p q = d) := hid (by rw [Hr.out, decide_eq_true rfl, decide_eq_true h2, ← hd]; rfl)
      clear hd
      go_wp2_with fail
      refine HC1.out.mono ?_
      intro e w2 hx
      obtain ⟨rfl, rfl⟩ := hx
      clear HC1
      go_wp2
      go_ret
      exact ⟨by rw [Hr2.out]; rfl, HX.out.trans Hx1.out⟩
    · have Hr2 : Hid (P.isE r has p q = false) := hid (by rw [Hr.out, decide_eq_false h2, Bool.false_and, Bool.and_false])
      go_wp2
      go_ret
      exact ⟨by rw [Hr2.out]; rfl, HX.out.trans Hx1.out⟩
  · have h1' : (p == rb) = false := beq_eq_false_iff_ne.2 h1
    have Hr2 : Hid (P.isE r has p q = false) := hid (by rw [Hr.out, decide_eq_false h1, Bool.false_and])
    go_wp2
    go_ret
    exact ⟨by rw [Hr2.out]; rfl, HX.out.trans Hx1.out⟩
theorem any_range_true {n : Nat} {g : Nat → Bool} {k : Nat} (hk : k < n) (h : g k = true) : (List.range n).any g = true := List.any_eq_true.2 ⟨k, List.mem_range.2 hk, h⟩
theorem any_range_false {n : Nat} {g : Nat → Bool} (h : ∀ j, j < n → g j = false) : (List.range n).any g = false := List.any_eq_false.2 fun x hx => by rw [h x (List.mem_range.1 hx)]; simp
theorem fEdge_len {f : PF} {r : RV} {p q : Int} (h : f.params.length ≠ r.args.length) : fEdge f r p q = false := by
  unfold fEdge
  rw [decide_eq_false h, Bool.false_and]
theorem fEdge_ret {f : PF} {r : RV} {p q : Int} (h : f.params.length = r.args.length) (h1 : p = f.ret) (h2 : q = r.b) : fEdge f r p q = true := by
  unfold fEdge
  rw [decide_eq_true h, decide_eq_true h1, decide_eq_true h2]
  rfl
theorem fEdge_arg {f : PF} {r : RV} {p q : Int} (h : f.params.length = r.args.length) {i : Nat} (hi : i < f.params.length) (h1 : r.args[i]? = some p) (h2 : f.params[i]? = some q) : fEdge f r p q = true := by
  unfold fEdge
  rw [decide_eq_true h, any_range_true hi, Bool.or_true]
  · rfl
  · rw [List.getD_eq_getElem?_getD, List.getD_eq_getElem?_getD, h1, h2]; simp
theorem fEdge_no {f : PF} {r : RV} {p q : Int} (h1 : ¬ (p = f.ret ∧ q = r.b)) (h2 : ∀ i, i < f.params.length → ¬ (p = r.args.getD i 0 ∧ q = f.params.getD i 0)) : fEdge f r p q = false := by
  unfold fEdge
  rw [any_range_false fun j hj => by
    rw [← Bool.decide_and]
    exact decide_eq_false (h2 j hj), ← Bool.decide_and, decide_eq_false h1]
  simp
set_option maxRecDepth 100000 in
set_option maxHeartbeats 3200000 in
theorem risedge_call (a1 a2 a3 : Option Addr) (c1 c2 c3 : Nat) (P : PP) (r : RV) (av hv : Value) (has : List (List Int)) (p q : Int) (w : World) (n0 : Nat) (h : ProgR w n0 (.slice a1 P.vars.length c1) (.slice a2 P.funs.length c2) (.slice a3 P.stmts.length c3) P) (hf1 : P.vars.length ≤ 1000) (hf3 : P.stmts.length ≤ 1000) (ha : IntsR w n0 av r.args) (hh : SetsR w n0 hv has) (hkd : (r.kind.toList == [99, 97, 108, 108]) = true) (hidx : 0 ≤ r.a ∧ r.a < has.length) (hfl : P.funs.length ≤ 1000) :
    Calls Tryz.prog 74 #[pval a1 a2 a3 c1 c2 c3 P, r.val av, hv, .int .i64 p, .int .i64 q] w fun e w' => e = .returned (.bool (P.isE r has p q)) ∧ Ext w w' := by
  obtain ⟨aa, ca, rfl, _⟩ := id ha
  obtain ⟨ah, ch, rfl⟩ := hh.form
  have hhl := hh.len
  have hal := ha.len
  obtain ⟨W1, hW1⟩ : ∃ W1, W1 = w.alloc (.cells (pcells a1 a2 a3 c1 c2 c3 P) 26) := ⟨_, rfl⟩
  have hx1 : Ext w W1 := by rw [hW1]; exact (Ext.refl _).alloc _
  obtain ⟨W, hW⟩ : ∃ W, W = W1.alloc (.cells #[.string r.kind, .int .i64 r.a, .int .i64 r.b, .int .i64 r.k, .slice aa r.args.length ca] 126) := ⟨_, rfl⟩
  have hx2 : Ext W1 W := by rw [hW]; exact (Ext.refl _).alloc _
  have s1 : W1.heap.size = w.heap.size + 1 := by rw [hW1, heap_size_alloc]
  have HX := hid (hx1.trans hx2)
  have HB0 : Hid (Blk W w.heap.size (pcells a1 a2 a3 c1 c2 c3 P) 26) := hid (by
    have : Blk W1 w.heap.size (pcells a1 a2 a3 c1 c2 c3 P) 26 := by rw [hW1]; exact Blk.new _ _ _
    exact this.ext hx2)
  have HB1 : Hid (Blk W (w.heap.size + 1) #[.string r.kind, .int .i64 r.a, .int .i64 r.b, .int .i64 r.k, .slice aa r.args.length ca] 126) := hid (by rw [← s1, hW]; exact Blk.new _ _ _)
  have HWe : Hid (W = (w.alloc (.cells #[.slice a1 P.vars.length c1, .slice a2 P.funs.length c2, .slice a3 P.stmts.length c3] 26)).alloc (.cells #[.string r.kind, .int .i64 r.a, .int .i64 r.b, .int .i64 r.k, .slice aa r.args.length ca] 126)) := hid (by rw [hW, hW1]; rfl)
  have HP := hid (h.ext HX.out)
  have HH := hid (hh.ext HX.out)
  have HA := hid (ha.old (HX.out.old n0))
  have hnl := P.nodesV_le2
  have HNo := hid (rnodesof_any a1 a2 a3 c1 c2 c3 P W n0 (h.ext HX.out) hf1 hf3)
  obtain ⟨N, hN⟩ : ∃ N, N = P.nodesV := ⟨_, rfl⟩
  rw [← hN] at HNo hnl
  have HN := hid hN
  have d0 := HB0.out.av 0 rfl
  have d1 := HB0.out.av 1 rfl
  have d2 := HB0.out.av 2 rfl
  simp only [pcells, qA0, qA1, qA2] at d0 d1 d2
  rw [HWe.out] at d0 d1 d2
  unfold RV.val
  unfold pval at HNo ⊢
  clear h ha hh hW1 hW hx1 hx2 s1 hN
  have hk0 : (r.kind.toList == [99, 111, 112, 121]) = false := by rw [eq_of_beq hkd]; rfl
  have hk1 : (r.kind.toList == [108, 111, 97, 100]) = false := by rw [eq_of_beq hkd]; rfl
  have hk2 : (r.kind.toList == [115, 116, 111, 114, 101]) = false := by rw [eq_of_beq hkd]; rfl
  obtain ⟨G, hG⟩ : ∃ G : Nat → Bool, G = fun f : Nat => decide ((P.nodesV : Int) + (f : Int) ∈ has.getD r.a.toNat []) && fEdge (P.funs.getD f ⟨⟨#[]⟩, [], 0⟩) r p q := ⟨_, rfl⟩
  have Hr : Hid (P.isE r has p q = (List.range P.funs.length).any G) := hid (by unfold PP.isE kCopy kLoad kStore kCall; rw [hk0, hk1, hk2, hkd, hG]; rfl)
  obtain ⟨K, hK⟩ := Int.eq_ofNat_of_zero_le hidx.1
  have hKl : K < has.length := by omega
  obtain ⟨y, l, bl, cl, hya, hl, hc, hI⟩ := HH.out.at hKl
  subst hya
  have HG : Hid (∀ k f, P.funs[k]? = some f → G k = (decide ((N : Int) + (k : Int) ∈ l) && fEdge f r p q)) := hid (fun k f hf => by
    rw [hG, HN.out]
    simp only
    rw [hK, Int.toNat_natCast, List.getD_eq_getElem?_getD, hl, List.getD_eq_getElem?_getD, hf]
    rfl)
  have HC := fun x w1 (e : Ext W w1) => hid (rhas_any (.slice bl l.length cl) l x w1 n0 (hI.old (e.old n0)))
  have Hc := hid hc
  have HK := hid hK
  clear hl hI hidx hc hG hK
  go_enter Tryz.func74, Tryz.ntmps74
  go_wp2_with fail
  rw [← HWe.out]
  refine HNo.out.mono ?_
  intro e w1 hx
  obtain ⟨rfl, hx1⟩ := hx
  have Hx1 := hid hx1
  have m0 := (HB1.out.ext hx1).av 0 rfl
  have m1 := (HB1.out.ext hx1).av 1 rfl
  have m2 := (HB1.out.ext hx1).av 2 rfl
  have m3 := (HB1.out.ext hx1).av 3 rfl
  have m4 := (HB1.out.ext hx1).av 4 rfl
  simp only [qA0, qA1, qA2] at m0 m1 m2 m3 m4
  clear HNo hx1 d0 d1 d2
  have c0 := Hx1.out.cellx Hc.out
  have d0 := (HB0.out.ext Hx1.out).av 0 rfl
  have d1 := (HB0.out.ext Hx1.out).av 1 rfl
  have d2 := (HB0.out.ext Hx1.out).av 2 rfl
  simp only [pcells, qA0, qA1, qA2] at d0 d1 d2
  rw [HK.out] at m1
  go_wp2
  go_loop [12] (fun t12 => ∃ k : Nat, t12 = .int .i64 (k : Int) ∧ k ≤ P.funs.length ∧ ∀ j, j < k → G j = false) (fun t12 => P.funs.length - (intOf t12).toNat)
  case atStart => exact ⟨0, rfl, Nat.zero_le _, fun j h => by omega⟩
  case round =>
    obtain ⟨k, rfl, hk, hp⟩ := hrel
    have Hp := hid hp
    clear hp
    by_cases hlt : k < P.funs.length
    · obtain ⟨yf, f, afp, cfp, hyf, hfk, e0, e1, e2, hIp⟩ := HP.out.funs.at hlt
      subst hyf
      have e1 := Hx1.out.cellx e1
      have e2 := Hx1.out.cellx e2
      have HIp := hid hIp
      have hpl := hIp.len
      have HGk0 := hid (HG.out k f hfk)
      have HC1 := HC ((N : Int) + (k : Int)) w1 Hx1.out
      obtain ⟨d, hd⟩ : ∃ d, d = decide ((N : Int) + (k : Int) ∈ l) := ⟨_, rfl⟩
      rw [← hd] at HC1 HGk0
      clear e0 hfk hIp hd
      go_wp2_with fail
      refine HC1.out.mono ?_
      intro e w2 hx
      obtain ⟨rfl, rfl⟩ := hx
      clear HC1 HC
      cases d with
      | false =>
        have Hgk : Hid (G k = false) := hid (by rw [HGk0.out]; rfl)
        go_wp2
        refine ⟨⟨k + 1, by go_num, by omega, fun j hj => ?_⟩, by simp [intOf]; omega⟩
        by_cases hjk : j = k
        · subst hjk; exact Hgk.out
        · exact Hp.out j (by omega)
      | true =>
        have HGk : Hid (G k = (true && fEdge f r p q)) := HGk0
        by_cases hlen : f.params.length = r.args.length
        · have Hlen := hid hlen
          have hl1 : ((f.params.length : Int) != (r.args.length : Int)) = false := by rw [hlen]; simp
          obtain ⟨fr, hfr⟩ : ∃ x, x = f.ret := ⟨_, rfl⟩
          obtain ⟨rb, hrb⟩ : ∃ x, x = r.b := ⟨_, rfl⟩
          rw [← hfr] at e2
          rw [← hrb] at m2
          have Hfr := hid hfr
          have Hrb := hid hrb
          clear hfr hrb
          by_cases h1 : p = fr
          · by_cases h2 : q = rb
            · have Hgk : Hid (G k = true) := hid (by rw [HGk.out, fEdge_ret Hlen.out (h1.trans Hfr.out) (h2.trans Hrb.out)]; rfl)
              subst h1 h2
              clear hlen
              have Hr2 : Hid (P.isE r has p q = true) := hid (by rw [Hr.out]; exact any_range_true hlt Hgk.out)
              go_wp2
              go_ret
              exact ⟨by rw [Hr2.out]; rfl, HX.out.trans Hx1.out⟩
            · have h2' : (q == rb) = false := beq_eq_false_iff_ne.2 h2
              have Hnr : Hid (¬ (p = f.ret ∧ q = r.b)) := hid fun h => h2 (h.2.trans Hrb.out.symm)
              subst h1
              have hlen2 := Hlen.out
              clear hlen
              go_wp2
              go_loop [14] (fun t14 => ∃ i : Nat, t14 = .int .i64 (i : Int) ∧ i ≤ f.params.length ∧ ∀ j, j < i → ¬ (p = r.args.getD j 0 ∧ q = f.params.getD j 0)) (fun t14 => f.params.length - (intOf t14).toNat)
              case atStart => exact ⟨0, rfl, Nat.zero_le _, fun j h => by omega⟩
              case round =>
                obtain ⟨i, rfl, hi, hq⟩ := hrel
                have Hq := hid hq
                clear hq
                by_cases hil : i < f.params.length
                · have hil2 : i < r.args.length := by rw [← Hlen.out]; exact hil
                  obtain ⟨ya, o, hya, ho, hco⟩ := (HA.out.old (Hx1.out.old n0)).at hil2
                  subst hya
                  obtain ⟨yp, u, hyp, hu, hcu⟩ := (HIp.out.old (Hx1.out.old n0)).at hil
                  subst hyp
                  have Ho := hid ho
                  have Hu := hid hu
                  clear ho hu
                  by_cases g1 : p = o
                  · by_cases g2 : q = u
                    · subst g1 g2
                      have Hgk : Hid (G k = true) := hid (by rw [HGk.out, fEdge_arg Hlen.out hil Ho.out Hu.out]; rfl)
                      have Hr2 : Hid (P.isE r has p q = true) := hid (by rw [Hr.out]; exact any_range_true hlt Hgk.out)
                      go_wp2
                      go_ret
                      exact ⟨by rw [Hr2.out]; rfl, HX.out.trans Hx1.out⟩
                    · have g2' : (q == u) = false := beq_eq_false_iff_ne.2 g2
                      have Hn : Hid (¬ (p = r.args.getD i 0 ∧ q = f.params.getD i 0)) := hid (by rw [List.getD_eq_getElem?_getD, List.getD_eq_getElem?_getD, Ho.out, Hu.out]; exact fun h => g2 h.2)
                      subst g1
                      go_wp2
                      refine ⟨⟨i + 1, by go_num, by omega, fun j hj => ?_⟩, by simp [intOf]; omega⟩
                      by_cases hji : j = i
                      · subst hji; exact Hn.out
                      · exact Hq.out j (by omega)
                  · have g1' : (p == o) = false := beq_eq_false_iff_ne.2 g1
                    have Hn : Hid (¬ (p = r.args.getD i 0 ∧ q = f.params.getD i 0)) := hid (by rw [List.getD_eq_getElem?_getD, List.getD_eq_getElem?_getD, Ho.out, Hu.out]; exact fun h => g1 h.1)
                    go_wp2
                    refine ⟨⟨i + 1, by go_num, by omega, fun j hj => ?_⟩, by simp [intOf]; omega⟩
                    by_cases hji : j = i
                    · subst hji; exact Hn.out
                    · exact Hq.out j (by omega)
                · obtain rfl : i = f.params.length := by omega
                  have Hgk : Hid (G k = false) := hid (by rw [HGk.out, fEdge_no Hnr.out Hq.out]; rfl)
                  go_wp2
                  refine ⟨⟨k + 1, by go_num, by omega, fun j hj => ?_⟩, by simp [intOf]; omega⟩
                  by_cases hjk : j = k
                  · subst hjk; exact Hgk.out
                  · exact Hp.out j (by omega)
          · have h1' : (p == fr) = false := beq_eq_false_iff_ne.2 h1
            have Hnr : Hid (¬ (p = f.ret ∧ q = r.b)) := hid fun h => h1 (h.1.trans Hfr.out.symm)
            clear hlen
            go_wp2
            go_loop [14] (fun t14 => ∃ i : Nat, t14 = .int .i64 (i : Int) ∧ i ≤ f.params.length ∧ ∀ j, j < i → ¬ (p = r.args.getD j 0 ∧ q = f.params.getD j 0)) (fun t14 => f.params.length - (intOf t14).toNat)
            case atStart => exact ⟨0, rfl, Nat.zero_le _, fun j h => by omega⟩
            case round =>
              obtain ⟨i, rfl, hi, hq⟩ := hrel
              have Hq := hid hq
              clear hq
              by_cases hil : i < f.params.length
              · have hil2 : i < r.args.length := by rw [← Hlen.out]; exact hil
                obtain ⟨ya, o, hya, ho, hco⟩ := (HA.out.old (Hx1.out.old n0)).at hil2
                subst hya
                obtain ⟨yp, u, hyp, hu, hcu⟩ := (HIp.out.old (Hx1.out.old n0)).at hil
                subst hyp
                have Ho := hid ho
                have Hu := hid hu
                clear ho hu
                by_cases g1 : p = o
                · by_cases g2 : q = u
                  · subst g1 g2
                    have Hgk : Hid (G k = true) := hid (by rw [HGk.out, fEdge_arg Hlen.out hil Ho.out Hu.out]; rfl)
                    have Hr2 : Hid (P.isE r has p q = true) := hid (by rw [Hr.out]; exact any_range_true hlt Hgk.out)
                    go_wp2
                    go_ret
                    exact ⟨by rw [Hr2.out]; rfl, HX.out.trans Hx1.out⟩
                  · have g2' : (q == u) = false := beq_eq_false_iff_ne.2 g2
                    have Hn : Hid (¬ (p = r.args.getD i 0 ∧ q = f.params.getD i 0)) := hid (by rw [List.getD_eq_getElem?_getD, List.getD_eq_getElem?_getD, Ho.out, Hu.out]; exact fun h => g2 h.2)
                    subst g1
                    go_wp2
                    refine ⟨⟨i + 1, by go_num, by omega, fun j hj => ?_⟩, by simp [intOf]; omega⟩
                    by_cases hji : j = i
                    · subst hji; exact Hn.out
                    · exact Hq.out j (by omega)
                · have g1' : (p == o) = false := beq_eq_false_iff_ne.2 g1
                  have Hn : Hid (¬ (p = r.args.getD i 0 ∧ q = f.params.getD i 0)) := hid (by rw [List.getD_eq_getElem?_getD, List.getD_eq_getElem?_getD, Ho.out, Hu.out]; exact fun h => g1 h.1)
                  go_wp2
                  refine ⟨⟨i + 1, by go_num, by omega, fun j hj => ?_⟩, by simp [intOf]; omega⟩
                  by_cases hji : j = i
                  · subst hji; exact Hn.out
                  · exact Hq.out j (by omega)
              · obtain rfl : i = f.params.length := by omega
                have Hgk : Hid (G k = false) := hid (by rw [HGk.out, fEdge_no Hnr.out Hq.out]; rfl)
                go_wp2
                refine ⟨⟨k + 1, by go_num, by omega, fun j hj => ?_⟩, by simp [intOf]; omega⟩
                by_cases hjk : j = k
                · subst hjk; exact Hgk.out
                · exact Hp.out j (by omega)
        · have hl1 : ((f.params.length : Int) != (r.args.length : Int)) = true := bne_iff_ne.2 (fun h => hlen (Int.ofNat_inj.1 h))
          have Hgk : Hid (G k = false) := hid (by rw [HGk.out, fEdge_len hlen]; rfl)
          clear hlen
          go_wp2
          refine ⟨⟨k + 1, by go_num, by omega, fun j hj => ?_⟩, by simp [intOf]; omega⟩
          by_cases hjk : j = k
          · subst hjk; exact Hgk.out
          · exact Hp.out j (by omega)
    · obtain rfl : k = P.funs.length := by omega
      have Hr2 : Hid (P.isE r has p q = false) := hid (by rw [Hr.out]; exact any_range_false Hp.out)
      go_wp2
      go_ret
      exact ⟨by rw [Hr2.out]; rfl, HX.out.trans Hx1.out⟩
def PP.ruleR (P : PP) (k : Nat) (x : PS) : RV :=
  bif x.isK kAddr then ⟨bBase, x.x, x.y, k, []⟩ else
  bif x.isK kNew then ⟨bBase, x.x, P.placeV k, k, []⟩ else
  bif x.isK kFun then ⟨bBase, x.x, (P.nodesV : Int) + x.y, k, []⟩ else ⟨x.kind, x.y, x.x, k, x.args⟩
theorem noArgs {P : PP} {x : PS} (h0 : P.stmtErr x = 0) (h : x.isK kCall = false) : x.args = [] := by
  unfold PP.stmtErr at h0
  cases h1 : memB x.kind kindsS with
  | false => rw [h1] at h0; simp at h0
  | true =>
    cases h2 : P.bound x with
    | false => rw [h1, h2] at h0; simp at h0
    | true =>
      rw [h1, h2, h] at h0
      cases ha : x.args with
      | nil => rfl
      | cons a r => rw [ha] at h0; simp at h0
theorem rule_same {P : PP} {x : PS} (h0 : P.stmtErr x = 0) (k : Nat) : (P.ruleR k x).kind.toList = (P.ruleV k x).kind.toList ∧ (P.ruleR k x).a = (P.ruleV k x).a ∧ (P.ruleR k x).b = (P.ruleV k x).b ∧ (P.ruleR k x).k = k ∧ (P.ruleV k x).k = k ∧ (P.ruleR k x).args = (P.ruleV k x).args := by
  unfold PP.ruleR PP.ruleV
  cases h1 : x.isK kAddr with
  | true => exact ⟨rfl, rfl, rfl, rfl, rfl, rfl⟩
  | false =>
    cases h2 : x.isK kNew with
    | true => exact ⟨rfl, rfl, rfl, rfl, rfl, rfl⟩
    | false =>
      cases h3 : x.isK kFun with
      | true => exact ⟨rfl, rfl, rfl, rfl, rfl, rfl⟩
      | false =>
        cases h4 : x.isK kCall with
        | true =>
          refine ⟨?_, rfl, rfl, rfl, rfl, rfl⟩
          have : x.kind.toList = kCall := eq_of_beq h4
          exact this.trans (show kCall = bCall.toList by decide +kernel)
        | false => exact ⟨rfl, rfl, rfl, rfl, rfl, noArgs h0 h4⟩
theorem intsR_nil (w : World) (n0 : Nat) : IntsR w n0 (.slice none 0 0) [] := ⟨none, 0, rfl, Nat.le_refl _, by decide, fun h => absurd h (by decide), fun y hy => by cases hy⟩
set_option maxRecDepth 100000 in
set_option maxHeartbeats 6400000 in
theorem rruleof_addr (a1 a2 a3 : Option Addr) (c1 c2 c3 : Nat) (P : PP) (k : Nat) (x : PS) (hxk : P.stmts[k]? = some x) (w : World) (n0 : Nat) (h : ProgR w n0 (.slice a1 P.vars.length c1) (.slice a2 P.funs.length c2) (.slice a3 P.stmts.length c3) P) (hf1 : P.vars.length ≤ 1000) (hf3 : P.stmts.length ≤ 1000) (hkx : x.isK kAddr = true)  :
    Calls Tryz.prog 73 #[pval a1 a2 a3 c1 c2 c3 P, .int .i64 (k : Int)] w fun e w' => ∃ av, e = .returned ((P.ruleR k x).val av) ∧ IntsR w n0 av (P.ruleR k x).args ∧ Ext w w' := by
  obtain ⟨W1, hW1⟩ : ∃ W1, W1 = w.alloc (.cells (pcells a1 a2 a3 c1 c2 c3 P) 26) := ⟨_, rfl⟩
  have hx1 : Ext w W1 := by rw [hW1]; exact (Ext.refl _).alloc _
  obtain ⟨W2, hW2⟩ : ∃ W2, W2 = W1.alloc (.cells #[.string ⟨#[]⟩, .int .i64 0, .int .i64 0, .int .i64 0, .slice none 0 0] 126) := ⟨_, rfl⟩
  have hx2 : Ext W1 W2 := by rw [hW2]; exact (Ext.refl _).alloc _
  have hk : k < P.stmts.length := by
    rcases Nat.lt_or_ge k P.stmts.length with h | h
    · exact h
    · rw [List.getElem?_eq_none h] at hxk; cases hxk
  have hml := h.stmts.len
  obtain ⟨y, x', av, cv, rfl, hxk', e0, e1, e2, e3, hI⟩ := (h.ext (hx1.trans hx2)).stmts.at hk
  obtain rfl := Option.some.inj (hxk.symm.trans hxk')
  obtain ⟨W3, hW3⟩ : ∃ W3, W3 = W2.alloc (.cells (scells x av cv) 73) := ⟨_, rfl⟩
  have hx3 : Ext W2 W3 := by rw [hW3]; exact (Ext.refl _).alloc _
  obtain ⟨W4, hW4⟩ : ∃ W4, W4 = W3.alloc (.cells #[.string x.kind, .int .i64 x.y, .int .i64 x.x, .int .i64 (k : Int), .slice av x.args.length cv] 126) := ⟨_, rfl⟩
  have hx4 : Ext W3 W4 := by rw [hW4]; exact (Ext.refl _).alloc _
  have s1 : W1.heap.size = w.heap.size + 1 := by rw [hW1, heap_size_alloc]
  have s2 : W2.heap.size = w.heap.size + 1 + 1 := by rw [hW2, heap_size_alloc, s1]
  have s3 : W3.heap.size = w.heap.size + 1 + 1 + 1 := by rw [hW3, heap_size_alloc, s2]
  have HX := hid (((hx1.trans hx2).trans hx3).trans hx4)
  have HB0 : Hid (Blk W4 w.heap.size (pcells a1 a2 (some y) c1 c2 c3 P) 26) := hid (by
    have : Blk W1 w.heap.size (pcells a1 a2 (some y) c1 c2 c3 P) 26 := by rw [hW1]; exact Blk.new _ _ _
    exact this.ext ((hx2.trans hx3).trans hx4))
  have HB1 : Hid (Blk W4 (w.heap.size + 1) #[.string ⟨#[]⟩, .int .i64 0, .int .i64 0, .int .i64 0, .slice none 0 0] 126) := hid (by
    have : Blk W2 (w.heap.size + 1) #[.string ⟨#[]⟩, .int .i64 0, .int .i64 0, .int .i64 0, .slice none 0 0] 126 := by rw [← s1, hW2]; exact Blk.new _ _ _
    exact this.ext (hx3.trans hx4))
  have HB2 : Hid (Blk W4 (w.heap.size + 1 + 1) (scells x av cv) 73) := hid (by
    have : Blk W3 (w.heap.size + 1 + 1) (scells x av cv) 73 := by rw [← s2, hW3]; exact Blk.new _ _ _
    exact this.ext hx4)
  have HB3 : Hid (Blk W4 (w.heap.size + 1 + 1 + 1) #[.string x.kind, .int .i64 x.y, .int .i64 x.x, .int .i64 (k : Int), .slice av x.args.length cv] 126) := hid (by rw [← s3, hW4]; exact Blk.new _ _ _)
  have HI := hid hI
  have HP := hid h
  rw [hW2, hW1] at e0 e1 e2 e3
  unfold pcells at e0 e1 e2 e3
  have HWe : Hid (W4 = (((w.alloc (.cells #[.slice a1 P.vars.length c1, .slice a2 P.funs.length c2, .slice (some y) P.stmts.length c3] 26)).alloc (.cells #[.string ⟨#[]⟩, .int .i64 0, .int .i64 0, .int .i64 0, .slice none 0 0] 126)).alloc (.cells #[.string x.kind, .int .i64 x.x, .int .i64 x.y, .slice av x.args.length cv] 73)).alloc (.cells #[.string x.kind, .int .i64 x.y, .int .i64 x.x, .int .i64 (k : Int), .slice av x.args.length cv] 126)) := hid (by rw [hW4, hW3, hW2, hW1]; rfl)
  have HI0 : Hid (IntsR w n0 (.slice av x.args.length cv) x.args) := hid (by
    obtain ⟨y', x', av', cv', hy', hxk2, f0, f1, f2, f3, hI'⟩ := HP.out.stmts.at hk
    obtain rfl := Option.some.inj hy'
    obtain rfl := Option.some.inj (hxk.symm.trans hxk2)
    have g3 := (hx1.trans hx2).cellx f3
    rw [hW2, hW1] at g3
    unfold pcells at g3
    rw [e3] at g3
    obtain ⟨rfl, rfl⟩ : av = av' ∧ cv = cv' := by simpa using g3
    exact hI')
  clear hW1 hW2 hW3 hW4 hx1 hx2 hx3 hx4 s1 s2 s3 hxk hxk' hI h
  unfold pval
  have Hr : Hid (P.ruleR k x = ⟨bBase, x.x, x.y, k, []⟩) := hid (by unfold PP.ruleR; rw [hkx]; rfl)
  have hkk := hkx
  unfold PS.isK kAddr at hkk
  clear hkx
  clear HWe
  go_enter Tryz.func73, Tryz.ntmps73
  go_wp2
  obtain ⟨V, hV⟩ : ∃ V, V = (((w.alloc (.cells #[.slice a1 P.vars.length c1, .slice a2 P.funs.length c2, .slice (some y) P.stmts.length c3] 26)).alloc (.cells #[.string ⟨#[98, 97, 115, 101]⟩, .int .i64 x.x, .int .i64 x.y, .int .i64 (k : Int), .slice none 0 0] 126)).alloc (.cells #[.string x.kind, .int .i64 x.x, .int .i64 x.y, .slice av x.args.length cv] 73)).alloc (.cells #[.string ⟨#[98, 97, 115, 101]⟩, .int .i64 x.x, .int .i64 x.y, .int .i64 (k : Int), .slice none 0 0] 126) := ⟨_, rfl⟩
  have hxV : Ext w V := by rw [hV]; exact ((((Ext.refl _).alloc _).alloc _).alloc _).alloc _
  have HB9 : Blk V (w.heap.size + 1) #[.string ⟨#[98, 97, 115, 101]⟩, .int .i64 x.x, .int .i64 x.y, .int .i64 (k : Int), .slice none 0 0] 126 := by
    rw [hV]
    have := ((Blk.new (w.alloc (.cells #[.slice a1 P.vars.length c1, .slice a2 P.funs.length c2, .slice (some y) P.stmts.length c3] 26)) #[.string ⟨#[98, 97, 115, 101]⟩, .int .i64 x.x, .int .i64 x.y, .int .i64 (k : Int), .slice none 0 0] 126).alloc (.cells #[.string x.kind, .int .i64 x.x, .int .i64 x.y, .slice av x.args.length cv] 73)).alloc (.cells #[.string ⟨#[98, 97, 115, 101]⟩, .int .i64 x.x, .int .i64 x.y, .int .i64 (k : Int), .slice none 0 0] 126)
    rwa [heap_size_alloc] at this
  rw [← hV]
  exact bodyPost_ret (v := .agg #[.string ⟨#[98, 97, 115, 101]⟩, .int .i64 x.x, .int .i64 x.y, .int .i64 (k : Int), .slice none 0 0]) (by simp [results, Tryz.results73, go_sem, HB9.av 0 rfl, HB9.av 1 rfl, HB9.av 2 rfl, HB9.av 3 rfl, HB9.av 4 rfl]) rfl ⟨_, by rw [Hr.out]; rfl, by rw [Hr.out]; exact intsR_nil _ _, hxV⟩
set_option maxRecDepth 100000 in
set_option maxHeartbeats 6400000 in
theorem rruleof_rest (a1 a2 a3 : Option Addr) (c1 c2 c3 : Nat) (P : PP) (k : Nat) (x : PS) (hxk : P.stmts[k]? = some x) (w : World) (n0 : Nat) (h : ProgR w n0 (.slice a1 P.vars.length c1) (.slice a2 P.funs.length c2) (.slice a3 P.stmts.length c3) P) (hf1 : P.vars.length ≤ 1000) (hf3 : P.stmts.length ≤ 1000) (hkx : x.isK kAddr = false ∧ x.isK kNew = false ∧ x.isK kFun = false)  :
    Calls Tryz.prog 73 #[pval a1 a2 a3 c1 c2 c3 P, .int .i64 (k : Int)] w fun e w' => ∃ av, e = .returned ((P.ruleR k x).val av) ∧ IntsR w n0 av (P.ruleR k x).args ∧ Ext w w' := by
  obtain ⟨W1, hW1⟩ : ∃ W1, W1 = w.alloc (.cells (pcells a1 a2 a3 c1 c2 c3 P) 26) := ⟨_, rfl⟩
  have hx1 : Ext w W1 := by rw [hW1]; exact (Ext.refl _).alloc _
  obtain ⟨W2, hW2⟩ : ∃ W2, W2 = W1.alloc (.cells #[.string ⟨#[]⟩, .int .i64 0, .int .i64 0, .int .i64 0, .slice none 0 0] 126) := ⟨_, rfl⟩
  have hx2 : Ext W1 W2 := by rw [hW2]; exact (Ext.refl _).alloc _
  have hk : k < P.stmts.length := by
    rcases Nat.lt_or_ge k P.stmts.length with h | h
    · exact h
    · rw [List.getElem?_eq_none h] at hxk; cases hxk
  have hml := h.stmts.len
  obtain ⟨y, x', av, cv, rfl, hxk', e0, e1, e2, e3, hI⟩ := (h.ext (hx1.trans hx2)).stmts.at hk
  obtain rfl := Option.some.inj (hxk.symm.trans hxk')
  obtain ⟨W3, hW3⟩ : ∃ W3, W3 = W2.alloc (.cells (scells x av cv) 73) := ⟨_, rfl⟩
  have hx3 : Ext W2 W3 := by rw [hW3]; exact (Ext.refl _).alloc _
  obtain ⟨W4, hW4⟩ : ∃ W4, W4 = W3.alloc (.cells #[.string x.kind, .int .i64 x.y, .int .i64 x.x, .int .i64 (k : Int), .slice av x.args.length cv] 126) := ⟨_, rfl⟩
  have hx4 : Ext W3 W4 := by rw [hW4]; exact (Ext.refl _).alloc _
  have s1 : W1.heap.size = w.heap.size + 1 := by rw [hW1, heap_size_alloc]
  have s2 : W2.heap.size = w.heap.size + 1 + 1 := by rw [hW2, heap_size_alloc, s1]
  have s3 : W3.heap.size = w.heap.size + 1 + 1 + 1 := by rw [hW3, heap_size_alloc, s2]
  have HX := hid (((hx1.trans hx2).trans hx3).trans hx4)
  have HB0 : Hid (Blk W4 w.heap.size (pcells a1 a2 (some y) c1 c2 c3 P) 26) := hid (by
    have : Blk W1 w.heap.size (pcells a1 a2 (some y) c1 c2 c3 P) 26 := by rw [hW1]; exact Blk.new _ _ _
    exact this.ext ((hx2.trans hx3).trans hx4))
  have HB1 : Hid (Blk W4 (w.heap.size + 1) #[.string ⟨#[]⟩, .int .i64 0, .int .i64 0, .int .i64 0, .slice none 0 0] 126) := hid (by
    have : Blk W2 (w.heap.size + 1) #[.string ⟨#[]⟩, .int .i64 0, .int .i64 0, .int .i64 0, .slice none 0 0] 126 := by rw [← s1, hW2]; exact Blk.new _ _ _
    exact this.ext (hx3.trans hx4))
  have HB2 : Hid (Blk W4 (w.heap.size + 1 + 1) (scells x av cv) 73) := hid (by
    have : Blk W3 (w.heap.size + 1 + 1) (scells x av cv) 73 := by rw [← s2, hW3]; exact Blk.new _ _ _
    exact this.ext hx4)
  have HB3 : Hid (Blk W4 (w.heap.size + 1 + 1 + 1) #[.string x.kind, .int .i64 x.y, .int .i64 x.x, .int .i64 (k : Int), .slice av x.args.length cv] 126) := hid (by rw [← s3, hW4]; exact Blk.new _ _ _)
  have HI := hid hI
  have HP := hid h
  rw [hW2, hW1] at e0 e1 e2 e3
  unfold pcells at e0 e1 e2 e3
  have HWe : Hid (W4 = (((w.alloc (.cells #[.slice a1 P.vars.length c1, .slice a2 P.funs.length c2, .slice (some y) P.stmts.length c3] 26)).alloc (.cells #[.string ⟨#[]⟩, .int .i64 0, .int .i64 0, .int .i64 0, .slice none 0 0] 126)).alloc (.cells #[.string x.kind, .int .i64 x.x, .int .i64 x.y, .slice av x.args.length cv] 73)).alloc (.cells #[.string x.kind, .int .i64 x.y, .int .i64 x.x, .int .i64 (k : Int), .slice av x.args.length cv] 126)) := hid (by rw [hW4, hW3, hW2, hW1]; rfl)
  have HI0 : Hid (IntsR w n0 (.slice av x.args.length cv) x.args) := hid (by
    obtain ⟨y', x', av', cv', hy', hxk2, f0, f1, f2, f3, hI'⟩ := HP.out.stmts.at hk
    obtain rfl := Option.some.inj hy'
    obtain rfl := Option.some.inj (hxk.symm.trans hxk2)
    have g3 := (hx1.trans hx2).cellx f3
    rw [hW2, hW1] at g3
    unfold pcells at g3
    rw [e3] at g3
    obtain ⟨rfl, rfl⟩ : av = av' ∧ cv = cv' := by simpa using g3
    exact hI')
  clear hW1 hW2 hW3 hW4 hx1 hx2 hx3 hx4 s1 s2 s3 hxk hxk' hI h
  unfold pval
  obtain ⟨g1, g2, g3⟩ := hkx
  have Hr : Hid (P.ruleR k x = ⟨x.kind, x.y, x.x, k, x.args⟩) := hid (by unfold PP.ruleR; rw [g1, g2, g3]; rfl)
  have h1 : (x.kind.toList == [97, 100, 100, 114]) = false := g1
  have h5 : (x.kind.toList == [110, 101, 119]) = false := g2
  have h6 : (x.kind.toList == [102, 117, 110]) = false := g3
  clear g1 g2 g3
  clear HWe
  go_enter Tryz.func73, Tryz.ntmps73
  go_wp2
  obtain ⟨V, hV⟩ : ∃ V, V = (((w.alloc (.cells #[.slice a1 P.vars.length c1, .slice a2 P.funs.length c2, .slice (some y) P.stmts.length c3] 26)).alloc (.cells #[.string x.kind, .int .i64 x.y, .int .i64 x.x, .int .i64 (k : Int), .slice av x.args.length cv] 126)).alloc (.cells #[.string x.kind, .int .i64 x.x, .int .i64 x.y, .slice av x.args.length cv] 73)).alloc (.cells #[.string x.kind, .int .i64 x.y, .int .i64 x.x, .int .i64 (k : Int), .slice av x.args.length cv] 126) := ⟨_, rfl⟩
  have hxV : Ext w V := by rw [hV]; exact ((((Ext.refl _).alloc _).alloc _).alloc _).alloc _
  have HB9 : Blk V (w.heap.size + 1) #[.string x.kind, .int .i64 x.y, .int .i64 x.x, .int .i64 (k : Int), .slice av x.args.length cv] 126 := by
    rw [hV]
    have := ((Blk.new (w.alloc (.cells #[.slice a1 P.vars.length c1, .slice a2 P.funs.length c2, .slice (some y) P.stmts.length c3] 26)) #[.string x.kind, .int .i64 x.y, .int .i64 x.x, .int .i64 (k : Int), .slice av x.args.length cv] 126).alloc (.cells #[.string x.kind, .int .i64 x.x, .int .i64 x.y, .slice av x.args.length cv] 73)).alloc (.cells #[.string x.kind, .int .i64 x.y, .int .i64 x.x, .int .i64 (k : Int), .slice av x.args.length cv] 126)
    rwa [heap_size_alloc] at this
  rw [← hV]
  exact bodyPost_ret (v := .agg #[.string x.kind, .int .i64 x.y, .int .i64 x.x, .int .i64 (k : Int), .slice av x.args.length cv]) (by simp [results, Tryz.results73, go_sem, HB9.av 0 rfl, HB9.av 1 rfl, HB9.av 2 rfl, HB9.av 3 rfl, HB9.av 4 rfl]) rfl ⟨_, by rw [Hr.out]; rfl, by rw [Hr.out]; exact HI0.out, hxV⟩
set_option maxRecDepth 100000 in
set_option maxHeartbeats 6400000 in
theorem rruleof_new (a1 a2 a3 : Option Addr) (c1 c2 c3 : Nat) (P : PP) (k : Nat) (x : PS) (hxk : P.stmts[k]? = some x) (w : World) (n0 : Nat) (h : ProgR w n0 (.slice a1 P.vars.length c1) (.slice a2 P.funs.length c2) (.slice a3 P.stmts.length c3) P) (hf1 : P.vars.length ≤ 1000) (hf3 : P.stmts.length ≤ 1000) (hkx : x.isK kNew = true)  :
    Calls Tryz.prog 73 #[pval a1 a2 a3 c1 c2 c3 P, .int .i64 (k : Int)] w fun e w' => ∃ av, e = .returned ((P.ruleR k x).val av) ∧ IntsR w n0 av (P.ruleR k x).args ∧ Ext w w' := by
  have HPl := fun w1 (y : Ext w w1) => hid (rplaceof_any a1 a2 a3 c1 c2 c3 P (k : Int) w1 n0 (h.ext y) hf1 hf3)
  obtain ⟨W1, hW1⟩ : ∃ W1, W1 = w.alloc (.cells (pcells a1 a2 a3 c1 c2 c3 P) 26) := ⟨_, rfl⟩
  have hx1 : Ext w W1 := by rw [hW1]; exact (Ext.refl _).alloc _
  obtain ⟨W2, hW2⟩ : ∃ W2, W2 = W1.alloc (.cells #[.string ⟨#[]⟩, .int .i64 0, .int .i64 0, .int .i64 0, .slice none 0 0] 126) := ⟨_, rfl⟩
  have hx2 : Ext W1 W2 := by rw [hW2]; exact (Ext.refl _).alloc _
  have hk : k < P.stmts.length := by
    rcases Nat.lt_or_ge k P.stmts.length with h | h
    · exact h
    · rw [List.getElem?_eq_none h] at hxk; cases hxk
  have hml := h.stmts.len
  obtain ⟨y, x', av, cv, rfl, hxk', e0, e1, e2, e3, hI⟩ := (h.ext (hx1.trans hx2)).stmts.at hk
  obtain rfl := Option.some.inj (hxk.symm.trans hxk')
  obtain ⟨W3, hW3⟩ : ∃ W3, W3 = W2.alloc (.cells (scells x av cv) 73) := ⟨_, rfl⟩
  have hx3 : Ext W2 W3 := by rw [hW3]; exact (Ext.refl _).alloc _
  obtain ⟨W4, hW4⟩ : ∃ W4, W4 = W3.alloc (.cells #[.string x.kind, .int .i64 x.y, .int .i64 x.x, .int .i64 (k : Int), .slice av x.args.length cv] 126) := ⟨_, rfl⟩
  have hx4 : Ext W3 W4 := by rw [hW4]; exact (Ext.refl _).alloc _
  have s1 : W1.heap.size = w.heap.size + 1 := by rw [hW1, heap_size_alloc]
  have s2 : W2.heap.size = w.heap.size + 1 + 1 := by rw [hW2, heap_size_alloc, s1]
  have s3 : W3.heap.size = w.heap.size + 1 + 1 + 1 := by rw [hW3, heap_size_alloc, s2]
  have HX := hid (((hx1.trans hx2).trans hx3).trans hx4)
  have HB0 : Hid (Blk W4 w.heap.size (pcells a1 a2 (some y) c1 c2 c3 P) 26) := hid (by
    have : Blk W1 w.heap.size (pcells a1 a2 (some y) c1 c2 c3 P) 26 := by rw [hW1]; exact Blk.new _ _ _
    exact this.ext ((hx2.trans hx3).trans hx4))
  have HB1 : Hid (Blk W4 (w.heap.size + 1) #[.string ⟨#[]⟩, .int .i64 0, .int .i64 0, .int .i64 0, .slice none 0 0] 126) := hid (by
    have : Blk W2 (w.heap.size + 1) #[.string ⟨#[]⟩, .int .i64 0, .int .i64 0, .int .i64 0, .slice none 0 0] 126 := by rw [← s1, hW2]; exact Blk.new _ _ _
    exact this.ext (hx3.trans hx4))
  have HB2 : Hid (Blk W4 (w.heap.size + 1 + 1) (scells x av cv) 73) := hid (by
    have : Blk W3 (w.heap.size + 1 + 1) (scells x av cv) 73 := by rw [← s2, hW3]; exact Blk.new _ _ _
    exact this.ext hx4)
  have HB3 : Hid (Blk W4 (w.heap.size + 1 + 1 + 1) #[.string x.kind, .int .i64 x.y, .int .i64 x.x, .int .i64 (k : Int), .slice av x.args.length cv] 126) := hid (by rw [← s3, hW4]; exact Blk.new _ _ _)
  have HI := hid hI
  have HP := hid h
  rw [hW2, hW1] at e0 e1 e2 e3
  unfold pcells at e0 e1 e2 e3
  have HWe : Hid (W4 = (((w.alloc (.cells #[.slice a1 P.vars.length c1, .slice a2 P.funs.length c2, .slice (some y) P.stmts.length c3] 26)).alloc (.cells #[.string ⟨#[]⟩, .int .i64 0, .int .i64 0, .int .i64 0, .slice none 0 0] 126)).alloc (.cells #[.string x.kind, .int .i64 x.x, .int .i64 x.y, .slice av x.args.length cv] 73)).alloc (.cells #[.string x.kind, .int .i64 x.y, .int .i64 x.x, .int .i64 (k : Int), .slice av x.args.length cv] 126)) := hid (by rw [hW4, hW3, hW2, hW1]; rfl)
  have HI0 : Hid (IntsR w n0 (.slice av x.args.length cv) x.args) := hid (by
    obtain ⟨y', x', av', cv', hy', hxk2, f0, f1, f2, f3, hI'⟩ := HP.out.stmts.at hk
    obtain rfl := Option.some.inj hy'
    obtain rfl := Option.some.inj (hxk.symm.trans hxk2)
    have g3 := (hx1.trans hx2).cellx f3
    rw [hW2, hW1] at g3
    unfold pcells at g3
    rw [e3] at g3
    obtain ⟨rfl, rfl⟩ : av = av' ∧ cv = cv' := by simpa using g3
    exact hI')
  clear hW1 hW2 hW3 hW4 hx1 hx2 hx3 hx4 s1 s2 s3 hxk hxk' hI h
  unfold pval
  unfold pval at HPl
  have h1 : (x.kind.toList == [97, 100, 100, 114]) = false := isK_ne hkx (k' := kAddr) rfl
  have hkk := hkx
  unfold PS.isK kNew at hkk
  have Hr : Hid (P.ruleR k x = ⟨bBase, x.x, P.placeV k, k, []⟩) := hid (by unfold PP.ruleR; rw [isK_ne hkx (k' := kAddr) rfl, hkx]; rfl)
  clear hkx
  have x0 := Ext.refl W4
  have m0 := (HB2.out.ext x0).kc (X := fun _ => False) (fun e => e) 0 rfl
  have m1 := (HB2.out.ext x0).kc (X := fun _ => False) (fun e => e) 1 rfl
  have m2 := (HB2.out.ext x0).kc (X := fun _ => False) (fun e => e) 2 rfl
  have m3 := (HB2.out.ext x0).kc (X := fun _ => False) (fun e => e) 3 rfl
  have d0 := (HB0.out.ext x0).kc (X := fun _ => False) (fun e => e) 0 rfl
  have d1 := (HB0.out.ext x0).kc (X := fun _ => False) (fun e => e) 1 rfl
  have d2 := (HB0.out.ext x0).kc (X := fun _ => False) (fun e => e) 2 rfl
  simp only [pcells, scells, qA0, qA1, qA2] at m0 m1 m2 m3 d0 d1 d2
  clear x0
  go_enter Tryz.func73, Tryz.ntmps73
  go_wp2
  rw [← HWe.out]
  refine wp_flowT (fun _ => False) (by kernel_rfl) (by kernel_rfl) ?_
  repeat (apply FlowT.d; (intro w1 hk; unfold does; go_simp; (try go_ints); (first | exact DetR.mk | (simp only [↓IntWalk.iteOmega, Oper.doesUpon_value]; exact DetR.mk) | (simp only [↓IntWalk.iteOmega]; go_simp; (try go_ints); exact DetR.mk))); simp only [Act.put, qS0, qS1, qS2])
  apply FlowT.d
  · intro w1 hk
    unfold does
    go_simp
    exact CallR.det ((HPl w1 (HX.out.trans hk.ext)).out)
  simp only [Act.put, qS0, qS1, qS2]
  repeat (apply FlowT.d; (intro w1 hk; unfold does; go_simp; (try go_ints); (first | exact DetR.mk | (simp only [↓IntWalk.iteOmega, Oper.doesUpon_value]; exact DetR.mk) | (simp only [↓IntWalk.iteOmega]; go_simp; (try go_ints); exact DetR.mk))); simp only [Act.put, qS0, qS1, qS2])
  refine FlowT.last (fun _ w' => Blk w' (w.heap.size + 1 + 1 + 1) #[.string ⟨#[98, 97, 115, 101]⟩, .int .i64 x.x, .int .i64 (P.placeV k), .int .i64 (k : Int), .slice none 0 0] 126 ∧ Blk w' (w.heap.size + 1) #[.string ⟨#[]⟩, .int .i64 0, .int .i64 0, .int .i64 0, .slice none 0 0] 126 ∧ Ext w w') 7 rfl (by kernel_rfl) (by kernel_rfl) (fun w1 hC hk => ?_) (fun _ w2 hR => ?_)
  · have hB := HB3.out.ext hC
    have c0 := hB.av 0 rfl
    have c1 := hB.av 1 rfl
    have c2 := hB.av 2 rfl
    have c3 := hB.av 3 rfl
    have c4 := hB.av 4 rfl
    have f0 := hB.free
    have hZ := HB1.out.ext hC
    unfold does
    go_simp
    exact ⟨store5 hB, hZ.keep (store5_keep _ _ _ _ _ _ _) (fun e => by omega), Keep.new (HX.out.trans hC) (store5_keep _ _ _ _ _ _ _) (fun b hb => by omega)⟩
  obtain ⟨hB, hZ, hxw⟩ := hR
  simp only [Act.put]
  have Hxw := hid hxw
  have HZ := hid hZ
  have c0 := hB.av 0 rfl
  have c1 := hB.av 1 rfl
  have c2 := hB.av 2 rfl
  have c3 := hB.av 3 rfl
  have c4 := hB.av 4 rfl
  have z0 := hZ.av 0 rfl
  have z1 := hZ.av 1 rfl
  have z2 := hZ.av 2 rfl
  have z3 := hZ.av 3 rfl
  have z4 := hZ.av 4 rfl
  have f0 := hZ.free
  simp only [qA0, qA1, qA2] at c0 c1 c2 c3 c4 z0 z1 z2 z3 z4
  clear hB hZ hxw m0 m1 m2 m3 d0 d1 d2
  go_wp2
  have h9 := store5 (b0 := .string ⟨#[98, 97, 115, 101]⟩) (b1 := .int .i64 x.x) (b2 := .int .i64 (P.placeV k)) (b3 := .int .i64 (k : Int)) (b4 := .slice none 0 0) HZ.out
  have x9 := Keep.new Hxw.out (store5_keep w2 (w.heap.size + 1) (.string ⟨#[98, 97, 115, 101]⟩) (.int .i64 x.x) (.int .i64 (P.placeV k)) (.int .i64 (k : Int)) (.slice none 0 0)) (fun b hb => by omega)
  exact bodyPost_ret (v := .agg #[.string ⟨#[98, 97, 115, 101]⟩, .int .i64 x.x, .int .i64 (P.placeV k), .int .i64 (k : Int), .slice none 0 0]) (by simp [results, Tryz.results73, go_sem, h9.av 0 rfl, h9.av 1 rfl, h9.av 2 rfl, h9.av 3 rfl, h9.av 4 rfl]) rfl ⟨_, by rw [Hr.out]; rfl, by rw [Hr.out]; exact intsR_nil _ _, x9⟩
set_option maxRecDepth 100000 in
set_option maxHeartbeats 6400000 in
theorem rruleof_fun (a1 a2 a3 : Option Addr) (c1 c2 c3 : Nat) (P : PP) (k : Nat) (x : PS) (hxk : P.stmts[k]? = some x) (w : World) (n0 : Nat) (h : ProgR w n0 (.slice a1 P.vars.length c1) (.slice a2 P.funs.length c2) (.slice a3 P.stmts.length c3) P) (hf1 : P.vars.length ≤ 1000) (hf3 : P.stmts.length ≤ 1000) (hkx : x.isK kFun = true) (hyy : 0 ≤ x.y ∧ x.y ≤ 100000) :
    Calls Tryz.prog 73 #[pval a1 a2 a3 c1 c2 c3 P, .int .i64 (k : Int)] w fun e w' => ∃ av, e = .returned ((P.ruleR k x).val av) ∧ IntsR w n0 av (P.ruleR k x).args ∧ Ext w w' := by
  have HNo := fun w1 (y : Ext w w1) => hid (rnodesof_any a1 a2 a3 c1 c2 c3 P w1 n0 (h.ext y) hf1 hf3)
  have hnl := P.nodesV_le2
  obtain ⟨W1, hW1⟩ : ∃ W1, W1 = w.alloc (.cells (pcells a1 a2 a3 c1 c2 c3 P) 26) := ⟨_, rfl⟩
  have hx1 : Ext w W1 := by rw [hW1]; exact (Ext.refl _).alloc _
  obtain ⟨W2, hW2⟩ : ∃ W2, W2 = W1.alloc (.cells #[.string ⟨#[]⟩, .int .i64 0, .int .i64 0, .int .i64 0, .slice none 0 0] 126) := ⟨_, rfl⟩
  have hx2 : Ext W1 W2 := by rw [hW2]; exact (Ext.refl _).alloc _
  have hk : k < P.stmts.length := by
    rcases Nat.lt_or_ge k P.stmts.length with h | h
    · exact h
    · rw [List.getElem?_eq_none h] at hxk; cases hxk
  have hml := h.stmts.len
  obtain ⟨y, x', av, cv, rfl, hxk', e0, e1, e2, e3, hI⟩ := (h.ext (hx1.trans hx2)).stmts.at hk
  obtain rfl := Option.some.inj (hxk.symm.trans hxk')
  obtain ⟨W3, hW3⟩ : ∃ W3, W3 = W2.alloc (.cells (scells x av cv) 73) := ⟨_, rfl⟩
  have hx3 : Ext W2 W3 := by rw [hW3]; exact (Ext.refl _).alloc _
  obtain ⟨W4, hW4⟩ : ∃ W4, W4 = W3.alloc (.cells #[.string x.kind, .int .i64 x.y, .int .i64 x.x, .int .i64 (k : Int), .slice av x.args.length cv] 126) := ⟨_, rfl⟩
  have hx4 : Ext W3 W4 := by rw [hW4]; exact (Ext.refl _).alloc _
  have s1 : W1.heap.size = w.heap.size + 1 := by rw [hW1, heap_size_alloc]
  have s2 : W2.heap.size = w.heap.size + 1 + 1 := by rw [hW2, heap_size_alloc, s1]
  have s3 : W3.heap.size = w.heap.size + 1 + 1 + 1 := by rw [hW3, heap_size_alloc, s2]
  have HX := hid (((hx1.trans hx2).trans hx3).trans hx4)
  have HB0 : Hid (Blk W4 w.heap.size (pcells a1 a2 (some y) c1 c2 c3 P) 26) := hid (by
    have : Blk W1 w.heap.size (pcells a1 a2 (some y) c1 c2 c3 P) 26 := by rw [hW1]; exact Blk.new _ _ _
    exact this.ext ((hx2.trans hx3).trans hx4))
  have HB1 : Hid (Blk W4 (w.heap.size + 1) #[.string ⟨#[]⟩, .int .i64 0, .int .i64 0, .int .i64 0, .slice none 0 0] 126) := hid (by
    have : Blk W2 (w.heap.size + 1) #[.string ⟨#[]⟩, .int .i64 0, .int .i64 0, .int .i64 0, .slice none 0 0] 126 := by rw [← s1, hW2]; exact Blk.new _ _ _
    exact this.ext (hx3.trans hx4))
  have HB2 : Hid (Blk W4 (w.heap.size + 1 + 1) (scells x av cv) 73) := hid (by
    have : Blk W3 (w.heap.size + 1 + 1) (scells x av cv) 73 := by rw [← s2, hW3]; exact Blk.new _ _ _
    exact this.ext hx4)
  have HB3 : Hid (Blk W4 (w.heap.size + 1 + 1 + 1) #[.string x.kind, .int .i64 x.y, .int .i64 x.x, .int .i64 (k : Int), .slice av x.args.length cv] 126) := hid (by rw [← s3, hW4]; exact Blk.new _ _ _)
  have HI := hid hI
  have HP := hid h
  rw [hW2, hW1] at e0 e1 e2 e3
  unfold pcells at e0 e1 e2 e3
  have HWe : Hid (W4 = (((w.alloc (.cells #[.slice a1 P.vars.length c1, .slice a2 P.funs.length c2, .slice (some y) P.stmts.length c3] 26)).alloc (.cells #[.string ⟨#[]⟩, .int .i64 0, .int .i64 0, .int .i64 0, .slice none 0 0] 126)).alloc (.cells #[.string x.kind, .int .i64 x.x, .int .i64 x.y, .slice av x.args.length cv] 73)).alloc (.cells #[.string x.kind, .int .i64 x.y, .int .i64 x.x, .int .i64 (k : Int), .slice av x.args.length cv] 126)) := hid (by rw [hW4, hW3, hW2, hW1]; rfl)
  have HI0 : Hid (IntsR w n0 (.slice av x.args.length cv) x.args) := hid (by
    obtain ⟨y', x', av', cv', hy', hxk2, f0, f1, f2, f3, hI'⟩ := HP.out.stmts.at hk
    obtain rfl := Option.some.inj hy'
    obtain rfl := Option.some.inj (hxk.symm.trans hxk2)
    have g3 := (hx1.trans hx2).cellx f3
    rw [hW2, hW1] at g3
    unfold pcells at g3
    rw [e3] at g3
    obtain ⟨rfl, rfl⟩ : av = av' ∧ cv = cv' := by simpa using g3
    exact hI')
  clear hW1 hW2 hW3 hW4 hx1 hx2 hx3 hx4 s1 s2 s3 hxk hxk' hI h
  unfold pval
  unfold pval at HNo
  have h1 : (x.kind.toList == [97, 100, 100, 114]) = false := isK_ne hkx (k' := kAddr) rfl
  have h5 : (x.kind.toList == [110, 101, 119]) = false := isK_ne hkx (k' := kNew) rfl
  have hkk := hkx
  unfold PS.isK kFun at hkk
  obtain ⟨N, hN⟩ : ∃ N, N = P.nodesV := ⟨_, rfl⟩
  have Hr : Hid (P.ruleR k x = ⟨bBase, x.x, (N : Int) + x.y, k, []⟩) := hid (by unfold PP.ruleR; rw [isK_ne hkx (k' := kAddr) rfl, isK_ne hkx (k' := kNew) rfl, hkx, hN]; rfl)
  rw [← hN] at HNo hnl
  obtain ⟨hg1, hg2⟩ := hyy
  clear hkx hN
  have x0 := Ext.refl W4
  have m0 := (HB2.out.ext x0).kc (X := fun _ => False) (fun e => e) 0 rfl
  have m1 := (HB2.out.ext x0).kc (X := fun _ => False) (fun e => e) 1 rfl
  have m2 := (HB2.out.ext x0).kc (X := fun _ => False) (fun e => e) 2 rfl
  have m3 := (HB2.out.ext x0).kc (X := fun _ => False) (fun e => e) 3 rfl
  have d0 := (HB0.out.ext x0).kc (X := fun _ => False) (fun e => e) 0 rfl
  have d1 := (HB0.out.ext x0).kc (X := fun _ => False) (fun e => e) 1 rfl
  have d2 := (HB0.out.ext x0).kc (X := fun _ => False) (fun e => e) 2 rfl
  simp only [pcells, scells, qA0, qA1, qA2] at m0 m1 m2 m3 d0 d1 d2
  clear x0
  go_enter Tryz.func73, Tryz.ntmps73
  go_wp2
  rw [← HWe.out]
  refine wp_flowT (fun _ => False) (by kernel_rfl) (by kernel_rfl) ?_
  repeat (apply FlowT.d; (intro w1 hk; unfold does; go_simp; (try go_ints); (first | exact DetR.mk | (simp only [↓IntWalk.iteOmega, Oper.doesUpon_value]; exact DetR.mk) | (simp only [↓IntWalk.iteOmega]; go_simp; (try go_ints); exact DetR.mk))); simp only [Act.put, qS0, qS1, qS2])
  apply FlowT.d
  · intro w1 hk
    unfold does
    go_simp
    exact CallR.det ((HNo w1 (HX.out.trans hk.ext)).out)
  simp only [Act.put, qS0, qS1, qS2]
  repeat (apply FlowT.d; (intro w1 hk; unfold does; go_simp; (try go_ints); (first | exact DetR.mk | (simp only [↓IntWalk.iteOmega, Oper.doesUpon_value]; exact DetR.mk) | (simp only [↓IntWalk.iteOmega]; go_simp; (try go_ints); exact DetR.mk))); simp only [Act.put, qS0, qS1, qS2])
  refine FlowT.last (fun _ w' => Blk w' (w.heap.size + 1 + 1 + 1) #[.string ⟨#[98, 97, 115, 101]⟩, .int .i64 x.x, .int .i64 ((N : Int) + x.y), .int .i64 (k : Int), .slice none 0 0] 126 ∧ Blk w' (w.heap.size + 1) #[.string ⟨#[]⟩, .int .i64 0, .int .i64 0, .int .i64 0, .slice none 0 0] 126 ∧ Ext w w') 9 rfl (by kernel_rfl) (by kernel_rfl) (fun w1 hC hk => ?_) (fun _ w2 hR => ?_)
  · have hB := HB3.out.ext hC
    have c0 := hB.av 0 rfl
    have c1 := hB.av 1 rfl
    have c2 := hB.av 2 rfl
    have c3 := hB.av 3 rfl
    have c4 := hB.av 4 rfl
    have f0 := hB.free
    have hZ := HB1.out.ext hC
    unfold does
    go_simp
    exact ⟨store5 hB, hZ.keep (store5_keep _ _ _ _ _ _ _) (fun e => by omega), Keep.new (HX.out.trans hC) (store5_keep _ _ _ _ _ _ _) (fun b hb => by omega)⟩
  obtain ⟨hB, hZ, hxw⟩ := hR
  simp only [Act.put]
  have Hxw := hid hxw
  have HZ := hid hZ
  have c0 := hB.av 0 rfl
  have c1 := hB.av 1 rfl
  have c2 := hB.av 2 rfl
  have c3 := hB.av 3 rfl
  have c4 := hB.av 4 rfl
  have z0 := hZ.av 0 rfl
  have z1 := hZ.av 1 rfl
  have z2 := hZ.av 2 rfl
  have z3 := hZ.av 3 rfl
  have z4 := hZ.av 4 rfl
  have f0 := hZ.free
  simp only [qA0, qA1, qA2] at c0 c1 c2 c3 c4 z0 z1 z2 z3 z4
  clear hB hZ hxw m0 m1 m2 m3 d0 d1 d2
  go_wp2
  have h9 := store5 (b0 := .string ⟨#[98, 97, 115, 101]⟩) (b1 := .int .i64 x.x) (b2 := .int .i64 ((N : Int) + x.y)) (b3 := .int .i64 (k : Int)) (b4 := .slice none 0 0) HZ.out
  have x9 := Keep.new Hxw.out (store5_keep w2 (w.heap.size + 1) (.string ⟨#[98, 97, 115, 101]⟩) (.int .i64 x.x) (.int .i64 ((N : Int) + x.y)) (.int .i64 (k : Int)) (.slice none 0 0)) (fun b hb => by omega)
  exact bodyPost_ret (v := .agg #[.string ⟨#[98, 97, 115, 101]⟩, .int .i64 x.x, .int .i64 ((N : Int) + x.y), .int .i64 (k : Int), .slice none 0 0]) (by simp [results, Tryz.results73, go_sem, h9.av 0 rfl, h9.av 1 rfl, h9.av 2 rfl, h9.av 3 rfl, h9.av 4 rfl]) rfl ⟨_, by rw [Hr.out]; rfl, by rw [Hr.out]; exact intsR_nil _ _, x9⟩
theorem rruleof_any (a1 a2 a3 : Option Addr) (c1 c2 c3 : Nat) (P : PP) (k : Nat) (x : PS) (hxk : P.stmts[k]? = some x) (w : World) (n0 : Nat) (h : ProgR w n0 (.slice a1 P.vars.length c1) (.slice a2 P.funs.length c2) (.slice a3 P.stmts.length c3) P) (hw : P.Well) :
    Calls Tryz.prog 73 #[pval a1 a2 a3 c1 c2 c3 P, .int .i64 (k : Int)] w fun e w' => ∃ av, e = .returned ((P.ruleR k x).val av) ∧ IntsR w n0 av (P.ruleR k x).args ∧ Ext w w' := by
  have hk : k < P.stmts.length := by
    rcases Nat.lt_or_ge k P.stmts.length with h | h
    · exact h
    · rw [List.getElem?_eq_none h] at hxk; cases hxk
  have h0 := hw.2 k x hk hxk
  have hg := PP.good h0
  obtain ⟨f1, f2, f3⟩ := hw.few
  cases h1 : x.isK kAddr with
  | true =>
    have hy := hg.yv (isK_ne h1 (k' := kFun) rfl) (isK_ne h1 (k' := kNew) rfl)
    exact rruleof_addr a1 a2 a3 c1 c2 c3 P k x hxk w n0 h (by omega) (by omega) h1
  | false =>
    cases h2 : x.isK kNew with
    | true => exact rruleof_new a1 a2 a3 c1 c2 c3 P k x hxk w n0 h (by omega) (by omega) h2
    | false =>
      cases h3 : x.isK kFun with
      | true =>
        have hy := hg.yf h3
        exact rruleof_fun a1 a2 a3 c1 c2 c3 P k x hxk w n0 h (by omega) (by omega) h3 (by omega)
      | false => exact rruleof_rest a1 a2 a3 c1 c2 c3 P k x hxk w n0 h (by omega) (by omega) ⟨h1, h2, h3⟩
theorem isE_congr {P : PP} {r s : RV} (h1 : r.kind.toList = s.kind.toList) (h2 : r.a = s.a) (h3 : r.b = s.b) (h4 : r.args = s.args) (has : List (List Int)) (a b : Int) : P.isE r has a b = P.isE s has a b := by
  unfold PP.isE fEdge
  rw [h1, h2, h3, h4]
def PP.rulesRUp (P : PP) (n : Nat) : List RV := ((List.range n).map fun k => P.ruleR k (P.stAt k)).filter fun r => !(r.kind.toList == bBase.toList)
theorem rulesRUp_succ (P : PP) (n : Nat) : P.rulesRUp (n + 1) = P.rulesRUp n ++ (if (P.ruleR n (P.stAt n)).kind.toList == bBase.toList then [] else [P.ruleR n (P.stAt n)]) := by
  unfold PP.rulesRUp
  rw [List.range_succ, List.map_append, List.filter_append]
  congr 1
  simp only [List.map_cons, List.map_nil, List.filter_cons, List.filter_nil]
  cases (P.ruleR n (P.stAt n)).kind.toList == bBase.toList <;> rfl
theorem rulesRUp_len (P : PP) (n : Nat) : (P.rulesRUp n).length ≤ n := by
  unfold PP.rulesRUp
  have := List.length_filter_le (fun r : RV => !(r.kind.toList == bBase.toList)) ((List.range n).map fun k => P.ruleR k (P.stAt k))
  rwa [List.length_map, List.length_range] at this
theorem any_rules {P : PP} (hw : P.Well) (has : List (List Int)) (a b : Int) : (P.rulesRUp P.stmts.length).any (fun r => P.isE r has a b) = P.rulesE.any fun r => P.isE r has a b := by
  unfold PP.rulesRUp PP.rulesE PP.rulesV PP.rulesUp
  rw [List.any_filter, List.any_filter, List.any_map, List.any_map]
  rw [Bool.eq_iff_iff, List.any_eq_true, List.any_eq_true]
  have c : ∀ k, k ∈ List.range P.stmts.length → (((fun r : RV => !(r.kind.toList == bBase.toList) && P.isE r has a b) ∘ fun k => P.ruleR k (P.stAt k)) k = ((fun r : RV => !(r.kind.toList == bBase.toList) && P.isE r has a b) ∘ fun k => P.ruleV k (P.stAt k)) k) := fun k hk => by
    have hk := List.mem_range.1 hk
    obtain ⟨h1, h2, h3, _, _, h4⟩ := rule_same (hw.2 k (P.stAt k) hk (stAt_some hk)) k
    simp only [Function.comp_apply]
    rw [isE_congr h1 h2 h3 h4, h1]
  exact ⟨fun ⟨k, hk, h⟩ => ⟨k, hk, by rw [← c k hk]; exact h⟩, fun ⟨k, hk, h⟩ => ⟨k, hk, by rw [c k hk]; exact h⟩⟩
structure REdge (n : Nat) (r : RV) : Prop where
  kd : (r.kind.toList == kCopy) = true ∨ (r.kind.toList == kLoad) = true ∨ (r.kind.toList == kStore) = true ∨ (r.kind.toList == kCall) = true
  a : 0 ≤ r.a ∧ r.a < n
  b : 0 ≤ r.b ∧ r.b < n
theorem ruleR_edge {P : PP} (hw : P.Well) {k : Nat} (hk : k < P.stmts.length) (hb : ((P.ruleR k (P.stAt k)).kind.toList == bBase.toList) = false) : REdge P.nodesV (P.ruleR k (P.stAt k)) := by
  have h0 := hw.2 k (P.stAt k) hk (stAt_some hk)
  have hg := PP.good h0
  have hnv := nodes_vars P
  obtain ⟨x, hx⟩ : ∃ x, x = P.stAt k := ⟨_, rfl⟩
  rw [← hx] at h0 hg hb ⊢
  have hgx := hg.gx
  have base : ∀ r : RV, r.kind = bBase → (r.kind.toList == bBase.toList) = true := fun r h => by rw [h]; exact beq_self_eq_true _
  have go : ∀ (g3 : x.isK kFun = false) (g2 : x.isK kNew = false) (g1 : x.isK kAddr = false), (x.isK kCopy = true ∨ x.isK kLoad = true ∨ x.isK kStore = true ∨ x.isK kCall = true) → REdge P.nodesV (P.ruleR k x) := fun g3 g2 g1 g => by
    have e : P.ruleR k x = ⟨x.kind, x.y, x.x, k, x.args⟩ := by unfold PP.ruleR; rw [g1, g2, g3]; rfl
    have hy := hg.yv g3 g2
    rw [e]
    exact ⟨g, by show 0 ≤ x.y ∧ x.y < (P.nodesV : Int); omega, by show 0 ≤ x.x ∧ x.x < (P.nodesV : Int); omega⟩
  rcases kind_cases h0 with g | g | g | g | g | g | g
  · rw [base _ (by unfold PP.ruleR; rw [g]; rfl)] at hb; cases hb
  · exact go (isK_ne g (k' := kFun) rfl) (isK_ne g (k' := kNew) rfl) (isK_ne g (k' := kAddr) rfl) (.inl g)
  · exact go (isK_ne g (k' := kFun) rfl) (isK_ne g (k' := kNew) rfl) (isK_ne g (k' := kAddr) rfl) (.inr (.inl g))
  · exact go (isK_ne g (k' := kFun) rfl) (isK_ne g (k' := kNew) rfl) (isK_ne g (k' := kAddr) rfl) (.inr (.inr (.inl g)))
  · rw [base _ (by unfold PP.ruleR; rw [isK_ne g (k' := kAddr) rfl, g]; rfl)] at hb; cases hb
  · rw [base _ (by unfold PP.ruleR; rw [isK_ne g (k' := kAddr) rfl, isK_ne g (k' := kNew) rfl, g]; rfl)] at hb; cases hb
  · exact go (isK_ne g (k' := kFun) rfl) (isK_ne g (k' := kNew) rfl) (isK_ne g (k' := kAddr) rfl) (.inr (.inr (.inr g)))
theorem rulesRUp_edge {P : PP} (hw : P.Well) {n : Nat} (hn : n ≤ P.stmts.length) : ∀ r ∈ P.rulesRUp n, REdge P.nodesV r := by
  intro r hr
  unfold PP.rulesRUp at hr
  obtain ⟨h1, h2⟩ := List.mem_filter.1 hr
  obtain ⟨k, hk, rfl⟩ := List.mem_map.1 h1
  have hk := List.mem_range.1 hk
  exact ruleR_edge hw (by omega) (by simpa using h2)
theorem risedge_any (a1 a2 a3 : Option Addr) (c1 c2 c3 : Nat) (P : PP) (r : RV) (av hv : Value) (has : List (List Int)) (p q : Int) (w : World) (n0 : Nat) (h : ProgR w n0 (.slice a1 P.vars.length c1) (.slice a2 P.funs.length c2) (.slice a3 P.stmts.length c3) P) (hf1 : P.vars.length ≤ 1000) (hf3 : P.stmts.length ≤ 1000) (hf2 : P.funs.length ≤ 1000) (ha : IntsR w n0 av r.args) (hh : SetsR w n0 hv has) (hr : REdge has.length r) :
    Calls Tryz.prog 74 #[pval a1 a2 a3 c1 c2 c3 P, r.val av, hv, .int .i64 p, .int .i64 q] w fun e w' => e = .returned (.bool (P.isE r has p q)) ∧ Ext w w' := by
  rcases hr.kd with g | g | g | g
  · exact risedge_copy a1 a2 a3 c1 c2 c3 P r av hv has p q w n0 h hf1 hf3 ha hh g
  · exact risedge_load a1 a2 a3 c1 c2 c3 P r av hv has p q w n0 h hf1 hf3 ha hh g hr.a
  · exact risedge_store a1 a2 a3 c1 c2 c3 P r av hv has p q w n0 h hf1 hf3 ha hh g hr.b
  · exact risedge_call a1 a2 a3 c1 c2 c3 P r av hv has p q w n0 h hf1 hf3 ha hh g hr.a hf2
def RERow (base : Nat) (w : World) (v : Value) (l : List (Int × Int)) : Prop := w.ownsRow base 111 2 v l.length (l.flatMap eCells)
theorem redge_info : (Tryz.prog.info? 111).map (fun i => (i.zero, i.size, i.bytes)) = some (some (.agg #[.int .i64 0, .int .i64 0]), 2, 16) := by kernel_rfl
theorem rrule_info : (Tryz.prog.info? 126).map (fun i => (i.zero, i.size, i.bytes)) = some (some (.agg #[.string ⟨#[]⟩, .int .i64 0, .int .i64 0, .int .i64 0, .slice none 0 0]), 5, 64) := by kernel_rfl
theorem own_rr {w : World} {base g n cap : Nat} {t : TypeId} {rs : List R2} (h : w.ownsRow base t 5 (.slice (some ⟨g, 0, none⟩) n cap) n (rs.flatMap R2.cells)) {i : Nat} {x : R2} (hx : rs[i]? = some x) :
    w.cell? ⟨g, i * 5, none⟩ = some (.string x.r.kind) ∧ w.cell? ⟨g, i * 5 + 1, none⟩ = some (.int .i64 x.r.a) ∧ w.cell? ⟨g, i * 5 + 2, none⟩ = some (.int .i64 x.r.b) ∧ w.cell? ⟨g, i * 5 + 3, none⟩ = some (.int .i64 x.r.k) ∧ w.cell? ⟨g, i * 5 + 4, none⟩ = some x.v := by
  have c : ∀ j v, x.cells[j]? = some v → j < 5 → w.cell? ⟨g, i * 5 + j, none⟩ = some v := fun j v hv hj => own_get h _ ((fm_get R2.cells 5 R2.cells_len rs i j x hx hj).trans hv)
  exact ⟨c 0 _ rfl (by omega), c 1 _ rfl (by omega), c 2 _ rfl (by omega), c 3 _ rfl (by omega), c 4 _ rfl (by omega)⟩
theorem rowE_succ (P : PP) (has : List (List Int)) (a n : Nat) : P.rowE has a (n + 1) = P.rowE has a n ++ (if P.edgeB has a n then [((a : Int), (n : Int))] else []) := by
  unfold PP.rowE
  rw [List.range_succ, List.filter_append, List.map_append]
  congr 1
  simp only [List.filter_cons, List.filter_nil]
  cases P.edgeB has a n <;> rfl
theorem refE_succ (P : PP) (has : List (List Int)) (n : Nat) : P.refE has (n + 1) = P.refE has n ++ P.rowE has n P.nodesV := by
  unfold PP.refE
  rw [List.range_succ, List.flatMap_append]
  simp
theorem rowE_len (P : PP) (has : List (List Int)) (a n : Nat) : (P.rowE has a n).length ≤ n := by
  unfold PP.rowE
  rw [List.length_map]
  have := List.length_filter_le (fun b : Nat => P.edgeB has (a : Int) (b : Int)) (List.range n)
  rwa [List.length_range] at this
theorem refE_len {P : PP} (hw : P.Well) (has : List (List Int)) {n : Nat} (hn : n ≤ P.nodesV) : (P.refE has n).length ≤ 14400 := by
  have hN := nodesV_le P hw
  have h1 := flatMap_len (fun a => P.rowE has a P.nodesV) 120 (List.range n) fun a _ => Nat.le_trans (rowE_len P has a _) hN
  rw [List.length_range] at h1
  unfold PP.refE
  have : n * 120 ≤ 120 * 120 := Nat.mul_le_mul_right _ (by omega)
  omega
theorem any_take_succ {α : Type} {l : List α} {k : Nat} {x : α} (h : l[k]? = some x) (g : α → Bool) : (l.take (k + 1)).any g = ((l.take k).any g || g x) := by
  rw [List.take_add_one, h, List.any_append]
  simp
set_option maxRecDepth 100000 in
set_option maxHeartbeats 6400000 in
theorem redgesof_any (a1 a2 a3 : Option Addr) (c1 c2 c3 : Nat) (P : PP) (hv : Value) (has : List (List Int)) (w : World) (n0 : Nat) (h : ProgR w n0 (.slice a1 P.vars.length c1) (.slice a2 P.funs.length c2) (.slice a3 P.stmts.length c3) P) (hw : P.Well) (hh : SetsR w n0 hv has) (hl : has.length = P.nodesV) (hn0 : n0 ≤ w.heap.size) :
    Calls Tryz.prog 33 #[pval a1 a2 a3 c1 c2 c3 P, hv] w fun e w' => ∃ v, e = .returned v ∧ RERow w.heap.size w' v (P.refE has P.nodesV) ∧ Ext w w' := by
  obtain ⟨ah, ch, rfl⟩ := hh.form
  have Hw := hid hw
  have Hlen := hid hl
  obtain ⟨hf1, hf2, hf3⟩ := hw.few
  have hN6 := nodesV_le P hw
  obtain ⟨W, hW⟩ : ∃ W, W = w.alloc (.cells (pcells a1 a2 a3 c1 c2 c3 P) 26) := ⟨_, rfl⟩
  have HX : Hid (Ext w W) := hid (by rw [hW]; exact (Ext.refl _).alloc _)
  have HBx : Hid (Blk W w.heap.size (pcells a1 a2 a3 c1 c2 c3 P) 26) := hid (by rw [hW]; exact Blk.new _ _ _)
  have HWe : Hid (W = w.alloc (.cells #[.slice a1 P.vars.length c1, .slice a2 P.funs.length c2, .slice a3 P.stmts.length c3] 26)) := hid (by rw [hW]; rfl)
  have HNo := hid (rnodesof_any a1 a2 a3 c1 c2 c3 P W n0 (h.ext HX.out) (by omega) (by omega))
  have HRu := fun k (hk : k < P.stmts.length) w1 (x : Ext w w1) => hid (rruleof_any a1 a2 a3 c1 c2 c3 P k _ (stAt_some hk) w1 n0 (h.ext x) hw)
  have HIs := fun r av w1 (p q : Int) (x : Ext w w1) (ha : IntsR w1 n0 av r.args) (hr : REdge has.length r) => hid (risedge_any a1 a2 a3 c1 c2 c3 P r av (.slice ah has.length ch) has p q w1 n0 (h.ext x) (by omega) (by omega) (by omega) ha (hh.ext x) hr)
  obtain ⟨N, hN⟩ : ∃ N, N = P.nodesV := ⟨_, rfl⟩
  rw [← hN] at HNo hN6 hl
  have HN := hid hN
  have d0 := HBx.out.av 0 rfl
  have d1 := HBx.out.av 1 rfl
  have d2 := HBx.out.av 2 rfl
  simp only [pcells, qA0, qA1, qA2] at d0 d1 d2
  rw [HWe.out] at d0 d1 d2
  unfold pval at HNo HRu HIs ⊢
  have Hn0 := hid (Nat.le_trans hn0 HX.out.size)
  clear h hw hh hW hN hl hn0
  go_enter Tryz.func33, Tryz.ntmps33
  go_wp2_with fail
  rw [← HWe.out]
  refine HNo.out.mono ?_
  intro e w1 hx
  obtain ⟨rfl, hx1⟩ := hx
  have Hx1 := hid hx1
  clear HNo hx1 d0 d1 d2
  have d2 := (HBx.out.ext Hx1.out).av 2 rfl
  simp only [pcells, qA0, qA1, qA2] at d2
  go_wp2
  go_loopw [6, 7] (fun t6 t7 wr => ∃ (k : Nat) (rs : List R2), t7 = .int .i64 (k : Int) ∧ k ≤ P.stmts.length ∧ rs.map R2.r = P.rulesRUp k ∧ wr.ownsRow W.heap.size 126 5 t6 rs.length (rs.flatMap R2.cells) ∧ (∀ x ∈ rs, IntsR wr n0 x.v x.r.args) ∧ Ext W wr) (fun _ t7 _ => P.stmts.length - (intOf t7).toNat)
  case atStart => exact ⟨0, [], rfl, Nat.zero_le _, rfl, World.ownsRow_nil _ _ _ _, (fun x h => by cases h), Hx1.out⟩
  case round =>
    obtain ⟨k, rs, rfl, hk, he, hr, ha, hx⟩ := hrel
    obtain ⟨a6, c6, rfl⟩ := row_form hr
    have hrl : rs.length ≤ k := by
      have h1 := congrArg List.length he
      rw [List.length_map] at h1
      rw [h1]
      exact rulesRUp_len P k
    have He := hid he
    have Hr := hid hr
    have Ha := hid ha
    have Hx := hid hx
    clear he hr ha hx d2
    have d0 := (HBx.out.ext Hx.out).av 0 rfl
    have d1 := (HBx.out.ext Hx.out).av 1 rfl
    have d2 := (HBx.out.ext Hx.out).av 2 rfl
    simp only [pcells, qA0, qA1, qA2] at d0 d1 d2
    by_cases hlt : k < P.stmts.length
    · have HC := HRu k hlt wr (HX.out.trans Hx.out)
      have Hsu := hid (rulesRUp_succ P k)
      obtain ⟨r, hr⟩ : ∃ r, r = P.ruleR k (P.stAt k) := ⟨_, rfl⟩
      rw [← hr] at HC Hsu
      clear HRu HIs hr
      go_wp2_with fail
      refine HC.out.mono ?_
      intro e w2 hx
      obtain ⟨av, rfl, hI, hx2⟩ := hx
      obtain ⟨aa, ca, hav, _⟩ := id hI
      subst hav
      unfold RV.val
      have HI := hid hI
      obtain ⟨V, hV⟩ : ∃ V, V = w2.alloc (.cells #[.string r.kind, .int .i64 r.a, .int .i64 r.b, .int .i64 r.k, .slice aa r.args.length ca] 126) := ⟨_, rfl⟩
      have hxV : Ext w2 V := by rw [hV]; exact (Ext.refl _).alloc _
      have HBr : Hid (Blk V w2.heap.size #[.string r.kind, .int .i64 r.a, .int .i64 r.b, .int .i64 r.k, .slice aa r.args.length ca] 126) := hid (by rw [hV]; exact Blk.new _ _ _)
      have HVe := hid hV
      have HVx := hid hxV
      have HxV := hid (Hx.out.trans (hx2.trans hxV))
      have HrV := hid (own_ext Hr.out (hx2.trans hxV))
      have HwV := hid (hx2.trans hxV)
      clear HC hI hx2 hxV hV d0 d1 d2
      cases hkb : (r.kind.toList == [98, 97, 115, 101]) with
      | true =>
        have Hn : Hid (P.rulesRUp (k + 1) = P.rulesRUp k) := hid (by rw [Hsu.out, eq_of_beq bBase_list, if_pos hkb, List.append_nil])
        have hkb' : (r.kind.toList != [98, 97, 115, 101]) = false := by rw [bne, hkb]; rfl
        clear Hsu
        go_wp2
        rw [← HVe.out]
        go_roundw
        case rel => exact ⟨k + 1, rs, by go_num, by omega, He.out.trans Hn.out.symm, HrV.out, fun x hx => (Ha.out x hx).old (HwV.out.old _), HxV.out⟩
        case measure => simp [intOf]; omega
      | false =>
        have Hn : Hid (P.rulesRUp (k + 1) = P.rulesRUp k ++ [r]) := hid (by rw [Hsu.out, eq_of_beq bBase_list, hkb]; rfl)
        have hkb' : (r.kind.toList != [98, 97, 115, 101]) = true := by rw [bne, hkb]; rfl
        obtain ⟨U, hU⟩ : ∃ U, U = V.alloc (.cells #[.string r.kind, .int .i64 r.a, .int .i64 r.b, .int .i64 r.k, .slice aa r.args.length ca] 126) := ⟨_, rfl⟩
        have HUx : Hid (Ext W U) := hid (by rw [hU]; exact HxV.out.alloc _)
        have HVU : Hid (Ext V U) := hid (by rw [hU]; exact (Ext.refl _).alloc _)
        have HUr : Hid (U.ownsRow W.heap.size 126 5 (.slice a6 rs.length c6) rs.length (rs.flatMap R2.cells)) := hid (by rw [hU]; exact own_ext HrV.out ((Ext.refl _).alloc _))
        have HUb : Hid (Blk U V.heap.size #[.string r.kind, .int .i64 r.a, .int .i64 r.b, .int .i64 r.k, .slice aa r.args.length ca] 126) := hid (by rw [hU]; exact Blk.new _ _ _)
        have HUe : Hid (U = (w2.alloc (.cells #[.string r.kind, .int .i64 r.a, .int .i64 r.b, .int .i64 r.k, .slice aa r.args.length ca] 126)).alloc (.cells #[.string r.kind, .int .i64 r.a, .int .i64 r.b, .int .i64 r.k, .slice aa r.args.length ca] 126)) := hid (by rw [hU, HVe.out])
        have HVs : Hid (V.heap.size = w2.heap.size + 1) := hid (by rw [HVe.out, heap_size_alloc])
        rw [HVs.out] at HUb
        clear Hsu hU
        go_wp2_with (at_builtin; rw [← HUe.out]; refine wpList_append_el W.heap.size HUx.out.size 125 126 (.agg #[.string ⟨#[]⟩, .int .i64 0, .int .i64 0, .int .i64 0, .slice none 0 0]) 5 64 Tryz.underlying125 rrule_info rfl (by omega) (by omega) rfl _ _ rfl (.slice a6 rs.length c6) rs.length (rs.flatMap R2.cells) rfl HUr.out (w2.heap.size + 1) [.string r.kind, .int .i64 r.a, .int .i64 r.b, .int .i64 r.k, .slice aa r.args.length ca] rfl (by simp [Value.oneCell']) rfl HUb.out (by omega) ?_; intro v' w' h1 h2 h4; obtain ⟨a', c', rfl⟩ := row_form h1; have h3 := hid (Keep.new HUx.out h2 (fun b e => (World.ownsRow.lt HUr.out b e).1)); have hold := hid (show Old n0 U w' from h2.mono fun b _ e => Nat.le_trans Hn0.out (World.ownsRow.lt HUr.out b e).1); have h1 := hid h1; clear h2 h4)
        go_roundw
        case rel =>
          refine ⟨k + 1, rs ++ [⟨r, .slice aa r.args.length ca⟩], by go_num, by omega, ?_, ?_, ?_, h3.out⟩
          · rw [List.map_append, He.out, Hn.out]; rfl
          · rw [List.length_append, List.flatMap_append]; simpa [R2.cells] using h1.out
          · intro x hx
            rcases List.mem_append.1 hx with hx | hx
            · exact ((Ha.out x hx).old ((HwV.out.trans HVU.out).old _)).old hold.out
            · obtain rfl := List.mem_singleton.1 hx
              exact (HI.out.old ((HwV.out.trans HVU.out).old _)).old hold.out
        case measure => simp [intOf]; omega
    · obtain rfl : k = P.stmts.length := by omega
      obtain ⟨V, hV⟩ : ∃ V, V = wr := ⟨_, rfl⟩
      subst hV
      have HEd := hid (rulesRUp_edge Hw.out (Nat.le_refl _))
      rw [← He.out] at HEd
      clear HRu hlt hk
      go_wp2
      clear d0 d1 d2
      go_loopw [9, 10] (fun t9 t10 wq => ∃ (a : Nat) (L : List (Int × Int)), t10 = .int .i64 (a : Int) ∧ a ≤ N ∧ L = P.refE has a ∧ wq.ownsRow V.heap.size 111 2 t9 L.length (L.flatMap eCells) ∧ Ext V wq) (fun _ t10 _ => N - (intOf t10).toNat)
      case atStart => exact ⟨0, [], rfl, Nat.zero_le _, rfl, World.ownsRow_nil _ _ _ _, Ext.refl _⟩
      case round =>
        obtain ⟨a, L, rfl, ha, hL, hr, hx⟩ := hrel
        obtain ⟨a9, c9, rfl⟩ := row_form hr
        have HL := hid hL
        have Hr9 := hid hr
        have Hx9 := hid hx
        clear hL hr hx
        by_cases haN : a < N
        · go_wp2
          go_loopw [9, 11] (fun t9 t11 wq => ∃ (b : Nat) (M : List (Int × Int)), t11 = .int .i64 (b : Int) ∧ b ≤ N ∧ M = L ++ P.rowE has a b ∧ wq.ownsRow V.heap.size 111 2 t9 M.length (M.flatMap eCells) ∧ Ext V wq) (fun _ t11 _ => N - (intOf t11).toNat)
          case atStart => exact ⟨0, L, rfl, Nat.zero_le _, by simp [PP.rowE], Hr9.out, Hx9.out⟩
          case round =>
            obtain ⟨b, M, rfl, hb, hM, hr, hx⟩ := hrel
            obtain ⟨a9', c9', rfl⟩ := row_form hr
            have hML : M.length ≤ 20000 := by
              rw [hM, List.length_append, HL.out]
              have h1 := refE_len Hw.out has (n := a) (by rw [← HN.out]; omega)
              have h2 := rowE_len P has a b
              omega
            have HM := hid hM
            have HrM := hid hr
            have HxM := hid hx
            clear hM hr hx Hr9 Hx9
            by_cases hbN : b < N
            · go_wp2
              go_loopw [12, 13] (fun t12 t13 wq => ∃ (k : Nat) (d : Bool), t13 = .int .i64 (k : Int) ∧ t12 = .bool d ∧ k ≤ rs.length ∧ d = ((rs.map R2.r).take k).any (fun r => P.isE r has a b) ∧ (a = b → k = 0) ∧ Ext V wq ∧ wq.ownsRow V.heap.size 111 2 (.slice a9' M.length c9') M.length (M.flatMap eCells)) (fun _ t13 _ => rs.length - (intOf t13).toNat)
              case atStart => exact ⟨0, false, rfl, rfl, Nat.zero_le _, by simp, fun _ => rfl, HxM.out, HrM.out⟩
              case round =>
                clear HrM HxM
                obtain ⟨k, d, rfl, rfl, hk, hd, hab, hx, hrM⟩ := hrel
                have Hd := hid hd
                have Hab := hid hab
                have HxK := hid hx
                have HrM := hid hrM
                have Hedge : Hid (P.edgeB has a b = (decide ((a : Int) ≠ (b : Int)) && (rs.map R2.r).any (fun r => P.isE r has a b))) := hid (by
                  unfold PP.edgeB
                  rw [He.out, any_rules Hw.out])
                clear hd hab hx hrM
                by_cases hkl : k < rs.length
                · cases d with
                  | true =>
                    have He2 : Hid (P.edgeB has a b = true) := hid (by
                      have hne : a ≠ b := fun e => by
                        have h0 := Hab.out e
                        have h1 := Hd.out
                        rw [h0] at h1
                        simp at h1
                      rw [Hedge.out, decide_eq_true (show (a : Int) ≠ (b : Int) from fun e => hne (by omega)), Bool.true_and, List.any_eq_true]
                      obtain ⟨r, hr1, hr2⟩ := List.any_eq_true.1 Hd.out.symm
                      exact ⟨r, List.mem_of_mem_take hr1, hr2⟩)
                    have Hrow : Hid (P.rowE has a (b + 1) = P.rowE has a b ++ [((a : Int), (b : Int))]) := hid (by rw [rowE_succ, He2.out]; rfl)
                    have HUx : Hid (Ext V (wr.alloc (.cells #[.int .i64 (a : Int), .int .i64 (b : Int)] 111))) := hid (HxK.out.alloc _)
                    have HUr : Hid ((wr.alloc (.cells #[.int .i64 (a : Int), .int .i64 (b : Int)] 111)).ownsRow V.heap.size 111 2 (.slice a9' M.length c9') M.length (M.flatMap eCells)) := hid (own_ext HrM.out ((Ext.refl _).alloc _))
                    go_wp2_with (at_builtin; refine wpList_append_el V.heap.size HUx.out.size 61 111 (.agg #[.int .i64 0, .int .i64 0]) 2 16 Tryz.underlying61 redge_info rfl (by omega) (by omega) rfl _ _ rfl (.slice a9' M.length c9') M.length (M.flatMap eCells) rfl HUr.out wr.heap.size [.int .i64 (a : Int), .int .i64 (b : Int)] rfl (by simp [Value.oneCell']) rfl (Blk.new _ _ _) (by omega) ?_; intro v' w' h1 h2 h4; obtain ⟨a', c', rfl⟩ := row_form h1; have h3 := hid (Keep.new HUx.out h2 (fun b e => (World.ownsRow.lt HUr.out b e).1)); have h1 := hid h1; clear h2 h4)
                    go_roundw
                    case rel => exact ⟨b + 1, M ++ [((a : Int), (b : Int))], by go_num, by omega, by rw [HM.out, Hrow.out, List.append_assoc], by rw [List.length_append, List.flatMap_append]; simpa [eCells] using h1.out, h3.out⟩
                    case measure => simp [intOf]; omega
                  | false =>
                    by_cases hab2 : a = b
                    · have He2 : Hid (P.edgeB has a b = false) := hid (by rw [Hedge.out, decide_eq_false (fun h => h (by rw [hab2])), Bool.false_and])
                      have hab3 : ((a : Int) != (b : Int)) = false := by rw [hab2]; simp
                      clear hab2
                      have Hrow : Hid (P.rowE has a (b + 1) = P.rowE has a b) := hid (by rw [rowE_succ, He2.out]; simp)
                      go_wp2
                      go_roundw
                      case rel => exact ⟨b + 1, M, by go_num, by omega, by rw [HM.out, Hrow.out], HrM.out, HxK.out⟩
                      case measure => simp [intOf]; omega
                    · have hab3 : ((a : Int) != (b : Int)) = true := bne_iff_ne.2 (fun h => hab2 (by omega))
                      obtain ⟨g6, cp, hge⟩ := own_some Hr.out (by omega)
                      simp only [Value.slice.injEq] at hge
                      obtain ⟨rfl, -, rfl⟩ := hge
                      obtain ⟨x, hxk⟩ : ∃ x, rs[k]? = some x := ⟨_, List.getElem?_eq_getElem hkl⟩
                      obtain ⟨q0, q1, q2, q3, q4⟩ := own_rr (own_ext Hr.out HxK.out) hxk
                      have hI := Ha.out x (List.mem_of_getElem? hxk)
                      have hE := HEd.out x.r (List.mem_map.2 ⟨x, List.mem_of_getElem? hxk, rfl⟩)
                      obtain ⟨aa, ca, hav, _⟩ := id hI
                      have hmk : (rs.map R2.r)[k]? = some x.r := by rw [List.getElem?_map, hxk]; rfl
                      obtain ⟨r, xv⟩ := x
                      simp only at hav hI hE q0 q1 q2 q3 q4 hmk
                      subst hav
                      have HC := fun w1 (y : Ext wr w1) => HIs r (.slice aa r.args.length ca) w1 (a : Int) (b : Int) (HX.out.trans (Hx.out.trans (HxK.out.trans y))) (hI.old ((HxK.out.trans y).old _)) (by rw [Hlen.out]; exact hE)
                      have Hn : Hid (((rs.map R2.r).take (k + 1)).any (fun r => P.isE r has a b) = P.isE r has a b) := hid (by rw [any_take_succ hmk, ← Hd.out, Bool.false_or])
                      obtain ⟨e, he⟩ : ∃ e, e = P.isE r has a b := ⟨_, rfl⟩
                      rw [← he] at HC Hn
                      unfold RV.val at HC
                      have j0 : ∀ w1, Keep (fun _ => False) wr w1 → w1.cell? ⟨g6, k * 5, none⟩ = some (.string r.kind) := fun w1 k => k.ext.cellx q0
                      have j1 : ∀ w1, Keep (fun _ => False) wr w1 → w1.cell? ⟨g6, k * 5 + 1, none⟩ = some (.int .i64 r.a) := fun w1 k => k.ext.cellx q1
                      have j2 : ∀ w1, Keep (fun _ => False) wr w1 → w1.cell? ⟨g6, k * 5 + 2, none⟩ = some (.int .i64 r.b) := fun w1 k => k.ext.cellx q2
                      have j3 : ∀ w1, Keep (fun _ => False) wr w1 → w1.cell? ⟨g6, k * 5 + 3, none⟩ = some (.int .i64 r.k) := fun w1 k => k.ext.cellx q3
                      have j4 : ∀ w1, Keep (fun _ => False) wr w1 → w1.cell? ⟨g6, k * 5 + 4, none⟩ = some (.slice aa r.args.length ca) := fun w1 k => k.ext.cellx q4
                      have d0 := (HBx.out.ext (Hx.out.trans HxK.out)).kc (X := fun _ => False) (fun e => e) 0 rfl
                      have d1 := (HBx.out.ext (Hx.out.trans HxK.out)).kc (X := fun _ => False) (fun e => e) 1 rfl
                      have d2 := (HBx.out.ext (Hx.out.trans HxK.out)).kc (X := fun _ => False) (fun e => e) 2 rfl
                      simp only [pcells, qA0, qA1, qA2] at d0 d1 d2
                      have Hne := hid hab2
                      clear HIs hxk q0 q1 q2 q3 q4 hI hE hmk he hab2
                      go_wp2
                      refine wp_flowT (fun _ => False) (by kernel_rfl) (by kernel_rfl) ?_
                      repeat (apply FlowT.d; (intro w1 hk; unfold does; go_simp; (try go_ints); (first | exact DetR.mk | (simp only [↓IntWalk.iteOmega, Oper.doesUpon_value]; exact DetR.mk) | (simp only [↓IntWalk.iteOmega]; go_simp; (try go_ints); exact DetR.mk))); simp only [Act.put, qS0, qS1, qS2])
                      apply FlowT.d
                      · intro w1 hk
                        unfold does
                        go_simp
                        exact CallR.det ((HC w1 hk.ext).out)
                      simp only [Act.put, qS0, qS1, qS2]
                      repeat (apply FlowT.d; (intro w1 hk; unfold does; go_simp; (try go_ints); (first | exact DetR.mk | (simp only [↓IntWalk.iteOmega, Oper.doesUpon_value]; exact DetR.mk) | (simp only [↓IntWalk.iteOmega]; go_simp; (try go_ints); exact DetR.mk))); simp only [Act.put, qS0, qS1, qS2])
                      refine FlowT.fin fun w5 hx5 hk5 => ?_
                      have Hx5 := hid (HxK.out.trans hx5)
                      have HrM5 := hid (own_ext HrM.out hx5)
                      clear hx5 hk5 j0 j1 j2 j3 j4 d0 d1 d2 HC
                      go_wp2
                      go_roundw
                      case rel => exact ⟨k + 1, e, by go_num, rfl, by omega, Hn.out.symm, fun h => absurd h Hne.out, Hx5.out, HrM5.out⟩
                      case measure => simp [intOf]; omega
                · obtain rfl : k = rs.length := by omega
                  have Hfull : Hid (d = (rs.map R2.r).any (fun r => P.isE r has a b)) := hid (by rw [Hd.out, List.take_of_length_le (by rw [List.length_map]; exact Nat.le_refl _)])
                  have He2 : Hid (P.edgeB has a b = d) := hid (by
                    rw [Hedge.out, ← Hfull.out]
                    by_cases hab2 : a = b
                    · have h0 := Hab.out hab2
                      have h1 := Hd.out
                      rw [h0] at h1
                      rw [h1]; simp
                    · rw [decide_eq_true (show (a : Int) ≠ (b : Int) from fun e => hab2 (by omega)), Bool.true_and])
                  clear hkl
                  cases d with
                  | true =>
                    have Hrow : Hid (P.rowE has a (b + 1) = P.rowE has a b ++ [((a : Int), (b : Int))]) := hid (by rw [rowE_succ, He2.out]; rfl)
                    have HUx : Hid (Ext V (wr.alloc (.cells #[.int .i64 (a : Int), .int .i64 (b : Int)] 111))) := hid (HxK.out.alloc _)
                    have HUr : Hid ((wr.alloc (.cells #[.int .i64 (a : Int), .int .i64 (b : Int)] 111)).ownsRow V.heap.size 111 2 (.slice a9' M.length c9') M.length (M.flatMap eCells)) := hid (own_ext HrM.out ((Ext.refl _).alloc _))
                    go_wp2_with (at_builtin; refine wpList_append_el V.heap.size HUx.out.size 61 111 (.agg #[.int .i64 0, .int .i64 0]) 2 16 Tryz.underlying61 redge_info rfl (by omega) (by omega) rfl _ _ rfl (.slice a9' M.length c9') M.length (M.flatMap eCells) rfl HUr.out wr.heap.size [.int .i64 (a : Int), .int .i64 (b : Int)] rfl (by simp [Value.oneCell']) rfl (Blk.new _ _ _) (by omega) ?_; intro v' w' h1 h2 h4; obtain ⟨a', c', rfl⟩ := row_form h1; have h3 := hid (Keep.new HUx.out h2 (fun b e => (World.ownsRow.lt HUr.out b e).1)); have h1 := hid h1; clear h2 h4)
                    go_roundw
                    case rel => exact ⟨b + 1, M ++ [((a : Int), (b : Int))], by go_num, by omega, by rw [HM.out, Hrow.out, List.append_assoc], by rw [List.length_append, List.flatMap_append]; simpa [eCells] using h1.out, h3.out⟩
                    case measure => simp [intOf]; omega
                  | false =>
                    have Hrow : Hid (P.rowE has a (b + 1) = P.rowE has a b) := hid (by rw [rowE_succ, He2.out]; simp)
                    go_wp2
                    go_roundw
                    case rel => exact ⟨b + 1, M, by go_num, by omega, by rw [HM.out, Hrow.out], HrM.out, HxK.out⟩
                    case measure => simp [intOf]; omega
            · obtain rfl : b = N := by omega
              have Hn : Hid (M = P.refE has (a + 1)) := hid (by rw [HM.out, HL.out, refE_succ, HN.out])
              go_wp2
              go_roundw
              case rel => exact ⟨a + 1, M, by go_num, by omega, Hn.out, HrM.out, HxM.out⟩
              case measure => simp [intOf]; omega
        · obtain rfl : a = N := by omega
          have Hn : Hid (P.refE has P.nodesV = L) := hid (by rw [HL.out, HN.out])
          go_wp2
          go_ret
          exact ⟨_, rfl, by unfold RERow; rw [Hn.out]; exact own_low Hr9.out (HX.out.trans Hx.out).size, HX.out.trans (Hx.out.trans Hx9.out)⟩
end Go.Proofs.YtihdpijgngooaaaGreatDoor
