/- Texts of one proof, put together: V3q. -/
import Derived.Test.YtbagppdibncfdaaGreatDoorHHN08
import Derived.Test.YtbagppdibncfdaaGreatDoorHHN01
set_option linter.unusedSimpArgs false
set_option linter.unusedVariables false
namespace Go.Proofs.YtbagppdibncfdaaGreatDoor
open Go Go.RowKit
set_option maxRecDepth 100000 in
set_option maxHeartbeats 12800000 in
theorem large_q (a1 a2 a3 : Option Addr) (c1 c2 c3 : Nat) (q : Nat) (hq80 : q ≤ 80) (P : PP) (w : World) (n0 : Nat) (h : ProgR w n0 (.slice a1 P.vars.length c1) (.slice a2 P.funs.length c2) (.slice a3 P.stmts.length c3) P) :
    Calls Tryz.prog 8 #[pval a1 a2 a3 c1 c2 c3 P, .int .i64 (q : Int)] w fun e w' => ∃ r : Int, e = .returned (.int .i64 r) ∧ (0 ≤ r ∧ r ≤ 1) ∧ (r = 0 → P.Small ∧ (P.stmts.length ≤ q ∨ P.stmts.length = 81) ∧ (P.vars.length ≤ 15 ∨ P.vars.length = 41)) ∧ Ext w w' := by
  have hl1 := h.vars.len
  have hl2 := h.funs.len
  have hl3 := h.stmts.len
  obtain ⟨W, hW⟩ : ∃ W, W = w.alloc (.cells (pcells a1 a2 a3 c1 c2 c3 P) 26) := ⟨_, rfl⟩
  have HX : Hid (Ext w W) := hid (by rw [hW]; exact (Ext.refl _).alloc _)
  have hB : Blk W w.heap.size (pcells a1 a2 a3 c1 c2 c3 P) 26 := by rw [hW]; exact Blk.new _ _ _
  have HP := hid (h.ext HX.out)
  have d0 := hB.av 0 rfl
  have d1 := hB.av 1 rfl
  have d2 := hB.av 2 rfl
  simp only [pcells, qA0, qA1, qA2] at d0 d1 d2
  unfold pcells at hW
  have HWe := hid hW
  unfold pval
  clear hW hB h
  go_enter Tryz.func8, Tryz.ntmps8
  by_cases b1 : 15 < P.vars.length
  · by_cases b2 : (P.vars.length : Int) = 41
    · have Hv8 : Hid (P.vars.length ≤ 15 ∨ P.vars.length = 41) := hid (.inr (by omega))
      by_cases b3 : 8 < P.funs.length
      · go_wp2
        go_ret
        exact ⟨1, rfl, by omega, (fun h => absurd h (by decide)), (Ext.refl w).alloc _⟩
      · by_cases b4 : q < P.stmts.length
        · by_cases b5 : (P.stmts.length : Int) = 81
          · have Hq8 : Hid (P.stmts.length ≤ q ∨ P.stmts.length = 81) := hid (.inr (by omega))
            have Hb := hid (show P.vars.length ≤ 41 ∧ P.funs.length ≤ 8 ∧ P.stmts.length ≤ 81 from ⟨by omega, by omega, by omega⟩)
            go_wp2
            rw [← HWe.out]
            clear b1 b3 b4
            clear b5
            clear b2
            go_loop [5] (fun t5 => ∃ k : Nat, t5 = .int .i64 (k : Int) ∧ k ≤ P.vars.length ∧ ∀ j s, j < k → P.vars[j]? = some s → s.size ≤ 20) (fun t5 => P.vars.length - (intOf t5).toNat)
            case atStart => exact ⟨0, rfl, Nat.zero_le _, fun j s h => by omega⟩
            case round =>
              obtain ⟨k, rfl, hk, hp⟩ := hrel
              have Hp := hid hp
              clear hp
              by_cases hlt : k < P.vars.length
              · obtain ⟨y, q, rfl, hq, hc⟩ := HP.out.vars.at hlt
                have Hq := hid hq
                clear hq
                by_cases hz : 20 < q.size
                · go_wp2
                  go_ret
                  exact ⟨1, rfl, by omega, (fun h => absurd h (by decide)), HX.out⟩
                · have hz2 : q.size ≤ 20 := by omega
                  go_wp2
                  refine ⟨⟨k + 1, by go_num, by omega, fun j s hj hs => ?_⟩, by simp [intOf]; omega⟩
                  by_cases hjk : j = k
                  · subst hjk
                    obtain rfl := Option.some.inj (Hq.out.symm.trans hs)
                    exact hz2
                  · exact Hp.out j s (by omega) hs
              · obtain rfl : k = P.vars.length := by omega
                have Hv := hid (show ∀ s ∈ P.vars, s.size ≤ 20 from fun s hs => by
                  obtain ⟨j, hj, e⟩ := List.mem_iff_getElem.1 hs
                  exact Hp.out j s hj (by rw [List.getElem?_eq_getElem hj, e]))
                clear Hp
                go_wp2
                go_loop [6] (fun t6 => ∃ k : Nat, t6 = .int .i64 (k : Int) ∧ k ≤ P.funs.length ∧ ∀ j f, j < k → P.funs[j]? = some f → f.name.size ≤ 20 ∧ f.params.length ≤ 8) (fun t6 => P.funs.length - (intOf t6).toNat)
                case atStart => exact ⟨0, rfl, Nat.zero_le _, fun j s h => by omega⟩
                case round =>
                  obtain ⟨k, rfl, hk, hp⟩ := hrel
                  have Hp := hid hp
                  clear hp
                  by_cases hlt : k < P.funs.length
                  · obtain ⟨y, f, av, cv, rfl, hq, e0, e1, e2, _⟩ := HP.out.funs.at hlt
                    have Hq := hid hq
                    clear hq
                    by_cases hz : 20 < f.name.size
                    · go_wp2
                      go_ret
                      exact ⟨1, rfl, by omega, (fun h => absurd h (by decide)), HX.out⟩
                    · by_cases hz3 : 8 < f.params.length
                      · go_wp2
                        go_ret
                        exact ⟨1, rfl, by omega, (fun h => absurd h (by decide)), HX.out⟩
                      · have hz2 : f.name.size ≤ 20 ∧ f.params.length ≤ 8 := ⟨by omega, by omega⟩
                        have Hz2 := hid hz2
                        clear hz2
                        go_wp2
                        refine ⟨⟨k + 1, by go_num, by omega, fun j s hj hs => ?_⟩, by simp [intOf]; omega⟩
                        by_cases hjk : j = k
                        · subst hjk
                          obtain rfl := Option.some.inj (Hq.out.symm.trans hs)
                          exact Hz2.out
                        · exact Hp.out j s (by omega) hs
                  · obtain rfl : k = P.funs.length := by omega
                    have Hf := hid (show ∀ f ∈ P.funs, f.name.size ≤ 20 ∧ f.params.length ≤ 8 from fun s hs => by
                      obtain ⟨j, hj, e⟩ := List.mem_iff_getElem.1 hs
                      exact Hp.out j s hj (by rw [List.getElem?_eq_getElem hj, e]))
                    clear Hp
                    go_wp2
                    go_loop [7] (fun t7 => ∃ k : Nat, t7 = .int .i64 (k : Int) ∧ k ≤ P.stmts.length ∧ ∀ j s, j < k → P.stmts[j]? = some s → s.kind.size ≤ 20 ∧ s.args.length ≤ 8) (fun t7 => P.stmts.length - (intOf t7).toNat)
                    case atStart => exact ⟨0, rfl, Nat.zero_le _, fun j s h => by omega⟩
                    case round =>
                      obtain ⟨k, rfl, hk, hp⟩ := hrel
                      have Hp := hid hp
                      clear hp
                      by_cases hlt : k < P.stmts.length
                      · obtain ⟨y, s, av, cv, rfl, hq, e0, e1, e2, e3, _⟩ := HP.out.stmts.at hlt
                        have Hq := hid hq
                        clear hq
                        by_cases hz : 20 < s.kind.size
                        · go_wp2
                          go_ret
                          exact ⟨1, rfl, by omega, (fun h => absurd h (by decide)), HX.out⟩
                        · by_cases hz3 : 8 < s.args.length
                          · go_wp2
                            go_ret
                            exact ⟨1, rfl, by omega, (fun h => absurd h (by decide)), HX.out⟩
                          · have hz2 : s.kind.size ≤ 20 ∧ s.args.length ≤ 8 := ⟨by omega, by omega⟩
                            have Hz2 := hid hz2
                            clear hz2
                            go_wp2
                            refine ⟨⟨k + 1, by go_num, by omega, fun j s hj hs => ?_⟩, by simp [intOf]; omega⟩
                            by_cases hjk : j = k
                            · subst hjk
                              obtain rfl := Option.some.inj (Hq.out.symm.trans hs)
                              exact Hz2.out
                            · exact Hp.out j s (by omega) hs
                      · obtain rfl : k = P.stmts.length := by omega
                        have Hs := hid (show P.Small from ⟨Hb.out.1, Hb.out.2.1, Hb.out.2.2, Hv.out, Hf.out, fun s hs => by
                          obtain ⟨j, hj, e⟩ := List.mem_iff_getElem.1 hs
                          exact Hp.out j s hj (by rw [List.getElem?_eq_getElem hj, e])⟩)
                        go_wp2
                        go_ret
                        exact ⟨0, rfl, by omega, fun _ => ⟨Hs.out, Hq8.out, Hv8.out⟩, HX.out⟩
          · have b5n : ((P.stmts.length : Int) != 81) = true := bne_iff_ne.2 b5
            go_wp2
            go_ret
            exact ⟨1, rfl, by omega, (fun h => absurd h (by decide)), (Ext.refl w).alloc _⟩
        · have Hq8 : Hid (P.stmts.length ≤ q ∨ P.stmts.length = 81) := hid (.inl (by omega))
          have Hb := hid (show P.vars.length ≤ 41 ∧ P.funs.length ≤ 8 ∧ P.stmts.length ≤ 81 from ⟨by omega, by omega, by omega⟩)
          go_wp2
          rw [← HWe.out]
          clear b1 b3 b4
          clear b2
          go_loop [5] (fun t5 => ∃ k : Nat, t5 = .int .i64 (k : Int) ∧ k ≤ P.vars.length ∧ ∀ j s, j < k → P.vars[j]? = some s → s.size ≤ 20) (fun t5 => P.vars.length - (intOf t5).toNat)
          case atStart => exact ⟨0, rfl, Nat.zero_le _, fun j s h => by omega⟩
          case round =>
            obtain ⟨k, rfl, hk, hp⟩ := hrel
            have Hp := hid hp
            clear hp
            by_cases hlt : k < P.vars.length
            · obtain ⟨y, q, rfl, hq, hc⟩ := HP.out.vars.at hlt
              have Hq := hid hq
              clear hq
              by_cases hz : 20 < q.size
              · go_wp2
                go_ret
                exact ⟨1, rfl, by omega, (fun h => absurd h (by decide)), HX.out⟩
              · have hz2 : q.size ≤ 20 := by omega
                go_wp2
                refine ⟨⟨k + 1, by go_num, by omega, fun j s hj hs => ?_⟩, by simp [intOf]; omega⟩
                by_cases hjk : j = k
                · subst hjk
                  obtain rfl := Option.some.inj (Hq.out.symm.trans hs)
                  exact hz2
                · exact Hp.out j s (by omega) hs
            · obtain rfl : k = P.vars.length := by omega
              have Hv := hid (show ∀ s ∈ P.vars, s.size ≤ 20 from fun s hs => by
                obtain ⟨j, hj, e⟩ := List.mem_iff_getElem.1 hs
                exact Hp.out j s hj (by rw [List.getElem?_eq_getElem hj, e]))
              clear Hp
              go_wp2
              go_loop [6] (fun t6 => ∃ k : Nat, t6 = .int .i64 (k : Int) ∧ k ≤ P.funs.length ∧ ∀ j f, j < k → P.funs[j]? = some f → f.name.size ≤ 20 ∧ f.params.length ≤ 8) (fun t6 => P.funs.length - (intOf t6).toNat)
              case atStart => exact ⟨0, rfl, Nat.zero_le _, fun j s h => by omega⟩
              case round =>
                obtain ⟨k, rfl, hk, hp⟩ := hrel
                have Hp := hid hp
                clear hp
                by_cases hlt : k < P.funs.length
                · obtain ⟨y, f, av, cv, rfl, hq, e0, e1, e2, _⟩ := HP.out.funs.at hlt
                  have Hq := hid hq
                  clear hq
                  by_cases hz : 20 < f.name.size
                  · go_wp2
                    go_ret
                    exact ⟨1, rfl, by omega, (fun h => absurd h (by decide)), HX.out⟩
                  · by_cases hz3 : 8 < f.params.length
                    · go_wp2
                      go_ret
                      exact ⟨1, rfl, by omega, (fun h => absurd h (by decide)), HX.out⟩
                    · have hz2 : f.name.size ≤ 20 ∧ f.params.length ≤ 8 := ⟨by omega, by omega⟩
                      have Hz2 := hid hz2
                      clear hz2
                      go_wp2
                      refine ⟨⟨k + 1, by go_num, by omega, fun j s hj hs => ?_⟩, by simp [intOf]; omega⟩
                      by_cases hjk : j = k
                      · subst hjk
                        obtain rfl := Option.some.inj (Hq.out.symm.trans hs)
                        exact Hz2.out
                      · exact Hp.out j s (by omega) hs
                · obtain rfl : k = P.funs.length := by omega
                  have Hf := hid (show ∀ f ∈ P.funs, f.name.size ≤ 20 ∧ f.params.length ≤ 8 from fun s hs => by
                    obtain ⟨j, hj, e⟩ := List.mem_iff_getElem.1 hs
                    exact Hp.out j s hj (by rw [List.getElem?_eq_getElem hj, e]))
                  clear Hp
                  go_wp2
                  go_loop [7] (fun t7 => ∃ k : Nat, t7 = .int .i64 (k : Int) ∧ k ≤ P.stmts.length ∧ ∀ j s, j < k → P.stmts[j]? = some s → s.kind.size ≤ 20 ∧ s.args.length ≤ 8) (fun t7 => P.stmts.length - (intOf t7).toNat)
                  case atStart => exact ⟨0, rfl, Nat.zero_le _, fun j s h => by omega⟩
                  case round =>
                    obtain ⟨k, rfl, hk, hp⟩ := hrel
                    have Hp := hid hp
                    clear hp
                    by_cases hlt : k < P.stmts.length
                    · obtain ⟨y, s, av, cv, rfl, hq, e0, e1, e2, e3, _⟩ := HP.out.stmts.at hlt
                      have Hq := hid hq
                      clear hq
                      by_cases hz : 20 < s.kind.size
                      · go_wp2
                        go_ret
                        exact ⟨1, rfl, by omega, (fun h => absurd h (by decide)), HX.out⟩
                      · by_cases hz3 : 8 < s.args.length
                        · go_wp2
                          go_ret
                          exact ⟨1, rfl, by omega, (fun h => absurd h (by decide)), HX.out⟩
                        · have hz2 : s.kind.size ≤ 20 ∧ s.args.length ≤ 8 := ⟨by omega, by omega⟩
                          have Hz2 := hid hz2
                          clear hz2
                          go_wp2
                          refine ⟨⟨k + 1, by go_num, by omega, fun j s hj hs => ?_⟩, by simp [intOf]; omega⟩
                          by_cases hjk : j = k
                          · subst hjk
                            obtain rfl := Option.some.inj (Hq.out.symm.trans hs)
                            exact Hz2.out
                          · exact Hp.out j s (by omega) hs
                    · obtain rfl : k = P.stmts.length := by omega
                      have Hs := hid (show P.Small from ⟨Hb.out.1, Hb.out.2.1, Hb.out.2.2, Hv.out, Hf.out, fun s hs => by
                        obtain ⟨j, hj, e⟩ := List.mem_iff_getElem.1 hs
                        exact Hp.out j s hj (by rw [List.getElem?_eq_getElem hj, e])⟩)
                      go_wp2
                      go_ret
                      exact ⟨0, rfl, by omega, fun _ => ⟨Hs.out, Hq8.out, Hv8.out⟩, HX.out⟩
    · go_wp2
      go_ret
      exact ⟨1, rfl, by omega, (fun h => absurd h (by decide)), (Ext.refl w).alloc _⟩
  · have Hv8 : Hid (P.vars.length ≤ 15 ∨ P.vars.length = 41) := hid (.inl (by omega))
    by_cases b3 : 8 < P.funs.length
    · go_wp2
      go_ret
      exact ⟨1, rfl, by omega, (fun h => absurd h (by decide)), (Ext.refl w).alloc _⟩
    · by_cases b4 : q < P.stmts.length
      · by_cases b5 : (P.stmts.length : Int) = 81
        · have Hq8 : Hid (P.stmts.length ≤ q ∨ P.stmts.length = 81) := hid (.inr (by omega))
          have Hb := hid (show P.vars.length ≤ 41 ∧ P.funs.length ≤ 8 ∧ P.stmts.length ≤ 81 from ⟨by omega, by omega, by omega⟩)
          go_wp2
          rw [← HWe.out]
          clear b1 b3 b4
          clear b5
          skip
          go_loop [5] (fun t5 => ∃ k : Nat, t5 = .int .i64 (k : Int) ∧ k ≤ P.vars.length ∧ ∀ j s, j < k → P.vars[j]? = some s → s.size ≤ 20) (fun t5 => P.vars.length - (intOf t5).toNat)
          case atStart => exact ⟨0, rfl, Nat.zero_le _, fun j s h => by omega⟩
          case round =>
            obtain ⟨k, rfl, hk, hp⟩ := hrel
            have Hp := hid hp
            clear hp
            by_cases hlt : k < P.vars.length
            · obtain ⟨y, q, rfl, hq, hc⟩ := HP.out.vars.at hlt
              have Hq := hid hq
              clear hq
              by_cases hz : 20 < q.size
              · go_wp2
                go_ret
                exact ⟨1, rfl, by omega, (fun h => absurd h (by decide)), HX.out⟩
              · have hz2 : q.size ≤ 20 := by omega
                go_wp2
                refine ⟨⟨k + 1, by go_num, by omega, fun j s hj hs => ?_⟩, by simp [intOf]; omega⟩
                by_cases hjk : j = k
                · subst hjk
                  obtain rfl := Option.some.inj (Hq.out.symm.trans hs)
                  exact hz2
                · exact Hp.out j s (by omega) hs
            · obtain rfl : k = P.vars.length := by omega
              have Hv := hid (show ∀ s ∈ P.vars, s.size ≤ 20 from fun s hs => by
                obtain ⟨j, hj, e⟩ := List.mem_iff_getElem.1 hs
                exact Hp.out j s hj (by rw [List.getElem?_eq_getElem hj, e]))
              clear Hp
              go_wp2
              go_loop [6] (fun t6 => ∃ k : Nat, t6 = .int .i64 (k : Int) ∧ k ≤ P.funs.length ∧ ∀ j f, j < k → P.funs[j]? = some f → f.name.size ≤ 20 ∧ f.params.length ≤ 8) (fun t6 => P.funs.length - (intOf t6).toNat)
              case atStart => exact ⟨0, rfl, Nat.zero_le _, fun j s h => by omega⟩
              case round =>
                obtain ⟨k, rfl, hk, hp⟩ := hrel
                have Hp := hid hp
                clear hp
                by_cases hlt : k < P.funs.length
                · obtain ⟨y, f, av, cv, rfl, hq, e0, e1, e2, _⟩ := HP.out.funs.at hlt
                  have Hq := hid hq
                  clear hq
                  by_cases hz : 20 < f.name.size
                  · go_wp2
                    go_ret
                    exact ⟨1, rfl, by omega, (fun h => absurd h (by decide)), HX.out⟩
                  · by_cases hz3 : 8 < f.params.length
                    · go_wp2
                      go_ret
                      exact ⟨1, rfl, by omega, (fun h => absurd h (by decide)), HX.out⟩
                    · have hz2 : f.name.size ≤ 20 ∧ f.params.length ≤ 8 := ⟨by omega, by omega⟩
                      have Hz2 := hid hz2
                      clear hz2
                      go_wp2
                      refine ⟨⟨k + 1, by go_num, by omega, fun j s hj hs => ?_⟩, by simp [intOf]; omega⟩
                      by_cases hjk : j = k
                      · subst hjk
                        obtain rfl := Option.some.inj (Hq.out.symm.trans hs)
                        exact Hz2.out
                      · exact Hp.out j s (by omega) hs
                · obtain rfl : k = P.funs.length := by omega
                  have Hf := hid (show ∀ f ∈ P.funs, f.name.size ≤ 20 ∧ f.params.length ≤ 8 from fun s hs => by
                    obtain ⟨j, hj, e⟩ := List.mem_iff_getElem.1 hs
                    exact Hp.out j s hj (by rw [List.getElem?_eq_getElem hj, e]))
                  clear Hp
                  go_wp2
                  go_loop [7] (fun t7 => ∃ k : Nat, t7 = .int .i64 (k : Int) ∧ k ≤ P.stmts.length ∧ ∀ j s, j < k → P.stmts[j]? = some s → s.kind.size ≤ 20 ∧ s.args.length ≤ 8) (fun t7 => P.stmts.length - (intOf t7).toNat)
                  case atStart => exact ⟨0, rfl, Nat.zero_le _, fun j s h => by omega⟩
                  case round =>
                    obtain ⟨k, rfl, hk, hp⟩ := hrel
                    have Hp := hid hp
                    clear hp
                    by_cases hlt : k < P.stmts.length
                    · obtain ⟨y, s, av, cv, rfl, hq, e0, e1, e2, e3, _⟩ := HP.out.stmts.at hlt
                      have Hq := hid hq
                      clear hq
                      by_cases hz : 20 < s.kind.size
                      · go_wp2
                        go_ret
                        exact ⟨1, rfl, by omega, (fun h => absurd h (by decide)), HX.out⟩
                      · by_cases hz3 : 8 < s.args.length
                        · go_wp2
                          go_ret
                          exact ⟨1, rfl, by omega, (fun h => absurd h (by decide)), HX.out⟩
                        · have hz2 : s.kind.size ≤ 20 ∧ s.args.length ≤ 8 := ⟨by omega, by omega⟩
                          have Hz2 := hid hz2
                          clear hz2
                          go_wp2
                          refine ⟨⟨k + 1, by go_num, by omega, fun j s hj hs => ?_⟩, by simp [intOf]; omega⟩
                          by_cases hjk : j = k
                          · subst hjk
                            obtain rfl := Option.some.inj (Hq.out.symm.trans hs)
                            exact Hz2.out
                          · exact Hp.out j s (by omega) hs
                    · obtain rfl : k = P.stmts.length := by omega
                      have Hs := hid (show P.Small from ⟨Hb.out.1, Hb.out.2.1, Hb.out.2.2, Hv.out, Hf.out, fun s hs => by
                        obtain ⟨j, hj, e⟩ := List.mem_iff_getElem.1 hs
                        exact Hp.out j s hj (by rw [List.getElem?_eq_getElem hj, e])⟩)
                      go_wp2
                      go_ret
                      exact ⟨0, rfl, by omega, fun _ => ⟨Hs.out, Hq8.out, Hv8.out⟩, HX.out⟩
        · have b5n : ((P.stmts.length : Int) != 81) = true := bne_iff_ne.2 b5
          go_wp2
          go_ret
          exact ⟨1, rfl, by omega, (fun h => absurd h (by decide)), (Ext.refl w).alloc _⟩
      · have Hq8 : Hid (P.stmts.length ≤ q ∨ P.stmts.length = 81) := hid (.inl (by omega))
        have Hb := hid (show P.vars.length ≤ 41 ∧ P.funs.length ≤ 8 ∧ P.stmts.length ≤ 81 from ⟨by omega, by omega, by omega⟩)
        go_wp2
        rw [← HWe.out]
        clear b1 b3 b4
        skip
        go_loop [5] (fun t5 => ∃ k : Nat, t5 = .int .i64 (k : Int) ∧ k ≤ P.vars.length ∧ ∀ j s, j < k → P.vars[j]? = some s → s.size ≤ 20) (fun t5 => P.vars.length - (intOf t5).toNat)
        case atStart => exact ⟨0, rfl, Nat.zero_le _, fun j s h => by omega⟩
        case round =>
          obtain ⟨k, rfl, hk, hp⟩ := hrel
          have Hp := hid hp
          clear hp
          by_cases hlt : k < P.vars.length
          · obtain ⟨y, q, rfl, hq, hc⟩ := HP.out.vars.at hlt
            have Hq := hid hq
            clear hq
            by_cases hz : 20 < q.size
            · go_wp2
              go_ret
              exact ⟨1, rfl, by omega, (fun h => absurd h (by decide)), HX.out⟩
            · have hz2 : q.size ≤ 20 := by omega
              go_wp2
              refine ⟨⟨k + 1, by go_num, by omega, fun j s hj hs => ?_⟩, by simp [intOf]; omega⟩
              by_cases hjk : j = k
              · subst hjk
                obtain rfl := Option.some.inj (Hq.out.symm.trans hs)
                exact hz2
              · exact Hp.out j s (by omega) hs
          · obtain rfl : k = P.vars.length := by omega
            have Hv := hid (show ∀ s ∈ P.vars, s.size ≤ 20 from fun s hs => by
              obtain ⟨j, hj, e⟩ := List.mem_iff_getElem.1 hs
              exact Hp.out j s hj (by rw [List.getElem?_eq_getElem hj, e]))
            clear Hp
            go_wp2
            go_loop [6] (fun t6 => ∃ k : Nat, t6 = .int .i64 (k : Int) ∧ k ≤ P.funs.length ∧ ∀ j f, j < k → P.funs[j]? = some f → f.name.size ≤ 20 ∧ f.params.length ≤ 8) (fun t6 => P.funs.length - (intOf t6).toNat)
            case atStart => exact ⟨0, rfl, Nat.zero_le _, fun j s h => by omega⟩
            case round =>
              obtain ⟨k, rfl, hk, hp⟩ := hrel
              have Hp := hid hp
              clear hp
              by_cases hlt : k < P.funs.length
              · obtain ⟨y, f, av, cv, rfl, hq, e0, e1, e2, _⟩ := HP.out.funs.at hlt
                have Hq := hid hq
                clear hq
                by_cases hz : 20 < f.name.size
                · go_wp2
                  go_ret
                  exact ⟨1, rfl, by omega, (fun h => absurd h (by decide)), HX.out⟩
                · by_cases hz3 : 8 < f.params.length
                  · go_wp2
                    go_ret
                    exact ⟨1, rfl, by omega, (fun h => absurd h (by decide)), HX.out⟩
                  · have hz2 : f.name.size ≤ 20 ∧ f.params.length ≤ 8 := ⟨by omega, by omega⟩
                    have Hz2 := hid hz2
                    clear hz2
                    go_wp2
                    refine ⟨⟨k + 1, by go_num, by omega, fun j s hj hs => ?_⟩, by simp [intOf]; omega⟩
                    by_cases hjk : j = k
                    · subst hjk
                      obtain rfl := Option.some.inj (Hq.out.symm.trans hs)
                      exact Hz2.out
                    · exact Hp.out j s (by omega) hs
              · obtain rfl : k = P.funs.length := by omega
                have Hf := hid (show ∀ f ∈ P.funs, f.name.size ≤ 20 ∧ f.params.length ≤ 8 from fun s hs => by
                  obtain ⟨j, hj, e⟩ := List.mem_iff_getElem.1 hs
                  exact Hp.out j s hj (by rw [List.getElem?_eq_getElem hj, e]))
                clear Hp
                go_wp2
                go_loop [7] (fun t7 => ∃ k : Nat, t7 = .int .i64 (k : Int) ∧ k ≤ P.stmts.length ∧ ∀ j s, j < k → P.stmts[j]? = some s → s.kind.size ≤ 20 ∧ s.args.length ≤ 8) (fun t7 => P.stmts.length - (intOf t7).toNat)
                case atStart => exact ⟨0, rfl, Nat.zero_le _, fun j s h => by omega⟩
                case round =>
                  obtain ⟨k, rfl, hk, hp⟩ := hrel
                  have Hp := hid hp
                  clear hp
                  by_cases hlt : k < P.stmts.length
                  · obtain ⟨y, s, av, cv, rfl, hq, e0, e1, e2, e3, _⟩ := HP.out.stmts.at hlt
                    have Hq := hid hq
                    clear hq
                    by_cases hz : 20 < s.kind.size
                    · go_wp2
                      go_ret
                      exact ⟨1, rfl, by omega, (fun h => absurd h (by decide)), HX.out⟩
                    · by_cases hz3 : 8 < s.args.length
                      · go_wp2
                        go_ret
                        exact ⟨1, rfl, by omega, (fun h => absurd h (by decide)), HX.out⟩
                      · have hz2 : s.kind.size ≤ 20 ∧ s.args.length ≤ 8 := ⟨by omega, by omega⟩
                        have Hz2 := hid hz2
                        clear hz2
                        go_wp2
                        refine ⟨⟨k + 1, by go_num, by omega, fun j s hj hs => ?_⟩, by simp [intOf]; omega⟩
                        by_cases hjk : j = k
                        · subst hjk
                          obtain rfl := Option.some.inj (Hq.out.symm.trans hs)
                          exact Hz2.out
                        · exact Hp.out j s (by omega) hs
                  · obtain rfl : k = P.stmts.length := by omega
                    have Hs := hid (show P.Small from ⟨Hb.out.1, Hb.out.2.1, Hb.out.2.2, Hv.out, Hf.out, fun s hs => by
                      obtain ⟨j, hj, e⟩ := List.mem_iff_getElem.1 hs
                      exact Hp.out j s hj (by rw [List.getElem?_eq_getElem hj, e])⟩)
                    go_wp2
                    go_ret
                    exact ⟨0, rfl, by omega, fun _ => ⟨Hs.out, Hq8.out, Hv8.out⟩, HX.out⟩
end Go.Proofs.YtbagppdibncfdaaGreatDoor
