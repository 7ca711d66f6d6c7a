/- Texts of one proof, put together: S4 ZZZH W2 W4 V3 V5 V6 V8. -/
import Derived.Test.YtamblahkckaaaaaDoorHPB03
import Derived.Test.YtamblahkckaaaaaDoorHPB04
import Derived.Test.YtamblahkckaaaaaDoorHPB05
import Derived.Test.YtamblahkckaaaaaDoorHPB06
import Derived.Lib.AppendZeros
import Derived.RangeFuncCalls
import Derived.Test.YtamblahkckaaaaaDoorHPB01
set_option linter.unusedSimpArgs false
set_option linter.unusedVariables false
namespace Go.Proofs.YtamblahkckaaaaaDoor
open Go Go.RowKit
theorem errv_no {ad : Nat → Addr} {c : Nat} (h : c = 0) : errv (evOf ad) c = .nilIface := by unfold errv; rw [if_pos h]
theorem errv_yes {ad : Nat → Addr} {c : Nat} (h : c ≠ 0) : errv (evOf ad) c = .iface 130 (.pointer (some (ad c))) := by unfold errv evOf; rw [if_neg h]
end Go.Proofs.YtamblahkckaaaaaDoor
namespace Go.Proofs.YtamblahkckaaaaaDoor
open Go Go.RowKit Go.Shelf Go.Maps Go.Sort
abbrev SrK : Type := Nat × ByteArray
def SrI (w : World) (u : ByteArray) (x : SrK) (W : World) : Prop := ∃ vs, numsV ((cutc 44 u.data.toList).take x.1) = some vs ∧ x.1 ≤ (cutc 44 u.data.toList).length ∧ SrAt w vs x.2 W
def SrX (w : World) (u : ByteArray) (ad : Nat → Addr) (W : World) : Prop := numsV (cutc 44 u.data.toList) = none ∧ Ext w W ∧ Blk W w.heap.size #[.slice none 0 0] 37 ∧ Blk W (w.heap.size + 1) #[evOf ad 1] 31
theorem SrI.put {w : World} {u : ByteArray} {x : SrK} {W : World} (h : SrI w u x W) {l : Nat} {o : Obj} (o' : Obj) (hl : W.heap[l]? = some o) (ho : o.isCells = false) (hb : w.heap.size + 6 ≤ l) : SrI w u x (W.putObj l o') := by
  obtain ⟨vs, h1, h2, h3⟩ := h
  exact ⟨vs, h1, h2, h3.put o' hl ho hb⟩
theorem SrX.put {w : World} {u : ByteArray} {ad : Nat → Addr} {W : World} (h : SrX w u ad W) {l : Nat} (o' : Obj) (hb : w.heap.size + 6 ≤ l) : SrX w u ad (W.putObj l o') := by
  obtain ⟨h1, h2, h3, h4⟩ := h
  have k := keep_put W l o'
  exact ⟨h1, Keep.new h2 k fun n hn => by omega, h3.keep k (by omega), h4.keep k (by omega)⟩
section
attribute [local go_sem] Oper.semAt_some
end
end Go.Proofs.YtamblahkckaaaaaDoor
namespace Go.Proofs.YtamblahkckaaaaaDoor
open Go Go.RowKit Go.Shelf
open Go.Lib (trimS trimLeftS trimRightS toList_data)
theorem dw_nil {p : UInt8 → Bool} : ∀ l : List UInt8, (∀ x ∈ l, p x = true) → l.dropWhile p = []
  | [], _ => rfl
  | a :: l, h => by
    rw [List.dropWhile_cons, h a (List.mem_cons_self ..)]
    exact dw_nil l fun x hx => h x (List.mem_cons_of_mem _ hx)
theorem dw_mem {p : UInt8 → Bool} : ∀ (l : List UInt8) (b : UInt8), b ∈ l → p b = false → ∃ a r, l.dropWhile p = a :: r ∧ p a = false
  | a :: l, b, hb, hp => by
    cases ha : p a with
    | false => exact ⟨a, l, by rw [List.dropWhile_cons, ha]; rfl, ha⟩
    | true =>
      rcases List.mem_cons.1 hb with rfl | hb
      · rw [ha] at hp; cases hp
      · rw [List.dropWhile_cons, ha]
        exact dw_mem l b hb hp
theorem trimS_nil (l cs : List UInt8) : trimS l cs = [] ↔ ∀ b ∈ l, cs.contains b = true := by
  unfold trimS trimLeftS trimRightS
  constructor
  · intro h b hb
    cases hp : cs.contains b with
    | true => rfl
    | false =>
      obtain ⟨a, r, he, ha⟩ := dw_mem (p := (cs.contains ·)) l.reverse b (List.mem_reverse.2 hb) hp
      rw [he] at h
      obtain ⟨a2, r2, he2, _⟩ := dw_mem (p := (cs.contains ·)) (a :: r).reverse a (List.mem_reverse.2 (List.mem_cons_self ..)) ha
      rw [he2] at h
      cases h
  · intro h
    rw [dw_nil (p := (cs.contains ·)) l.reverse fun x hx => h x (List.mem_reverse.1 hx)]
    rfl
def okAt (b k : Nat) : Bool := (decide (97 ≤ b) && decide (b ≤ 122)) || (decide (48 ≤ b) && decide (b ≤ 57) && !decide (k = 0))
theorem letters_has (b : UInt8) : lettersS.data.toList.contains b = ((decide (97 ≤ b.toNat) && decide (b.toNat ≤ 122)) || (decide (48 ≤ b.toNat) && decide (b.toNat ≤ 57))) := by
  have h : ∀ n, n < 256 → lettersS.data.toList.contains (UInt8.ofNat n) = ((decide (97 ≤ n) && decide (n ≤ 122)) || (decide (48 ≤ n) && decide (n ≤ 57))) := by decide +kernel
  have := h b.toNat b.toNat_lt
  rwa [UInt8.ofNat_toNat] at this
theorem nameRest_iff (s : ByteArray) : nameRest s = true ↔ ∀ (k : Nat) (h : k < s.size), lettersS.data.toList.contains s[k] = true := by
  unfold nameRest eqB
  rw [beq_iff_eq, toList_data, toList_data]
  show trimS s.data.toList lettersS.data.toList = [] ↔ _
  rw [trimS_nil]
  constructor
  · intro h k hk
    refine h _ ?_
    have : s.data.toList[k]? = some s[k] := by
      rw [List.getElem?_eq_getElem (by simpa using hk)]
      rfl
    exact List.mem_of_getElem? this
  · intro h b hb
    obtain ⟨k, hk, e⟩ := List.mem_iff_getElem.1 hb
    have hk' : k < s.size := by simpa using hk
    have := h k hk'
    rwa [show s[k] = b from e] at this
theorem nameOk_iff (s : ByteArray) : nameOk s = true ↔ memB s reserved = false ∧ 1 ≤ s.size ∧ s.size ≤ 8 ∧ ∀ (k : Nat) (h : k < s.size), okAt s[k].toNat k = true := by
  unfold nameOk
  simp only [Bool.and_eq_true, Bool.not_eq_true', decide_eq_true_eq]
  rw [nameRest_iff]
  have he : s.toList.isEmpty = false ↔ 1 ≤ s.size := by
    rw [toList_data]
    have hl : s.data.toList.length = s.size := by simp
    cases h : s.data.toList with
    | nil =>
      have hz : s.size = 0 := by rw [← hl, h]; rfl
      exact ⟨fun h => (by cases h), fun h => by omega⟩
    | cons a r =>
      have hz : s.size = r.length + 1 := by rw [← hl, h]; rfl
      exact ⟨fun _ => by omega, fun _ => rfl⟩
  rw [he]
  constructor
  · rintro ⟨h1, ⟨⟨⟨⟨h2, h3⟩, h4⟩, h5⟩, h6⟩⟩
    refine ⟨h1, h2, h3, fun k hk => ?_⟩
    have h7 := h6 k hk
    rw [letters_has] at h7
    unfold okAt
    by_cases h0 : k = 0
    · subst h0
      have hf : first s = s[0].toNat := by unfold first; rw [dif_pos hk]
      rw [hf] at h4 h5
      simp [h4, h5]
    · simp only [h0, decide_false, Bool.not_false, Bool.and_true]
      exact h7
  · rintro ⟨h1, h2, h3, h4⟩
    have hz : 0 < s.size := h2
    have hf : first s = s[0].toNat := by unfold first; rw [dif_pos hz]
    have h0 := h4 0 hz
    unfold okAt at h0
    simp at h0
    refine ⟨h1, ⟨⟨⟨⟨h2, h3⟩, by rw [hf]; exact h0.1⟩, by rw [hf]; exact h0.2⟩, fun k hk => ?_⟩⟩
    have h5 := h4 k hk
    rw [letters_has]
    unfold okAt at h5
    simp only [Bool.or_eq_true, Bool.and_eq_true] at h5 ⊢
    exact h5.imp id fun h => h.1
end Go.Proofs.YtamblahkckaaaaaDoor
namespace Go.Proofs.YtamblahkckaaaaaDoor
open Go Go.RowKit
def FaultIs (P : PP) (c : Nat) (p : Int) : Prop :=
  (P.err1 ≠ 0 ∧ c = P.err1 ∧ p = -1) ∨ (P.err1 = 0 ∧ P.allWell ∧ c = 0 ∧ p = -1) ∨ (P.err1 = 0 ∧ ∃ i s, P.FirstBad i s ∧ c = P.stmtErr s ∧ p = (i : Int))
theorem two {w : World} {g : Nat} {x0 x1 v0 v1 : Value} {t : TypeId} (h : Blk w g #[x0, x1] t) : Blk ((w.setCell ⟨g, 0, none⟩ v0).setCell ⟨g, 1, none⟩ v1) g #[v0, v1] t := by
  have := (h.set 0 v0).set 1 v1
  simpa using this
structure PP.Small (P : PP) : Prop where
  vl : P.vars.length ≤ 41
  fl : P.funs.length ≤ 8
  sl : P.stmts.length ≤ 81
  vs : ∀ s ∈ P.vars, s.size ≤ 20
  fs : ∀ f ∈ P.funs, f.name.size ≤ 20 ∧ f.params.length ≤ 8
  ss : ∀ s ∈ P.stmts, s.kind.size ≤ 20 ∧ s.args.length ≤ 8
theorem StrsR.at {w : World} {n0 : Nat} {a : Option Addr} {n cap : Nat} {l : List ByteArray} (h : StrsR w n0 (.slice a n cap) l) {k : Nat} (hk : k < l.length) : ∃ y q, a = some y ∧ l[k]? = some q ∧ w.cell? (y.add k) = some (.string q) := by
  obtain ⟨a', cap', h1, h2, h3, h4, h5⟩ := h
  obtain ⟨rfl, rfl, rfl⟩ : a = a' ∧ n = l.length ∧ cap = cap' := by simpa using h1
  obtain ⟨y, rfl⟩ := h4 (by omega)
  have hx : l[k]? = some (l[k]'hk) := List.getElem?_eq_getElem hk
  exact ⟨y, _, rfl, hx, (h5 y rfl (by omega)).2 k hk _ hx⟩
theorem StrsR.len {w : World} {n0 : Nat} {a : Option Addr} {n cap : Nat} {l : List ByteArray} (h : StrsR w n0 (.slice a n cap) l) : (l.length : Int) ≤ 9223372036854775807 := by
  obtain ⟨_, _, _, h2, h3, _⟩ := h
  omega
set_option maxRecDepth 100000 in
set_option maxHeartbeats 12800000 in
theorem large_any (a1 a2 a3 : Option Addr) (c1 c2 c3 : Nat) (P : PP) (w : World) (n0 : Nat) (h : ProgR w n0 (.slice a1 P.vars.length c1) (.slice a2 P.funs.length c2) (.slice a3 P.stmts.length c3) P) :
    Calls Tryd.prog 5 #[pval a1 a2 a3 c1 c2 c3 P, .int .i64 30] w fun e w' => ∃ r : Int, e = .returned (.int .i64 r) ∧ (0 ≤ r ∧ r ≤ 1) ∧ (r = 0 → P.Small) ∧ Ext w w' := by
  have hl1 := h.vars.len
  have hl2 := h.funs.len
  have hl3 := h.stmts.len
  obtain ⟨W, hW⟩ : ∃ W, W = w.alloc (.cells (pcells a1 a2 a3 c1 c2 c3 P) 26) := ⟨_, rfl⟩
  have HX : Hid (Ext w W) := hid (by rw [hW]; exact (Ext.refl _).alloc _)
  have hB : Blk W w.heap.size (pcells a1 a2 a3 c1 c2 c3 P) 26 := by rw [hW]; exact Blk.new _ _ _
  have HP := hid (h.ext HX.out)
  have d0 := hB.av 0 rfl
  have d1 := hB.av 1 rfl
  have d2 := hB.av 2 rfl
  simp only [pcells, qA0, qA1, qA2] at d0 d1 d2
  unfold pcells at hW
  have HWe := hid hW
  unfold pval
  clear hW hB h
  go_enter Tryd.func5, Tryd.ntmps5
  by_cases b1 : 15 < P.vars.length
  · by_cases b2 : (P.vars.length : Int) = 41
    · by_cases b3 : 8 < P.funs.length
      · go_wp2
        go_ret
        exact ⟨1, rfl, by omega, (fun h => absurd h (by decide)), (Ext.refl w).alloc _⟩
      · by_cases b4 : 30 < P.stmts.length
        · by_cases b5 : (P.stmts.length : Int) = 81
          · have Hb := hid (show P.vars.length ≤ 41 ∧ P.funs.length ≤ 8 ∧ P.stmts.length ≤ 81 from ⟨by omega, by omega, by omega⟩)
            go_wp2
            rw [← HWe.out]
            clear b1 b3 b4
            clear b5
            clear b2
            go_loop [5] (fun t5 => ∃ k : Nat, t5 = .int .i64 (k : Int) ∧ k ≤ P.vars.length ∧ ∀ j s, j < k → P.vars[j]? = some s → s.size ≤ 20) (fun t5 => P.vars.length - (intOf t5).toNat)
            case atStart => exact ⟨0, rfl, Nat.zero_le _, fun j s h => by omega⟩
            case round =>
              obtain ⟨k, rfl, hk, hp⟩ := hrel
              have Hp := hid hp
              clear hp
              by_cases hlt : k < P.vars.length
              · obtain ⟨y, q, rfl, hq, hc⟩ := HP.out.vars.at hlt
                have Hq := hid hq
                clear hq
                by_cases hz : 20 < q.size
                · go_wp2
                  go_ret
                  exact ⟨1, rfl, by omega, (fun h => absurd h (by decide)), HX.out⟩
                · have hz2 : q.size ≤ 20 := by omega
                  go_wp2
                  refine ⟨⟨k + 1, by go_num, by omega, fun j s hj hs => ?_⟩, by simp [intOf]; omega⟩
                  by_cases hjk : j = k
                  · subst hjk
                    obtain rfl := Option.some.inj (Hq.out.symm.trans hs)
                    exact hz2
                  · exact Hp.out j s (by omega) hs
              · obtain rfl : k = P.vars.length := by omega
                have Hv := hid (show ∀ s ∈ P.vars, s.size ≤ 20 from fun s hs => by
                  obtain ⟨j, hj, e⟩ := List.mem_iff_getElem.1 hs
                  exact Hp.out j s hj (by rw [List.getElem?_eq_getElem hj, e]))
                clear Hp
                go_wp2
                go_loop [6] (fun t6 => ∃ k : Nat, t6 = .int .i64 (k : Int) ∧ k ≤ P.funs.length ∧ ∀ j f, j < k → P.funs[j]? = some f → f.name.size ≤ 20 ∧ f.params.length ≤ 8) (fun t6 => P.funs.length - (intOf t6).toNat)
                case atStart => exact ⟨0, rfl, Nat.zero_le _, fun j s h => by omega⟩
                case round =>
                  obtain ⟨k, rfl, hk, hp⟩ := hrel
                  have Hp := hid hp
                  clear hp
                  by_cases hlt : k < P.funs.length
                  · obtain ⟨y, f, av, cv, rfl, hq, e0, e1, e2, _⟩ := HP.out.funs.at hlt
                    have Hq := hid hq
                    clear hq
                    by_cases hz : 20 < f.name.size
                    · go_wp2
                      go_ret
                      exact ⟨1, rfl, by omega, (fun h => absurd h (by decide)), HX.out⟩
                    · by_cases hz3 : 8 < f.params.length
                      · go_wp2
                        go_ret
                        exact ⟨1, rfl, by omega, (fun h => absurd h (by decide)), HX.out⟩
                      · have hz2 : f.name.size ≤ 20 ∧ f.params.length ≤ 8 := ⟨by omega, by omega⟩
                        have Hz2 := hid hz2
                        clear hz2
                        go_wp2
                        refine ⟨⟨k + 1, by go_num, by omega, fun j s hj hs => ?_⟩, by simp [intOf]; omega⟩
                        by_cases hjk : j = k
                        · subst hjk
                          obtain rfl := Option.some.inj (Hq.out.symm.trans hs)
                          exact Hz2.out
                        · exact Hp.out j s (by omega) hs
                  · obtain rfl : k = P.funs.length := by omega
                    have Hf := hid (show ∀ f ∈ P.funs, f.name.size ≤ 20 ∧ f.params.length ≤ 8 from fun s hs => by
                      obtain ⟨j, hj, e⟩ := List.mem_iff_getElem.1 hs
                      exact Hp.out j s hj (by rw [List.getElem?_eq_getElem hj, e]))
                    clear Hp
                    go_wp2
                    go_loop [7] (fun t7 => ∃ k : Nat, t7 = .int .i64 (k : Int) ∧ k ≤ P.stmts.length ∧ ∀ j s, j < k → P.stmts[j]? = some s → s.kind.size ≤ 20 ∧ s.args.length ≤ 8) (fun t7 => P.stmts.length - (intOf t7).toNat)
                    case atStart => exact ⟨0, rfl, Nat.zero_le _, fun j s h => by omega⟩
                    case round =>
                      obtain ⟨k, rfl, hk, hp⟩ := hrel
                      have Hp := hid hp
                      clear hp
                      by_cases hlt : k < P.stmts.length
                      · obtain ⟨y, s, av, cv, rfl, hq, e0, e1, e2, e3, _⟩ := HP.out.stmts.at hlt
                        have Hq := hid hq
                        clear hq
                        by_cases hz : 20 < s.kind.size
                        · go_wp2
                          go_ret
                          exact ⟨1, rfl, by omega, (fun h => absurd h (by decide)), HX.out⟩
                        · by_cases hz3 : 8 < s.args.length
                          · go_wp2
                            go_ret
                            exact ⟨1, rfl, by omega, (fun h => absurd h (by decide)), HX.out⟩
                          · have hz2 : s.kind.size ≤ 20 ∧ s.args.length ≤ 8 := ⟨by omega, by omega⟩
                            have Hz2 := hid hz2
                            clear hz2
                            go_wp2
                            refine ⟨⟨k + 1, by go_num, by omega, fun j s hj hs => ?_⟩, by simp [intOf]; omega⟩
                            by_cases hjk : j = k
                            · subst hjk
                              obtain rfl := Option.some.inj (Hq.out.symm.trans hs)
                              exact Hz2.out
                            · exact Hp.out j s (by omega) hs
                      · obtain rfl : k = P.stmts.length := by omega
                        have Hs := hid (show P.Small from ⟨Hb.out.1, Hb.out.2.1, Hb.out.2.2, Hv.out, Hf.out, fun s hs => by
                          obtain ⟨j, hj, e⟩ := List.mem_iff_getElem.1 hs
                          exact Hp.out j s hj (by rw [List.getElem?_eq_getElem hj, e])⟩)
                        go_wp2
                        go_ret
                        exact ⟨0, rfl, by omega, fun _ => Hs.out, HX.out⟩
          · have b5n : ((P.stmts.length : Int) != 81) = true := bne_iff_ne.2 b5
            go_wp2
            go_ret
            exact ⟨1, rfl, by omega, (fun h => absurd h (by decide)), (Ext.refl w).alloc _⟩
        · have Hb := hid (show P.vars.length ≤ 41 ∧ P.funs.length ≤ 8 ∧ P.stmts.length ≤ 81 from ⟨by omega, by omega, by omega⟩)
          go_wp2
          rw [← HWe.out]
          clear b1 b3 b4
          clear b2
          go_loop [5] (fun t5 => ∃ k : Nat, t5 = .int .i64 (k : Int) ∧ k ≤ P.vars.length ∧ ∀ j s, j < k → P.vars[j]? = some s → s.size ≤ 20) (fun t5 => P.vars.length - (intOf t5).toNat)
          case atStart => exact ⟨0, rfl, Nat.zero_le _, fun j s h => by omega⟩
          case round =>
            obtain ⟨k, rfl, hk, hp⟩ := hrel
            have Hp := hid hp
            clear hp
            by_cases hlt : k < P.vars.length
            · obtain ⟨y, q, rfl, hq, hc⟩ := HP.out.vars.at hlt
              have Hq := hid hq
              clear hq
              by_cases hz : 20 < q.size
              · go_wp2
                go_ret
                exact ⟨1, rfl, by omega, (fun h => absurd h (by decide)), HX.out⟩
              · have hz2 : q.size ≤ 20 := by omega
                go_wp2
                refine ⟨⟨k + 1, by go_num, by omega, fun j s hj hs => ?_⟩, by simp [intOf]; omega⟩
                by_cases hjk : j = k
                · subst hjk
                  obtain rfl := Option.some.inj (Hq.out.symm.trans hs)
                  exact hz2
                · exact Hp.out j s (by omega) hs
            · obtain rfl : k = P.vars.length := by omega
              have Hv := hid (show ∀ s ∈ P.vars, s.size ≤ 20 from fun s hs => by
                obtain ⟨j, hj, e⟩ := List.mem_iff_getElem.1 hs
                exact Hp.out j s hj (by rw [List.getElem?_eq_getElem hj, e]))
              clear Hp
              go_wp2
              go_loop [6] (fun t6 => ∃ k : Nat, t6 = .int .i64 (k : Int) ∧ k ≤ P.funs.length ∧ ∀ j f, j < k → P.funs[j]? = some f → f.name.size ≤ 20 ∧ f.params.length ≤ 8) (fun t6 => P.funs.length - (intOf t6).toNat)
              case atStart => exact ⟨0, rfl, Nat.zero_le _, fun j s h => by omega⟩
              case round =>
                obtain ⟨k, rfl, hk, hp⟩ := hrel
                have Hp := hid hp
                clear hp
                by_cases hlt : k < P.funs.length
                · obtain ⟨y, f, av, cv, rfl, hq, e0, e1, e2, _⟩ := HP.out.funs.at hlt
                  have Hq := hid hq
                  clear hq
                  by_cases hz : 20 < f.name.size
                  · go_wp2
                    go_ret
                    exact ⟨1, rfl, by omega, (fun h => absurd h (by decide)), HX.out⟩
                  · by_cases hz3 : 8 < f.params.length
                    · go_wp2
                      go_ret
                      exact ⟨1, rfl, by omega, (fun h => absurd h (by decide)), HX.out⟩
                    · have hz2 : f.name.size ≤ 20 ∧ f.params.length ≤ 8 := ⟨by omega, by omega⟩
                      have Hz2 := hid hz2
                      clear hz2
                      go_wp2
                      refine ⟨⟨k + 1, by go_num, by omega, fun j s hj hs => ?_⟩, by simp [intOf]; omega⟩
                      by_cases hjk : j = k
                      · subst hjk
                        obtain rfl := Option.some.inj (Hq.out.symm.trans hs)
                        exact Hz2.out
                      · exact Hp.out j s (by omega) hs
                · obtain rfl : k = P.funs.length := by omega
                  have Hf := hid (show ∀ f ∈ P.funs, f.name.size ≤ 20 ∧ f.params.length ≤ 8 from fun s hs => by
                    obtain ⟨j, hj, e⟩ := List.mem_iff_getElem.1 hs
                    exact Hp.out j s hj (by rw [List.getElem?_eq_getElem hj, e]))
                  clear Hp
                  go_wp2
                  go_loop [7] (fun t7 => ∃ k : Nat, t7 = .int .i64 (k : Int) ∧ k ≤ P.stmts.length ∧ ∀ j s, j < k → P.stmts[j]? = some s → s.kind.size ≤ 20 ∧ s.args.length ≤ 8) (fun t7 => P.stmts.length - (intOf t7).toNat)
                  case atStart => exact ⟨0, rfl, Nat.zero_le _, fun j s h => by omega⟩
                  case round =>
                    obtain ⟨k, rfl, hk, hp⟩ := hrel
                    have Hp := hid hp
                    clear hp
                    by_cases hlt : k < P.stmts.length
                    · obtain ⟨y, s, av, cv, rfl, hq, e0, e1, e2, e3, _⟩ := HP.out.stmts.at hlt
                      have Hq := hid hq
                      clear hq
                      by_cases hz : 20 < s.kind.size
                      · go_wp2
                        go_ret
                        exact ⟨1, rfl, by omega, (fun h => absurd h (by decide)), HX.out⟩
                      · by_cases hz3 : 8 < s.args.length
                        · go_wp2
                          go_ret
                          exact ⟨1, rfl, by omega, (fun h => absurd h (by decide)), HX.out⟩
                        · have hz2 : s.kind.size ≤ 20 ∧ s.args.length ≤ 8 := ⟨by omega, by omega⟩
                          have Hz2 := hid hz2
                          clear hz2
                          go_wp2
                          refine ⟨⟨k + 1, by go_num, by omega, fun j s hj hs => ?_⟩, by simp [intOf]; omega⟩
                          by_cases hjk : j = k
                          · subst hjk
                            obtain rfl := Option.some.inj (Hq.out.symm.trans hs)
                            exact Hz2.out
                          · exact Hp.out j s (by omega) hs
                    · obtain rfl : k = P.stmts.length := by omega
                      have Hs := hid (show P.Small from ⟨Hb.out.1, Hb.out.2.1, Hb.out.2.2, Hv.out, Hf.out, fun s hs => by
                        obtain ⟨j, hj, e⟩ := List.mem_iff_getElem.1 hs
                        exact Hp.out j s hj (by rw [List.getElem?_eq_getElem hj, e])⟩)
                      go_wp2
                      go_ret
                      exact ⟨0, rfl, by omega, fun _ => Hs.out, HX.out⟩
    · go_wp2
      go_ret
      exact ⟨1, rfl, by omega, (fun h => absurd h (by decide)), (Ext.refl w).alloc _⟩
  · by_cases b3 : 8 < P.funs.length
    · go_wp2
      go_ret
      exact ⟨1, rfl, by omega, (fun h => absurd h (by decide)), (Ext.refl w).alloc _⟩
    · by_cases b4 : 30 < P.stmts.length
      · by_cases b5 : (P.stmts.length : Int) = 81
        · have Hb := hid (show P.vars.length ≤ 41 ∧ P.funs.length ≤ 8 ∧ P.stmts.length ≤ 81 from ⟨by omega, by omega, by omega⟩)
          go_wp2
          rw [← HWe.out]
          clear b1 b3 b4
          clear b5
          skip
          go_loop [5] (fun t5 => ∃ k : Nat, t5 = .int .i64 (k : Int) ∧ k ≤ P.vars.length ∧ ∀ j s, j < k → P.vars[j]? = some s → s.size ≤ 20) (fun t5 => P.vars.length - (intOf t5).toNat)
          case atStart => exact ⟨0, rfl, Nat.zero_le _, fun j s h => by omega⟩
          case round =>
            obtain ⟨k, rfl, hk, hp⟩ := hrel
            have Hp := hid hp
            clear hp
            by_cases hlt : k < P.vars.length
            · obtain ⟨y, q, rfl, hq, hc⟩ := HP.out.vars.at hlt
              have Hq := hid hq
              clear hq
              by_cases hz : 20 < q.size
              · go_wp2
                go_ret
                exact ⟨1, rfl, by omega, (fun h => absurd h (by decide)), HX.out⟩
              · have hz2 : q.size ≤ 20 := by omega
                go_wp2
                refine ⟨⟨k + 1, by go_num, by omega, fun j s hj hs => ?_⟩, by simp [intOf]; omega⟩
                by_cases hjk : j = k
                · subst hjk
                  obtain rfl := Option.some.inj (Hq.out.symm.trans hs)
                  exact hz2
                · exact Hp.out j s (by omega) hs
            · obtain rfl : k = P.vars.length := by omega
              have Hv := hid (show ∀ s ∈ P.vars, s.size ≤ 20 from fun s hs => by
                obtain ⟨j, hj, e⟩ := List.mem_iff_getElem.1 hs
                exact Hp.out j s hj (by rw [List.getElem?_eq_getElem hj, e]))
              clear Hp
              go_wp2
              go_loop [6] (fun t6 => ∃ k : Nat, t6 = .int .i64 (k : Int) ∧ k ≤ P.funs.length ∧ ∀ j f, j < k → P.funs[j]? = some f → f.name.size ≤ 20 ∧ f.params.length ≤ 8) (fun t6 => P.funs.length - (intOf t6).toNat)
              case atStart => exact ⟨0, rfl, Nat.zero_le _, fun j s h => by omega⟩
              case round =>
                obtain ⟨k, rfl, hk, hp⟩ := hrel
                have Hp := hid hp
                clear hp
                by_cases hlt : k < P.funs.length
                · obtain ⟨y, f, av, cv, rfl, hq, e0, e1, e2, _⟩ := HP.out.funs.at hlt
                  have Hq := hid hq
                  clear hq
                  by_cases hz : 20 < f.name.size
                  · go_wp2
                    go_ret
                    exact ⟨1, rfl, by omega, (fun h => absurd h (by decide)), HX.out⟩
                  · by_cases hz3 : 8 < f.params.length
                    · go_wp2
                      go_ret
                      exact ⟨1, rfl, by omega, (fun h => absurd h (by decide)), HX.out⟩
                    · have hz2 : f.name.size ≤ 20 ∧ f.params.length ≤ 8 := ⟨by omega, by omega⟩
                      have Hz2 := hid hz2
                      clear hz2
                      go_wp2
                      refine ⟨⟨k + 1, by go_num, by omega, fun j s hj hs => ?_⟩, by simp [intOf]; omega⟩
                      by_cases hjk : j = k
                      · subst hjk
                        obtain rfl := Option.some.inj (Hq.out.symm.trans hs)
                        exact Hz2.out
                      · exact Hp.out j s (by omega) hs
                · obtain rfl : k = P.funs.length := by omega
                  have Hf := hid (show ∀ f ∈ P.funs, f.name.size ≤ 20 ∧ f.params.length ≤ 8 from fun s hs => by
                    obtain ⟨j, hj, e⟩ := List.mem_iff_getElem.1 hs
                    exact Hp.out j s hj (by rw [List.getElem?_eq_getElem hj, e]))
                  clear Hp
                  go_wp2
                  go_loop [7] (fun t7 => ∃ k : Nat, t7 = .int .i64 (k : Int) ∧ k ≤ P.stmts.length ∧ ∀ j s, j < k → P.stmts[j]? = some s → s.kind.size ≤ 20 ∧ s.args.length ≤ 8) (fun t7 => P.stmts.length - (intOf t7).toNat)
                  case atStart => exact ⟨0, rfl, Nat.zero_le _, fun j s h => by omega⟩
                  case round =>
                    obtain ⟨k, rfl, hk, hp⟩ := hrel
                    have Hp := hid hp
                    clear hp
                    by_cases hlt : k < P.stmts.length
                    · obtain ⟨y, s, av, cv, rfl, hq, e0, e1, e2, e3, _⟩ := HP.out.stmts.at hlt
                      have Hq := hid hq
                      clear hq
                      by_cases hz : 20 < s.kind.size
                      · go_wp2
                        go_ret
                        exact ⟨1, rfl, by omega, (fun h => absurd h (by decide)), HX.out⟩
                      · by_cases hz3 : 8 < s.args.length
                        · go_wp2
                          go_ret
                          exact ⟨1, rfl, by omega, (fun h => absurd h (by decide)), HX.out⟩
                        · have hz2 : s.kind.size ≤ 20 ∧ s.args.length ≤ 8 := ⟨by omega, by omega⟩
                          have Hz2 := hid hz2
                          clear hz2
                          go_wp2
                          refine ⟨⟨k + 1, by go_num, by omega, fun j s hj hs => ?_⟩, by simp [intOf]; omega⟩
                          by_cases hjk : j = k
                          · subst hjk
                            obtain rfl := Option.some.inj (Hq.out.symm.trans hs)
                            exact Hz2.out
                          · exact Hp.out j s (by omega) hs
                    · obtain rfl : k = P.stmts.length := by omega
                      have Hs := hid (show P.Small from ⟨Hb.out.1, Hb.out.2.1, Hb.out.2.2, Hv.out, Hf.out, fun s hs => by
                        obtain ⟨j, hj, e⟩ := List.mem_iff_getElem.1 hs
                        exact Hp.out j s hj (by rw [List.getElem?_eq_getElem hj, e])⟩)
                      go_wp2
                      go_ret
                      exact ⟨0, rfl, by omega, fun _ => Hs.out, HX.out⟩
        · have b5n : ((P.stmts.length : Int) != 81) = true := bne_iff_ne.2 b5
          go_wp2
          go_ret
          exact ⟨1, rfl, by omega, (fun h => absurd h (by decide)), (Ext.refl w).alloc _⟩
      · have Hb := hid (show P.vars.length ≤ 41 ∧ P.funs.length ≤ 8 ∧ P.stmts.length ≤ 81 from ⟨by omega, by omega, by omega⟩)
        go_wp2
        rw [← HWe.out]
        clear b1 b3 b4
        skip
        go_loop [5] (fun t5 => ∃ k : Nat, t5 = .int .i64 (k : Int) ∧ k ≤ P.vars.length ∧ ∀ j s, j < k → P.vars[j]? = some s → s.size ≤ 20) (fun t5 => P.vars.length - (intOf t5).toNat)
        case atStart => exact ⟨0, rfl, Nat.zero_le _, fun j s h => by omega⟩
        case round =>
          obtain ⟨k, rfl, hk, hp⟩ := hrel
          have Hp := hid hp
          clear hp
          by_cases hlt : k < P.vars.length
          · obtain ⟨y, q, rfl, hq, hc⟩ := HP.out.vars.at hlt
            have Hq := hid hq
            clear hq
            by_cases hz : 20 < q.size
            · go_wp2
              go_ret
              exact ⟨1, rfl, by omega, (fun h => absurd h (by decide)), HX.out⟩
            · have hz2 : q.size ≤ 20 := by omega
              go_wp2
              refine ⟨⟨k + 1, by go_num, by omega, fun j s hj hs => ?_⟩, by simp [intOf]; omega⟩
              by_cases hjk : j = k
              · subst hjk
                obtain rfl := Option.some.inj (Hq.out.symm.trans hs)
                exact hz2
              · exact Hp.out j s (by omega) hs
          · obtain rfl : k = P.vars.length := by omega
            have Hv := hid (show ∀ s ∈ P.vars, s.size ≤ 20 from fun s hs => by
              obtain ⟨j, hj, e⟩ := List.mem_iff_getElem.1 hs
              exact Hp.out j s hj (by rw [List.getElem?_eq_getElem hj, e]))
            clear Hp
            go_wp2
            go_loop [6] (fun t6 => ∃ k : Nat, t6 = .int .i64 (k : Int) ∧ k ≤ P.funs.length ∧ ∀ j f, j < k → P.funs[j]? = some f → f.name.size ≤ 20 ∧ f.params.length ≤ 8) (fun t6 => P.funs.length - (intOf t6).toNat)
            case atStart => exact ⟨0, rfl, Nat.zero_le _, fun j s h => by omega⟩
            case round =>
              obtain ⟨k, rfl, hk, hp⟩ := hrel
              have Hp := hid hp
              clear hp
              by_cases hlt : k < P.funs.length
              · obtain ⟨y, f, av, cv, rfl, hq, e0, e1, e2, _⟩ := HP.out.funs.at hlt
                have Hq := hid hq
                clear hq
                by_cases hz : 20 < f.name.size
                · go_wp2
                  go_ret
                  exact ⟨1, rfl, by omega, (fun h => absurd h (by decide)), HX.out⟩
                · by_cases hz3 : 8 < f.params.length
                  · go_wp2
                    go_ret
                    exact ⟨1, rfl, by omega, (fun h => absurd h (by decide)), HX.out⟩
                  · have hz2 : f.name.size ≤ 20 ∧ f.params.length ≤ 8 := ⟨by omega, by omega⟩
                    have Hz2 := hid hz2
                    clear hz2
                    go_wp2
                    refine ⟨⟨k + 1, by go_num, by omega, fun j s hj hs => ?_⟩, by simp [intOf]; omega⟩
                    by_cases hjk : j = k
                    · subst hjk
                      obtain rfl := Option.some.inj (Hq.out.symm.trans hs)
                      exact Hz2.out
                    · exact Hp.out j s (by omega) hs
              · obtain rfl : k = P.funs.length := by omega
                have Hf := hid (show ∀ f ∈ P.funs, f.name.size ≤ 20 ∧ f.params.length ≤ 8 from fun s hs => by
                  obtain ⟨j, hj, e⟩ := List.mem_iff_getElem.1 hs
                  exact Hp.out j s hj (by rw [List.getElem?_eq_getElem hj, e]))
                clear Hp
                go_wp2
                go_loop [7] (fun t7 => ∃ k : Nat, t7 = .int .i64 (k : Int) ∧ k ≤ P.stmts.length ∧ ∀ j s, j < k → P.stmts[j]? = some s → s.kind.size ≤ 20 ∧ s.args.length ≤ 8) (fun t7 => P.stmts.length - (intOf t7).toNat)
                case atStart => exact ⟨0, rfl, Nat.zero_le _, fun j s h => by omega⟩
                case round =>
                  obtain ⟨k, rfl, hk, hp⟩ := hrel
                  have Hp := hid hp
                  clear hp
                  by_cases hlt : k < P.stmts.length
                  · obtain ⟨y, s, av, cv, rfl, hq, e0, e1, e2, e3, _⟩ := HP.out.stmts.at hlt
                    have Hq := hid hq
                    clear hq
                    by_cases hz : 20 < s.kind.size
                    · go_wp2
                      go_ret
                      exact ⟨1, rfl, by omega, (fun h => absurd h (by decide)), HX.out⟩
                    · by_cases hz3 : 8 < s.args.length
                      · go_wp2
                        go_ret
                        exact ⟨1, rfl, by omega, (fun h => absurd h (by decide)), HX.out⟩
                      · have hz2 : s.kind.size ≤ 20 ∧ s.args.length ≤ 8 := ⟨by omega, by omega⟩
                        have Hz2 := hid hz2
                        clear hz2
                        go_wp2
                        refine ⟨⟨k + 1, by go_num, by omega, fun j s hj hs => ?_⟩, by simp [intOf]; omega⟩
                        by_cases hjk : j = k
                        · subst hjk
                          obtain rfl := Option.some.inj (Hq.out.symm.trans hs)
                          exact Hz2.out
                        · exact Hp.out j s (by omega) hs
                  · obtain rfl : k = P.stmts.length := by omega
                    have Hs := hid (show P.Small from ⟨Hb.out.1, Hb.out.2.1, Hb.out.2.2, Hv.out, Hf.out, fun s hs => by
                      obtain ⟨j, hj, e⟩ := List.mem_iff_getElem.1 hs
                      exact Hp.out j s hj (by rw [List.getElem?_eq_getElem hj, e])⟩)
                    go_wp2
                    go_ret
                    exact ⟨0, rfl, by omega, fun _ => Hs.out, HX.out⟩
structure OwnP (w : World) (n1 : Nat) (vv fv sv : Value) (P : PP) (fs : List F2) (ss : List S2) : Prop where
  blk : Blk w n1 #[vv, fv, sv] 26
  vars : w.ownsRow 0 9 1 vv P.vars.length (P.vars.map .string)
  funs : w.ownsRow n1 43 3 fv fs.length (fs.flatMap F2.cells)
  stmts : w.ownsRow n1 39 4 sv ss.length (ss.flatMap S2.cells)
  fi : ∀ x ∈ fs, IntsT w x.v x.f.params
  si : ∀ x ∈ ss, IntsT w x.v x.s.args
theorem OwnP.ext {w w' : World} {n1 : Nat} {vv fv sv : Value} {P : PP} {fs : List F2} {ss : List S2} (h : OwnP w n1 vv fv sv P fs ss) (x : Ext w w') : OwnP w' n1 vv fv sv P fs ss :=
  ⟨h.blk.ext x, own_ext h.vars x, own_ext h.funs x, own_ext h.stmts x, fun y hy => (h.fi y hy).ext x, fun y hy => (h.si y hy).ext x⟩
theorem notInt {w : World} {b : Nat} {c : Array Value} {t : TypeId} (h : Blk w b c t) (hne : t ≠ 3) : ¬ IsInt w b := IsInt.not h hne
theorem OwnP.fun {w w1 w' : World} {n1 : Nat} {vv fv sv fv' : Value} {P : PP} {fs : List F2} {ss : List S2} (h : OwnP w n1 vv fv sv P fs ss) (x : F2) (hx : IntsT w x.v x.f.params)
    (ho : w'.ownsRow n1 43 3 fv' (fs.length + 1) (fs.flatMap F2.cells ++ F2.cells x)) (k : Keep (fun q => fv.ownBlock = some q) w w') (hw : w1 = w'.setCell ⟨n1, 1, none⟩ fv') : OwnP w1 n1 vv fv' sv P (fs ++ [x]) ss := by
  subst hw
  have hb : Blk w' n1 #[vv, fv, sv] 26 := h.blk.keep k fun e => by
    obtain ⟨c, hc⟩ := own_ty h.funs e
    exact Blk.ty_ne hc h.blk (by decide) rfl
  have k2 : Keep (fun q => q = n1) w' (w'.setCell ⟨n1, 1, none⟩ fv') := Keep.set (X := fun q => q = n1) (Keep.refl _ _) rfl _
  have hb2 := hb.set 1 fv'
  simp only [qS0, qS1, qS2] at hb2
  have nf : ∀ b, fv.ownBlock = some b → ¬ IsInt w b := fun b e => by
    obtain ⟨c, hc⟩ := own_ty h.funs e
    exact notInt hc (by decide)
  have kk : ∀ v l, IntsT w v l → IntsT (w'.setCell ⟨n1, 1, none⟩ fv') v l := fun v l hi => (hi.keep k nf).keep k2 fun b e => by subst e; exact notInt hb (by decide)
  have r2 : ∀ {base : Nat} {e : TypeId} {size : Nat} {v : Value} {n : Nat} {xs : List Value}, w'.ownsRow base e size v n xs → e ≠ 26 → (w'.setCell ⟨n1, 1, none⟩ fv').ownsRow base e size v n xs := fun hr hne => row_keep hr k2 fun i hi e => by
    subst e
    obtain ⟨c, hc⟩ := own_ty hr hi
    exact Blk.ty_ne hc hb hne rfl
  have r1 : ∀ {base : Nat} {e : TypeId} {size : Nat} {v : Value} {n : Nat} {xs : List Value}, w.ownsRow base e size v n xs → e ≠ 43 → w'.ownsRow base e size v n xs := fun hr hne => row_keep hr k fun i hi e => by
    obtain ⟨c, hc⟩ := own_ty hr hi
    obtain ⟨d, hd⟩ := own_ty h.funs e
    exact Blk.ty_ne hc hd hne rfl
  refine ⟨hb2, r2 (r1 h.vars (by decide)) (by decide), r2 (by simpa using ho) (by decide), r2 (r1 h.stmts (by decide)) (by decide), fun y hy => ?_, fun y hy => kk _ _ (h.si y hy)⟩
  rcases List.mem_append.1 hy with hy | hy
  · exact kk _ _ (h.fi y hy)
  · rw [List.mem_singleton.1 hy]; exact kk _ _ hx
theorem OwnP.stmt {w w1 w' : World} {n1 : Nat} {vv fv sv sv' : Value} {P : PP} {fs : List F2} {ss : List S2} (h : OwnP w n1 vv fv sv P fs ss) (x : S2) (hx : IntsT w x.v x.s.args)
    (ho : w'.ownsRow n1 39 4 sv' (ss.length + 1) (ss.flatMap S2.cells ++ S2.cells x)) (k : Keep (fun q => sv.ownBlock = some q) w w') (hw : w1 = w'.setCell ⟨n1, 2, none⟩ sv') : OwnP w1 n1 vv fv sv' P fs (ss ++ [x]) := by
  subst hw
  have hb : Blk w' n1 #[vv, fv, sv] 26 := h.blk.keep k fun e => by
    obtain ⟨c, hc⟩ := own_ty h.stmts e
    exact Blk.ty_ne hc h.blk (by decide) rfl
  have k2 : Keep (fun q => q = n1) w' (w'.setCell ⟨n1, 2, none⟩ sv') := Keep.set (X := fun q => q = n1) (Keep.refl _ _) rfl _
  have hb2 := hb.set 2 sv'
  simp only [qS0, qS1, qS2] at hb2
  have nf : ∀ b, sv.ownBlock = some b → ¬ IsInt w b := fun b e => by
    obtain ⟨c, hc⟩ := own_ty h.stmts e
    exact notInt hc (by decide)
  have kk : ∀ v l, IntsT w v l → IntsT (w'.setCell ⟨n1, 2, none⟩ sv') v l := fun v l hi => (hi.keep k nf).keep k2 fun b e => by subst e; exact notInt hb (by decide)
  have r2 : ∀ {base : Nat} {e : TypeId} {size : Nat} {v : Value} {n : Nat} {xs : List Value}, w'.ownsRow base e size v n xs → e ≠ 26 → (w'.setCell ⟨n1, 2, none⟩ sv').ownsRow base e size v n xs := fun hr hne => row_keep hr k2 fun i hi e => by
    subst e
    obtain ⟨c, hc⟩ := own_ty hr hi
    exact Blk.ty_ne hc hb hne rfl
  have r1 : ∀ {base : Nat} {e : TypeId} {size : Nat} {v : Value} {n : Nat} {xs : List Value}, w.ownsRow base e size v n xs → e ≠ 39 → w'.ownsRow base e size v n xs := fun hr hne => row_keep hr k fun i hi e => by
    obtain ⟨c, hc⟩ := own_ty hr hi
    obtain ⟨d, hd⟩ := own_ty h.stmts e
    exact Blk.ty_ne hc hd hne rfl
  refine ⟨hb2, r2 (r1 h.vars (by decide)) (by decide), r2 (r1 h.funs (by decide)) (by decide), r2 (by simpa using ho) (by decide), fun y hy => kk _ _ (h.fi y hy), fun y hy => ?_⟩
  rcases List.mem_append.1 hy with hy | hy
  · exact kk _ _ (h.si y hy)
  · rw [List.mem_singleton.1 hy]; exact kk _ _ hx
theorem Blk.new_setU (w : World) (a : Addr) (v : Value) (c : Array Value) (e : TypeId) : Blk ((w.setCell a v).alloc (.cells c e)) w.heap.size c e := by
  have := Blk.new (w.setCell a v) c e
  simpa [World.setCell] using this
set_option maxRecDepth 100000 in
set_option maxHeartbeats 12800000 in
theorem ownprogram_any (a1 a2 a3 : Option Addr) (c1 c2 c3 : Nat) (P : PP) (w : World) (h : ProgR w w.heap.size (.slice a1 P.vars.length c1) (.slice a2 P.funs.length c2) (.slice a3 P.stmts.length c3) P) (hs : P.Small) :
    Calls Tryd.prog 6 #[pval a1 a2 a3 c1 c2 c3 P] w fun e w' => Ext w w' ∧ ∃ b1 b2 b3 d1 d2 d3, e = .returned (pval b1 b2 b3 d1 d2 d3 P) ∧ ProgR w' w'.heap.size (.slice b1 P.vars.length d1) (.slice b2 P.funs.length d2) (.slice b3 P.stmts.length d3) P := by
  have HP := hid h
  have Hs := hid hs
  have hl1 := hs.vl
  have hl2 := hs.fl
  have hl3 := hs.sl
  obtain ⟨W1, hW1⟩ : ∃ W1, W1 = w.alloc (.cells (pcells a1 a2 a3 c1 c2 c3 P) 26) := ⟨_, rfl⟩
  have hx1 : Ext w W1 := by rw [hW1]; exact (Ext.refl _).alloc _
  obtain ⟨W2, hW2⟩ : ∃ W2, W2 = W1.alloc (.cells #[.slice none 0 0, .slice none 0 0, .slice none 0 0] 26) := ⟨_, rfl⟩
  have hx2 : Ext W1 W2 := by rw [hW2]; exact (Ext.refl _).alloc _
  have HW2 := hid (hx1.trans hx2)
  have HB1 : Hid (Blk W2 w.heap.size (pcells a1 a2 a3 c1 c2 c3 P) 26) := hid (by
    have : Blk W1 w.heap.size (pcells a1 a2 a3 c1 c2 c3 P) 26 := by rw [hW1]; exact Blk.new _ _ _
    exact this.ext hx2)
  have hs1 : W1.heap.size = w.heap.size + 1 := by rw [hW1, heap_size_alloc]
  have HB2 : Hid (Blk W2 (w.heap.size + 1) #[.slice none 0 0, .slice none 0 0, .slice none 0 0] 26) := hid (by
    rw [← hs1, hW2]; exact Blk.new _ _ _)
  have HW2e : Hid (W2 = (w.alloc (.cells #[.slice a1 P.vars.length c1, .slice a2 P.funs.length c2, .slice a3 P.stmts.length c3] 26)).alloc (.cells #[.slice none 0 0, .slice none 0 0, .slice none 0 0] 26)) := hid (by rw [hW2, hW1]; rfl)
  have Hsrc := hid ((h.ext HW2.out).vars.src)
  have hlv : 0 + P.vars.length ≤ 1000000 := by omega
  unfold pval
  clear h hs hW1 hW2 hx1 hx2 hs1
  go_enter Tryd.func6, Tryd.ntmps6
  go_wp2_with (at_builtin; rw [← HW2e.out]; refine wpList_append_src W2.heap.size (Nat.le_refl _) 22 9 (.string ⟨#[]⟩) 1 16 Tryd.underlying22 str_info rfl (by omega) (by omega) rfl _ _ rfl (.slice none 0 0) 0 [] rfl (World.ownsRow_nil _ _ _ _) a1 P.vars.length c1 (P.vars.map .string) rfl Hsrc.out hlv ?_; intro v3 w3 h1 h2 h4; have HX3 := hid (Keep.new (Ext.refl W2) h2 (fun k hk => by cases hk)); have HV3 := hid (show w3.ownsRow W2.heap.size 9 1 v3 P.vars.length (P.vars.map .string) by simpa using h1); clear h1 h2 h4; obtain ⟨va, vc, rfl⟩ := row_form HV3.out)
  obtain ⟨W4, hW4⟩ : ∃ W4, W4 = w3.alloc (.cells #[.slice va P.vars.length vc, .slice none 0 0, .slice none 0 0] 26) := ⟨_, rfl⟩
  rw [← hW4]
  have hx4 : Ext w3 W4 := by rw [hW4]; exact (Ext.refl _).alloc _
  have HO4 : Hid (OwnP W4 w3.heap.size (.slice va P.vars.length vc) (.slice none 0 0) (.slice none 0 0) P [] []) := hid
    ⟨by rw [hW4]; exact Blk.new _ _ _, own_low (own_ext HV3.out hx4) (Nat.zero_le _), World.ownsRow_nil _ _ _ _, World.ownsRow_nil _ _ _ _, fun _ h => by (cases h), fun _ h => by (cases h)⟩
  have HW4 := hid ((HW2.out.trans HX3.out).trans hx4)
  have HB14 := hid (HB1.out.ext (HX3.out.trans hx4))
  have HB24 := hid (HB2.out.ext (HX3.out.trans hx4))
  have Hn1 : Hid (w.heap.size + 1 < w3.heap.size) := hid (Nat.lt_of_lt_of_le HB2.out.lt HX3.out.size)
  clear hW4 hx4 Hsrc hlv
  generalize w3.heap.size = n1 at *
  go_loopw [5] (fun t5 wr => ∃ (k : Nat) (fv : Value) (fs : List F2), t5 = .int .i64 (k : Int) ∧ k ≤ P.funs.length ∧ OwnP wr n1 (.slice va P.vars.length vc) fv (.slice none 0 0) P fs [] ∧ fs.map F2.f = P.funs.take k ∧ Old n1 W4 wr) (fun t5 _ => P.funs.length - (intOf t5).toNat)
  case atStart => exact ⟨0, _, [], rfl, Nat.zero_le _, HO4.out, rfl, Old.refl _ _⟩
  case round =>
    clear HO4
    obtain ⟨k, fv, fs, rfl, hk, hO, hm, hw⟩ := hrel
    have HO := hid hO
    have Hm := hid hm
    have Hw := hid hw
    have Hww : Hid (Old w.heap.size w wr) := hid ((HW4.out.old _).trans (hw.mono fun q _ e => by have := Hn1.out; omega))
    have HBp : Hid (Blk wr w.heap.size (pcells a1 a2 a3 c1 c2 c3 P) 26) := hid (HB14.out.keep hw fun e => by have := Hn1.out; omega)
    have HBr : Hid (Blk wr (w.heap.size + 1) #[.slice none 0 0, .slice none 0 0, .slice none 0 0] 26) := hid (HB24.out.keep hw fun e => by have := Hn1.out; omega)
    have p0 := HBp.out.av 0 rfl
    have p1 := HBp.out.av 1 rfl
    have p2 := HBp.out.av 2 rfl
    simp only [pcells, qA0, qA1, qA2] at p0 p1 p2
    clear hO hm hw
    by_cases hlt : k < P.funs.length
    · obtain ⟨y, f, av, cv, rfl, hq, e0, e1, e2, hI⟩ := (HP.out.old Hww.out).funs.at hlt
      have hfl : fs.length = k := by
        have := congrArg List.length Hm.out
        rw [List.length_map, List.length_take] at this
        omega
      obtain ⟨fa, fc, hfv⟩ := row_form HO.out.funs
      rw [hfl] at hfv
      subst hfv
      obtain ⟨W5, hW5⟩ : ∃ W5, W5 = wr.alloc (.cells #[.string f.name, .slice av f.params.length cv, .int .i64 f.ret] 43) := ⟨_, rfl⟩
      have hx5 : Ext wr W5 := by rw [hW5]; exact (Ext.refl _).alloc _
      have HB5 : Hid (Blk W5 wr.heap.size #[.string f.name, .slice av f.params.length cv, .int .i64 f.ret] 43) := hid (by rw [hW5]; exact Blk.new _ _ _)
      have hfs := Hs.out.fs f (List.mem_of_getElem? hq)
      have HN := hid (ownintsR_any _ f.params W5 w.heap.size (hI.old (hx5.old _)) (by omega))
      have Hnx : Hid (∀ v, (fs ++ [(⟨f, v⟩ : F2)]).map F2.f = P.funs.take (k + 1)) := hid fun v => by
        rw [List.map_append, Hm.out, List.take_add_one, hq]; rfl
      have Hx5 := hid hx5
      have HW5 := hid hW5
      have Hfl := hid hfl
      clear hq hI hfl hx5 hW5 hfs
      go_wp2_with fail
      rw [← HW5.out]
      refine HN.out.mono ?_
      intro e w6 hx
      obtain ⟨v6, rfl, hx6, hr6⟩ := hx
      obtain ⟨b6, c6, rfl⟩ := row_form hr6
      have hB6 := HB5.out.ext hx6
      have z1 := hB6.av 1 rfl
      have f1 := hB6.free 1
      have hB7 := hB6.set 1 (.slice b6 f.params.length c6)
      have k7 : Keep (fun q => q = wr.heap.size) w6 (w6.setCell ⟨wr.heap.size, 1, none⟩ (.slice b6 f.params.length c6)) := Keep.set (X := fun q => q = wr.heap.size) (Keep.refl _ _) rfl _
      simp only [qS0, qS1, qS2, qA0, qA1, qA2] at z1 hB7
      have hx7 : Ext wr (w6.setCell ⟨wr.heap.size, 1, none⟩ (.slice b6 f.params.length c6)) := Keep.new (Hx5.out.trans hx6) k7 fun q e => Nat.le_of_eq e.symm
      have HO7 := hid (HO.out.ext hx7)
      have HT7 := hid ((IntsT.of_row hr6).keep k7 fun q e => by subst e; exact notInt hB6 (by decide))
      have y0 := hB7.av 0 rfl
      have y1 := hB7.av 1 rfl
      have y2 := hB7.av 2 rfl
      have q1 := HO7.out.blk.av 1 rfl
      simp only [qA0, qA1, qA2] at y0 y1 y2 q1
      have Hx7 := hid hx7
      have Hn8 : Hid (n1 ≤ ((w6.setCell ⟨wr.heap.size, 1, none⟩ (.slice b6 f.params.length c6)).alloc (.cells #[.string f.name, .slice b6 f.params.length c6, .int .i64 f.ret] 43)).heap.size) := hid (Nat.le_trans (Nat.le_of_lt HO7.out.blk.lt) ((Ext.refl _).alloc _).size)
      have Hkl : Hid (k ≤ 1000000) := hid (by omega)
      have HRo : Hid ((w6.setCell ⟨wr.heap.size, 1, none⟩ (.slice b6 f.params.length c6)).ownsRow n1 43 3 (.slice fa k fc) k (fs.flatMap F2.cells)) := hid (by have := HO7.out.funs; rwa [Hfl.out] at this)
      clear HN hx6 hr6 hB6 hB7 k7 hx7
      go_wp2_with (at_builtin; refine wpList_append_el n1 Hn8.out 23 43 (.agg #[.string ⟨#[]⟩, .slice none 0 0, .int .i64 0]) 3 48 Tryd.underlying23 fun_info rfl (by omega) (by omega) rfl _ _ rfl (.slice fa k fc) k (fs.flatMap F2.cells) rfl (own_ext HRo.out ((Ext.refl _).alloc _)) w6.heap.size (F2.cells ⟨f, .slice b6 f.params.length c6⟩) rfl (by simp [F2.cells, Value.oneCell']) rfl (Blk.new_setU _ _ _ _ _) Hkl.out ?_; intro v9 w9 ho9 hk9 hl9; obtain ⟨a9, c9, rfl⟩ := row_form ho9; have HO8 := hid (HO7.out.ext ((Ext.refl _).alloc (.cells #[.string f.name, .slice b6 f.params.length c6, .int .i64 f.ret] 43))); have HT8 := hid (HT7.out.ext ((Ext.refl _).alloc (.cells #[.string f.name, .slice b6 f.params.length c6, .int .i64 f.ret] 43))); have Hk9 := hid hk9; have Ho9 := hid ho9; have hb9 := HO8.out.blk.keep hk9 (fun e => by obtain ⟨c, hc⟩ := own_ty HO8.out.funs e; exact Blk.ty_ne hc HO8.out.blk (by decide) rfl); have s1 := hb9.av 1 rfl; have t1 := hb9.free 1; clear ho9 hk9 hb9)
      have HO10 := hid (HO8.out.fun ⟨f, .slice b6 f.params.length c6⟩ HT8.out (by rw [Hfl.out]; exact Ho9.out) Hk9.out rfl)
      have HO11 : Hid (Old n1 W4 (w9.setCell ⟨n1, 1, none⟩ (.slice a9 (k + 1) c9))) := hid (by
        refine Hw.out.trans (((Hx7.out.trans ((Ext.refl _).alloc _)).old n1).trans ((Hk9.out.mono fun q _ e => (World.ownsRow.lt HO8.out.funs q e).1).trans ?_))
        exact Keep.set (X := fun q => n1 ≤ q) (Keep.refl _ _) (Nat.le_refl _) _)
      go_roundw
      case rel => exact ⟨k + 1, _, _, by go_num, by omega, HO10.out, Hnx.out _, HO11.out⟩
      case measure => simp [intOf]; omega
    · obtain rfl : k = P.funs.length := by omega
      rw [List.take_of_length_le (Nat.le_refl _)] at Hm
      have Hmf := Hm
      have HOf := HO
      have Hwf := Hw
      clear Hm HO Hw HBr Hww HBp
      go_wp2
      clear p0 p1 p2
      rename World => w7
      go_loopw [7] (fun t7 wr => ∃ (k : Nat) (sv : Value) (ss : List S2), t7 = .int .i64 (k : Int) ∧ k ≤ P.stmts.length ∧ OwnP wr n1 (.slice va P.vars.length vc) fv sv P fs ss ∧ ss.map S2.s = P.stmts.take k ∧ Old n1 W4 wr) (fun t7 _ => P.stmts.length - (intOf t7).toNat)
      case atStart => exact ⟨0, _, [], rfl, Nat.zero_le _, HOf.out, rfl, Hwf.out⟩
      case round =>
        clear HOf Hwf
        obtain ⟨k, sv, ss, rfl, hk, hO, hm, hw⟩ := hrel
        have HO := hid hO
        have Hm := hid hm
        have Hw := hid hw
        have Hww : Hid (Old w.heap.size w wr) := hid ((HW4.out.old _).trans (hw.mono fun q _ e => by have := Hn1.out; omega))
        have HBp : Hid (Blk wr w.heap.size (pcells a1 a2 a3 c1 c2 c3 P) 26) := hid (HB14.out.keep hw fun e => by have := Hn1.out; omega)
        have HBr : Hid (Blk wr (w.heap.size + 1) #[.slice none 0 0, .slice none 0 0, .slice none 0 0] 26) := hid (HB24.out.keep hw fun e => by have := Hn1.out; omega)
        have p0 := HBp.out.av 0 rfl
        have p1 := HBp.out.av 1 rfl
        have p2 := HBp.out.av 2 rfl
        simp only [pcells, qA0, qA1, qA2] at p0 p1 p2
        clear hO hm hw
        by_cases hlt : k < P.stmts.length
        · obtain ⟨y, f, av, cv, rfl, hq, e0, e1, e2, e3, hI⟩ := (HP.out.old Hww.out).stmts.at hlt
          have hfl : ss.length = k := by
            have := congrArg List.length Hm.out
            rw [List.length_map, List.length_take] at this
            omega
          obtain ⟨fa, fc, hfv⟩ := row_form HO.out.stmts
          rw [hfl] at hfv
          subst hfv
          obtain ⟨W5, hW5⟩ : ∃ W5, W5 = wr.alloc (.cells #[.string f.kind, .int .i64 f.x, .int .i64 f.y, .slice av f.args.length cv] 39) := ⟨_, rfl⟩
          have hx5 : Ext wr W5 := by rw [hW5]; exact (Ext.refl _).alloc _
          have HB5 : Hid (Blk W5 wr.heap.size #[.string f.kind, .int .i64 f.x, .int .i64 f.y, .slice av f.args.length cv] 39) := hid (by rw [hW5]; exact Blk.new _ _ _)
          have hfs := Hs.out.ss f (List.mem_of_getElem? hq)
          have HN := hid (ownintsR_any _ f.args W5 w.heap.size (hI.old (hx5.old _)) (by omega))
          have Hnx : Hid (∀ v, (ss ++ [(⟨f, v⟩ : S2)]).map S2.s = P.stmts.take (k + 1)) := hid fun v => by
            rw [List.map_append, Hm.out, List.take_add_one, hq]; rfl
          have Hx5 := hid hx5
          have HW5 := hid hW5
          have Hfl := hid hfl
          clear hq hI hfl hx5 hW5 hfs
          go_wp2_with fail
          rw [← HW5.out]
          refine HN.out.mono ?_
          intro e w6 hx
          obtain ⟨v6, rfl, hx6, hr6⟩ := hx
          obtain ⟨b6, c6, rfl⟩ := row_form hr6
          have hB6 := HB5.out.ext hx6
          have z1 := hB6.av 3 rfl
          have f1 := hB6.free 3
          have hB7 := hB6.set 3 (.slice b6 f.args.length c6)
          have k7 : Keep (fun q => q = wr.heap.size) w6 (w6.setCell ⟨wr.heap.size, 3, none⟩ (.slice b6 f.args.length c6)) := Keep.set (X := fun q => q = wr.heap.size) (Keep.refl _ _) rfl _
          simp only [qS0, qS1, qS2, qA0, qA1, qA2] at z1 hB7
          have hx7 : Ext wr (w6.setCell ⟨wr.heap.size, 3, none⟩ (.slice b6 f.args.length c6)) := Keep.new (Hx5.out.trans hx6) k7 fun q e => Nat.le_of_eq e.symm
          have HO7 := hid (HO.out.ext hx7)
          have HT7 := hid ((IntsT.of_row hr6).keep k7 fun q e => by subst e; exact notInt hB6 (by decide))
          have y0 := hB7.av 0 rfl
          have y1 := hB7.av 1 rfl
          have y2 := hB7.av 2 rfl
          have y3 := hB7.av 3 rfl
          have q1 := HO7.out.blk.av 2 rfl
          simp only [qA0, qA1, qA2] at y0 y1 y2 y3 q1
          have Hx7 := hid hx7
          have Hn8 : Hid (n1 ≤ ((w6.setCell ⟨wr.heap.size, 3, none⟩ (.slice b6 f.args.length c6)).alloc (.cells #[.string f.kind, .int .i64 f.x, .int .i64 f.y, .slice b6 f.args.length c6] 39)).heap.size) := hid (Nat.le_trans (Nat.le_of_lt HO7.out.blk.lt) ((Ext.refl _).alloc _).size)
          have Hkl : Hid (k ≤ 1000000) := hid (by omega)
          have HRo : Hid ((w6.setCell ⟨wr.heap.size, 3, none⟩ (.slice b6 f.args.length c6)).ownsRow n1 39 4 (.slice fa k fc) k (ss.flatMap S2.cells)) := hid (by have := HO7.out.stmts; rwa [Hfl.out] at this)
          clear HN hx6 hr6 hB6 hB7 k7 hx7
          go_wp2_with (at_builtin; refine wpList_append_el n1 Hn8.out 24 39 (.agg #[.string ⟨#[]⟩, .int .i64 0, .int .i64 0, .slice none 0 0]) 4 56 Tryd.underlying24 stmt_info rfl (by omega) (by omega) rfl _ _ rfl (.slice fa k fc) k (ss.flatMap S2.cells) rfl (own_ext HRo.out ((Ext.refl _).alloc _)) w6.heap.size (S2.cells ⟨f, .slice b6 f.args.length c6⟩) rfl (by simp [S2.cells, Value.oneCell']) rfl (Blk.new_setU _ _ _ _ _) Hkl.out ?_; intro v9 w9 ho9 hk9 hl9; obtain ⟨a9, c9, rfl⟩ := row_form ho9; have HO8 := hid (HO7.out.ext ((Ext.refl _).alloc (.cells #[.string f.kind, .int .i64 f.x, .int .i64 f.y, .slice b6 f.args.length c6] 39))); have HT8 := hid (HT7.out.ext ((Ext.refl _).alloc (.cells #[.string f.kind, .int .i64 f.x, .int .i64 f.y, .slice b6 f.args.length c6] 39))); have Hk9 := hid hk9; have Ho9 := hid ho9; have hb9 := HO8.out.blk.keep hk9 (fun e => by obtain ⟨c, hc⟩ := own_ty HO8.out.stmts e; exact Blk.ty_ne hc HO8.out.blk (by decide) rfl); have s1 := hb9.av 2 rfl; have t1 := hb9.free 2; clear ho9 hk9 hb9)
          have HO10 := hid (HO8.out.stmt ⟨f, .slice b6 f.args.length c6⟩ HT8.out (by rw [Hfl.out]; exact Ho9.out) Hk9.out rfl)
          have HO11 : Hid (Old n1 W4 (w9.setCell ⟨n1, 2, none⟩ (.slice a9 (k + 1) c9))) := hid (by
            refine Hw.out.trans (((Hx7.out.trans ((Ext.refl _).alloc _)).old n1).trans ((Hk9.out.mono fun q _ e => (World.ownsRow.lt HO8.out.stmts q e).1).trans ?_))
            exact Keep.set (X := fun q => n1 ≤ q) (Keep.refl _ _) (Nat.le_refl _) _)
          go_roundw
          case rel => exact ⟨k + 1, _, _, by go_num, by omega, HO10.out, Hnx.out _, HO11.out⟩
          case measure => simp [intOf]; omega
        · obtain rfl : k = P.stmts.length := by omega
          rw [List.take_of_length_le (Nat.le_refl _)] at Hm
          have hfl : fs.length = P.funs.length := by rw [← Hmf.out, List.length_map]
          have hsl : ss.length = P.stmts.length := by rw [← Hm.out, List.length_map]
          obtain ⟨fa, fc, hfv⟩ := row_form HO.out.funs
          obtain ⟨sa, sc, hsv⟩ := row_form HO.out.stmts
          rw [hfl] at hfv
          rw [hsl] at hsv
          subst hfv hsv
          have q0 := HO.out.blk.av 0 rfl
          have q1 := HO.out.blk.av 1 rfl
          have q2 := HO.out.blk.av 2 rfl
          have z0 := HBr.out.av 0 rfl
          have z1 := HBr.out.av 1 rfl
          have z2 := HBr.out.av 2 rfl
          have f0 := HBr.out.free 0
          have f1 := HBr.out.free 1
          have f2 := HBr.out.free 2
          simp only [qA0, qA1, qA2] at q0 q1 q2 z0 z1 z2
          have HBz := hid (store3 (v0 := .slice va P.vars.length vc) (v1 := .slice fa P.funs.length fc) (v2 := .slice sa P.stmts.length sc) HBr.out)
          have HKz := hid (store3_keep wr (w.heap.size + 1) (.slice va P.vars.length vc) (.slice fa P.funs.length fc) (.slice sa P.stmts.length sc))
          obtain ⟨W10, hW10⟩ : ∃ W10, W10 = (((wr.setCell ⟨w.heap.size + 1, 0, none⟩ (.slice va P.vars.length vc)).setCell ⟨w.heap.size + 1, 1, none⟩ (.slice fa P.funs.length fc)).setCell ⟨w.heap.size + 1, 2, none⟩ (.slice sa P.stmts.length sc)) := ⟨_, rfl⟩
          rw [← hW10] at HBz HKz
          have HW10 := hid hW10
          have Hfs := hid (And.intro hfl hsl)
          clear hfl hsl p0 p1 hW10
          go_wp2
          rw [← HW10.out]
          have c0 := HBz.out.av 0 rfl
          have c1' := HBz.out.av 1 rfl
          have c2' := HBz.out.av 2 rfl
          have hX := Keep.new (Ext.refl w) (Hww.out.trans (HKz.out.mono fun b _ e => by omega)) fun b hb => hb
          have hni : ∀ b, b = w.heap.size + 1 → ¬ IsInt wr b := fun b e => by subst e; exact notInt HBr.out (by decide)
          have hrk : ∀ {base : Nat} {e : TypeId} {size : Nat} {v : Value} {n : Nat} {xs : List Value}, wr.ownsRow base e size v n xs → e ≠ 26 → W10.ownsRow base e size v n xs := fun hr hne => row_keep hr HKz.out fun i hi e => by
            subst e
            obtain ⟨c, hc⟩ := own_ty hr hi
            exact Blk.ty_ne hc HBr.out hne rfl
          have hP' : ProgR W10 W10.heap.size (.slice va P.vars.length vc) (.slice fa P.funs.length fc) (.slice sa P.stmts.length sc) P :=
            ⟨StrsR.own (hrk HO.out.vars (by decide)) (Nat.le_refl _), FunsR.own (by have := hrk HO.out.funs (by decide); rw [Hfs.out.1]; rw [Hfs.out.1] at this; exact this) Hmf.out fun x hx => (HO.out.fi x hx).keep HKz.out hni, StmtsR.own (by have := hrk HO.out.stmts (by decide); rw [Hfs.out.2]; rw [Hfs.out.2] at this; exact this) Hm.out fun x hx => (HO.out.si x hx).keep HKz.out hni⟩
          exact bodyPost_ret (v := pval va fa sa vc fc sc P) (by simp [results, pval, Tryd.results6, go_sem, c0, c1', c2']) rfl ⟨hX, _, _, _, _, _, _, rfl, hP'⟩
def PP.isNew (P : PP) (k : Nat) : Bool := match P.stmts[k]? with
  | some x => x.isK kNew
  | none => false
theorem PP.Runs.take {P : PP} {l : List Int} (h : P.Runs l) (k : Nat) : P.Runs (l.take k) :=
  ⟨h.1, h.2.1, by have := h.2.2.1; rw [List.length_take]; omega, fun x hx => h.2.2.2 x (List.mem_of_mem_take hx)⟩
theorem PP.Runs.lt {P : PP} {l : List Int} (h : P.Runs l) {q : Int} (hq : q ∈ l) : 0 ≤ q ∧ q < P.stmts.length := by
  have hb := h.2.2.2 q hq
  unfold PP.badk at hb
  simp at hb
  omega
theorem PP.Runs.stmts {P : PP} {l : List Int} (h : P.Runs l) : P.stmts.length ≤ 80 := by
  have h1 := h.1
  unfold PP.err1 at h1
  cases hb : P.big with
  | true => rw [hb] at h1; simp at h1
  | false => unfold PP.big at hb; simp at hb; omega
def newOf (P : PP) (l : List Int) : List Int := ((l.map Int.toNat).filter P.isNew).map Int.ofNat
def RunOut (P : PP) (l : List Int) (n0 : Nat) (w : World) (sv ev : Value) : Prop :=
  (P.Runs l ∧ ev = .nilIface ∧ ∃ a1 a2 a3 c1 c2 c3, sv = .agg #[.slice a1 (Rn.run P (l.map Int.toNat)).vars.length c1, .slice a2 (newOf P l).length c2, .slice a3 (newOf P l).length c3] ∧
    w.ownsRow n0 3 1 (.slice a3 (newOf P l).length c3) (newOf P l).length (icells (newOf P l))) ∨
  (¬ P.Runs l ∧ sv = zeroS ∧ ∃ t x, ev = .iface t (.pointer (some x)))
theorem RunOut.ext {P : PP} {l : List Int} {n0 : Nat} {w w' : World} {sv ev : Value} (h : RunOut P l n0 w sv ev) (x : Ext w w') : RunOut P l n0 w' sv ev := by
  rcases h with ⟨h1, h2, a1, a2, a3, c1, c2, c3, h3, h4⟩ | h
  · exact .inl ⟨h1, h2, a1, a2, a3, c1, c2, c3, h3, own_ext h4 x⟩
  · exact .inr h
theorem RunOut.low {P : PP} {l : List Int} {n0 n1 : Nat} {w : World} {sv ev : Value} (h : RunOut P l n0 w sv ev) (hn : n1 ≤ n0) : RunOut P l n1 w sv ev := by
  rcases h with ⟨h1, h2, a1, a2, a3, c1, c2, c3, h3, h4⟩ | h
  · exact .inl ⟨h1, h2, a1, a2, a3, c1, c2, c3, h3, own_low h4 hn⟩
  · exact .inr h
theorem RunOut.form {P : PP} {l : List Int} {n0 : Nat} {w : World} {sv ev : Value} (h : RunOut P l n0 w sv ev) : ∃ a1 n1 c1 a2 n2 c2 a3 n3 c3, sv = .agg #[.slice a1 n1 c1, .slice a2 n2 c2, .slice a3 n3 c3] := by
  rcases h with ⟨h1, h2, a1, a2, a3, c1, c2, c3, h3, h4⟩ | ⟨_, h, _⟩
  · exact ⟨_, _, _, _, _, _, _, _, _, h3⟩
  · exact ⟨_, _, _, _, _, _, _, _, _, h⟩
end Go.Proofs.YtamblahkckaaaaaDoor
