/- Texts of one proof, put together: W5. -/
import Derived.Test.YtbagppdibncfdaaGreatDoorHHN07
import Derived.Test.YtbagppdibncfdaaGreatDoorHHN01
set_option linter.unusedSimpArgs false
set_option linter.unusedVariables false
namespace Go.Proofs.YtbagppdibncfdaaGreatDoor
open Go Go.RowKit
theorem any_noU {α : Type} {l : List α} {p : α → Bool} (h : ∀ j f, j < l.length → l[j]? = some f → p f = false) : l.any p = false := List.any_eq_false.2 fun f hf => by
  obtain ⟨j, hj, e⟩ := List.mem_iff_getElem.1 hf
  rw [h j f hj (by rw [List.getElem?_eq_getElem hj, e])]
  decide
theorem StrsR.atU {w : World} {n0 : Nat} {a : Option Addr} {n cap : Nat} {l : List ByteArray} (h : StrsR w n0 (.slice a n cap) l) {k : Nat} (hk : k < l.length) : ∃ y q, a = some y ∧ l[k]? = some q ∧ w.cell? (y.add k) = some (.string q) := by
  obtain ⟨a', cap', h1, h2, h3, h4, h5⟩ := h
  obtain ⟨rfl, rfl, rfl⟩ : a = a' ∧ n = l.length ∧ cap = cap' := by simpa using h1
  obtain ⟨y, rfl⟩ := h4 (by omega)
  have hx : l[k]? = some (l[k]'hk) := List.getElem?_eq_getElem hk
  exact ⟨y, _, rfl, hx, (h5 y rfl (by omega)).2 k hk _ hx⟩
set_option maxRecDepth 100000 in
set_option maxHeartbeats 25600000 in
theorem rfprog_big (a1 a2 a3 : Option Addr) (c1 c2 c3 : Nat) (P : PP) (w : World) (h : ProgR w w.heap.size (.slice a1 P.vars.length c1) (.slice a2 P.funs.length c2) (.slice a3 P.stmts.length c3) P)
    (hz1 : ∀ s ∈ P.vars, s.size ≤ 1000000) (hz2 : ∀ s ∈ P.names, s.size ≤ 1000000) (hb : P.big = true) :
    Calls Tryz.prog 10 #[pval a1 a2 a3 c1 c2 c3 P] w fun e w' => Ext w w' ∧ ∃ (c : Nat) (p : Int), e = .returned (.agg #[.int .i64 (c : Int), .int .i64 p]) ∧ FaultIs P c p := by
  have HP0 := hid h
  have Hz1 := hid hz1
  have Hz2 := hid hz2
  have hml1 : (P.vars.length : Int) ≤ 9223372036854775807 := by
    obtain ⟨_, _, _, h2, h3, _⟩ := h.vars
    omega
  have hml2 := h.funs.len
  have hml3 := h.stmts.len
  obtain ⟨W2, hW2⟩ : ∃ W2, W2 = (w.alloc (.cells (pcells a1 a2 a3 c1 c2 c3 P) 26)).alloc (.cells #[.int .i64 0, .int .i64 0] 31) := ⟨_, rfl⟩
  have HW2 : Hid (Ext w W2) := hid (by rw [hW2]; exact ((Ext.refl _).alloc _).alloc _)
  have HB1 : Hid (Blk W2 w.heap.size (pcells a1 a2 a3 c1 c2 c3 P) 26) := hid (by rw [hW2]; exact (Blk.new _ _ _).alloc _)
  have HB2 : Hid (Blk W2 (w.heap.size + 1) #[.int .i64 0, .int .i64 0] 31) := hid (by
    rw [hW2]
    have := Blk.new (w.alloc (.cells (pcells a1 a2 a3 c1 c2 c3 P) 26)) #[.int .i64 0, .int .i64 0] 31
    rwa [heap_size_alloc] at this)
  have HP := hid (h.ext HW2.out)
  have HBa := fun (c : Nat) w1 => hid (rbare_any (c : Int) w1)
  unfold pcells at hW2
  have HWe := hid hW2
  clear h hW2 hz1 hz2
  unfold pval
  go_enter Tryz.func10, Tryz.ntmps10
  have Hf : Hid (FaultIs P 8 (-1)) := hid (by
    have h : P.err1 = 8 := by unfold PP.err1; rw [hb]; rfl
    exact .inl ⟨by rw [h]; decide, h.symm, rfl⟩)
  have hbb := hb
  unfold PP.big at hbb
  simp only [Bool.or_eq_true, decide_eq_true_eq] at hbb
  clear hb
  by_cases b1 : 40 < P.vars.length
  · clear hbb
    go_wp2_with fail
    rw [← HWe.out]
    refine (HBa 8 _).out.mono ?_
    intro e w8 hx8
    obtain ⟨rfl, hx8⟩ := hx8
    have HB8 := HB2.out.ext hx8
    have z0 := HB8.av 0 rfl
    have z1 := HB8.av 1 rfl
    have f0 := HB8.free 0
    have f1 := HB8.free 1
    have HBz := hid (two (v0 := (.int .i64 ((8 : Nat) : Int))) (v1 := (.int .i64 (-1))) HB8)
    have HKz := hid (two_keep w8 (w.heap.size + 1) (.int .i64 ((8 : Nat) : Int)) (.int .i64 (-1)))
    have hE := hid (Keep.new (HW2.out.trans hx8) HKz.out fun b hb => by omega)
    clear HB8
    go_wp2
    have c0 := HBz.out.av 0 rfl
    have c1' := HBz.out.av 1 rfl
    generalize ((w8.setCell ⟨w.heap.size + 1, 0, none⟩ (.int .i64 ((8 : Nat) : Int))).setCell ⟨w.heap.size + 1, 1, none⟩ (.int .i64 (-1))) = W10 at *
    exact bodyPost_ret (v := .agg #[(.int .i64 ((8 : Nat) : Int)), (.int .i64 (-1))]) (by simp [results, Tryz.results10, go_sem, c0, c1']) rfl ⟨hE.out, _, _, rfl, Hf.out⟩
  · by_cases b2 : 6 < P.funs.length
    · clear hbb
      go_wp2_with fail
      rw [← HWe.out]
      refine (HBa 8 _).out.mono ?_
      intro e w8 hx8
      obtain ⟨rfl, hx8⟩ := hx8
      have HB8 := HB2.out.ext hx8
      have z0 := HB8.av 0 rfl
      have z1 := HB8.av 1 rfl
      have f0 := HB8.free 0
      have f1 := HB8.free 1
      have HBz := hid (two (v0 := (.int .i64 ((8 : Nat) : Int))) (v1 := (.int .i64 (-1))) HB8)
      have HKz := hid (two_keep w8 (w.heap.size + 1) (.int .i64 ((8 : Nat) : Int)) (.int .i64 (-1)))
      have hE := hid (Keep.new (HW2.out.trans hx8) HKz.out fun b hb => by omega)
      clear HB8
      go_wp2
      have c0 := HBz.out.av 0 rfl
      have c1' := HBz.out.av 1 rfl
      generalize ((w8.setCell ⟨w.heap.size + 1, 0, none⟩ (.int .i64 ((8 : Nat) : Int))).setCell ⟨w.heap.size + 1, 1, none⟩ (.int .i64 (-1))) = W10 at *
      exact bodyPost_ret (v := .agg #[(.int .i64 ((8 : Nat) : Int)), (.int .i64 (-1))]) (by simp [results, Tryz.results10, go_sem, c0, c1']) rfl ⟨hE.out, _, _, rfl, Hf.out⟩
    · have b3 : 80 < P.stmts.length := by omega
      clear hbb
      go_wp2_with fail
      rw [← HWe.out]
      refine (HBa 8 _).out.mono ?_
      intro e w8 hx8
      obtain ⟨rfl, hx8⟩ := hx8
      have HB8 := HB2.out.ext hx8
      have z0 := HB8.av 0 rfl
      have z1 := HB8.av 1 rfl
      have f0 := HB8.free 0
      have f1 := HB8.free 1
      have HBz := hid (two (v0 := (.int .i64 ((8 : Nat) : Int))) (v1 := (.int .i64 (-1))) HB8)
      have HKz := hid (two_keep w8 (w.heap.size + 1) (.int .i64 ((8 : Nat) : Int)) (.int .i64 (-1)))
      have hE := hid (Keep.new (HW2.out.trans hx8) HKz.out fun b hb => by omega)
      clear HB8
      go_wp2
      have c0 := HBz.out.av 0 rfl
      have c1' := HBz.out.av 1 rfl
      generalize ((w8.setCell ⟨w.heap.size + 1, 0, none⟩ (.int .i64 ((8 : Nat) : Int))).setCell ⟨w.heap.size + 1, 1, none⟩ (.int .i64 (-1))) = W10 at *
      exact bodyPost_ret (v := .agg #[(.int .i64 ((8 : Nat) : Int)), (.int .i64 (-1))]) (by simp [results, Tryz.results10, go_sem, c0, c1']) rfl ⟨hE.out, _, _, rfl, Hf.out⟩
set_option maxRecDepth 100000 in
set_option maxHeartbeats 25600000 in
theorem rfprog_no (a1 a2 a3 : Option Addr) (c1 c2 c3 : Nat) (P : PP) (w : World) (h : ProgR w w.heap.size (.slice a1 P.vars.length c1) (.slice a2 P.funs.length c2) (.slice a3 P.stmts.length c3) P)
    (hz1 : ∀ s ∈ P.vars, s.size ≤ 1000000) (hz2 : ∀ s ∈ P.names, s.size ≤ 1000000) (hb : P.big = false) :
    Calls Tryz.prog 10 #[pval a1 a2 a3 c1 c2 c3 P] w fun e w' => Ext w w' ∧ ∃ (c : Nat) (p : Int), e = .returned (.agg #[.int .i64 (c : Int), .int .i64 p]) ∧ FaultIs P c p := by
  have HP0 := hid h
  have Hz1 := hid hz1
  have Hz2 := hid hz2
  have hml1 : (P.vars.length : Int) ≤ 9223372036854775807 := by
    obtain ⟨_, _, _, h2, h3, _⟩ := h.vars
    omega
  have hml2 := h.funs.len
  have hml3 := h.stmts.len
  obtain ⟨W2, hW2⟩ : ∃ W2, W2 = (w.alloc (.cells (pcells a1 a2 a3 c1 c2 c3 P) 26)).alloc (.cells #[.int .i64 0, .int .i64 0] 31) := ⟨_, rfl⟩
  have HW2 : Hid (Ext w W2) := hid (by rw [hW2]; exact ((Ext.refl _).alloc _).alloc _)
  have HB1 : Hid (Blk W2 w.heap.size (pcells a1 a2 a3 c1 c2 c3 P) 26) := hid (by rw [hW2]; exact (Blk.new _ _ _).alloc _)
  have HB2 : Hid (Blk W2 (w.heap.size + 1) #[.int .i64 0, .int .i64 0] 31) := hid (by
    rw [hW2]
    have := Blk.new (w.alloc (.cells (pcells a1 a2 a3 c1 c2 c3 P) 26)) #[.int .i64 0, .int .i64 0] 31
    rwa [heap_size_alloc] at this)
  have HP := hid (h.ext HW2.out)
  have HBa := fun (c : Nat) w1 => hid (rbare_any (c : Int) w1)
  unfold pcells at hW2
  have HWe := hid hW2
  clear h hW2 hz1 hz2
  unfold pval
  go_enter Tryz.func10, Tryz.ntmps10
  have HBig := hid hb
  have hbb := hb
  unfold PP.big at hbb
  simp only [Bool.or_eq_false_iff, decide_eq_false_iff_not] at hbb
  obtain ⟨⟨b1, b2⟩, b3⟩ := hbb
  clear hb
  go_wp2
  rw [← HWe.out]
  go_loopw [3] (fun t3 wr => ∃ k : Nat, t3 = .int .i64 (k : Int) ∧ k ≤ P.vars.length ∧ (∀ j s, j < k → P.vars[j]? = some s → nameOk s = true) ∧ Ext W2 wr) (fun t3 _ => P.vars.length - (intOf t3).toNat)
  case atStart => exact ⟨0, rfl, Nat.zero_le _, fun j s h => by omega, Ext.refl _⟩
  case round =>
    obtain ⟨k, rfl, hk, hp, hx⟩ := hrel
    have Hp := hid hp
    have Hx := hid hx
    clear hp hx
    have HBr := hid (HB1.out.ext Hx.out)
    have d0 := HBr.out.av 0 rfl
    have d1 := HBr.out.av 1 rfl
    have d2 := HBr.out.av 2 rfl
    simp only [pcells, qA0, qA1, qA2] at d0 d1 d2
    by_cases hlt : k < P.vars.length
    · obtain ⟨y, q, rfl, hq, hc⟩ := (HP.out.ext Hx.out).vars.atU hlt
      have HN := hid (risname_any q wr (by have := Hz1.out q (List.mem_of_getElem? hq); omega))
      have Hq := hid hq
      clear hq
      go_wp2_with fail
      refine HN.out.mono ?_
      intro e w1 hx1
      obtain ⟨rfl, rfl⟩ := hx1
      clear HN
      cases hn : nameOk q with
      | false =>
        have Hbad := hid (anyBad_of Hq.out hn)
        clear hn
        have Hf : Hid (FaultIs P 5 (-1)) := hid (by
          have h : P.err1 = 5 := by unfold PP.err1 namesErr; rw [HBig.out, Hbad.out]; simp
          exact .inl ⟨by rw [h]; decide, h.symm, rfl⟩)
        go_wp2_with fail
        refine (HBa 5 _).out.mono ?_
        intro e w8 hx8
        obtain ⟨rfl, hx8⟩ := hx8
        have HB8 := HB2.out.ext ((Hx.out).trans hx8)
        have z0 := HB8.av 0 rfl
        have z1 := HB8.av 1 rfl
        have f0 := HB8.free 0
        have f1 := HB8.free 1
        have HBz := hid (two (v0 := (.int .i64 ((5 : Nat) : Int))) (v1 := (.int .i64 (-1))) HB8)
        have HKz := hid (two_keep w8 (w.heap.size + 1) (.int .i64 ((5 : Nat) : Int)) (.int .i64 (-1)))
        have hE := hid (Keep.new (HW2.out.trans ((Hx.out).trans hx8)) HKz.out fun b hb => by omega)
        clear HB8
        go_wp2
        have c0 := HBz.out.av 0 rfl
        have c1' := HBz.out.av 1 rfl
        generalize ((w8.setCell ⟨w.heap.size + 1, 0, none⟩ (.int .i64 ((5 : Nat) : Int))).setCell ⟨w.heap.size + 1, 1, none⟩ (.int .i64 (-1))) = W10 at *
        exact bodyPost_ret (v := .agg #[(.int .i64 ((5 : Nat) : Int)), (.int .i64 (-1))]) (by simp [results, Tryz.results10, go_sem, c0, c1']) rfl ⟨hE.out, _, _, rfl, Hf.out⟩
      | true =>
        have Hn := hid hn
        clear hn
        go_wp2
        go_roundw
        case rel =>
          refine ⟨k + 1, by go_num, by omega, fun j s hj hs => ?_, Hx.out⟩
          by_cases hjk : j = k
          · subst hjk
            obtain rfl := Option.some.inj (Hq.out.symm.trans hs)
            exact Hn.out
          · exact Hp.out j s (by omega) hs
        case measure => simp [intOf]; omega
    · obtain rfl : k = P.vars.length := by omega
      have HV := hid (anyBad_no Hp.out)
      clear Hp
      go_wp2
      clear d0 d1 d2 HBr
      go_loopw [5] (fun t5 wr => ∃ k : Nat, t5 = .int .i64 (k : Int) ∧ k ≤ P.funs.length ∧ (∀ j s, j < k → P.names[j]? = some s → nameOk s = true) ∧ Ext W2 wr) (fun t5 _ => P.funs.length - (intOf t5).toNat)
      case atStart => exact ⟨0, rfl, Nat.zero_le _, fun j s h => by omega, Hx.out⟩
      case round =>
        clear Hx
        obtain ⟨k, rfl, hk, hp, hx⟩ := hrel
        have Hp := hid hp
        have Hx := hid hx
        clear hp hx
        have HBr := hid (HB1.out.ext Hx.out)
        have d0 := HBr.out.av 0 rfl
        have d1 := HBr.out.av 1 rfl
        have d2 := HBr.out.av 2 rfl
        simp only [pcells, qA0, qA1, qA2] at d0 d1 d2
        by_cases hlt : k < P.funs.length
        · obtain ⟨y, f, av, cv, rfl, hq, e0, e1, e2, _⟩ := (HP.out.ext Hx.out).funs.at hlt
          have hqn : P.names[k]? = some f.name := by unfold PP.names; rw [List.getElem?_map, hq]; rfl
          have HN := hid (risname_any f.name wr (by have := Hz2.out f.name (List.mem_of_getElem? hqn); omega))
          have Hq := hid hqn
          clear hq hqn e1 e2
          go_wp2_with fail
          refine HN.out.mono ?_
          intro e w1 hx1
          obtain ⟨rfl, rfl⟩ := hx1
          clear HN
          cases hn : nameOk f.name with
          | false =>
            have Hbad := hid (anyBad_of Hq.out hn)
            clear hn
            have Hf : Hid (FaultIs P 5 (-1)) := hid (by
              have h : P.err1 = 5 := by unfold PP.err1 namesErr; rw [HBig.out, HV.out, Hbad.out]; simp
              exact .inl ⟨by rw [h]; decide, h.symm, rfl⟩)
            go_wp2_with fail
            refine (HBa 5 _).out.mono ?_
            intro e w8 hx8
            obtain ⟨rfl, hx8⟩ := hx8
            have HB8 := HB2.out.ext ((Hx.out).trans hx8)
            have z0 := HB8.av 0 rfl
            have z1 := HB8.av 1 rfl
            have f0 := HB8.free 0
            have f1 := HB8.free 1
            have HBz := hid (two (v0 := (.int .i64 ((5 : Nat) : Int))) (v1 := (.int .i64 (-1))) HB8)
            have HKz := hid (two_keep w8 (w.heap.size + 1) (.int .i64 ((5 : Nat) : Int)) (.int .i64 (-1)))
            have hE := hid (Keep.new (HW2.out.trans ((Hx.out).trans hx8)) HKz.out fun b hb => by omega)
            clear HB8
            go_wp2
            have c0 := HBz.out.av 0 rfl
            have c1' := HBz.out.av 1 rfl
            generalize ((w8.setCell ⟨w.heap.size + 1, 0, none⟩ (.int .i64 ((5 : Nat) : Int))).setCell ⟨w.heap.size + 1, 1, none⟩ (.int .i64 (-1))) = W10 at *
            exact bodyPost_ret (v := .agg #[(.int .i64 ((5 : Nat) : Int)), (.int .i64 (-1))]) (by simp [results, Tryz.results10, go_sem, c0, c1']) rfl ⟨hE.out, _, _, rfl, Hf.out⟩
          | true =>
            have Hn := hid hn
            clear hn
            go_wp2
            go_roundw
            case rel =>
              refine ⟨k + 1, by go_num, by omega, fun j s hj hs => ?_, Hx.out⟩
              by_cases hjk : j = k
              · subst hjk
                obtain rfl := Option.some.inj (Hq.out.symm.trans hs)
                exact Hn.out
              · exact Hp.out j s (by omega) hs
            case measure => simp [intOf]; omega
        · obtain rfl : k = P.funs.length := by omega
          have HF := hid (anyBad_no (l := P.names) (fun j s hj hs => Hp.out j s (by simpa [PP.names] using hj) hs))
          clear Hp
          go_wp2
          clear d0 d1 d2 HBr
          go_loopw [7] (fun t7 wr => ∃ i : Nat, t7 = .int .i64 (i : Int) ∧ i ≤ P.vars.length ∧ (∀ (a b : Nat) (s t : ByteArray), a < i → b < a → P.vars[a]? = some s → P.vars[b]? = some t → eqB s t = false) ∧ Ext W2 wr) (fun t7 _ => P.vars.length - (intOf t7).toNat)
          case atStart => exact ⟨0, rfl, Nat.zero_le _, fun a b s t h => by omega, Hx.out⟩
          case round =>
            clear Hx
            obtain ⟨i, rfl, hi, hp, hx⟩ := hrel
            have Hp := hid hp
            have Hx := hid hx
            clear hp hx
            have HBr := hid (HB1.out.ext Hx.out)
            have d0 := HBr.out.av 0 rfl
            have d1 := HBr.out.av 1 rfl
            have d2 := HBr.out.av 2 rfl
            simp only [pcells, qA0, qA1, qA2] at d0 d1 d2
            by_cases hli : i < P.vars.length
            · obtain ⟨yi, qi, rfl, hqi, _⟩ := (HP.out.ext Hx.out).vars.atU hli
              have Hqi := hid hqi
              clear hqi
              go_wp2
              clear d0 d1 d2 HBr
              go_loopw [8] (fun t8 wr => ∃ k : Nat, t8 = .int .i64 (k : Int) ∧ k ≤ i ∧ (∀ (b : Nat) (t : ByteArray), b < k → P.vars[b]? = some t → eqB qi t = false) ∧ Ext W2 wr) (fun t8 _ => i - (intOf t8).toNat)
              case atStart => exact ⟨0, rfl, Nat.zero_le _, fun b t h => by omega, Hx.out⟩
              case round =>
                clear Hx
                obtain ⟨k, rfl, hk, hpk, hx⟩ := hrel
                have Hpk := hid hpk
                have Hx := hid hx
                clear hpk hx
                by_cases hlt : k < i
                · obtain ⟨y, q, hy, hq, hc⟩ := (HP.out.ext Hx.out).vars.atU (show k < P.vars.length by omega)
                  obtain rfl := Option.some.inj hy
                  obtain ⟨y2, q2, hy2, hq2, hc2⟩ := (HP.out.ext Hx.out).vars.atU hli
                  obtain rfl := Option.some.inj hy2
                  obtain rfl : q2 = qi := Option.some.inj (hq2.symm.trans Hqi.out)
                  have hcK : ∀ w1, Keep (fun _ => False) wr w1 → w1.cell? (yi.add k) = some (.string q) := fun w1 k => k.ext.cellx hc
                  have hcI : ∀ w1, Keep (fun _ => False) wr w1 → w1.cell? (yi.add i) = some (.string q2) := fun w1 k => k.ext.cellx hc2
                  have dk := (HB1.out.ext Hx.out).kc (X := fun _ => False) (fun e => e) 0 rfl
                  simp only [pcells, qA0, qA1, qA2] at dk
                  have Hq := hid hq
                  clear hq hc hc2 hq2 hy hy2
                  cases he : eqB q2 q with
                  | true =>
                    have Hd := hid (dupS_of hlt Hqi.out Hq.out he)
                    rw [eqB_comm] at he
                    go_wp2
                    refine wp_flowT (fun _ => False) (by kernel_rfl) (by kernel_rfl) ?_
                    repeat (apply FlowT.d; (intro w1 hk; unfold does; go_simp; (try go_ints); (first | exact DetR.mk | (simp only [↓IntWalk.iteOmega, Oper.doesUpon_value]; exact DetR.mk) | (simp only [↓IntWalk.iteOmega]; go_simp; (try go_ints); exact DetR.mk))); simp only [Act.put, qS0, qS1, qS2])
                    refine FlowT.fin fun w7 hx7 hk7 => ?_
                    have Hx7 := hid (Hx.out.trans hx7)
                    clear hx7 hk7 hcK hcI dk he
                    have Hf : Hid (FaultIs P 7 (-1)) := hid (by
                      have h : P.err1 = 7 := by unfold PP.err1 namesErr; rw [HBig.out, HV.out, HF.out, Hd.out]; cases dupS P.names <;> simp
                      exact .inl ⟨by rw [h]; decide, h.symm, rfl⟩)
                    go_wp2_with fail
                    refine (HBa 7 _).out.mono ?_
                    intro e w8 hx8
                    obtain ⟨rfl, hx8⟩ := hx8
                    have HB8 := HB2.out.ext ((Hx7.out).trans hx8)
                    have z0 := HB8.av 0 rfl
                    have z1 := HB8.av 1 rfl
                    have f0 := HB8.free 0
                    have f1 := HB8.free 1
                    have HBz := hid (two (v0 := (.int .i64 ((7 : Nat) : Int))) (v1 := (.int .i64 (-1))) HB8)
                    have HKz := hid (two_keep w8 (w.heap.size + 1) (.int .i64 ((7 : Nat) : Int)) (.int .i64 (-1)))
                    have hE := hid (Keep.new (HW2.out.trans ((Hx7.out).trans hx8)) HKz.out fun b hb => by omega)
                    clear HB8
                    go_wp2
                    have c0 := HBz.out.av 0 rfl
                    have c1' := HBz.out.av 1 rfl
                    generalize ((w8.setCell ⟨w.heap.size + 1, 0, none⟩ (.int .i64 ((7 : Nat) : Int))).setCell ⟨w.heap.size + 1, 1, none⟩ (.int .i64 (-1))) = W10 at *
                    exact bodyPost_ret (v := .agg #[(.int .i64 ((7 : Nat) : Int)), (.int .i64 (-1))]) (by simp [results, Tryz.results10, go_sem, c0, c1']) rfl ⟨hE.out, _, _, rfl, Hf.out⟩
                  | false =>
                    have He := hid he
                    rw [eqB_comm] at he
                    go_wp2
                    refine wp_flowT (fun _ => False) (by kernel_rfl) (by kernel_rfl) ?_
                    repeat (apply FlowT.d; (intro w1 hk; unfold does; go_simp; (try go_ints); (first | exact DetR.mk | (simp only [↓IntWalk.iteOmega, Oper.doesUpon_value]; exact DetR.mk) | (simp only [↓IntWalk.iteOmega]; go_simp; (try go_ints); exact DetR.mk))); simp only [Act.put, qS0, qS1, qS2])
                    refine FlowT.fin fun w7 hx7 hk7 => ?_
                    have Hx7 := hid (Hx.out.trans hx7)
                    clear hx7 hk7 hcK hcI dk he
                    go_wp2
                    go_roundw
                    case rel =>
                      refine ⟨k + 1, by go_num, by omega, fun b t hb ht => ?_, Hx7.out⟩
                      by_cases hjk : b = k
                      · subst hjk
                        obtain rfl := Option.some.inj (Hq.out.symm.trans ht)
                        exact He.out
                      · exact Hpk.out b t (by omega) ht
                    case measure => simp [intOf]; omega
                · obtain rfl : k = i := by omega
                  go_wp2
                  go_roundw
                  case rel =>
                    refine ⟨k + 1, by go_num, by omega, fun a b s t ha hb hs ht => ?_, Hx.out⟩
                    by_cases hjk : a = k
                    · subst hjk
                      obtain rfl := Option.some.inj (Hqi.out.symm.trans hs)
                      exact Hpk.out b t hb ht
                    · exact Hp.out a b s t (by omega) hb hs ht
                  case measure => simp [intOf]; omega
            · obtain rfl : i = P.vars.length := by omega
              have HDv := hid (dupS_no (l := P.vars) fun a b s t ha hb hs ht => Hp.out a b s t ha hb hs ht)
              clear Hp
              go_wp2
              clear d0 d1 d2 HBr
              go_loopw [9] (fun t9 wr => ∃ i : Nat, t9 = .int .i64 (i : Int) ∧ i ≤ P.funs.length ∧ (∀ (a b : Nat) (s t : ByteArray), a < i → b < a → P.names[a]? = some s → P.names[b]? = some t → eqB s t = false) ∧ Ext W2 wr) (fun t9 _ => P.funs.length - (intOf t9).toNat)
              case atStart => exact ⟨0, rfl, Nat.zero_le _, fun a b s t h => by omega, Hx.out⟩
              case round =>
                clear Hx
                obtain ⟨i, rfl, hi, hp, hx⟩ := hrel
                have Hp := hid hp
                have Hx := hid hx
                clear hp hx
                have HBr := hid (HB1.out.ext Hx.out)
                have d0 := HBr.out.av 0 rfl
                have d1 := HBr.out.av 1 rfl
                have d2 := HBr.out.av 2 rfl
                simp only [pcells, qA0, qA1, qA2] at d0 d1 d2
                by_cases hli : i < P.funs.length
                · obtain ⟨yi, qi, _, _, rfl, hqi, _⟩ := (HP.out.ext Hx.out).funs.at hli
                  have Hqf := hid hqi
                  have Hqi := hid (show P.names[i]? = some qi.name by unfold PP.names; rw [List.getElem?_map, hqi]; rfl)
                  clear hqi
                  go_wp2
                  clear d0 d1 d2 HBr
                  go_loopw [10] (fun t10 wr => ∃ k : Nat, t10 = .int .i64 (k : Int) ∧ k ≤ i ∧ (∀ (b : Nat) (t : ByteArray), b < k → P.names[b]? = some t → eqB qi.name t = false) ∧ Ext W2 wr) (fun t10 _ => i - (intOf t10).toNat)
                  case atStart => exact ⟨0, rfl, Nat.zero_le _, fun b t h => by omega, Hx.out⟩
                  case round =>
                    clear Hx
                    obtain ⟨k, rfl, hk, hpk, hx⟩ := hrel
                    have Hpk := hid hpk
                    have Hx := hid hx
                    clear hpk hx
                    by_cases hlt : k < i
                    · obtain ⟨y, q, _, _, hy, hqf, hc, _⟩ := (HP.out.ext Hx.out).funs.at (show k < P.funs.length by omega)
                      obtain rfl := Option.some.inj hy
                      obtain ⟨y2, q2, _, _, hy2, hq2, hc2, _⟩ := (HP.out.ext Hx.out).funs.at hli
                      obtain rfl := Option.some.inj hy2
                      obtain rfl : q2 = qi := Option.some.inj (hq2.symm.trans Hqf.out)
                      have hq : P.names[k]? = some q.name := by unfold PP.names; rw [List.getElem?_map, hqf]; rfl
                      have hcK : ∀ w1, Keep (fun _ => False) wr w1 → w1.cell? (yi.add (k * 3)) = some (.string q.name) := fun w1 k => k.ext.cellx hc
                      have hcI : ∀ w1, Keep (fun _ => False) wr w1 → w1.cell? (yi.add (i * 3)) = some (.string q2.name) := fun w1 k => k.ext.cellx hc2
                      have dk := (HB1.out.ext Hx.out).kc (X := fun _ => False) (fun e => e) 1 rfl
                      simp only [pcells, qA0, qA1, qA2] at dk
                      have Hq := hid hq
                      clear hq hqf hc hc2 hq2 hy hy2
                      cases he : eqB q2.name q.name with
                      | true =>
                        have Hd := hid (dupS_of hlt Hqi.out Hq.out he)
                        rw [eqB_comm] at he
                        go_wp2
                        refine wp_flowT (fun _ => False) (by kernel_rfl) (by kernel_rfl) ?_
                        repeat (apply FlowT.d; (intro w1 hk; unfold does; go_simp; (try go_ints); (first | exact DetR.mk | (simp only [↓IntWalk.iteOmega, Oper.doesUpon_value]; exact DetR.mk) | (simp only [↓IntWalk.iteOmega]; go_simp; (try go_ints); exact DetR.mk))); simp only [Act.put, qS0, qS1, qS2])
                        refine FlowT.fin fun w7 hx7 hk7 => ?_
                        have Hx7 := hid (Hx.out.trans hx7)
                        clear hx7 hk7 hcK hcI dk he
                        have Hf : Hid (FaultIs P 7 (-1)) := hid (by
                          have h : P.err1 = 7 := by unfold PP.err1 namesErr; rw [HBig.out, HV.out, HF.out, Hd.out]; cases dupS P.vars <;> simp
                          exact .inl ⟨by rw [h]; decide, h.symm, rfl⟩)
                        go_wp2_with fail
                        refine (HBa 7 _).out.mono ?_
                        intro e w8 hx8
                        obtain ⟨rfl, hx8⟩ := hx8
                        have HB8 := HB2.out.ext ((Hx7.out).trans hx8)
                        have z0 := HB8.av 0 rfl
                        have z1 := HB8.av 1 rfl
                        have f0 := HB8.free 0
                        have f1 := HB8.free 1
                        have HBz := hid (two (v0 := (.int .i64 ((7 : Nat) : Int))) (v1 := (.int .i64 (-1))) HB8)
                        have HKz := hid (two_keep w8 (w.heap.size + 1) (.int .i64 ((7 : Nat) : Int)) (.int .i64 (-1)))
                        have hE := hid (Keep.new (HW2.out.trans ((Hx7.out).trans hx8)) HKz.out fun b hb => by omega)
                        clear HB8
                        go_wp2
                        have c0 := HBz.out.av 0 rfl
                        have c1' := HBz.out.av 1 rfl
                        generalize ((w8.setCell ⟨w.heap.size + 1, 0, none⟩ (.int .i64 ((7 : Nat) : Int))).setCell ⟨w.heap.size + 1, 1, none⟩ (.int .i64 (-1))) = W10 at *
                        exact bodyPost_ret (v := .agg #[(.int .i64 ((7 : Nat) : Int)), (.int .i64 (-1))]) (by simp [results, Tryz.results10, go_sem, c0, c1']) rfl ⟨hE.out, _, _, rfl, Hf.out⟩
                      | false =>
                        have He := hid he
                        rw [eqB_comm] at he
                        go_wp2
                        refine wp_flowT (fun _ => False) (by kernel_rfl) (by kernel_rfl) ?_
                        repeat (apply FlowT.d; (intro w1 hk; unfold does; go_simp; (try go_ints); (first | exact DetR.mk | (simp only [↓IntWalk.iteOmega, Oper.doesUpon_value]; exact DetR.mk) | (simp only [↓IntWalk.iteOmega]; go_simp; (try go_ints); exact DetR.mk))); simp only [Act.put, qS0, qS1, qS2])
                        refine FlowT.fin fun w7 hx7 hk7 => ?_
                        have Hx7 := hid (Hx.out.trans hx7)
                        clear hx7 hk7 hcK hcI dk he
                        go_wp2
                        go_roundw
                        case rel =>
                          refine ⟨k + 1, by go_num, by omega, fun b t hb ht => ?_, Hx7.out⟩
                          by_cases hjk : b = k
                          · subst hjk
                            obtain rfl := Option.some.inj (Hq.out.symm.trans ht)
                            exact He.out
                          · exact Hpk.out b t (by omega) ht
                        case measure => simp [intOf]; omega
                    · obtain rfl : k = i := by omega
                      go_wp2
                      go_roundw
                      case rel =>
                        refine ⟨k + 1, by go_num, by omega, fun a b s t ha hb hs ht => ?_, Hx.out⟩
                        by_cases hjk : a = k
                        · subst hjk
                          obtain rfl := Option.some.inj (Hqi.out.symm.trans hs)
                          exact Hpk.out b t hb ht
                        · exact Hp.out a b s t (by omega) hb hs ht
                      case measure => simp [intOf]; omega
                · obtain rfl : i = P.funs.length := by omega
                  have HDf := hid (dupS_no (l := P.names) fun a b s t ha hb hs ht => Hp.out a b s t (by simpa [PP.names] using ha) hb hs ht)
                  have H1 := hid (show P.err1 = P.funsErr by unfold PP.err1 namesErr; rw [HBig.out, HV.out, HF.out, HDv.out, HDf.out]; simp)
                  clear Hp
                  go_wp2
                  clear d0 d1 d2 HBr
                  go_loopw [11] (fun t11 wr => ∃ k : Nat, t11 = .int .i64 (k : Int) ∧ k ≤ P.funs.length ∧ (∀ j f, j < k → P.funs[j]? = some f → bad9 f = false) ∧ Ext W2 wr) (fun t11 _ => P.funs.length - (intOf t11).toNat)
                  case atStart => exact ⟨0, rfl, Nat.zero_le _, fun j s h => by omega, Hx.out⟩
                  case round =>
                    clear Hx
                    obtain ⟨k, rfl, hk, hp, hx⟩ := hrel
                    have Hp := hid hp
                    have Hx := hid hx
                    clear hp hx
                    have HBr := hid (HB1.out.ext Hx.out)
                    have d0 := HBr.out.av 0 rfl
                    have d1 := HBr.out.av 1 rfl
                    have d2 := HBr.out.av 2 rfl
                    simp only [pcells, qA0, qA1, qA2] at d0 d1 d2
                    by_cases hlt : k < P.funs.length
                    · obtain ⟨y, f, av, cv, rfl, hq, e0, e1, e2, _⟩ := (HP.out.ext Hx.out).funs.at hlt
                      have Hq := hid hq
                      clear hq e0 e2
                      by_cases h3 : 3 < f.params.length
                      · have Hb := hid (show P.funsErr = 9 by unfold PP.funsErr; rw [List.any_eq_true.2 ⟨f, List.mem_of_getElem? Hq.out, show bad9 f = true by unfold bad9; exact decide_eq_true h3⟩]; rfl)
                        have Hf : Hid (FaultIs P 9 (-1)) := hid (by
                          have h : P.err1 = 9 := H1.out.trans Hb.out
                          exact .inl ⟨by rw [h]; decide, h.symm, rfl⟩)
                        go_wp2_with fail
                        refine (HBa 9 _).out.mono ?_
                        intro e w8 hx8
                        obtain ⟨rfl, hx8⟩ := hx8
                        have HB8 := HB2.out.ext ((Hx.out).trans hx8)
                        have z0 := HB8.av 0 rfl
                        have z1 := HB8.av 1 rfl
                        have f0 := HB8.free 0
                        have f1 := HB8.free 1
                        have HBz := hid (two (v0 := (.int .i64 ((9 : Nat) : Int))) (v1 := (.int .i64 (-1))) HB8)
                        have HKz := hid (two_keep w8 (w.heap.size + 1) (.int .i64 ((9 : Nat) : Int)) (.int .i64 (-1)))
                        have hE := hid (Keep.new (HW2.out.trans ((Hx.out).trans hx8)) HKz.out fun b hb => by omega)
                        clear HB8
                        go_wp2
                        have c0 := HBz.out.av 0 rfl
                        have c1' := HBz.out.av 1 rfl
                        generalize ((w8.setCell ⟨w.heap.size + 1, 0, none⟩ (.int .i64 ((9 : Nat) : Int))).setCell ⟨w.heap.size + 1, 1, none⟩ (.int .i64 (-1))) = W10 at *
                        exact bodyPost_ret (v := .agg #[(.int .i64 ((9 : Nat) : Int)), (.int .i64 (-1))]) (by simp [results, Tryz.results10, go_sem, c0, c1']) rfl ⟨hE.out, _, _, rfl, Hf.out⟩
                      · have Hb := hid (show bad9 f = false by unfold bad9; exact decide_eq_false h3)
                        go_wp2
                        go_roundw
                        case rel =>
                          refine ⟨k + 1, by go_num, by omega, fun j s hj hs => ?_, Hx.out⟩
                          by_cases hjk : j = k
                          · subst hjk
                            obtain rfl := Option.some.inj (Hq.out.symm.trans hs)
                            exact Hb.out
                          · exact Hp.out j s (by omega) hs
                        case measure => simp [intOf]; omega
                    · obtain rfl : k = P.funs.length := by omega
                      have H9 := hid (any_noU (l := P.funs) (p := bad9) Hp.out)
                      clear Hp
                      go_wp2
                      clear d0 d1 d2 HBr
                      go_loopw [12] (fun t12 wr => ∃ k : Nat, t12 = .int .i64 (k : Int) ∧ k ≤ P.funs.length ∧ (∀ j f, j < k → P.funs[j]? = some f → P.bad2 f = false) ∧ Ext W2 wr) (fun t12 _ => P.funs.length - (intOf t12).toNat)
                      case atStart => exact ⟨0, rfl, Nat.zero_le _, fun j s h => by omega, Hx.out⟩
                      case round =>
                        clear Hx
                        obtain ⟨k, rfl, hk, hp, hx⟩ := hrel
                        have Hp := hid hp
                        have Hx := hid hx
                        clear hp hx
                        have HBr := hid (HB1.out.ext Hx.out)
                        have d0 := HBr.out.av 0 rfl
                        have d1 := HBr.out.av 1 rfl
                        have d2 := HBr.out.av 2 rfl
                        simp only [pcells, qA0, qA1, qA2] at d0 d1 d2
                        by_cases hlt : k < P.funs.length
                        · obtain ⟨y, f, av, cv, rfl, hq, e0, e1, e2, hI⟩ := (HP.out.ext Hx.out).funs.at hlt
                          have Hq := hid hq
                          have HIp := hid hI
                          have g1 : ∀ w1, Keep (fun _ => False) wr w1 → w1.cell? ⟨(y.add (k * 3)).block, (y.add (k * 3)).off + 1, none⟩ = some (.slice av f.params.length cv) := fun w1 k => k.ext.cellx e1
                          have He2 := hid e2
                          have m0 := HBr.out.kc (X := fun _ => False) (fun e => e) 0 rfl
                          have m1 := HBr.out.kc (X := fun _ => False) (fun e => e) 1 rfl
                          have m2 := HBr.out.kc (X := fun _ => False) (fun e => e) 2 rfl
                          simp only [pcells, qA0, qA1, qA2] at m0 m1 m2
                          have HA := fun w1 (x : Ext wr w1) => hid (rarevars_any a1 (some y) a3 c1 c2 c3 P (.slice av f.params.length cv) f.params w1 w.heap.size (HIp.out.old (x.old _)))
                          have HV2 := fun w1 => hid (risvar_any a1 (some y) a3 c1 c2 c3 P f.ret w1)
                          unfold pval at HA HV2
                          clear hq e0 e1 e2 hI
                          go_wp2
                          refine wp_flowT (fun _ => False) (by kernel_rfl) (by kernel_rfl) ?_
                          repeat (apply FlowT.d; (intro w1 hk; unfold does; go_simp; (try go_ints); (first | exact DetR.mk | (simp only [↓IntWalk.iteOmega, Oper.doesUpon_value]; exact DetR.mk) | (simp only [↓IntWalk.iteOmega]; go_simp; (try go_ints); exact DetR.mk))); simp only [Act.put, qS0, qS1, qS2])
                          apply FlowT.d
                          · intro w1 hk
                            unfold does
                            go_simp
                            exact CallR.det ((HA w1 hk.ext).out)
                          simp only [Act.put, qS0, qS1, qS2]
                          repeat (apply FlowT.d; (intro w1 hk; unfold does; go_simp; (try go_ints); (first | exact DetR.mk | (simp only [↓IntWalk.iteOmega, Oper.doesUpon_value]; exact DetR.mk) | (simp only [↓IntWalk.iteOmega]; go_simp; (try go_ints); exact DetR.mk))); simp only [Act.put, qS0, qS1, qS2])
                          refine FlowT.fin fun w7 hx7 hk7 => ?_
                          have Hx7 := hid (Hx.out.trans hx7)
                          have g2 : ∀ w1, Keep (fun _ => False) w7 w1 → w1.cell? ⟨(y.add (k * 3)).block, (y.add (k * 3)).off + 2, none⟩ = some (.int .i64 f.ret) := fun w1 k => (hx7.trans k.ext).cellx He2.out
                          replace m0 := fun w1 (k : Keep (fun _ => False) w7 w1) => m0 w1 ((hx7.keep _).trans k)
                          replace m1 := fun w1 (k : Keep (fun _ => False) w7 w1) => m1 w1 ((hx7.keep _).trans k)
                          replace m2 := fun w1 (k : Keep (fun _ => False) w7 w1) => m2 w1 ((hx7.keep _).trans k)
                          clear hx7 hk7 g1 HA d0 d1 d2
                          go_wp2
                          refine wp_flowT (fun _ => False) (by kernel_rfl) (by kernel_rfl) ?_
                          repeat (apply FlowT.d; (intro w1 hk; unfold does; go_simp; (try go_ints); (first | exact DetR.mk | (simp only [↓IntWalk.iteOmega, Oper.doesUpon_value]; exact DetR.mk) | (simp only [↓IntWalk.iteOmega]; go_simp; (try go_ints); exact DetR.mk))); simp only [Act.put, qS0, qS1, qS2])
                          apply FlowT.d
                          · intro w1 hk
                            unfold does
                            go_simp
                            exact CallR.det ((HV2 w1).out)
                          simp only [Act.put, qS0, qS1, qS2]
                          repeat (apply FlowT.d; (intro w1 hk; unfold does; go_simp; (try go_ints); (first | exact DetR.mk | (simp only [↓IntWalk.iteOmega, Oper.doesUpon_value]; exact DetR.mk) | (simp only [↓IntWalk.iteOmega]; go_simp; (try go_ints); exact DetR.mk))); simp only [Act.put, qS0, qS1, qS2])
                          refine FlowT.fin fun w9 hx9 hk9 => ?_
                          have Hx9 := hid (Hx7.out.trans hx9)
                          clear hx9 hk9 g2 HV2 m0 m1 m2
                          cases ha : P.allV f.params with
                          | false =>
                            have Hb := hid (show P.funsErr = 2 by unfold PP.funsErr; rw [H9.out, List.any_eq_true.2 ⟨f, List.mem_of_getElem? Hq.out, show P.bad2 f = true by unfold PP.bad2; rw [ha]; rfl⟩]; rfl)
                            clear ha
                            have Hf : Hid (FaultIs P 2 (-1)) := hid (by
                              have h : P.err1 = 2 := H1.out.trans Hb.out
                              exact .inl ⟨by rw [h]; decide, h.symm, rfl⟩)
                            go_wp2_with fail
                            refine (HBa 2 _).out.mono ?_
                            intro e w8 hx8
                            obtain ⟨rfl, hx8⟩ := hx8
                            have HB8 := HB2.out.ext ((Hx9.out).trans hx8)
                            have z0 := HB8.av 0 rfl
                            have z1 := HB8.av 1 rfl
                            have f0 := HB8.free 0
                            have f1 := HB8.free 1
                            have HBz := hid (two (v0 := (.int .i64 ((2 : Nat) : Int))) (v1 := (.int .i64 (-1))) HB8)
                            have HKz := hid (two_keep w8 (w.heap.size + 1) (.int .i64 ((2 : Nat) : Int)) (.int .i64 (-1)))
                            have hE := hid (Keep.new (HW2.out.trans ((Hx9.out).trans hx8)) HKz.out fun b hb => by omega)
                            clear HB8
                            go_wp2
                            have c0 := HBz.out.av 0 rfl
                            have c1' := HBz.out.av 1 rfl
                            generalize ((w8.setCell ⟨w.heap.size + 1, 0, none⟩ (.int .i64 ((2 : Nat) : Int))).setCell ⟨w.heap.size + 1, 1, none⟩ (.int .i64 (-1))) = W10 at *
                            exact bodyPost_ret (v := .agg #[(.int .i64 ((2 : Nat) : Int)), (.int .i64 (-1))]) (by simp [results, Tryz.results10, go_sem, c0, c1']) rfl ⟨hE.out, _, _, rfl, Hf.out⟩
                          | true =>
                            have Ha := hid ha
                            clear ha
                            cases hv : P.inV f.ret with
                            | false =>
                              have Hb := hid (show P.funsErr = 2 by unfold PP.funsErr; rw [H9.out, List.any_eq_true.2 ⟨f, List.mem_of_getElem? Hq.out, show P.bad2 f = true by unfold PP.bad2; rw [hv]; simp⟩]; rfl)
                              clear hv
                              have Hf : Hid (FaultIs P 2 (-1)) := hid (by
                                have h : P.err1 = 2 := H1.out.trans Hb.out
                                exact .inl ⟨by rw [h]; decide, h.symm, rfl⟩)
                              go_wp2_with fail
                              refine (HBa 2 _).out.mono ?_
                              intro e w8 hx8
                              obtain ⟨rfl, hx8⟩ := hx8
                              have HB8 := HB2.out.ext ((Hx9.out).trans hx8)
                              have z0 := HB8.av 0 rfl
                              have z1 := HB8.av 1 rfl
                              have f0 := HB8.free 0
                              have f1 := HB8.free 1
                              have HBz := hid (two (v0 := (.int .i64 ((2 : Nat) : Int))) (v1 := (.int .i64 (-1))) HB8)
                              have HKz := hid (two_keep w8 (w.heap.size + 1) (.int .i64 ((2 : Nat) : Int)) (.int .i64 (-1)))
                              have hE := hid (Keep.new (HW2.out.trans ((Hx9.out).trans hx8)) HKz.out fun b hb => by omega)
                              clear HB8
                              go_wp2
                              have c0 := HBz.out.av 0 rfl
                              have c1' := HBz.out.av 1 rfl
                              generalize ((w8.setCell ⟨w.heap.size + 1, 0, none⟩ (.int .i64 ((2 : Nat) : Int))).setCell ⟨w.heap.size + 1, 1, none⟩ (.int .i64 (-1))) = W10 at *
                              exact bodyPost_ret (v := .agg #[(.int .i64 ((2 : Nat) : Int)), (.int .i64 (-1))]) (by simp [results, Tryz.results10, go_sem, c0, c1']) rfl ⟨hE.out, _, _, rfl, Hf.out⟩
                            | true =>
                              have Hb := hid (show P.bad2 f = false by unfold PP.bad2; rw [Ha.out, hv]; rfl)
                              clear hv
                              go_wp2
                              go_roundw
                              case rel =>
                                refine ⟨k + 1, by go_num, by omega, fun j s hj hs => ?_, Hx9.out⟩
                                by_cases hjk : j = k
                                · subst hjk
                                  obtain rfl := Option.some.inj (Hq.out.symm.trans hs)
                                  exact Hb.out
                                · exact Hp.out j s (by omega) hs
                              case measure => simp [intOf]; omega
                        · obtain rfl : k = P.funs.length := by omega
                          have HG2 := hid (any_noU (l := P.funs) (p := P.bad2) Hp.out)
                          clear Hp
                          go_wp2
                          clear d0 d1 d2 HBr
                          go_loopw [15] (fun t15 wr => ∃ i : Nat, t15 = .int .i64 (i : Int) ∧ i ≤ P.funs.length ∧ (∀ j f, j < i → P.funs[j]? = some f → bad7 f = false) ∧ Ext W2 wr) (fun t15 _ => P.funs.length - (intOf t15).toNat)
                          case atStart => exact ⟨0, rfl, Nat.zero_le _, fun j s h => by omega, Hx.out⟩
                          case round =>
                            clear Hx
                            obtain ⟨i, rfl, hi, hp, hx⟩ := hrel
                            have Hp := hid hp
                            have Hx := hid hx
                            clear hp hx
                            have HBr := hid (HB1.out.ext Hx.out)
                            have d0 := HBr.out.av 0 rfl
                            have d1 := HBr.out.av 1 rfl
                            have d2 := HBr.out.av 2 rfl
                            simp only [pcells, qA0, qA1, qA2] at d0 d1 d2
                            by_cases hli : i < P.funs.length
                            · obtain ⟨y, f, av, cv, rfl, hq, e0, e1, e2, hI⟩ := (HP.out.ext Hx.out).funs.at hli
                              have Hq := hid hq
                              have HIp := hid hI
                              have hcv : f.params.length ≤ cv ∧ (cv : Int) ≤ 9223372036854775807 := by
                                obtain ⟨_, _, h1, h2, h3, _⟩ := hI
                                simp only [Value.slice.injEq] at h1
                                obtain ⟨_, _, rfl⟩ := h1
                                exact ⟨h2, h3⟩
                              obtain ⟨hcv1, hcv2⟩ := hcv
                              have Hxi := Hx
                              clear hq e0 e2 hI
                              go_wp2
                              clear d0 d1 d2 HBr e1
                              rename World => wi
                              go_loopw [17] (fun t17 wr => ∃ k : Nat, t17 = .int .i64 (k : Int) ∧ k ≤ f.params.length ∧ (∀ j, j < k → ¬ f.params.getD j 0 ∈ f.params.take j) ∧ Ext wi wr) (fun t17 _ => f.params.length - (intOf t17).toNat)
                              case atStart => exact ⟨0, rfl, Nat.zero_le _, fun b h => by omega, Ext.refl _⟩
                              case round =>
                                obtain ⟨k, rfl, hk, hpk, hx⟩ := hrel
                                have Hpk := hid hpk
                                have Hxk := hid hx
                                clear hpk hx
                                by_cases hlt : k < f.params.length
                                · obtain ⟨yp, q, rfl, hqk, hc⟩ := (HIp.out.old (Hxk.out.old _)).at hlt
                                  have hcK : ∀ w1, Keep (fun _ => False) wr w1 → w1.cell? (yp.add k) = some (.int .i64 q) := fun w1 k => k.ext.cellx hc
                                  have HHs := fun w1 (x : Ext wr w1) => hid (rhas_any (.slice (some yp) k cv) (f.params.take k) q w1 w.heap.size ((HIp.out.old ((Hxk.out.trans x).old _)).take k hk))
                                  have hkc : k ≤ cv := by omega
                                  have hgq : f.params.getD k 0 = q := by rw [List.getD_eq_getElem?_getD, hqk]; rfl
                                  have Hgq := hid hgq
                                  clear hqk hc hgq
                                  go_wp2
                                  refine wp_flowT (fun _ => False) (by kernel_rfl) (by kernel_rfl) ?_
                                  repeat (apply FlowT.d; (intro w1 hk; unfold does; go_simp; (try go_ints); (first | exact DetR.mk | (simp only [↓IntWalk.iteOmega, Oper.doesUpon_value]; exact DetR.mk) | (simp only [↓IntWalk.iteOmega]; go_simp; (try go_ints); exact DetR.mk))); simp only [Act.put, qS0, qS1, qS2])
                                  apply FlowT.d
                                  · intro w1 hk
                                    unfold does
                                    go_simp
                                    exact CallR.det ((HHs w1 hk.ext).out.mono fun e w' ⟨h1, h2⟩ => ⟨h1, h2 ▸ Ext.refl _⟩)
                                  simp only [Act.put, qS0, qS1, qS2]
                                  repeat (apply FlowT.d; (intro w1 hk; unfold does; go_simp; (try go_ints); (first | exact DetR.mk | (simp only [↓IntWalk.iteOmega, Oper.doesUpon_value]; exact DetR.mk) | (simp only [↓IntWalk.iteOmega]; go_simp; (try go_ints); exact DetR.mk))); simp only [Act.put, qS0, qS1, qS2])
                                  refine FlowT.fin fun w7 hx7 hk7 => ?_
                                  have Hx7 := hid (Hxk.out.trans hx7)
                                  have Hx8 := hid (Hx.out.trans Hx7.out)
                                  clear hx7 hk7 hcK HHs
                                  by_cases hin : q ∈ f.params.take k
                                  · have Hb := hid (show P.funsErr = 7 by unfold PP.funsErr; rw [H9.out, HG2.out, List.any_eq_true.2 ⟨f, List.mem_of_getElem? Hq.out, show bad7 f = true from List.any_eq_true.2 ⟨k, List.mem_range.2 hlt, by rw [Hgq.out]; exact decide_eq_true hin⟩⟩]; rfl)
                                    rw [decide_eq_true hin]
                                    clear hin
                                    have Hf : Hid (FaultIs P 7 (-1)) := hid (by
                                      have h : P.err1 = 7 := H1.out.trans Hb.out
                                      exact .inl ⟨by rw [h]; decide, h.symm, rfl⟩)
                                    go_wp2_with fail
                                    refine (HBa 7 _).out.mono ?_
                                    intro e w8 hx8
                                    obtain ⟨rfl, hx8⟩ := hx8
                                    have HB8 := HB2.out.ext ((Hx8.out).trans hx8)
                                    have z0 := HB8.av 0 rfl
                                    have z1 := HB8.av 1 rfl
                                    have f0 := HB8.free 0
                                    have f1 := HB8.free 1
                                    have HBz := hid (two (v0 := (.int .i64 ((7 : Nat) : Int))) (v1 := (.int .i64 (-1))) HB8)
                                    have HKz := hid (two_keep w8 (w.heap.size + 1) (.int .i64 ((7 : Nat) : Int)) (.int .i64 (-1)))
                                    have hE := hid (Keep.new (HW2.out.trans ((Hx8.out).trans hx8)) HKz.out fun b hb => by omega)
                                    clear HB8
                                    go_wp2
                                    have c0 := HBz.out.av 0 rfl
                                    have c1' := HBz.out.av 1 rfl
                                    generalize ((w8.setCell ⟨w.heap.size + 1, 0, none⟩ (.int .i64 ((7 : Nat) : Int))).setCell ⟨w.heap.size + 1, 1, none⟩ (.int .i64 (-1))) = W10 at *
                                    exact bodyPost_ret (v := .agg #[(.int .i64 ((7 : Nat) : Int)), (.int .i64 (-1))]) (by simp [results, Tryz.results10, go_sem, c0, c1']) rfl ⟨hE.out, _, _, rfl, Hf.out⟩
                                  · have Hin := hid hin
                                    rw [decide_eq_false hin]
                                    clear hin
                                    go_wp2
                                    go_roundw
                                    case rel =>
                                      refine ⟨k + 1, by go_num, by omega, fun j hj => ?_, Hx7.out⟩
                                      by_cases hjk : j = k
                                      · subst hjk
                                        rw [Hgq.out]; exact Hin.out
                                      · exact Hpk.out j (by omega)
                                    case measure => simp [intOf]; omega
                                · obtain rfl : k = f.params.length := by omega
                                  have Hb := hid (show bad7 f = false from List.any_eq_false.2 fun j hj => by simp only [decide_eq_true_eq]; exact Hpk.out j (List.mem_range.1 hj))
                                  go_wp2
                                  go_roundw
                                  case rel =>
                                    refine ⟨i + 1, by go_num, by omega, fun j s hj hs => ?_, Hx.out.trans Hxk.out⟩
                                    by_cases hjk : j = i
                                    · subst hjk
                                      obtain rfl := Option.some.inj (Hq.out.symm.trans hs)
                                      exact Hb.out
                                    · exact Hp.out j s (by omega) hs
                                  case measure => simp [intOf]; omega
                            · obtain rfl : i = P.funs.length := by omega
                              have HG7 := hid (any_noU (l := P.funs) (p := bad7) Hp.out)
                              have HE0 := hid (show P.err1 = 0 by rw [H1.out]; unfold PP.funsErr; rw [H9.out, HG2.out, HG7.out]; rfl)
                              clear Hp
                              go_wp2
                              clear d0 d1 d2 HBr
                              go_loopw [18] (fun t18 wr => ∃ k : Nat, t18 = .int .i64 (k : Int) ∧ k ≤ P.stmts.length ∧ (∀ j s, j < k → P.stmts[j]? = some s → P.stmtErr s = 0) ∧ Ext W2 wr) (fun t18 _ => P.stmts.length - (intOf t18).toNat)
                              case atStart => exact ⟨0, rfl, Nat.zero_le _, fun j s h => by omega, Hx.out⟩
                              case round =>
                                clear Hx
                                obtain ⟨k, rfl, hk, hp, hx⟩ := hrel
                                have Hp := hid hp
                                have Hx := hid hx
                                clear hp hx
                                have HBr := hid (HB1.out.ext Hx.out)
                                have d0 := HBr.out.av 0 rfl
                                have d1 := HBr.out.av 1 rfl
                                have d2 := HBr.out.av 2 rfl
                                simp only [pcells, qA0, qA1, qA2] at d0 d1 d2
                                by_cases hlt : k < P.stmts.length
                                · obtain ⟨y, s, av, cv, rfl, hq, e0, e1, e2, e3, hI⟩ := (HP.out.ext Hx.out).stmts.at hlt
                                  have Hq := hid hq
                                  have HIp := hid hI
                                  have hal : (s.args.length : Int) ≤ 9223372036854775807 := by
                                    obtain ⟨_, _, _, h2, h3, _⟩ := hI
                                    omega
                                  have g0 : ∀ w1, Keep (fun _ => False) wr w1 → w1.cell? (y.add (k * 4)) = some (.string s.kind) := fun w1 k => k.ext.cellx e0
                                  have g1 : ∀ w1, Keep (fun _ => False) wr w1 → w1.cell? ⟨(y.add (k * 4)).block, (y.add (k * 4)).off + 1, none⟩ = some (.int .i64 s.x) := fun w1 k => k.ext.cellx e1
                                  have g2 : ∀ w1, Keep (fun _ => False) wr w1 → w1.cell? ⟨(y.add (k * 4)).block, (y.add (k * 4)).off + 2, none⟩ = some (.int .i64 s.y) := fun w1 k => k.ext.cellx e2
                                  have g3 : ∀ w1, Keep (fun _ => False) wr w1 → w1.cell? ⟨(y.add (k * 4)).block, (y.add (k * 4)).off + 3, none⟩ = some (.slice av s.args.length cv) := fun w1 k => k.ext.cellx e3
                                  have m0 := HBr.out.kc (X := fun _ => False) (fun e => e) 0 rfl
                                  have m1 := HBr.out.kc (X := fun _ => False) (fun e => e) 1 rfl
                                  have m2 := HBr.out.kc (X := fun _ => False) (fun e => e) 2 rfl
                                  simp only [pcells, qA0, qA1, qA2] at m0 m1 m2
                                  have HSe := fun w1 (x : Ext wr w1) => hid (rstmterr_any a1 a2 (some y) c1 c2 c3 P s av cv w1 w.heap.size (HIp.out.old (x.old _)) hml2 hal)
                                  unfold pval sval at HSe
                                  clear hq e0 e1 e2 e3 hI d0 d1
                                  go_wp2
                                  refine wp_flowT (fun _ => False) (by kernel_rfl) (by kernel_rfl) ?_
                                  repeat (apply FlowT.d; (intro w1 hk; unfold does; go_simp; (try go_ints); (first | exact DetR.mk | (simp only [↓IntWalk.iteOmega, Oper.doesUpon_value]; exact DetR.mk) | (simp only [↓IntWalk.iteOmega]; go_simp; (try go_ints); exact DetR.mk))); simp only [Act.put, qS0, qS1, qS2])
                                  apply FlowT.d
                                  · intro w1 hk
                                    unfold does
                                    go_simp
                                    exact CallR.det ((HSe w1 hk.ext).out)
                                  simp only [Act.put, qS0, qS1, qS2]
                                  repeat (apply FlowT.d; (intro w1 hk; unfold does; go_simp; (try go_ints); (first | exact DetR.mk | (simp only [↓IntWalk.iteOmega, Oper.doesUpon_value]; exact DetR.mk) | (simp only [↓IntWalk.iteOmega]; go_simp; (try go_ints); exact DetR.mk))); simp only [Act.put, qS0, qS1, qS2])
                                  refine FlowT.fin fun w7 hx7 hk7 => ?_
                                  have Hx7 := hid (Hx.out.trans hx7)
                                  clear hx7 hk7 g0 g1 g2 g3 m0 m1 m2 HSe d2
                                  by_cases hz : P.stmtErr s = 0
                                  · have Hz := hid hz
                                    rw [hz]
                                    clear hz
                                    go_wp2
                                    go_roundw
                                    case rel =>
                                      refine ⟨k + 1, by go_num, by omega, fun j t hj hs => ?_, Hx7.out⟩
                                      by_cases hjk : j = k
                                      · subst hjk
                                        obtain rfl := Option.some.inj (Hq.out.symm.trans hs)
                                        exact Hz.out
                                      · exact Hp.out j t (by omega) hs
                                    case measure => simp [intOf]; omega
                                  · have Hf : Hid (FaultIs P (P.stmtErr s) (k : Int)) := hid (.inr (.inr ⟨HE0.out, k, s, ⟨Hq.out, hz, fun j t hj ht => Hp.out j t hj ht⟩, rfl, rfl⟩))
                                    have hpos : 0 < P.stmtErr s := Nat.pos_of_ne_zero hz
                                    clear hz
                                    generalize P.stmtErr s = ec at *
                                    have HB8 := HB2.out.ext Hx7.out
                                    have z0 := HB8.av 0 rfl
                                    have z1 := HB8.av 1 rfl
                                    have f0 := HB8.free 0
                                    have f1 := HB8.free 1
                                    have HBz := hid (two (v0 := (.int .i64 (ec : Int))) (v1 := (.int .i64 (k : Int))) HB8)
                                    have HKz := hid (two_keep w7 (w.heap.size + 1) (.int .i64 (ec : Int)) (.int .i64 (k : Int)))
                                    have hE := hid (Keep.new (HW2.out.trans Hx7.out) HKz.out fun b hb => by omega)
                                    clear HB8
                                    go_wp2
                                    have c0 := HBz.out.av 0 rfl
                                    have c1' := HBz.out.av 1 rfl
                                    generalize ((w7.setCell ⟨w.heap.size + 1, 0, none⟩ (.int .i64 (ec : Int))).setCell ⟨w.heap.size + 1, 1, none⟩ (.int .i64 (k : Int))) = W10 at *
                                    exact bodyPost_ret (v := .agg #[(.int .i64 (ec : Int)), (.int .i64 (k : Int))]) (by simp [results, Tryz.results10, go_sem, c0, c1']) rfl ⟨hE.out, _, _, rfl, Hf.out⟩
                                · obtain rfl : k = P.stmts.length := by omega
                                  have Hf : Hid (FaultIs P 0 (-1)) := hid (.inr (.inl ⟨HE0.out, fun j t _ ht => Hp.out j t (by
                                    rcases Nat.lt_or_ge j P.stmts.length with h | h
                                    · exact h
                                    · rw [List.getElem?_eq_none h] at ht; cases ht) ht, rfl, rfl⟩))
                                  have HFi := fun w1 => hid (rfine_any w1)
                                  clear Hp
                                  go_wp2_with fail
                                  refine (HFi _).out.mono ?_
                                  intro e w8 hx8
                                  obtain ⟨rfl, hx8⟩ := hx8
                                  have HB8 := HB2.out.ext (Hx.out.trans hx8)
                                  have z0 := HB8.av 0 rfl
                                  have z1 := HB8.av 1 rfl
                                  have f0 := HB8.free 0
                                  have f1 := HB8.free 1
                                  have HBz := hid (two (v0 := (.int .i64 ((0 : Nat) : Int))) (v1 := (.int .i64 (-1))) HB8)
                                  have HKz := hid (two_keep w8 (w.heap.size + 1) (.int .i64 ((0 : Nat) : Int)) (.int .i64 (-1)))
                                  have hE := hid (Keep.new (HW2.out.trans (Hx.out.trans hx8)) HKz.out fun b hb => by omega)
                                  clear HB8
                                  go_wp2
                                  have c0 := HBz.out.av 0 rfl
                                  have c1' := HBz.out.av 1 rfl
                                  generalize ((w8.setCell ⟨w.heap.size + 1, 0, none⟩ (.int .i64 ((0 : Nat) : Int))).setCell ⟨w.heap.size + 1, 1, none⟩ (.int .i64 (-1))) = W10 at *
                                  exact bodyPost_ret (v := .agg #[(.int .i64 ((0 : Nat) : Int)), (.int .i64 (-1))]) (by simp [results, Tryz.results10, go_sem, c0, c1']) rfl ⟨hE.out, _, _, rfl, Hf.out⟩
end Go.Proofs.YtbagppdibncfdaaGreatDoor
