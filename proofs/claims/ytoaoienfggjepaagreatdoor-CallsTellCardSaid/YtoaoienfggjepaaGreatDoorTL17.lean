/- Texts of one proof, put together: ZH ZD S6 ZI. -/
import Derived.Test.YtoaoienfggjepaaGreatDoorTL11
import Derived.Test.YtoaoienfggjepaaGreatDoorTL15
import Derived.Test.YtoaoienfggjepaaGreatDoorTL16

/- The reference: statements that can do nothing (IdleOf). -/
namespace Go.Proofs.YtoaoienfggjepaaGreatDoor
set_option linter.unusedSimpArgs false
set_option linter.unusedVariables false
open Go Go.RowKit

theorem nodesL_all (S : List (List Int)) (l : List Int) : decide ((nodesL S l).length = 0) = l.all fun o => decide ((S.length : Int) ≤ o) := by
  unfold nodesL
  refine Bool.eq_iff_iff.2 ?_
  rw [decide_eq_true_iff, List.length_eq_zero_iff, List.filter_eq_nil_iff, List.all_eq_true]
  refine forall_congr' fun o => forall_congr' fun _ => ?_
  cases decide ((S.length : Int) ≤ o) <;> simp
theorem all_next {p : Int → Bool} {l : List Int} {i : Nat} {o : Int} (h : l[i]? = some o) : (l.take (i + 1)).all p = ((l.take i).all p && p o) := by
  rw [List.take_add_one, h, List.all_append]
  simp
theorem all_false {p : Int → Bool} {l : List Int} {i : Nat} (h : false = (l.take i).all p) : l.all p = false := by
  cases ha : l.all p with
  | false => rfl
  | true =>
    rw [List.all_eq_true] at ha
    have : (l.take i).all p = true := List.all_eq_true.2 fun x hx => ha x (List.mem_of_mem_take hx)
    rw [this] at h
    cases h
set_option maxRecDepth 100000 in
set_option maxHeartbeats 6400000 in
theorem ridleof_any (a1 a2 a3 : Option Addr) (c1 c2 c3 : Nat) (P : PP) (ah : Option Addr) (ch : Nat) (S : List (List Int)) (w : World) (n0 : Nat) (h : ProgR w n0 (.slice a1 P.vars.length c1) (.slice a2 P.funs.length c2) (.slice a3 P.stmts.length c3) P) (hh : SetsR w n0 (.slice ah S.length ch) S) (hg : P.GoodS S) (hn0 : n0 ≤ w.heap.size) :
    Calls Tryz.prog 42 #[pval a1 a2 a3 c1 c2 c3 P, .slice ah S.length ch] w fun e w' => ∃ v, e = .returned v ∧ IRow w.heap.size w' v (idleL P S) ∧ Ext w w' := by
  have Hw := hid hg.1
  obtain ⟨hf1, hf2, hf3⟩ := Hw.out.few
  have HPR := hid h
  have HG := hid hg
  have HH := hid hh
  have hhl := hh.len
  have Hn0 := hid hn0
  obtain ⟨W, hW⟩ : ∃ W, W = w.alloc (.cells (pcells a1 a2 a3 c1 c2 c3 P) 39) := ⟨_, rfl⟩
  have HX : Hid (Ext w W) := hid (by rw [hW]; exact (Ext.refl _).alloc _)
  have HBp : Hid (Blk W w.heap.size (pcells a1 a2 a3 c1 c2 c3 P) 39) := hid (by rw [hW]; exact Blk.new _ _ _)
  have HWe : Hid (W = w.alloc (.cells #[.slice a1 P.vars.length c1, .slice a2 P.funs.length c2, .slice a3 P.stmts.length c3] 39)) := hid (by rw [hW]; rfl)
  unfold pval
  clear h hh hg hn0 hW
  go_enter Tryz.func42, Tryz.ntmps42
  go_wp2
  rw [← HWe.out]
  go_loopw [5, 6] (fun t5 t6 wr => ∃ (k : Nat) (M : List Int), t6 = .int .i64 (k : Int) ∧ k ≤ P.stmts.length ∧ M = idleUp P S k ∧ M.length ≤ k ∧ IRow W.heap.size wr t5 M ∧ Ext W wr) (fun _ t6 _ => P.stmts.length - (intOf t6).toNat)
  case atStart => exact ⟨0, [], rfl, Nat.zero_le _, rfl, Nat.zero_le _, IRow.nil _ _, Ext.refl _⟩
  case round =>
    obtain ⟨k, M, rfl, hk, hM, hMl, hr, hx⟩ := hrel
    obtain ⟨a7, c7, rfl⟩ := hr.form
    have Hr7 := hid hr
    have Hx := hid hx
    have HM := hid hM
    clear hr hx hM
    have d2 := (HBp.out.ext Hx.out).av 2 rfl
    simp only [pcells, List.getElem_toArray, List.getElem_cons_zero, List.getElem_cons_succ] at d2
    by_cases hlt : k < P.stmts.length
    · obtain ⟨y3, x, aa, ca, hy3, hxk, e0, e1, e2, e3, hIa⟩ := (HPR.out.ext (HX.out.trans Hx.out)).stmts.at hlt
      subst hy3
      have hal := hIa.len
      have hxe : P.stAt k = x := Option.some.inj ((stAt_some hlt).symm.trans hxk)
      have hgd := PP.good (Hw.out.2 k x hlt hxk)
      have hnext := idleUp_succ P S k
      rw [hxe] at hnext
      have Hnext := hid hnext
      have Hxk := hid hxk
      obtain ⟨V, hV⟩ : ∃ V, V = wr.alloc (.cells #[.string x.kind, .int .i64 x.x, .int .i64 x.y, .slice aa x.args.length ca] 48) := ⟨_, rfl⟩
      have hxV : Ext wr V := by rw [hV]; exact (Ext.refl _).alloc _
      have HVe := hid hV
      have HxrV := hid hxV
      have HxV := hid (Hx.out.trans hxV)
      have HBs : Hid (Blk V wr.heap.size #[.string x.kind, .int .i64 x.x, .int .i64 x.y, .slice aa x.args.length ca] 48) := hid (by rw [hV]; exact Blk.new _ _ _)
      have s0 := HBs.out.av 0 rfl
      have s1 := HBs.out.av 1 rfl
      have s2 := HBs.out.av 2 rfl
      simp only [List.getElem_toArray, List.getElem_cons_zero, List.getElem_cons_succ] at s0 s1 s2
      clear hxk hIa hxe hnext hV hxV
      cases h1 : (x.kind.toList == [108, 111, 97, 100]) with
      | true =>
        have hk1 : x.isK kLoad = true := h1
        have h2 : (x.kind.toList == [115, 116, 111, 114, 101]) = false := isK_ne (k := kLoad) (k' := kStore) hk1 (by decide)
        have h3 : (x.kind.toList == [99, 97, 108, 108]) = false := isK_ne (k := kLoad) (k' := kCall) hk1 (by decide)
        have hyv := hgd.yv (isK_ne hk1 (by decide)) (isK_ne hk1 (by decide))
        obtain ⟨Y, hY⟩ := Int.eq_ofNat_of_zero_le hyv.1
        have hnv := nodes_vars P
        have hYl : Y < S.length := by have := HG.out.2.1; omega
        obtain ⟨z, l, bl, cl, hz, hl, hc, hI⟩ := (HH.out.ext (HX.out.trans HxV.out)).at hYl
        subst hz
        have hll := hI.len
        have HI := hid hI
        have Hc := hid hc
        have hDl : S.getD Y [] = l := by rw [List.getD_eq_getElem?_getD, hl]; rfl
        have Hal : Hid (idleV P S x = l.all fun o => decide ((S.length : Int) ≤ o)) := hid (by unfold idleV; rw [hk1, cond_true, hY, Int.toNat_natCast, hDl]; exact nodesL_all S l)
        rw [hY] at e2 s2
        have HVz : Hid (V = wr.alloc (.cells #[.string x.kind, .int .i64 x.x, .int .i64 (Y : Int), .slice aa x.args.length ca] 48)) := hid (by rw [HVe.out, hY])
        rw [HVz.out] at s0 s1 s2 hc
        clear hk1 hyv hnv hl hI hDl hY hgd
        go_wp2
        rw [← HVz.out]
        clear s0 s1 s2 e0 e1 e2 e3 d2
        go_loopw [9, 10] (fun t9 t10 wr => ∃ (i : Nat) (b : Bool), t10 = .int .i64 (i : Int) ∧ t9 = .bool b ∧ i ≤ l.length ∧ b = (l.take i).all (fun o => decide ((S.length : Int) ≤ o)) ∧ Ext V wr) (fun _ t10 _ => l.length - (intOf t10).toNat)
        case atStart => exact ⟨0, true, rfl, rfl, Nat.zero_le _, rfl, Ext.refl _⟩
        case round =>
          obtain ⟨i, b, rfl, rfl, hi, hb, hx⟩ := hrel
          have Hxi := hid hx
          have Hb := hid hb
          clear hx hb
          have hc := Hxi.out.cellx Hc.out
          have k0 := (HBs.out.ext Hxi.out).av 0 rfl
          simp only [List.getElem_toArray, List.getElem_cons_zero, List.getElem_cons_succ] at k0
          cases b with
          | false =>
            have Hd : Hid (idleV P S x = false) := hid (by rw [Hal.out]; exact all_false Hb.out)
            have Hn : Hid (idleUp P S (k + 1) = M) := hid (by rw [Hnext.out, Hd.out, ← HM.out]; simp)
            go_wp2
            go_roundw
            case rel => exact ⟨k + 1, M, by go_num, by omega, Hn.out.symm, by omega, Hr7.out.ext (HxrV.out.trans Hxi.out), HxV.out.trans Hxi.out⟩
            case measure => simp [intOf]; omega
          | true =>
            by_cases hli : i < l.length
            · obtain ⟨yl, o, hyl, ho, hco⟩ := (HI.out.old (Hxi.out.old _)).at hli
              subst hyl
              have Hnx := hid (all_next (p := fun o => decide ((S.length : Int) ≤ o)) ho)
              clear ho
              by_cases hos : o < (S.length : Int)
              · have Hb2 : Hid (false = (l.take (i + 1)).all (fun o => decide ((S.length : Int) ≤ o))) := hid (by rw [Hnx.out, decide_eq_false (by omega), Bool.and_false])
                go_wp2
                go_roundw
                case rel => exact ⟨i + 1, false, by go_num, rfl, by omega, Hb2.out, Hxi.out⟩
                case measure => simp [intOf]; omega
              · have Hb2 : Hid (true = (l.take (i + 1)).all (fun o => decide ((S.length : Int) ≤ o))) := hid (by rw [Hnx.out, ← Hb.out, decide_eq_true (by omega)]; rfl)
                go_wp2
                go_roundw
                case rel => exact ⟨i + 1, true, by go_num, rfl, by omega, Hb2.out, Hxi.out⟩
                case measure => simp [intOf]; omega
            · obtain rfl : i = l.length := by omega
              have Hd : Hid (idleV P S x = true) := hid (by rw [Hal.out]; have := Hb.out; rw [List.take_of_length_le (Nat.le_refl _)] at this; exact this.symm)
              have Hn : Hid (idleUp P S (k + 1) = M ++ [(k : Int)]) := hid (by rw [Hnext.out, Hd.out, ← HM.out]; rfl)
              have hxa : Hid (Ext W (wr.alloc (.cells #[.int .i64 (k : Int)] 3))) := hid ((HxV.out.trans Hxi.out).alloc _)
              have Hra : Hid (IRow W.heap.size (wr.alloc (.cells #[.int .i64 (k : Int)] 3)) (.slice a7 M.length c7) M) := hid ((Hr7.out.ext (HxrV.out.trans Hxi.out)).ext ((Ext.refl _).alloc _))
              go_wp2_with (at_builtin; refine wpList_append_el W.heap.size hxa.out.size 22 3 (.int .i64 0) 1 8 Tryz.underlying22 ints_info rfl (by omega) (by omega) rfl _ _ rfl (.slice a7 M.length c7) M.length (icells M) rfl Hra.out wr.heap.size [.int .i64 (k : Int)] rfl (by simp [Value.oneCell']) rfl (Blk.new _ _ _) (by omega) ?_; intro v' w' h1 h2 h4; obtain ⟨a', c', rfl⟩ := row_form h1; have h3 := hid (Keep.new hxa.out h2 (fun k hk => (Hra.out.lt hk).1)); have h1 := hid h1; clear h2 h4)
              go_roundw
              case rel => exact ⟨k + 1, M ++ [(k : Int)], by go_num, by omega, Hn.out.symm, by rw [List.length_append]; simp; omega, by have := h1.out; unfold IRow; rw [icells_append, List.length_append]; exact this, h3.out⟩
              case measure => simp [intOf]; omega
      | false =>
      cases h2 : (x.kind.toList == [115, 116, 111, 114, 101]) with
      | true =>
        have hk1 : x.isK kStore = true := h2
        have h3 : (x.kind.toList == [99, 97, 108, 108]) = false := isK_ne (k := kStore) (k' := kCall) hk1 (by decide)
        have hyv := hgd.gx
        obtain ⟨Y, hY⟩ := Int.eq_ofNat_of_zero_le hyv.1
        have hnv := nodes_vars P
        have hYl : Y < S.length := by have := HG.out.2.1; omega
        obtain ⟨z, l, bl, cl, hz, hl, hc, hI⟩ := (HH.out.ext (HX.out.trans HxV.out)).at hYl
        subst hz
        have hll := hI.len
        have HI := hid hI
        have Hc := hid hc
        have hDl : S.getD Y [] = l := by rw [List.getD_eq_getElem?_getD, hl]; rfl
        have Hal : Hid (idleV P S x = l.all fun o => decide ((S.length : Int) ≤ o)) := hid (by unfold idleV; rw [isK_ne hk1 (by decide), cond_false, hk1, cond_true, hY, Int.toNat_natCast, hDl]; exact nodesL_all S l)
        rw [hY] at e1 s1
        have HVz : Hid (V = wr.alloc (.cells #[.string x.kind, .int .i64 (Y : Int), .int .i64 x.y, .slice aa x.args.length ca] 48)) := hid (by rw [HVe.out, hY])
        rw [HVz.out] at s0 s1 s2 hc
        clear hk1 hyv hnv hl hI hDl hY hgd
        go_wp2
        rw [← HVz.out]
        clear s0 s1 s2 e0 e1 e2 e3 d2
        go_loopw [9, 10] (fun t9 t10 wr => ∃ (i : Nat) (b : Bool), t10 = .int .i64 (i : Int) ∧ t9 = .bool b ∧ i ≤ l.length ∧ b = (l.take i).all (fun o => decide ((S.length : Int) ≤ o)) ∧ Ext V wr) (fun _ t10 _ => l.length - (intOf t10).toNat)
        case atStart => exact ⟨0, true, rfl, rfl, Nat.zero_le _, rfl, Ext.refl _⟩
        case round =>
          obtain ⟨i, b, rfl, rfl, hi, hb, hx⟩ := hrel
          have Hxi := hid hx
          have Hb := hid hb
          clear hx hb
          have hc := Hxi.out.cellx Hc.out
          have k0 := (HBs.out.ext Hxi.out).av 0 rfl
          simp only [List.getElem_toArray, List.getElem_cons_zero, List.getElem_cons_succ] at k0
          cases b with
          | false =>
            have Hd : Hid (idleV P S x = false) := hid (by rw [Hal.out]; exact all_false Hb.out)
            have Hn : Hid (idleUp P S (k + 1) = M) := hid (by rw [Hnext.out, Hd.out, ← HM.out]; simp)
            go_wp2
            go_roundw
            case rel => exact ⟨k + 1, M, by go_num, by omega, Hn.out.symm, by omega, Hr7.out.ext (HxrV.out.trans Hxi.out), HxV.out.trans Hxi.out⟩
            case measure => simp [intOf]; omega
          | true =>
            by_cases hli : i < l.length
            · obtain ⟨yl, o, hyl, ho, hco⟩ := (HI.out.old (Hxi.out.old _)).at hli
              subst hyl
              have Hnx := hid (all_next (p := fun o => decide ((S.length : Int) ≤ o)) ho)
              clear ho
              by_cases hos : o < (S.length : Int)
              · have Hb2 : Hid (false = (l.take (i + 1)).all (fun o => decide ((S.length : Int) ≤ o))) := hid (by rw [Hnx.out, decide_eq_false (by omega), Bool.and_false])
                go_wp2
                go_roundw
                case rel => exact ⟨i + 1, false, by go_num, rfl, by omega, Hb2.out, Hxi.out⟩
                case measure => simp [intOf]; omega
              · have Hb2 : Hid (true = (l.take (i + 1)).all (fun o => decide ((S.length : Int) ≤ o))) := hid (by rw [Hnx.out, ← Hb.out, decide_eq_true (by omega)]; rfl)
                go_wp2
                go_roundw
                case rel => exact ⟨i + 1, true, by go_num, rfl, by omega, Hb2.out, Hxi.out⟩
                case measure => simp [intOf]; omega
            · obtain rfl : i = l.length := by omega
              have Hd : Hid (idleV P S x = true) := hid (by rw [Hal.out]; have := Hb.out; rw [List.take_of_length_le (Nat.le_refl _)] at this; exact this.symm)
              have Hn : Hid (idleUp P S (k + 1) = M ++ [(k : Int)]) := hid (by rw [Hnext.out, Hd.out, ← HM.out]; rfl)
              have hxa : Hid (Ext W (wr.alloc (.cells #[.int .i64 (k : Int)] 3))) := hid ((HxV.out.trans Hxi.out).alloc _)
              have Hra : Hid (IRow W.heap.size (wr.alloc (.cells #[.int .i64 (k : Int)] 3)) (.slice a7 M.length c7) M) := hid ((Hr7.out.ext (HxrV.out.trans Hxi.out)).ext ((Ext.refl _).alloc _))
              go_wp2_with (at_builtin; refine wpList_append_el W.heap.size hxa.out.size 22 3 (.int .i64 0) 1 8 Tryz.underlying22 ints_info rfl (by omega) (by omega) rfl _ _ rfl (.slice a7 M.length c7) M.length (icells M) rfl Hra.out wr.heap.size [.int .i64 (k : Int)] rfl (by simp [Value.oneCell']) rfl (Blk.new _ _ _) (by omega) ?_; intro v' w' h1 h2 h4; obtain ⟨a', c', rfl⟩ := row_form h1; have h3 := hid (Keep.new hxa.out h2 (fun k hk => (Hra.out.lt hk).1)); have h1 := hid h1; clear h2 h4)
              go_roundw
              case rel => exact ⟨k + 1, M ++ [(k : Int)], by go_num, by omega, Hn.out.symm, by rw [List.length_append]; simp; omega, by have := h1.out; unfold IRow; rw [icells_append, List.length_append]; exact this, h3.out⟩
              case measure => simp [intOf]; omega
      | false =>
      rw [HVe.out] at s0 s1 s2
      cases h3 : (x.kind.toList == [99, 97, 108, 108]) with
      | true =>
        have hk1 : x.isK kCall = true := h3
        have HCl := fun w1 (y : Ext V w1) => hid (rcalledof_any a1 a2 (some y3) c1 c2 c3 P ah ch S k x w1 n0 (HPR.out.ext (HX.out.trans (HxV.out.trans y))) (HH.out.ext (HX.out.trans (HxV.out.trans y))) HG.out Hxk.out (Nat.le_trans Hn0.out (HX.out.trans (HxV.out.trans y)).size))
        obtain ⟨Q, hQ⟩ : ∃ Q, Q = calledL P S x := ⟨_, rfl⟩
        rw [← hQ] at HCl
        have hql : Q.length ≤ 1000 := by rw [hQ]; exact calledL_len HG.out _
        have Hal : Hid (idleV P S x = decide (Q.length = 0)) := hid (by unfold idleV; rw [isK_ne hk1 (by decide), cond_false, isK_ne hk1 (by decide), cond_false, hk1, cond_true, hQ])
        unfold pval at HCl
        clear hk1 hQ hgd
        go_wp2
        rw [← HVe.out]
        clear s0 s1 s2 e0 e1 e2 e3 d2
        go_loopw [9, 10] (fun t9 t10 wr => t9 = .bool false ∧ Ext V wr) (fun _ _ _ => 0)
        case atStart => exact ⟨rfl, Ext.refl _⟩
        case round =>
          obtain ⟨rfl, hx⟩ := hrel
          have Hxi := hid hx
          have HC := HCl wr hx
          clear hx HCl
          have k0 := (HBs.out.ext Hxi.out).av 0 rfl
          have p0 := (HBp.out.ext (HxV.out.trans Hxi.out)).av 0 rfl
          have p1 := (HBp.out.ext (HxV.out.trans Hxi.out)).av 1 rfl
          have p2 := (HBp.out.ext (HxV.out.trans Hxi.out)).av 2 rfl
          simp only [pcells, List.getElem_toArray, List.getElem_cons_zero, List.getElem_cons_succ] at k0 p0 p1 p2
          have hb := len_zero Q.length
          go_wp2_with fail
          refine HC.out.mono ?_
          intro e w3 hx
          obtain ⟨v3, rfl, hr3, hx3⟩ := hx
          obtain ⟨am3, cm3, rfl⟩ := hr3.form
          have Hx3 := hid (Hxi.out.trans hx3)
          clear HC hr3 hx3 p0 p1 p2 k0
          obtain ⟨d, hd⟩ : ∃ d, d = decide (Q.length = 0) := ⟨_, rfl⟩
          rw [← hd] at hb
          have Hdd := hid hd
          clear hd
          cases d with
          | false =>
            have Hd : Hid (idleV P S x = false) := hid (by rw [Hal.out]; exact Hdd.out.symm)
            have Hn : Hid (idleUp P S (k + 1) = M) := hid (by rw [Hnext.out, Hd.out, ← HM.out]; simp)
            go_wp2
            go_roundw
            case rel => exact ⟨k + 1, M, by go_num, by omega, Hn.out.symm, by omega, Hr7.out.ext (HxrV.out.trans Hx3.out), HxV.out.trans Hx3.out⟩
            case measure => simp [intOf]; omega
          | true =>
            have Hd : Hid (idleV P S x = true) := hid (by rw [Hal.out]; exact Hdd.out.symm)
            have Hn : Hid (idleUp P S (k + 1) = M ++ [(k : Int)]) := hid (by rw [Hnext.out, Hd.out, ← HM.out]; rfl)
            have hxa : Hid (Ext W (w3.alloc (.cells #[.int .i64 (k : Int)] 3))) := hid ((HxV.out.trans Hx3.out).alloc _)
            have Hra : Hid (IRow W.heap.size (w3.alloc (.cells #[.int .i64 (k : Int)] 3)) (.slice a7 M.length c7) M) := hid ((Hr7.out.ext (HxrV.out.trans Hx3.out)).ext ((Ext.refl _).alloc _))
            go_wp2_with (at_builtin; refine wpList_append_el W.heap.size hxa.out.size 22 3 (.int .i64 0) 1 8 Tryz.underlying22 ints_info rfl (by omega) (by omega) rfl _ _ rfl (.slice a7 M.length c7) M.length (icells M) rfl Hra.out w3.heap.size [.int .i64 (k : Int)] rfl (by simp [Value.oneCell']) rfl (Blk.new _ _ _) (by omega) ?_; intro v' w' h1 h2 h4; obtain ⟨a', c', rfl⟩ := row_form h1; have h3 := hid (Keep.new hxa.out h2 (fun k hk => (Hra.out.lt hk).1)); have h1 := hid h1; clear h2 h4)
            go_roundw
            case rel => exact ⟨k + 1, M ++ [(k : Int)], by go_num, by omega, Hn.out.symm, by rw [List.length_append]; simp; omega, by have := h1.out; unfold IRow; rw [icells_append, List.length_append]; exact this, h3.out⟩
            case measure => simp [intOf]; omega
      | false =>
        have Hd : Hid (idleV P S x = false) := hid (by unfold idleV PS.isK kLoad kStore kCall; rw [h1, h2, h3]; rfl)
        clear hgd
        go_wp2
        rw [← HVe.out]
        clear s0 s1 s2 e0 e1 e2 e3 d2
        go_loopw [9, 10] (fun t9 t10 wr => t9 = .bool false ∧ Ext V wr) (fun _ _ _ => 0)
        case atStart => exact ⟨rfl, Ext.refl _⟩
        case round =>
          obtain ⟨rfl, hx⟩ := hrel
          have Hxi := hid hx
          clear hx
          have k0 := (HBs.out.ext Hxi.out).av 0 rfl
          simp only [List.getElem_toArray, List.getElem_cons_zero, List.getElem_cons_succ] at k0
          have Hn : Hid (idleUp P S (k + 1) = M) := hid (by rw [Hnext.out, Hd.out, ← HM.out]; simp)
          go_wp2
          go_roundw
          case rel => exact ⟨k + 1, M, by go_num, by omega, Hn.out.symm, by omega, Hr7.out.ext (HxrV.out.trans Hxi.out), HxV.out.trans Hxi.out⟩
          case measure => simp [intOf]; omega
    · obtain rfl : k = P.stmts.length := by omega
      have HEn : Hid (idleL P S = M) := hid HM.out.symm
      go_wp2
      go_ret
      exact ⟨_, rfl, by rw [HEn.out]; exact own_low Hr7.out HX.out.size, HX.out.trans Hx.out⟩
end Go.Proofs.YtoaoienfggjepaaGreatDoor



/- calls.Writes: what a statement may change. -/
namespace Go.Proofs.YtoaoienfggjepaaGreatDoor
set_option linter.unusedSimpArgs false
set_option linter.unusedVariables false
open Go Go.RowKit

/-- Parameters of functions. -/
def paramsL (P : PP) (fs : List Int) : List Int := fs.flatMap fun f => (P.funs.getD f.toNat ⟨⟨#[]⟩, [], 0⟩).params
theorem paramsL_snoc (P : PP) (fs : List Int) (f : Int) : paramsL P (fs ++ [f]) = paramsL P fs ++ (P.funs.getD f.toNat ⟨⟨#[]⟩, [], 0⟩).params := by
  unfold paramsL; rw [List.flatMap_append]; simp
/-- What a statement may change. -/
def writesL (P : PP) (S : List (List Int)) (x : PS) : List Int :=
  bif x.isK kStore then nodesL S (S.getD x.x.toNat []) else
  bif x.isK kCall && decide ((calledL P S x).length = 0) then [] else sset (x.x :: paramsL P (calledL P S x))
theorem calledL_fun {P : PP} {S : List (List Int)} {x : PS} {f : Int} (h : f ∈ calledL P S x) : ∃ n : Nat, f = (n : Int) ∧ n < P.funs.length := by
  unfold calledL at h
  cases hk : x.isK kCall with
  | false => rw [hk] at h; cases h
  | true =>
    rw [hk, cond_true] at h
    obtain ⟨o, ho, rfl⟩ := List.mem_map.1 h
    have hf := (List.mem_filter.1 ho).2
    unfold PP.fitsV at hf
    have h0 : 0 ≤ P.funV o := by
      rw [Bool.and_eq_true] at hf
      exact of_decide_eq_true hf.1
    have h1 := funV_lt h0
    exact ⟨(P.funV o).toNat, by omega, by omega⟩
theorem paramsL_in {P : PP} (hw : P.Well) {fs : List Int} (h : ∀ f ∈ fs, ∃ n : Nat, f = (n : Int) ∧ n < P.funs.length) : InR (paramsL P fs) := fun p hp => by
  obtain ⟨f, hf, hp⟩ := List.mem_flatMap.1 hp
  obtain ⟨n, rfl, hn⟩ := h f hf
  have hp : p ∈ (P.funs.getD ((n : Int)).toNat ⟨⟨#[]⟩, [], 0⟩).params := hp
  rw [Int.toNat_natCast, List.getD_eq_getElem?_getD, List.getElem?_eq_getElem hn] at hp
  have := (PP.goodF (PP.funs_ok hw.1) (List.getElem_mem hn)).params p hp
  have h40 := hw.few.1
  omega
set_option maxRecDepth 100000 in
set_option maxHeartbeats 1600000 in
theorem callswrites_no (a1 a2 a3 : Option Addr) (c1 c2 c3 : Nat) (P : PP) (k : Int) (w : World) (n0 : Nat) (ad : Nat → Addr) (h : PS0 w n0 ad a1 a2 a3 c1 c2 c3 P) (hn : n0 ≤ w.heap.size) (hw : ¬ P.Well) :
    Calls Tryz.prog 30 #[pval a1 a2 a3 c1 c2 c3 P, .int .i64 k] w fun e w' => ∃ t z, e = .returned (.tuple #[.slice none 0 0, .iface t (.pointer (some z))]) ∧ ErrIs ad P w' (.iface t (.pointer (some z))) ∧ Ext w w' := by
  obtain ⟨W, hW⟩ : ∃ W, W = w.alloc (.cells (pcells a1 a2 a3 c1 c2 c3 P) 39) := ⟨_, rfl⟩
  have HX : Hid (Ext w W) := hid (by rw [hW]; exact (Ext.refl _).alloc _)
  have HBx : Hid (Blk W w.heap.size (pcells a1 a2 a3 c1 c2 c3 P) 39) := hid (by rw [hW]; exact Blk.new _ _ _)
  have HWe : Hid (W = w.alloc (.cells #[.slice a1 P.vars.length c1, .slice a2 P.funs.length c2, .slice a3 P.stmts.length c3] 39)) := hid (by rw [hW]; rfl)
  have d0 := HBx.out.av 0 rfl
  have d1 := HBx.out.av 1 rfl
  have d2 := HBx.out.av 2 rfl
  simp only [pcells, List.getElem_toArray, List.getElem_cons_zero, List.getElem_cons_succ] at d0 d1 d2
  rw [HWe.out] at d0 d1 d2
  have HL := hid (fixleast_no a1 a2 a3 c1 c2 c3 P W W.heap.size ad (h.on hn HX.out) hw)
  clear h hw
  unfold pval at HL ⊢
  clear hW
  go_enter Tryz.func30, Tryz.ntmps30
  go_wp2_with fail
  rw [← HWe.out]
  refine HL.out.mono ?_
  intro e w1 hx
  obtain ⟨t, z, rfl, hei, hx1⟩ := hx
  have Hei := hid hei
  have Hx1 := hid (HX.out.trans hx1)
  clear HL hei hx1 d0 d1 d2
  go_wp2
  go_ret2
  exact ⟨t, z, rfl, Hei.out, Hx1.out⟩
set_option maxRecDepth 100000 in
set_option maxHeartbeats 1600000 in
theorem callswrites_out (a1 a2 a3 : Option Addr) (c1 c2 c3 : Nat) (P : PP) (k : Int) (w : World) (ad : Nat → Addr) (h : PW w w.heap.size ad a1 a2 a3 c1 c2 c3 P) (hS : ErrS w ad) (n : Nat) (S : List (List Int)) (hL : LeastAt P n S) (hb : ¬ (0 ≤ k ∧ k < P.stmts.length)) :
    Calls Tryz.prog 30 #[pval a1 a2 a3 c1 c2 c3 P, .int .i64 k] w fun e w' => e = .returned (.tuple #[.slice none 0 0, evOf ad 2]) ∧ Ext w w' := by
  have HG := hid (hL.good h.well)
  have HSl := hid HG.out.2.1
  have hsl : P.stmts.length ≤ 80 := h.well.few.2.2
  have HPW := hid h
  have HE := hid hS
  obtain ⟨W, hW⟩ : ∃ W, W = w.alloc (.cells (pcells a1 a2 a3 c1 c2 c3 P) 39) := ⟨_, rfl⟩
  have HX : Hid (Ext w W) := hid (by rw [hW]; exact (Ext.refl _).alloc _)
  have HBx : Hid (Blk W w.heap.size (pcells a1 a2 a3 c1 c2 c3 P) 39) := hid (by rw [hW]; exact Blk.new _ _ _)
  have HWe : Hid (W = w.alloc (.cells #[.slice a1 P.vars.length c1, .slice a2 P.funs.length c2, .slice a3 P.stmts.length c3] 39)) := hid (by rw [hW]; rfl)
  have d0 := HBx.out.av 0 rfl
  have d1 := HBx.out.av 1 rfl
  have d2 := HBx.out.av 2 rfl
  simp only [pcells, List.getElem_toArray, List.getElem_cons_zero, List.getElem_cons_succ] at d0 d1 d2
  rw [HWe.out] at d0 d1 d2
  have HL := hid (fixleast_ok a1 a2 a3 c1 c2 c3 P W ad ((h.ext HX.out).lift HX.out.size) (hS.ext HX.out) n S hL)
  rw [← HSl.out] at HL
  clear h hS hL
  unfold pval at HL ⊢
  clear hW
  go_enter Tryz.func30, Tryz.ntmps30
  go_wp2_with fail
  rw [← HWe.out]
  refine HL.out.mono ?_
  intro e w1 hx
  obtain ⟨a, c, rfl, hs, hx1⟩ := hx
  have Hs1 := hid hs
  have Hx1 := hid (HX.out.trans hx1)
  have Hx1W := hid hx1
  have HB1 := hid (HBx.out.ext hx1)
  clear HL hs hx1 d0 d1 d2
  have d2 := HB1.out.av 2 rfl
  simp only [pcells, List.getElem_toArray, List.getElem_cons_zero, List.getElem_cons_succ] at d2
  have e0 : ∀ w2, Keep (fun _ => False) w1 w2 → w2.cell? ⟨0, 0, none⟩ = some (evOf ad 2) := fun w2 k => (HE.out.ext (Hx1.out.trans k.ext)).at2
  rcases (by omega : k < 0 ∨ (0 ≤ k ∧ P.stmts.length ≤ k)) with hc | hc
  all_goals
    clear hb
    go_wp2
    refine wp_flowT (fun _ => False) (by kernel_rfl) (by kernel_rfl) ?_
    repeat (apply FlowT.d; (intro w1 hk; unfold does; go_simp; (try go_ints); (first | exact DetR.mk | (simp only [↓IntWalk.iteOmega, Oper.doesUpon_value]; exact DetR.mk) | (simp only [↓IntWalk.iteOmega]; go_simp; (try go_ints); exact DetR.mk))); simp only [Act.put, List.setIfInBounds_toArray, List.set_cons_zero, List.set_cons_succ])
    refine FlowT.fin fun w2 _ hk2 => ?_
    have Hx2 := hid (Hx1.out.trans hk2.ext)
    clear hk2 e0 d2
    go_wp2
    go_ret2
    exact ⟨rfl, Hx2.out⟩
set_option maxRecDepth 100000 in
set_option maxHeartbeats 3200000 in
theorem callswrites_store (a1 a2 a3 : Option Addr) (c1 c2 c3 : Nat) (P : PP) (k : Nat) (x : PS) (w : World) (ad : Nat → Addr) (h : PW w w.heap.size ad a1 a2 a3 c1 c2 c3 P) (hS : ErrS w ad) (n : Nat) (S : List (List Int)) (hL : LeastAt P n S) (hkl : k < P.stmts.length) (hk : P.stmts[k]? = some x) (hkd : (x.kind.toList == [115, 116, 111, 114, 101]) = true) :
    Calls Tryz.prog 30 #[pval a1 a2 a3 c1 c2 c3 P, .int .i64 (k : Int)] w fun e w' => ∃ a c, e = .returned (.tuple #[.slice a (writesL P S x).length c, .nilIface]) ∧ IntsR w' w'.heap.size (.slice a (writesL P S x).length c) (writesL P S x) ∧ Ext w w' := by
  have HG := hid (hL.good h.well)
  have HSl := hid HG.out.2.1
  have hsl : P.stmts.length ≤ 80 := h.well.few.2.2
  have HPW := hid h
  have HE := hid hS
  obtain ⟨W, hW⟩ : ∃ W, W = w.alloc (.cells (pcells a1 a2 a3 c1 c2 c3 P) 39) := ⟨_, rfl⟩
  have HX : Hid (Ext w W) := hid (by rw [hW]; exact (Ext.refl _).alloc _)
  have HBx : Hid (Blk W w.heap.size (pcells a1 a2 a3 c1 c2 c3 P) 39) := hid (by rw [hW]; exact Blk.new _ _ _)
  have HWe : Hid (W = w.alloc (.cells #[.slice a1 P.vars.length c1, .slice a2 P.funs.length c2, .slice a3 P.stmts.length c3] 39)) := hid (by rw [hW]; rfl)
  have d0 := HBx.out.av 0 rfl
  have d1 := HBx.out.av 1 rfl
  have d2 := HBx.out.av 2 rfl
  simp only [pcells, List.getElem_toArray, List.getElem_cons_zero, List.getElem_cons_succ] at d0 d1 d2
  rw [HWe.out] at d0 d1 d2
  have HL := hid (fixleast_ok a1 a2 a3 c1 c2 c3 P W ad ((h.ext HX.out).lift HX.out.size) (hS.ext HX.out) n S hL)
  rw [← HSl.out] at HL
  clear h hS hL
  unfold pval at HL ⊢
  clear hW
  go_enter Tryz.func30, Tryz.ntmps30
  go_wp2_with fail
  rw [← HWe.out]
  refine HL.out.mono ?_
  intro e w1 hx
  obtain ⟨a, c, rfl, hs, hx1⟩ := hx
  have Hs1 := hid hs
  have Hx1 := hid (HX.out.trans hx1)
  have Hx1W := hid hx1
  have HB1 := hid (HBx.out.ext hx1)
  clear HL hs hx1 d0 d1 d2
  obtain ⟨y, x', aa, ca, rfl, hxk', e0, e1, e2, e3, hIa⟩ := (HPW.out.prog.ext Hx1.out).stmts.at hkl
  obtain rfl : x = x' := Option.some.inj (hk.symm.trans hxk')
  have hal := hIa.len
  obtain ⟨V, hV⟩ : ∃ V, V = w1.alloc (.cells #[.string x.kind, .int .i64 x.x, .int .i64 x.y, .slice aa x.args.length ca] 48) := ⟨_, rfl⟩
  have hxV : Ext w1 V := by rw [hV]; exact (Ext.refl _).alloc _
  have HVe := hid hV
  have HxV := hid (Hx1.out.trans hxV)
  have Hx1V := hid hxV
  have HBs : Hid (Blk V w1.heap.size #[.string x.kind, .int .i64 x.x, .int .i64 x.y, .slice aa x.args.length ca] 48) := hid (by rw [hV]; exact Blk.new _ _ _)
  have d2 := HB1.out.av 2 rfl
  have s0 := HBs.out.av 0 rfl
  have s1 := HBs.out.av 1 rfl
  simp only [pcells, List.getElem_toArray, List.getElem_cons_zero, List.getElem_cons_succ] at d2 s0 s1
  have hgd := PP.good (HPW.out.well.2 k x hkl hk)
  obtain ⟨X, hX⟩ := Int.eq_ofNat_of_zero_le hgd.gx.1
  have hnv := nodes_vars P
  have hXl : X < S.length := by have := HSl.out; have := hgd.gx.2; omega
  have hX40 : X < 40 := by have := hgd.gx.2; have := HPW.out.well.few.1; omega
  rw [hX] at e1 s1
  have HVz : Hid (V = w1.alloc (.cells #[.string x.kind, .int .i64 (X : Int), .int .i64 x.y, .slice aa x.args.length ca] 48)) := hid (by rw [HVe.out, hX])
  have HX' := hid hX
  rw [HVz.out] at s0 s1
  have Hk := hid hk
  clear hIa hxk' hxV hV hgd hnv hX hk
  have HN := hid (callsnodes_any a c S X V V.heap.size ((Hs1.out.ext Hx1V.out).lift Hx1V.out.size) hXl (by have := good_few HG.out X; omega))
  have Hr : Hid (writesL P S x = nodesL S (S.getD X [])) := hid (by unfold writesL; rw [show x.isK kStore = true from hkd, cond_true, HX'.out, Int.toNat_natCast])
  have hml := nodesL_few HG.out X
  obtain ⟨M, hM⟩ : ∃ M, M = nodesL S (S.getD X []) := ⟨_, rfl⟩
  rw [← hM] at HN Hr hml
  clear hM
  go_wp2_with fail
  rw [← HVz.out]
  refine HN.out.mono ?_
  intro e w2 hx
  obtain ⟨v2, rfl, hr2, hx2⟩ := hx
  obtain ⟨am, cm, rfl⟩ := hr2.form
  have Hx2 := hid (HxV.out.trans hx2)
  have HI2 := hid (IntsR.own hr2 (Nat.le_refl _))
  clear HN hr2 hx2 s0 s1 e0 e1 e2 e3 d2
  go_wp2
  go_ret2
  exact ⟨am, cm, by rw [Hr.out]; rfl, by rw [Hr.out]; exact HI2.out, Hx2.out⟩
set_option maxRecDepth 100000 in
set_option maxHeartbeats 6400000 in
theorem callswrites_else (a1 a2 a3 : Option Addr) (c1 c2 c3 : Nat) (P : PP) (k : Nat) (x : PS) (w : World) (ad : Nat → Addr) (h : PW w w.heap.size ad a1 a2 a3 c1 c2 c3 P) (hS : ErrS w ad) (n : Nat) (S : List (List Int)) (hL : LeastAt P n S) (hkl : k < P.stmts.length) (hk : P.stmts[k]? = some x) (hkd : (x.kind.toList == [115, 116, 111, 114, 101]) = false) :
    Calls Tryz.prog 30 #[pval a1 a2 a3 c1 c2 c3 P, .int .i64 (k : Int)] w fun e w' => ∃ a c, e = .returned (.tuple #[.slice a (writesL P S x).length c, .nilIface]) ∧ IntsR w' w'.heap.size (.slice a (writesL P S x).length c) (writesL P S x) ∧ Ext w w' := by
  have HG := hid (hL.good h.well)
  have HSl := hid HG.out.2.1
  have hsl : P.stmts.length ≤ 80 := h.well.few.2.2
  have HPW := hid h
  have HE := hid hS
  obtain ⟨W, hW⟩ : ∃ W, W = w.alloc (.cells (pcells a1 a2 a3 c1 c2 c3 P) 39) := ⟨_, rfl⟩
  have HX : Hid (Ext w W) := hid (by rw [hW]; exact (Ext.refl _).alloc _)
  have HBx : Hid (Blk W w.heap.size (pcells a1 a2 a3 c1 c2 c3 P) 39) := hid (by rw [hW]; exact Blk.new _ _ _)
  have HWe : Hid (W = w.alloc (.cells #[.slice a1 P.vars.length c1, .slice a2 P.funs.length c2, .slice a3 P.stmts.length c3] 39)) := hid (by rw [hW]; rfl)
  have d0 := HBx.out.av 0 rfl
  have d1 := HBx.out.av 1 rfl
  have d2 := HBx.out.av 2 rfl
  simp only [pcells, List.getElem_toArray, List.getElem_cons_zero, List.getElem_cons_succ] at d0 d1 d2
  rw [HWe.out] at d0 d1 d2
  have HL := hid (fixleast_ok a1 a2 a3 c1 c2 c3 P W ad ((h.ext HX.out).lift HX.out.size) (hS.ext HX.out) n S hL)
  rw [← HSl.out] at HL
  clear h hS hL
  unfold pval at HL ⊢
  clear hW
  go_enter Tryz.func30, Tryz.ntmps30
  go_wp2_with fail
  rw [← HWe.out]
  refine HL.out.mono ?_
  intro e w1 hx
  obtain ⟨a, c, rfl, hs, hx1⟩ := hx
  have Hs1 := hid hs
  have Hx1 := hid (HX.out.trans hx1)
  have Hx1W := hid hx1
  have HB1 := hid (HBx.out.ext hx1)
  clear HL hs hx1 d0 d1 d2
  obtain ⟨y, x', aa, ca, rfl, hxk', e0, e1, e2, e3, hIa⟩ := (HPW.out.prog.ext Hx1.out).stmts.at hkl
  obtain rfl : x = x' := Option.some.inj (hk.symm.trans hxk')
  have hal := hIa.len
  obtain ⟨V, hV⟩ : ∃ V, V = w1.alloc (.cells #[.string x.kind, .int .i64 x.x, .int .i64 x.y, .slice aa x.args.length ca] 48) := ⟨_, rfl⟩
  have hxV : Ext w1 V := by rw [hV]; exact (Ext.refl _).alloc _
  have HVe := hid hV
  have HxV := hid (Hx1.out.trans hxV)
  have Hx1V := hid hxV
  have HBs : Hid (Blk V w1.heap.size #[.string x.kind, .int .i64 x.x, .int .i64 x.y, .slice aa x.args.length ca] 48) := hid (by rw [hV]; exact Blk.new _ _ _)
  have d2 := HB1.out.av 2 rfl
  have s0 := HBs.out.av 0 rfl
  have s1 := HBs.out.av 1 rfl
  simp only [pcells, List.getElem_toArray, List.getElem_cons_zero, List.getElem_cons_succ] at d2 s0 s1
  have hgd := PP.good (HPW.out.well.2 k x hkl hk)
  obtain ⟨X, hX⟩ := Int.eq_ofNat_of_zero_le hgd.gx.1
  have hnv := nodes_vars P
  have hXl : X < S.length := by have := HSl.out; have := hgd.gx.2; omega
  have hX40 : X < 40 := by have := hgd.gx.2; have := HPW.out.well.few.1; omega
  rw [hX] at e1 s1
  have HVz : Hid (V = w1.alloc (.cells #[.string x.kind, .int .i64 (X : Int), .int .i64 x.y, .slice aa x.args.length ca] 48)) := hid (by rw [HVe.out, hX])
  have HX' := hid hX
  rw [HVz.out] at s0 s1
  have Hk := hid hk
  clear hIa hxk' hxV hV hgd hnv hX hk
  obtain ⟨U, hU⟩ : ∃ U, U = V.alloc (.cells #[.int .i64 (X : Int)] 3) := ⟨_, rfl⟩
  have hxU : Ext V U := by rw [hU]; exact (Ext.refl _).alloc _
  have sU : V.heap.size = w1.heap.size + 1 := by rw [HVe.out, heap_size_alloc]
  have HBu : Hid (Blk U V.heap.size #[.int .i64 (X : Int)] 3) := hid (by rw [hU]; exact Blk.new _ _ _)
  have HUe : Hid (U = (w1.alloc (.cells #[.string x.kind, .int .i64 (X : Int), .int .i64 x.y, .slice aa x.args.length ca] 48)).alloc (.cells #[.int .i64 (X : Int)] 3)) := hid (by rw [hU, HVz.out])
  have HxU := hid (HxV.out.trans hxU)
  have Hx1U := hid (Hx1V.out.trans hxU)
  have HVU := hid hxU
  have Hsu := hid sU
  have HCl := fun w2 (y : Ext V w2) => hid (callscalled_any a1 a2 _ c1 c2 c3 P a c S k x w2 w2.heap.size ad ((HPW.out.ext (HxV.out.trans y)).lift (HxV.out.trans y).size) ((Hs1.out.ext (Hx1V.out.trans y)).lift (Hx1V.out.trans y).size) HG.out Hk.out (Nat.le_refl _))
  obtain ⟨M, hM⟩ : ∃ M, M = calledL P S x := ⟨_, rfl⟩
  have hml : M.length ≤ 1000 := by rw [hM]; exact calledL_len HG.out _
  have HMf := hid (show ∀ f ∈ M, ∃ n : Nat, f = (n : Int) ∧ n < P.funs.length from fun f hf => calledL_fun (by rw [← hM]; exact hf))
  have Hr : Hid (writesL P S x = (bif x.isK kCall && decide (M.length = 0) then [] else sset ((X : Int) :: paramsL P M))) := hid (by unfold writesL; rw [show x.isK kStore = false from hkd, cond_false, ← hM, HX'.out])
  rw [← hM] at HCl
  unfold pval at HCl
  have p0 := (HB1.out.ext Hx1U.out).av 0 rfl
  have p1 := (HB1.out.ext Hx1U.out).av 1 rfl
  have p2 := (HB1.out.ext Hx1U.out).av 2 rfl
  simp only [pcells, List.getElem_toArray, List.getElem_cons_zero, List.getElem_cons_succ] at p0 p1 p2
  rw [HUe.out] at p0 p1 p2
  have HC1 := HCl U hxU
  clear hU hxU sU hM
  go_wp2_with fail
  rw [← HUe.out]
  clear s0 s1 e0 e1 e2 e3 d2 p0 p1 p2
  refine HC1.out.mono ?_
  intro e w2 hx
  obtain ⟨v2, rfl, hr2, hx2⟩ := hx
  obtain ⟨am, cm, rfl⟩ := hr2.form
  have hMb : ∀ q, (Value.slice am M.length cm).ownBlock = some q → U.heap.size ≤ q ∧ q < w2.heap.size := fun q hq => World.ownsRow.lt hr2 q hq
  have HMb := hid hMb
  have HM2 : Hid (w2.ownsRow 0 3 1 (.slice am M.length cm) M.length (icells M)) := hid (own_low hr2 (Nat.zero_le _))
  have hmi := (IntsR.own hr2 (Nat.le_refl _)).len
  have Hx2 := hid hx2
  have HE0 : Hid (w2.ownsRow V.heap.size 3 1 (.slice (some ⟨V.heap.size, 0, none⟩) 1 1) 1 (icells [(X : Int)])) := hid
    ⟨rfl, .inr ⟨V.heap.size, 1, #[.int .i64 (X : Int)], rfl, Nat.le_refl _, HBu.out.ext hx2, Nat.le_refl _, by unfold maxLen; omega, rfl, rfl⟩⟩
  have HUlt : Hid (V.heap.size < U.heap.size) := hid HBu.out.lt
  rw [Hsu.out] at HE0
  clear HC1 hr2 hx2 hMb
  go_wp2
  go_loopw [10, 52] (fun t10 t52 wr => ∃ (j : Nat) (E : List Int), t52 = .int .i64 (j : Int) ∧ j ≤ M.length ∧ E = (X : Int) :: paramsL P (M.take j) ∧ E.length ≤ 1 + 3 * j ∧ wr.ownsRow (w1.heap.size + 1) 3 1 t10 E.length (icells E) ∧ (∀ q, t10.ownBlock = some q → q < U.heap.size ∨ w2.heap.size ≤ q) ∧ wr.ownsRow 0 3 1 (.slice am M.length cm) M.length (icells M) ∧ w2.heap.size ≤ wr.heap.size ∧ Ext V wr) (fun _ t52 _ => M.length - (intOf t52).toNat)
  case atStart =>
    refine ⟨0, [(X : Int)], rfl, Nat.zero_le _, rfl, Nat.le_refl _, HE0.out, fun q hq => .inl ?_, HM2.out, Nat.le_refl _, HVU.out.trans Hx2.out⟩
    have e : w1.heap.size + 1 = q := by simpa [Value.ownBlock] using hq
    have := HUlt.out
    have := Hsu.out
    omega
  case round =>
    obtain ⟨j, E, rfl, hj, hE, hEl, hr, hq, hm, hws, hx⟩ := hrel
    have Hws := hid hws
    obtain ⟨a8, c8, rfl⟩ := row_form hr
    have Hr8 := hid hr
    have Hq8 := hid hq
    have Hm8 := hid hm
    have Hxr := hid hx
    have HEe := hid hE
    clear hr hx hE hm hq hws
    by_cases hlj : j < M.length
    · obtain ⟨ym, f, hym, hf, hcf⟩ := (IntsR.own Hm8.out (Nat.le_refl _)).at hlj
      subst hym
      obtain ⟨N, rfl, hN⟩ := HMf.out f (List.mem_of_getElem? hf)
      obtain ⟨yf, g, afp, cfp, hyf, hfk, f0, f1, f2, hIp⟩ := (HPW.out.prog.ext (HxV.out.trans Hxr.out)).funs.at hN
      subst hyf
      have hpl := hIp.len
      have hp3 := (PP.goodF (PP.funs_ok HPW.out.well.1) (List.mem_of_getElem? hfk)).few
      have Hn2 : Hid ((X : Int) :: paramsL P (M.take (j + 1)) = E ++ g.params) := hid (by
        rw [List.take_add_one, hf, HEe.out]
        show _ :: paramsL P (M.take j ++ [(N : Int)]) = _
        rw [paramsL_snoc, Int.toNat_natCast, List.getD_eq_getElem?_getD, hfk]; rfl)
      have HS := hid (IntsR.src hIp)
      have d1 := (HB1.out.ext (Hx1V.out.trans Hxr.out)).av 1 rfl
      simp only [pcells, List.getElem_toArray, List.getElem_cons_zero, List.getElem_cons_succ] at d1
      have Hrb : Hid (w1.heap.size + 1 ≤ wr.heap.size) := hid (by have := Hsu.out; have := Hxr.out.size; omega)
      clear hf hfk hIp
      go_wp2_with (at_builtin; refine wpList_append_src (w1.heap.size + 1) Hrb.out 22 3 (.int .i64 0) 1 8 Tryz.underlying22 ints_info rfl (by omega) (by omega) rfl _ _ rfl (.slice a8 E.length c8) E.length (icells E) rfl Hr8.out afp g.params.length cfp (icells g.params) rfl HS.out (by omega) ?_; intro v' w' h1 h2 h4; obtain ⟨a', c', rfl⟩ := row_form h1; have h3 := hid (Keep.new Hxr.out h2 (fun k hk => by have := (World.ownsRow.lt Hr8.out k hk).1; have := Hsu.out; omega)); have hm := hid (row_keep Hm8.out h2 (fun i hi e => by have b1 := HMb.out i hi; have b2 := Hq8.out i e; omega)); have hq := hid (show ∀ q, (Value.slice a' (E.length + g.params.length) c').ownBlock = some q → q < U.heap.size ∨ w2.heap.size ≤ q from fun q hq => by rcases h4 q hq with b | b; exact Hq8.out q b; right; have := Hws.out; omega); have hwz := hid (Nat.le_trans Hws.out h2.size); have h1 := hid h1; clear h2 h4)
      go_roundw
      case rel => exact ⟨j + 1, E ++ g.params, by go_num, by omega, Hn2.out.symm, by rw [List.length_append]; omega, by have := h1.out; rw [icells_append, List.length_append]; exact this, hq.out, hm.out, hwz.out, h3.out⟩
      case measure => simp [intOf]; omega
    · obtain rfl : j = M.length := by omega
      have hEn : E = (X : Int) :: paramsL P M := by rw [HEe.out, List.take_of_length_le (Nat.le_refl _)]
      have HIn := hid (show InR E from fun z hz => by
        rw [hEn] at hz
        rcases List.mem_cons.1 hz with rfl | hz
        · omega
        · exact paramsL_in HPW.out.well HMf.out z hz)
      have HO := fun w3 (y : Ext wr w3) => hid (setof_any (.slice a8 E.length c8) E w3 wr.heap.size ad (HE.out.ext (HxV.out.trans (Hxr.out.trans y))) ((IntsR.own Hr8.out (Nat.le_refl _)).old (y.old _)) (by omega))
      have s0 := (HBs.out.ext Hxr.out).av 0 rfl
      simp only [List.getElem_toArray, List.getElem_cons_zero, List.getElem_cons_succ] at s0
      cases hkc : (x.kind.toList == [99, 97, 108, 108]) with
      | false =>
        have Hw : Hid (writesL P S x = sset E) := hid (by rw [Hr.out, show x.isK kCall = false from hkc, hEn]; rfl)
        have HO1 := HO wr (Ext.refl _)
        clear hEn HCl
        go_wp2_with fail
        refine HO1.out.mono ?_
        clear HO HO1
        intro e w4 hx
        obtain ⟨t, rfl, ht, hx4⟩ := hx
        obtain ⟨v, rfl, hrow⟩ : ∃ v, t = .tuple #[v, .nilIface] ∧ IRow wr.heap.size w4 v (sset E) := by
          rcases ht with ⟨_, v, h1, h2⟩ | ⟨h, _⟩
          · exact ⟨v, h1, h2⟩
          · exact absurd HIn.out h
        obtain ⟨av, cv, rfl⟩ := hrow.form
        have HI4 := hid (IntsR.own hrow (Nat.le_refl _))
        have Hx4 := hid (Hxr.out.trans hx4)
        clear ht hrow hx4
        go_wp2
        go_ret2
        exact ⟨av, cv, by rw [Hw.out]; rfl, by rw [Hw.out]; exact HI4.out, HxV.out.trans Hx4.out⟩
      | true =>
        have HC2 := HCl wr Hxr.out
        have hkb : x.isK kCall = true := hkc
        have p0 := (HB1.out.ext (Hx1V.out.trans Hxr.out)).av 0 rfl
        have p1 := (HB1.out.ext (Hx1V.out.trans Hxr.out)).av 1 rfl
        have p2 := (HB1.out.ext (Hx1V.out.trans Hxr.out)).av 2 rfl
        simp only [pcells, List.getElem_toArray, List.getElem_cons_zero, List.getElem_cons_succ] at p0 p1 p2
        have hb := len_zero M.length
        have HEn := hid hEn
        have Hkb := hid hkb
        clear HCl hEn hkb
        go_wp2_with fail
        refine HC2.out.mono ?_
        intro e w3 hx
        obtain ⟨v3, rfl, hr3, hx3⟩ := hx
        obtain ⟨am3, cm3, rfl⟩ := hr3.form
        have Hx3 := hid (Hxr.out.trans hx3)
        have HO1 := HO w3 hx3
        clear HC2 hr3 hx3 p0 p1 p2 HO s0
        by_cases h0 : M.length = 0
        · have Hw : Hid (writesL P S x = []) := hid (by rw [Hr.out, Hkb.out, decide_eq_true h0]; rfl)
          rw [decide_eq_true h0] at hb
          clear h0
          go_wp2
          go_ret2
          exact ⟨none, 0, by rw [Hw.out]; rfl, by rw [Hw.out]; exact ⟨none, 0, rfl, by decide, by decide, fun h => absurd h (by decide), fun y hy => by cases hy⟩, HxV.out.trans Hx3.out⟩
        · have Hw : Hid (writesL P S x = sset E) := hid (by rw [Hr.out, Hkb.out, decide_eq_false h0, HEn.out]; rfl)
          rw [decide_eq_false h0] at hb
          clear h0
          go_wp2_with fail
          refine HO1.out.mono ?_
          clear HO1 hb
          intro e w4 hx
          obtain ⟨t, rfl, ht, hx4⟩ := hx
          obtain ⟨v, rfl, hrow⟩ : ∃ v, t = .tuple #[v, .nilIface] ∧ IRow w3.heap.size w4 v (sset E) := by
            rcases ht with ⟨_, v, h1, h2⟩ | ⟨h, _⟩
            · exact ⟨v, h1, h2⟩
            · exact absurd HIn.out h
          obtain ⟨av, cv, rfl⟩ := hrow.form
          have HI4 := hid (IntsR.own hrow (Nat.le_refl _))
          have Hx4 := hid (Hx3.out.trans hx4)
          clear ht hrow hx4
          go_wp2
          go_ret2
          exact ⟨av, cv, by rw [Hw.out]; rfl, by rw [Hw.out]; exact HI4.out, HxV.out.trans Hx4.out⟩
theorem callswrites_ok (a1 a2 a3 : Option Addr) (c1 c2 c3 : Nat) (P : PP) (k : Nat) (x : PS) (w : World) (ad : Nat → Addr) (h : PW w w.heap.size ad a1 a2 a3 c1 c2 c3 P) (hS : ErrS w ad) (n : Nat) (S : List (List Int)) (hL : LeastAt P n S) (hk : P.stmts[k]? = some x) :
    Calls Tryz.prog 30 #[pval a1 a2 a3 c1 c2 c3 P, .int .i64 (k : Int)] w fun e w' => ∃ a c, e = .returned (.tuple #[.slice a (writesL P S x).length c, .nilIface]) ∧ IntsR w' w'.heap.size (.slice a (writesL P S x).length c) (writesL P S x) ∧ Ext w w' := by
  have hkl : k < P.stmts.length := by
    rcases Nat.lt_or_ge k P.stmts.length with g | g
    · exact g
    · rw [List.getElem?_eq_none g] at hk; cases hk
  cases hkd : (x.kind.toList == [115, 116, 111, 114, 101]) with
  | true => exact callswrites_store a1 a2 a3 c1 c2 c3 P k x w ad h hS n S hL hkl hk hkd
  | false => exact callswrites_else a1 a2 a3 c1 c2 c3 P k x w ad h hS n S hL hkl hk hkd
end Go.Proofs.YtoaoienfggjepaaGreatDoor



/- Sets: the reference's set of any numbers. -/
namespace Go.Proofs.YtoaoienfggjepaaGreatDoor
set_option linter.unusedSimpArgs false
set_option linter.unusedVariables false
open Go Go.RowKit

theorem bools_info : (Tryz.prog.info? 4).map (fun i => (i.zero, i.size, i.bytes)) = some (some (.bool false), 1, 1) := by kernel_rfl
/-- Which numbers were seen. -/
def seen (l : List Int) : List Value := (List.range 1000).map fun n : Nat => Value.bool (decide ((n : Int) ∈ l))
theorem seen_len (l : List Int) : (seen l).length = 1000 := by simp [seen]
theorem seen_at (l : List Int) {n : Nat} (h : n < 1000) : (seen l)[n]? = some (.bool (decide ((n : Int) ∈ l))) := by
  unfold seen
  rw [List.getElem?_map, List.getElem?_range h]
  rfl
theorem seen_snoc (l : List Int) (q : Nat) : (seen l).toArray.setIfInBounds q (.bool true) = (seen (l ++ [(q : Int)])).toArray := by
  apply Array.ext_getElem?
  intro i
  rw [Array.getElem?_setIfInBounds]
  simp only [List.getElem?_toArray, List.size_toArray, seen_len]
  by_cases hi : i < 1000
  · rw [seen_at _ hi, seen_at _ hi]
    by_cases hq : q = i
    · subst hq
      rw [if_pos rfl, if_pos hi, decide_eq_true (by simp)]
    · rw [if_neg hq]
      congr 2
      exact decide_eq_decide.2 ⟨fun h => List.mem_append_left _ h, fun h => (List.mem_append.1 h).elim id fun g => absurd (List.mem_singleton.1 g) (by omega)⟩
  · have hn : ∀ m : List Int, (seen m)[i]? = none := fun m => List.getElem?_eq_none (by rw [seen_len]; omega)
    rw [hn, hn]
    by_cases hq : q = i
    · subst hq; rw [if_pos rfl, if_neg hi]
    · rw [if_neg hq]
theorem made_seen : (madeCells (Value.bool false).cells (1000 * 1)).toList = seen [] := by
  rw [show (Value.bool false).cells = #[Value.bool false] from rfl, toList_madeCells_one]
  apply List.ext_getElem?
  intro i
  by_cases hi : i < 1000
  · rw [seen_at _ hi, List.getElem?_replicate, if_pos (by omega), decide_eq_false (by simp)]
  · rw [List.getElem?_eq_none (by rw [List.length_replicate]; omega), List.getElem?_eq_none (by rw [seen_len]; omega)]
/-- The set's numbers below n. -/
def setUp (l : List Int) (n : Nat) : List Int := ((List.range n).filter fun k : Nat => decide ((k : Int) ∈ l)).map fun k : Nat => (k : Int)
theorem setUp_full (l : List Int) : setUp l 1000 = sset l := rfl
theorem setUp_succ (l : List Int) (n : Nat) : setUp l (n + 1) = setUp l n ++ (if decide ((n : Int) ∈ l) then [(n : Int)] else []) := by
  unfold setUp
  rw [List.range_succ, List.filter_append, List.map_append]
  congr 1
  by_cases h : decide ((n : Int) ∈ l) = true
  · rw [if_pos h]; simp [h]
  · rw [if_neg h]; simp [h]
theorem setUp_len (l : List Int) (n : Nat) : (setUp l n).length ≤ n := by
  unfold setUp
  rw [List.length_map]
  have := List.length_filter_le (fun k : Nat => decide ((k : Int) ∈ l)) (List.range n)
  rw [List.length_range] at this
  exact this
set_option maxRecDepth 100000 in
set_option maxHeartbeats 1600000 in
theorem rsetof_any (v : Value) (l : List Int) (w : World) (n0 : Nat) (h : IntsR w n0 v l) (hin : InR l) :
    Calls Tryz.prog 90 #[v] w fun e w' => ∃ v', e = .returned v' ∧ Ext w w' ∧ IRow w.heap.size w' v' (sset l) := by
  have HS := hid h
  obtain ⟨a, cap, rfl, h2, h3, h4, _⟩ := h
  have H4 := hid h4
  have Hin := hid hin
  have hml : (l.length : Int) ≤ 9223372036854775807 := by omega
  clear h2 h3 h4 hin
  go_enter Tryz.func90, Tryz.ntmps90
  obtain ⟨bi, hbi, hbz, hbs, hbb⟩ := info_parts bools_info
  go_wp2_with (at_make; refine wpList_make_full w rfl _ _ _ rfl w.heap.size 4 bi (.bool false) 1 Tryz.underlying173 hbi hbz hbs .i64 .i64 1000 1000 1000 rfl rfl rfl rfl (by rw [hbb]; omega) (by unfold maxLen; omega) (Nat.le_refl _) ?_; intro w1 hrow hgr)
  have hx1 : Ext w w1 := Keep.new (Ext.refl w) (grown_keep hgr) (fun k hk => by cases hk)
  have Hx1 := hid hx1
  have HB1 : Hid (Blk w1 w.heap.size (seen []).toArray 4) := hid (by
    rcases hrow.2 with ⟨h1, _⟩ | ⟨g', cap', cur, h1, h2, h3, h4, h5, h6, h7⟩
    · simp at h1
    · simp only [Value.slice.injEq, Option.some.injEq, Addr.mk.injEq, and_true] at h1
      obtain ⟨rfl, _, rfl⟩ := h1
      have e : cur = (seen []).toArray := by
        have e1 : cur.toList = seen [] := by
          rw [← made_seen, ← h7, List.take_of_length_le (by rw [Array.length_toList]; omega)]
        rw [← e1]
      rw [← e]; exact h3)
  clear hx1 hrow hgr hbi hbz hbs hbb
  go_wp2
  go_loopw [4] (fun t4 wr => ∃ k : Nat, t4 = .int .i64 (k : Int) ∧ k ≤ l.length ∧ Blk wr w.heap.size (seen (l.take k)).toArray 4 ∧ Ext w wr) (fun t4 _ => l.length - (intOf t4).toNat)
  case atStart => exact ⟨0, rfl, Nat.zero_le _, HB1.out, Hx1.out⟩
  case round =>
    obtain ⟨k, rfl, hk, hB, hx⟩ := hrel
    have HB := hid hB
    have Hx := hid hx
    clear hB
    by_cases hlt : k < l.length
    · obtain ⟨y, rfl⟩ := H4.out (by omega)
      obtain ⟨q, hq⟩ : ∃ q, l[k]? = some q := ⟨_, List.getElem?_eq_getElem hlt⟩
      have hq01 := Hin.out q (List.mem_of_getElem? hq)
      obtain ⟨Q, rfl⟩ := Int.eq_ofNat_of_zero_le hq01.1
      have hQ : Q < 1000 := by omega
      obtain ⟨a', cap', h1, _, _, _, h5⟩ := HS.out.old (hx.old n0)
      obtain ⟨rfl, rfl⟩ : some y = a' ∧ cap = cap' := by simpa using h1
      have hc := (h5 y rfl (by omega)).2 k hlt _ hq
      have z0 := HB.out.av Q (by rw [List.getElem?_toArray]; exact seen_at _ hQ)
      have f0 := HB.out.free Q
      have Hn : Hid (seen (l.take (k + 1)) = seen (l.take k ++ [(Q : Int)])) := hid (by rw [List.take_add_one, hq]; rfl)
      have hB2 := HB.out.set Q (.bool true)
      rw [seen_snoc, ← Hn.out] at hB2
      have HB2 := hid hB2
      have HX2 := hid (Keep.new Hx.out (Keep.set (X := fun b => b = w.heap.size) (Keep.refl _ wr) rfl (.bool true) : Keep (fun b => b = w.heap.size) wr (wr.setCell ⟨w.heap.size, Q, none⟩ (.bool true))) fun b e => by subst e; exact Nat.le_refl _)
      clear hq hq01 h1 h5 hx hB2
      go_wp2
      go_roundw
      case rel => exact ⟨k + 1, by go_num, by omega, HB2.out, HX2.out⟩
      case measure => simp [intOf]; omega
    · obtain rfl : k = l.length := by omega
      rw [List.take_of_length_le (Nat.le_refl _)] at HB
      clear hx
      go_wp2
      go_loopw [5, 6] (fun t5 t6 wr => ∃ n : Nat, t6 = .int .i64 (n : Int) ∧ n ≤ 1000 ∧ IRow w.heap.size wr t5 (setUp l n) ∧ Blk wr w.heap.size (seen l).toArray 4 ∧ Ext w wr) (fun _ t6 _ => 1000 - (intOf t6).toNat)
      case atStart => exact ⟨0, rfl, Nat.zero_le _, IRow.nil _ _, HB.out, Hx.out⟩
      case round =>
        obtain ⟨n, rfl, hn, hr, hB, hx⟩ := hrel
        have hml2 : (setUp l n).length ≤ 1000 := Nat.le_trans (setUp_len l n) hn
        have hsu := setUp_succ l n
        obtain ⟨m, hm⟩ : ∃ m, m = setUp l n := ⟨_, rfl⟩
        rw [← hm] at hr hml2 hsu
        have Hm := hid hm
        have Hsu := hid hsu
        obtain ⟨a5, c5, rfl⟩ := hr.form
        have Hr := hid hr
        have HBs := hid hB
        have Hx3 := hid hx
        clear hm hr hB hx hsu
        by_cases hlt : n < 1000
        · have z0 := HBs.out.av n (by rw [List.getElem?_toArray]; exact seen_at _ hlt)
          obtain ⟨bq, hbq⟩ : ∃ bq, bq = decide ((n : Int) ∈ l) := ⟨_, rfl⟩
          rw [← hbq] at z0 Hsu
          clear hbq
          cases bq with
          | true =>
            have Hn : Hid (setUp l (n + 1) = m ++ [(n : Int)]) := hid (by rw [Hsu.out]; rfl)
            have hxa : Hid (Ext w (wr.alloc (.cells #[.int .i64 (n : Int)] 3))) := hid (Hx3.out.alloc _)
            have Hra : Hid (IRow w.heap.size (wr.alloc (.cells #[.int .i64 (n : Int)] 3)) (.slice a5 m.length c5) m) := hid (Hr.out.ext ((Ext.refl _).alloc _))
            have HBa : Hid (Blk (wr.alloc (.cells #[.int .i64 (n : Int)] 3)) w.heap.size (seen l).toArray 4) := hid (HBs.out.ext ((Ext.refl _).alloc _))
            go_wp2_with (at_builtin; refine wpList_append_el w.heap.size hxa.out.size 22 3 (.int .i64 0) 1 8 Tryz.underlying22 ints_info rfl (by omega) (by omega) rfl _ _ rfl (.slice a5 m.length c5) m.length (icells m) rfl Hra.out wr.heap.size [.int .i64 (n : Int)] rfl (by simp [Value.oneCell']) rfl (Blk.new _ _ _) (by omega) ?_; intro v' w' h1 h2 h4; obtain ⟨a', c', rfl⟩ := row_form h1; have h3 := hid (Keep.new hxa.out h2 (fun k hk => (Hra.out.lt hk).1)); have hb5 := hid (HBa.out.keep h2 (fun e => by obtain ⟨c, hc⟩ := own_ty Hra.out e; exact Blk.ty_ne hc HBa.out (by decide) rfl)); have h1 := hid h1; clear h2 h4)
            go_roundw
            case rel => exact ⟨n + 1, by go_num, by omega, by rw [Hn.out]; have := h1.out; unfold IRow; rw [icells_append, List.length_append]; exact this, hb5.out, h3.out⟩
            case measure => simp [intOf]; omega
          | false =>
            have Hn : Hid (setUp l (n + 1) = m) := hid (by rw [Hsu.out]; simp)
            go_wp2
            go_roundw
            case rel => exact ⟨n + 1, by go_num, by omega, by rw [Hn.out]; exact Hr.out, HBs.out, Hx3.out⟩
            case measure => simp [intOf]; omega
        · obtain rfl : n = 1000 := by omega
          have Hn : Hid (m = sset l) := hid (by rw [Hm.out, setUp_full])
          go_wp2
          go_ret
          exact ⟨_, rfl, Hx3.out, by rw [← Hn.out]; exact Hr.out⟩
end Go.Proofs.YtoaoienfggjepaaGreatDoor



/- The reference: what a statement may change (WritesOf); what an error is coded. -/
namespace Go.Proofs.YtoaoienfggjepaaGreatDoor
set_option linter.unusedSimpArgs false
set_option linter.unusedVariables false
open Go Go.RowKit

theorem sset_perm {a b : List Int} (h : ∀ x, x ∈ a ↔ x ∈ b) : sset a = sset b := by
  have e : ((List.range 1000).filter fun n : Nat => decide ((n : Int) ∈ a)) = ((List.range 1000).filter fun n : Nat => decide ((n : Int) ∈ b)) := List.filter_congr fun n _ => by
    rw [decide_eq_decide]
    exact h _
  unfold sset
  rw [e]
theorem nodesL_next (S : List (List Int)) {l : List Int} {i : Nat} {o : Int} (h : l[i]? = some o) : nodesL S (l.take (i + 1)) = nodesL S (l.take i) ++ (if decide ((S.length : Int) ≤ o) = true then [] else [o]) := by
  unfold nodesL
  rw [List.take_add_one, h, List.filter_append]
  by_cases h2 : (S.length : Int) ≤ o
  · rw [if_pos (decide_eq_true h2)]; simp [h2]
  · rw [if_neg (by simp [h2])]; simp [h2] <;> omega
set_option maxRecDepth 100000 in
set_option maxHeartbeats 6400000 in
theorem rwritesof_any (a1 a2 a3 : Option Addr) (c1 c2 c3 : Nat) (P : PP) (ah : Option Addr) (ch : Nat) (S : List (List Int)) (k : Nat) (x : PS) (w : World) (n0 : Nat) (h : ProgR w n0 (.slice a1 P.vars.length c1) (.slice a2 P.funs.length c2) (.slice a3 P.stmts.length c3) P) (hh : SetsR w n0 (.slice ah S.length ch) S) (hg : P.GoodS S) (hk : P.stmts[k]? = some x) (hn0 : n0 ≤ w.heap.size) :
    Calls Tryz.prog 45 #[pval a1 a2 a3 c1 c2 c3 P, .slice ah S.length ch, .int .i64 (k : Int)] w fun e w' => ∃ v, e = .returned v ∧ IRow w.heap.size w' v (writesL P S x) ∧ Ext w w' := by
  have hkl : k < P.stmts.length := by
    rcases Nat.lt_or_ge k P.stmts.length with g | g
    · exact g
    · rw [List.getElem?_eq_none g] at hk; cases hk
  have hw := hg.1
  obtain ⟨hf1, hf2, hf3⟩ := hw.few
  have hgd := PP.good (hw.2 k x hkl hk)
  obtain ⟨W, hW⟩ : ∃ W, W = w.alloc (.cells (pcells a1 a2 a3 c1 c2 c3 P) 39) := ⟨_, rfl⟩
  have hx1 : Ext w W := by rw [hW]; exact (Ext.refl _).alloc _
  obtain ⟨y3, x', aa, ca, rfl, hxk', e0, e1, e2, e3, hIa⟩ := (h.ext hx1).stmts.at hkl
  obtain rfl : x = x' := Option.some.inj (hk.symm.trans hxk')
  have hal := hIa.len
  obtain ⟨V, hV⟩ : ∃ V, V = W.alloc (.cells #[.string x.kind, .int .i64 x.x, .int .i64 x.y, .slice aa x.args.length ca] 48) := ⟨_, rfl⟩
  have hxV : Ext W V := by rw [hV]; exact (Ext.refl _).alloc _
  have sW : W.heap.size = w.heap.size + 1 := by rw [hW, heap_size_alloc]
  have HX : Hid (Ext w V) := hid (hx1.trans hxV)
  have HBp : Hid (Blk V w.heap.size (pcells a1 a2 (some y3) c1 c2 c3 P) 39) := hid ((show Blk W w.heap.size (pcells a1 a2 (some y3) c1 c2 c3 P) 39 by rw [hW]; exact Blk.new _ _ _).ext hxV)
  have HBs : Hid (Blk V (w.heap.size + 1) #[.string x.kind, .int .i64 x.x, .int .i64 x.y, .slice aa x.args.length ca] 48) := hid (by rw [← sW, hV]; exact Blk.new _ _ _)
  have d2 : W.cell? ⟨w.heap.size, 2, none⟩ = some (.slice (some y3) P.stmts.length c3) := (show Blk W w.heap.size (pcells a1 a2 (some y3) c1 c2 c3 P) 39 by rw [hW]; exact Blk.new _ _ _).av 2 rfl
  have HWe : Hid (W = w.alloc (.cells #[.slice a1 P.vars.length c1, .slice a2 P.funs.length c2, .slice (some y3) P.stmts.length c3] 39)) := hid (by rw [hW]; rfl)
  have HVe : Hid (V = (w.alloc (.cells #[.slice a1 P.vars.length c1, .slice a2 P.funs.length c2, .slice (some y3) P.stmts.length c3] 39)).alloc (.cells #[.string x.kind, .int .i64 x.x, .int .i64 x.y, .slice aa x.args.length ca] 48)) := hid (by rw [hV, hW]; rfl)
  have HPR := hid h
  have HG := hid hg
  have HH := hid hh
  have hhl := hh.len
  have s0 := HBs.out.av 0 rfl
  have s1 := HBs.out.av 1 rfl
  have s2 := HBs.out.av 2 rfl
  simp only [List.getElem_toArray, List.getElem_cons_zero, List.getElem_cons_succ] at s0 s1 s2
  rw [HVe.out] at s0 s1 s2
  rw [HWe.out] at d2 e0 e1 e2 e3
  unfold pval
  clear hW hx1 hxV hV sW hIa hxk' h hg hh
  obtain ⟨X, hX⟩ := Int.eq_ofNat_of_zero_le hgd.gx.1
  have hX40 : X < 40 := by have := hgd.gx.2; omega
  have hnv := nodes_vars P
  have hXl : X < S.length := by have := HG.out.2.1; have := hgd.gx.2; omega
  have hXin : 0 ≤ (X : Int) ∧ (X : Int) < 1000 := by omega
  rw [hX] at e1 s0 s1 s2
  have HVz : Hid (V = (w.alloc (.cells #[.slice a1 P.vars.length c1, .slice a2 P.funs.length c2, .slice (some y3) P.stmts.length c3] 39)).alloc (.cells #[.string x.kind, .int .i64 (X : Int), .int .i64 x.y, .slice aa x.args.length ca] 48)) := hid (by rw [HVe.out, hX])
  have HX2 := hid hX
  have Hk := hid hk
  have Hhw := hid hw
  have Hn0 := hid hn0
  clear hX hnv hgd hk
  cases h1 : (x.kind.toList == [115, 116, 111, 114, 101]) with
  | true =>
    obtain ⟨z, l, bl, cl, hz, hl, hc, hI⟩ := (HH.out.ext HX.out).at hXl
    subst hz
    have hll := hI.len
    have HI := hid hI
    have hlf : l.length ≤ 1000 := srt_few (HG.out.ok.ok l (List.mem_of_getElem? hl)).1
    have Hwr : Hid (writesL P S x = nodesL S l) := hid (by unfold writesL; rw [show x.isK kStore = true from h1, cond_true, HX2.out, Int.toNat_natCast, List.getD_eq_getElem?_getD, hl]; rfl)
    have Hc := hid hc
    clear hl hI hc
    go_enter Tryz.func45, Tryz.ntmps45
    go_wp2
    rw [← HVz.out]
    clear s0 s1 s2 e0 e1 e2 e3 d2
    go_loopw [8, 9] (fun t8 t9 wr => ∃ (i : Nat) (M : List Int), t9 = .int .i64 (i : Int) ∧ i ≤ l.length ∧ M = nodesL S (l.take i) ∧ M.length ≤ i ∧ IRow V.heap.size wr t8 M ∧ Ext V wr) (fun _ t9 _ => l.length - (intOf t9).toNat)
    case atStart => exact ⟨0, [], rfl, Nat.zero_le _, rfl, Nat.zero_le _, IRow.nil _ _, Ext.refl _⟩
    case round =>
      obtain ⟨i, M, rfl, hi, hM, hMl, hr, hx⟩ := hrel
      obtain ⟨a8, c8, rfl⟩ := hr.form
      have Hr8 := hid hr
      have Hx := hid hx
      have HM := hid hM
      have hc := hx.cellx Hc.out
      have k1 := (HBs.out.ext hx).av 1 rfl
      simp only [List.getElem_toArray, List.getElem_cons_zero, List.getElem_cons_succ] at k1
      rw [HX2.out] at k1
      clear hr hx hM
      by_cases hli : i < l.length
      · obtain ⟨yl, o, hyl, ho, hco⟩ := (HI.out.old (Hx.out.old _)).at hli
        subst hyl
        have hnx := nodesL_next S ho
        clear ho
        by_cases hos : o < (S.length : Int)
        · have Hn : Hid (nodesL S (l.take (i + 1)) = M ++ [o]) := hid (by rw [hnx, decide_eq_false (by omega), ← HM.out]; simp)
          have hxa : Hid (Ext V (wr.alloc (.cells #[.int .i64 o] 3))) := hid (Hx.out.alloc _)
          have Hra : Hid (IRow V.heap.size (wr.alloc (.cells #[.int .i64 o] 3)) (.slice a8 M.length c8) M) := hid (Hr8.out.ext ((Ext.refl _).alloc _))
          clear hnx
          go_wp2_with (at_builtin; refine wpList_append_el V.heap.size hxa.out.size 22 3 (.int .i64 0) 1 8 Tryz.underlying22 ints_info rfl (by omega) (by omega) rfl _ _ rfl (.slice a8 M.length c8) M.length (icells M) rfl Hra.out wr.heap.size [.int .i64 o] rfl (by simp [Value.oneCell']) rfl (Blk.new _ _ _) (by omega) ?_; intro v' w' h1 h2 h4; obtain ⟨a', c', rfl⟩ := row_form h1; have h3 := hid (Keep.new hxa.out h2 (fun k hk => (Hra.out.lt hk).1)); have h1 := hid h1; clear h2 h4)
          go_roundw
          case rel => exact ⟨i + 1, M ++ [o], by go_num, by omega, Hn.out.symm, by rw [List.length_append]; simp; omega, by have := h1.out; unfold IRow; rw [icells_append, List.length_append]; exact this, h3.out⟩
          case measure => simp [intOf]; omega
        · have Hn : Hid (nodesL S (l.take (i + 1)) = M) := hid (by rw [hnx, decide_eq_true (by omega), ← HM.out]; simp)
          clear hnx
          go_wp2
          go_roundw
          case rel => exact ⟨i + 1, M, by go_num, by omega, Hn.out.symm, by omega, Hr8.out, Hx.out⟩
          case measure => simp [intOf]; omega
      · obtain rfl : i = l.length := by omega
        have Hwm : Hid (writesL P S x = M) := hid (by rw [Hwr.out, HM.out, List.take_of_length_le (Nat.le_refl _)])
        go_wp2
        go_ret
        exact ⟨_, rfl, by rw [Hwm.out]; exact own_low Hr8.out HX.out.size, HX.out.trans Hx.out⟩
  | false =>
  have Hbv : Hid (V.heap.size ≤ V.heap.size) := hid (Nat.le_refl _)
  cases h2 : (x.kind.toList == [99, 97, 108, 108]) with
  | false =>
    have Hwr : Hid (writesL P S x = sset (([] : List Int) ++ [(X : Int)])) := hid (by
      have hc0 : calledL P S x = [] := by unfold calledL; rw [show x.isK kCall = false from h2]; rfl
      unfold writesL
      rw [show x.isK kStore = false from h1, cond_false, show x.isK kCall = false from h2, Bool.false_and, cond_false, hc0, HX2.out]
      rfl)
    have Hin := hid (show InR (([] : List Int) ++ [(X : Int)]) from fun q hq => by
      rw [List.nil_append] at hq
      rw [List.mem_singleton.1 hq]; exact hXin)
    have sV : V.heap.size = w.heap.size + 1 + 1 := by rw [HVe.out, heap_size_alloc, heap_size_alloc]
    have hBn : Blk (V.alloc (.cells #[.int .i64 (X : Int)] 3)) (w.heap.size + 1 + 1) #[.int .i64 (X : Int)] 3 := by rw [← sV]; exact Blk.new _ _ _
    have hxv : Ext V (V.alloc (.cells #[.int .i64 (X : Int)] 3)) := (Ext.refl V).alloc _
    have hbs : V.heap.size ≤ (V.alloc (.cells #[.int .i64 (X : Int)] 3)).heap.size := hxv.size
    rw [HVz.out] at hBn
    have hxv2 := hxv
    have hbs2 := hbs
    rw [HVz.out] at hxv2 hbs2
    have HBn := hid hBn
    have Hxv := hid hxv2
    have Hbs := hid hbs2
    have HVr := hid HVz.out
    clear hBn hxv hbs hxv2 hbs2 sV
    go_enter Tryz.func45, Tryz.ntmps45
    go_wp2_with (at_builtin; refine wpList_append_el (w.heap.size + 1 + 1) (by have := Hbs.out; rw [heap_size_alloc, heap_size_alloc] at this; exact this) 22 3 (.int .i64 0) 1 8 Tryz.underlying22 ints_info rfl (by omega) (by omega) rfl _ _ rfl (.slice none 0 0) 0 [] rfl (World.ownsRow_nil _ _ _ _) (w.heap.size + 1 + 1) [.int .i64 (X : Int)] rfl (by simp [Value.oneCell']) rfl HBn.out (by omega) ?_; intro v' w' h1 h2 h4; obtain ⟨a', c', rfl⟩ := row_form h1; have h3 := hid (Keep.new Hxv.out h2 (fun k hk => by cases hk)); have h1 := hid h1; clear h2 h4)
    clear s0 s1 s2 e0 e1 e2 e3 d2
    have hrow : IRow (w.heap.size + 1 + 1) w' (.slice a' (0 + 1) c') (([] : List Int) ++ [(X : Int)]) := h1.out
    have h3' := h3.out
    rw [← HVz.out] at h3'
    have h3 := hid h3'
    clear h3'
    have HO := hid (rsetof_any (.slice a' (0 + 1) c') (([] : List Int) ++ [(X : Int)]) w' w'.heap.size (IntsR.own hrow (Nat.le_refl _)) Hin.out)
    clear hrow
    refine HO.out.mono ?_
    intro e w4 hx
    obtain ⟨v, rfl, hx4, hr⟩ := hx
    obtain ⟨av, cv, rfl⟩ := hr.form
    have Hx4 := hid (HX.out.trans (h3.out.trans hx4))
    have Hr4 : Hid (IRow w.heap.size w4 (.slice av (sset (([] : List Int) ++ [(X : Int)])).length cv) (writesL P S x)) := hid (by rw [Hwr.out]; exact own_low hr (HX.out.trans h3.out).size)
    clear HO hx4 hr
    go_wp2
    go_ret
    exact ⟨_, rfl, Hr4.out, Hx4.out⟩
  | true =>
    have HC := hid (rcalledof_any a1 a2 (some y3) c1 c2 c3 P ah ch S k x V n0 (HPR.out.ext HX.out) (HH.out.ext HX.out) HG.out Hk.out (Nat.le_trans Hn0.out HX.out.size))
    obtain ⟨Q, hQ⟩ : ∃ Q, Q = calledL P S x := ⟨_, rfl⟩
    have hql : Q.length ≤ 1000 := by rw [hQ]; exact calledL_len HG.out _
    have HQf := hid (show ∀ f ∈ Q, ∃ n : Nat, f = (n : Int) ∧ n < P.funs.length from fun f hf => calledL_fun (by rw [← hQ]; exact hf))
    have Hwq : Hid (writesL P S x = (bif decide (Q.length = 0) then [] else sset ((X : Int) :: paramsL P Q))) := hid (by unfold writesL; rw [show x.isK kStore = false from h1, cond_false, show x.isK kCall = true from h2, Bool.true_and, ← hQ, HX2.out])
    rw [← hQ] at HC
    have p0 := HBp.out.av 0 rfl
    have p1 := HBp.out.av 1 rfl
    have p2 := HBp.out.av 2 rfl
    simp only [pcells, List.getElem_toArray, List.getElem_cons_zero, List.getElem_cons_succ] at p0 p1 p2
    rw [HVz.out] at p0 p1 p2
    unfold pval at HC
    have hb := len_zero Q.length
    clear hQ
    go_enter Tryz.func45, Tryz.ntmps45
    go_wp2_with fail
    rw [← HVz.out]
    clear s0 s1 s2 e0 e1 e2 e3 d2 p0 p1 p2
    refine HC.out.mono ?_
    intro e w3 hx
    obtain ⟨v3, rfl, hr3, hx3⟩ := hx
    obtain ⟨aq, cq, rfl⟩ := hr3.form
    have HQ3 := hid (own_low hr3 (Nat.zero_le _))
    have hqi := (IntsR.own hr3 (Nat.le_refl _)).len
    have Hx3 := hid hx3
    clear HC hr3 hx3
    by_cases h0 : Q.length = 0
    · have Hwr : Hid (writesL P S x = []) := hid (by rw [Hwq.out, decide_eq_true h0]; rfl)
      rw [decide_eq_true h0] at hb
      clear h0
      go_wp2
      go_ret
      exact ⟨_, rfl, by rw [Hwr.out]; exact IRow.nil _ _, HX.out.trans Hx3.out⟩
    · have Hw0 : Hid (writesL P S x = sset ((X : Int) :: paramsL P Q)) := hid (by rw [Hwq.out, decide_eq_false h0]; rfl)
      rw [decide_eq_false h0] at hb
      clear h0
      go_wp2
      clear hb
      go_loopw [8, 11] (fun t8 t11 wr => ∃ (j : Nat) (M : List Int), t11 = .int .i64 (j : Int) ∧ j ≤ Q.length ∧ M = paramsL P (Q.take j) ∧ M.length ≤ 3 * j ∧ IRow w3.heap.size wr t8 M ∧ Ext w3 wr) (fun _ t11 _ => Q.length - (intOf t11).toNat)
      case atStart => exact ⟨0, [], rfl, Nat.zero_le _, rfl, Nat.zero_le _, IRow.nil _ _, Ext.refl _⟩
      case round =>
        obtain ⟨j, M, rfl, hj, hM, hMl, hr, hx⟩ := hrel
        obtain ⟨a8, c8, rfl⟩ := hr.form
        have Hr8 := hid hr
        have Hx := hid hx
        have HM := hid hM
        clear hr hx hM
        by_cases hlj : j < Q.length
        · obtain ⟨ym, f, hym, hf, hcf⟩ := (IntsR.own HQ3.out (Nat.le_refl _)).at hlj
          subst hym
          obtain ⟨N, rfl, hN⟩ := HQf.out f (List.mem_of_getElem? hf)
          obtain ⟨yf, g, afp, cfp, hyf, hfk, f0, f1, f2, hIp⟩ := (HPR.out.ext (HX.out.trans Hx3.out)).funs.at hN
          subst hyf
          have hpl := hIp.len
          have hp3 := (PP.goodF (PP.funs_ok Hhw.out.1) (List.mem_of_getElem? hfk)).few
          have Hn2 : Hid (paramsL P (Q.take (j + 1)) = M ++ g.params) := hid (by
            rw [List.take_add_one, hf, HM.out]
            show paramsL P (Q.take j ++ [(N : Int)]) = _
            rw [paramsL_snoc, Int.toNat_natCast, List.getD_eq_getElem?_getD, hfk]; rfl)
          have HIp := hid hIp
          have hnew : ∀ wx, Keep (fun b => w3.heap.size ≤ b) wr wx → Ext w3 wx := fun wx kk => Keep.new Hx.out kk fun b hb => hb
          have nb0 : ¬ w3.heap.size ≤ w.heap.size := by have := HBp.out.lt; have := Hx3.out.size; omega
          have q0 : ∀ wx, Keep (fun b => w3.heap.size ≤ b) wr wx → wx.cell? (ym.add j) = some (.int .i64 (N : Int)) := fun wx kk => (hnew wx kk).cellx hcf
          have g1 : ∀ wx, Keep (fun b => w3.heap.size ≤ b) wr wx → wx.cell? ⟨(yf.add (N * 3)).block, (yf.add (N * 3)).off + 1, none⟩ = some (.slice afp g.params.length cfp) := fun wx kk => (hnew wx kk).cellx f1
          have d1 := (HBp.out.ext (Hx3.out.trans Hx.out)).kc (X := fun b => w3.heap.size ≤ b) nb0 1 rfl
          simp only [pcells, List.getElem_toArray, List.getElem_cons_zero, List.getElem_cons_succ] at d1
          clear hf hfk hIp f0 f1 f2 hcf hnew nb0
          go_wp2
          refine wp_flowT (fun b => w3.heap.size ≤ b) (by kernel_rfl) (by kernel_rfl) ?_
          repeat (apply FlowT.d; (intro w1 hk; unfold does; go_simp; (try go_ints); (first | exact DetR.mk | (simp only [↓IntWalk.iteOmega, Oper.doesUpon_value]; exact DetR.mk) | (simp only [↓IntWalk.iteOmega]; go_simp; (try go_ints); exact DetR.mk))); simp only [Act.put, List.setIfInBounds_toArray, List.set_cons_zero, List.set_cons_succ])
          refine FlowT.s (fun v w' => (∃ a c, v = .slice a (M.length + g.params.length) c) ∧ w'.ownsRow w3.heap.size 3 1 v (M.length + g.params.length) (icells (M ++ g.params)) ∧ Ext w3 w') 10 rfl (by kernel_rfl) (fun _ _ _ ⟨h1, h2, h3⟩ y => ⟨h1, own_ext h2 y, h3.trans y⟩) (fun w2 hC hk2 => ?_) ?_
          · refine does_append_src w3.heap.size (Hx.out.trans hC).size 22 3 (.int .i64 0) 1 8 Tryz.underlying22 ints_info rfl (by omega) (by omega) rfl _ _ rfl (.slice a8 M.length c8) M.length (icells M) rfl (own_ext Hr8.out hC) afp g.params.length cfp (icells g.params) rfl (IntsR.src (HIp.out.old ((Hx.out.trans hC).old _))) (by omega) ?_
            intro v' w' h1 h2
            exact ⟨hk2.trans (h2.mono fun b _ e => (World.ownsRow.lt Hr8.out b e).1), row_form h1, by rw [icells_append]; exact h1, Keep.new (Hx.out.trans hC) h2 (fun b e => (World.ownsRow.lt Hr8.out b e).1)⟩
          rintro _ ⟨_, ⟨a10, c10, rfl⟩, _, _⟩
          simp only [Act.put, List.setIfInBounds_toArray, List.set_cons_zero, List.set_cons_succ]
          repeat (apply FlowT.d; (intro w1 hk; unfold does; go_simp; (try go_ints); (first | exact DetR.mk | (simp only [↓IntWalk.iteOmega, Oper.doesUpon_value]; exact DetR.mk) | (simp only [↓IntWalk.iteOmega]; go_simp; (try go_ints); exact DetR.mk))); simp only [Act.put, List.setIfInBounds_toArray, List.set_cons_zero, List.set_cons_succ])
          refine FlowT.fin fun w4 hC4 hk4 => ?_
          obtain ⟨_, h5, h6⟩ := hC4
          have H5 := hid h5
          have H6 := hid h6
          clear h5 h6 hk4 q0 g1 d1
          go_wp2
          go_roundw
          case rel => exact ⟨j + 1, M ++ g.params, by go_num, by omega, Hn2.out.symm, by rw [List.length_append]; omega, by unfold IRow; rw [List.length_append]; exact H5.out, H6.out⟩
          case measure => simp [intOf]; omega
        · obtain rfl : j = Q.length := by omega
          have hMe : M = paramsL P Q := by rw [HM.out, List.take_of_length_le (Nat.le_refl _)]
          have Hwr : Hid (writesL P S x = sset (M ++ [(X : Int)])) := hid (by
            rw [Hw0.out, hMe]
            refine sset_perm fun q => ?_
            rw [List.mem_cons, List.mem_append, List.mem_singleton, or_comm])
          have Hin := hid (show InR (M ++ [(X : Int)]) from fun q hq => by
            rw [List.mem_append, List.mem_singleton] at hq
            rcases hq with hq | rfl
            · rw [hMe] at hq; exact paramsL_in Hhw.out HQf.out q hq
            · exact hXin)
          have Hbu : Hid (w3.heap.size ≤ wr.heap.size) := hid Hx.out.size
          have Hbv2 : Hid (V.heap.size ≤ w3.heap.size) := hid Hx3.out.size
          have k1 := (HBs.out.ext (Hx3.out.trans Hx.out)).av 1 rfl
          simp only [List.getElem_toArray, List.getElem_cons_zero, List.getElem_cons_succ] at k1
          rw [HX2.out] at k1
          clear hMe Hbv
          have Hbv := Hbv2
          have hxa : Hid (Ext V (wr.alloc (.cells #[.int .i64 (X : Int)] 3))) := hid ((Hx3.out.trans Hx.out).alloc _)
          have Hra : Hid (IRow w3.heap.size (wr.alloc (.cells #[.int .i64 (X : Int)] 3)) (.slice a8 M.length c8) M) := hid (Hr8.out.ext ((Ext.refl _).alloc _))
          have Hbs : Hid (w3.heap.size ≤ (wr.alloc (.cells #[.int .i64 (X : Int)] 3)).heap.size) := hid (Nat.le_trans Hbu.out ((Ext.refl wr).alloc (.cells #[.int .i64 (X : Int)] 3)).size)
          go_wp2_with (at_builtin; refine wpList_append_el w3.heap.size Hbs.out 22 3 (.int .i64 0) 1 8 Tryz.underlying22 ints_info rfl (by omega) (by omega) rfl _ _ rfl (.slice a8 M.length c8) M.length (icells M) rfl Hra.out wr.heap.size [.int .i64 (X : Int)] rfl (by simp [Value.oneCell']) rfl (Blk.new _ _ _) (by omega) ?_; intro v' w' h1 h2 h4; obtain ⟨a', c', rfl⟩ := row_form h1; have h3 := hid (Keep.new hxa.out h2 (fun k hk => Nat.le_trans Hbv.out (Hra.out.lt hk).1)); have h1 := hid h1; clear h2 h4)
          have hrow : IRow w3.heap.size w' (.slice a' (M.length + 1) c') (M ++ [(X : Int)]) := by have := h1.out; unfold IRow; rw [icells_append, List.length_append]; exact this
          have HO := hid (rsetof_any (.slice a' (M.length + 1) c') (M ++ [(X : Int)]) w' w'.heap.size (IntsR.own hrow (Nat.le_refl _)) Hin.out)
          clear hrow
          refine HO.out.mono ?_
          intro e w4 hx
          obtain ⟨v, rfl, hx4, hr⟩ := hx
          obtain ⟨av, cv, rfl⟩ := hr.form
          have Hx4 := hid (HX.out.trans (h3.out.trans hx4))
          have Hr4 : Hid (IRow w.heap.size w4 (.slice av (sset (M ++ [(X : Int)])).length cv) (writesL P S x)) := hid (by rw [Hwr.out]; exact own_low hr (HX.out.trans h3.out).size)
          clear HO hx4 hr
          go_wp2
          go_ret
          exact ⟨_, rfl, Hr4.out, Hx4.out⟩
set_option maxRecDepth 100000 in
set_option maxHeartbeats 800000 in
theorem coded2_any (w : World) (v : Value) (c : Int) (h : Calls Tryz.prog 85 #[v] w fun e w' => e = .returned (.tuple #[.int .i64 c, .int .i64 (-1)]) ∧ Ext w w') :
    Calls Tryz.prog 43 #[v, .int .i64 c] w fun e w' => e = .returned (.bool true) ∧ Ext w w' := by
  have HC := hid h
  clear h
  go_enter Tryz.func43, Tryz.ntmps43
  go_wp2_with fail
  refine HC.out.mono ?_
  intro e w1 hx
  obtain ⟨rfl, hx1⟩ := hx
  have HX1 := hid hx1
  clear HC hx1
  go_wp2
  go_ret
  exact ⟨rfl, HX1.out⟩
end Go.Proofs.YtoaoienfggjepaaGreatDoor

