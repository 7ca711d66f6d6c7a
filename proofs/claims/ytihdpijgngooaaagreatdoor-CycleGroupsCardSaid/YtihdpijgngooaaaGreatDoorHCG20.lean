/- Texts of one proof, put together: ZZXu ZZXn FC ZZXo E3 E4 E5. -/
import Derived.Test.YtihdpijgngooaaaGreatDoorHCG04
import Derived.Test.YtihdpijgngooaaaGreatDoorHCG12
import Derived.Test.YtihdpijgngooaaaGreatDoorHCG14
import Derived.Test.YtihdpijgngooaaaGreatDoorHCG18
import Derived.Test.YtihdpijgngooaaaGreatDoorHCG19
import Derived.OwnWalk
import Derived.Test.YtihdpijgngooaaaGreatDoorHCG01
set_option linter.unusedSimpArgs false
set_option linter.unusedVariables false
namespace Go.Proofs.YtihdpijgngooaaaGreatDoor
open Go Go.RowKit
theorem setT_row {w : World} {g n : Nat} {T : List Bool} (h : w.ownsRow g 4 1 (.slice (some ⟨g, 0, none⟩) n n) n (trCells T)) {m : Nat} (hm : m < T.length) : (w.setCell ⟨g, m, none⟩ (.bool true)).ownsRow g 4 1 (.slice (some ⟨g, 0, none⟩) n n) n (trCells (T.set m true)) := by
  have := own_set h m (by unfold trCells; rw [List.length_map]; exact hm) (.bool true)
  rw [show (trCells T).set m (.bool true) = trCells (T.set m true) by unfold trCells; rw [List.map_set]] at this
  exact this
set_option maxRecDepth 100000 in
set_option maxHeartbeats 3200000 in
theorem rorderof_any (n : Nat) (v : Value) (E : List (Int × Int)) (w : World) (n0 : Nat) (hr : EsR w n0 v E) (hl : E.length ≤ 100000) (hE : EIn n E) (hn : n ≤ 1000) (hn0 : n0 ≤ w.heap.size) :
    Calls Tryz.prog 31 #[.int .i64 (n : Int), v] w fun e w' => ∃ u G, e = .returned u ∧ GrpL n E G ∧ IRow w.heap.size w' u (ordRun E G (sset G).length (sset G)) ∧ Ext w w' := by
  obtain ⟨al, cl, rfl⟩ := hr.form2
  have hll := hr.len
  have HR0 := hid hr
  have HE := hid hE
  have HGr := hid (rgroupsof_any n (.slice al E.length cl) E w n0 hr hE hn hn0)
  obtain ⟨bi, hbi, hbz, hbs, hbb⟩ := info_parts bool_info
  clear hr hE
  go_enter Tryz.func31, Tryz.ntmps31
  go_wp2_with fail
  refine HGr.out.mono ?_
  intro e w1 hx
  obtain ⟨ag, cg, G, rfl, hG, hrow, hx1⟩ := hx
  have HG := hid hG
  have Hrow := hid hrow
  have Hx1 := hid hx1
  clear HGr hG hrow hx1
  go_wp2_with (at_make; refine wpList_make_full w1 rfl _ _ _ rfl w1.heap.size 4 bi (.bool false) 1 Tryz.underlying109 hbi hbz hbs .i64 .i64 (n : Int) (n : Int) n rfl rfl rfl rfl (by rw [hbb]; omega) (by unfold maxLen; omega) (Nat.le_refl _) ?_; intro w3 hrow hgr; rw [show (Value.bool false).cells = #[Value.bool false] from rfl, toList_madeCells_one, Nat.mul_one, ← rep_cells] at hrow)
  clear hbi hbz hbs hbb
  have Hx3 := hid (show Ext w1 w3 from Keep.new (Ext.refl w1) (grown_keep hgr) (fun k hk => by cases hk))
  obtain ⟨gt, hgt⟩ : ∃ gt, gt = w1.heap.size := ⟨_, rfl⟩
  have Hgt := hid hgt
  rw [← hgt] at hrow ⊢
  have HT0 : Hid (w3.ownsRow gt 4 1 (.slice (some ⟨gt, 0, none⟩) n n) n (trCells (List.replicate n false))) := hid hrow
  have Hgl := hid (World.ownsRow.lt HT0.out gt rfl)
  obtain ⟨L0, hL0⟩ : ∃ L0, L0 = sset G := ⟨_, rfl⟩
  have HL0 := hid hL0
  have HRe0 : Hid (Reps n G L0) := hid (by rw [hL0]; exact HG.out.reps hn)
  have Hle0 : Hid (leftL n G (List.replicate n false) = L0) := hid (by rw [hL0]; exact leftL_all HG.out hn)
  clear hrow hgr hgt hL0
  go_loopw [7] (fun t7 wr => ∃ (T : List Bool) (out : List Int) (ao : Option Addr) (co : Nat), t7 = .slice ao out.length co ∧ T.length = n ∧ out ++ ordRun E G (leftL n G T).length (leftL n G T) = ordRun E G L0.length L0 ∧ wr.ownsRow gt 4 1 (.slice (some ⟨gt, 0, none⟩) n n) n (trCells T) ∧ IRow w3.heap.size wr (.slice ao out.length co) out ∧ Keep (fun q => q = gt ∨ w3.heap.size ≤ q) w3 wr) (fun t7 _ => L0.length - sliceLen t7)
  case atStart => exact ⟨_, [], none, 0, rfl, List.length_replicate, by rw [Hle0.out]; rfl, HT0.out, World.ownsRow_nil _ _ _ _, Keep.refl _ _⟩
  case round =>
    obtain ⟨T, out, ao, co, rfl, hTl, ho, hT, hou, hk⟩ := hrel
    have HTl := hid hTl
    have Ho := hid ho
    have HT := hid hT
    have Hou := hid hou
    have HK := hid hk
    obtain ⟨wO, hwO⟩ : ∃ x, x = wr := ⟨_, rfl⟩
    subst hwO
    clear hTl ho hT hou hk
    have HEw := hid ((HR0.out.ext (Hx1.out.trans Hx3.out)).old (show Old n0 w3 wO from HK.out.mono fun b _ hb => by
      have := Hx1.out.size
      have := Hgt.out
      have := Hx3.out.size
      omega))
    have Hroww := hid (row_keep (own_ext Hrow.out Hx3.out) HK.out fun b hb hb2 => by
      have := (World.ownsRow.lt Hrow.out b hb).2
      have := Hgt.out
      have := Hx3.out.size
      omega)
    go_wp2
    go_loopw [8, 9] (fun t8 t9 wr => ∃ (kk : Nat) (nx z : Int), t9 = .int .i64 z ∧ t8 = .int .i64 nx ∧ z = (kk : Int) - 1 ∧ kk ≤ n ∧ NextOk n E G T kk nx ∧ wr = wO) (fun _ t9 _ => (intOf t9 + 1).toNat)
    case atStart => exact ⟨n, -1, (n : Int) - 1, rfl, rfl, rfl, Nat.le_refl _, NextOk.start, rfl⟩
    case round =>
      obtain ⟨kk, nx, z, rfl, rfl, hz, hkk, hN, rfl⟩ := hrel
      have HN := hid hN
      clear hN
      by_cases h0 : kk = 0
      · subst h0
        obtain rfl : z = -1 := by omega
        clear hz
        have HKx := hid (Keep.new (Hx1.out.trans Hx3.out) HK.out fun b hb => by
          have := Hx1.out.size
          have := Hgt.out
          have := Hx3.out.size
          omega)
        by_cases hx1 : nx = -1
        · subst hx1
          have hnil := HN.out.none HE.out HG.out
          have Hfin : Hid (out = ordRun E G (sset G).length (sset G)) := hid (by
            have h1 := Ho.out
            rw [hnil, HL0.out] at h1
            rw [← h1]
            exact (List.append_nil _).symm)
          have Hous := hid (Hou.out.base (b2 := w.heap.size) (by have := Hx1.out.size; have := Hx3.out.size; omega))
          clear hnil
          go_wp2
          go_ret
          exact ⟨_, G, rfl, HG.out, by rw [← Hfin.out]; exact Hous.out, HKx.out⟩
        · obtain ⟨m, i, rfl, hmn, hTm, hfi, hil, hgd, hcut⟩ := HN.out.some HE.out HG.out HTl.out hx1
          have hst := ord_step (E := E) (G := G) hfi hil
          rw [hgd, hcut] at hst
          have Hst := hid hst
          have Hln : Hid (out.length + (leftL n G T).length = L0.length) := hid (by
            have h1 := congrArg List.length Ho.out
            rw [List.length_append, (ord_mem HE.out HG.out _ leftL_reps (Nat.le_refl _)).2.2, (ord_mem HE.out HG.out _ HRe0.out (Nat.le_refl _)).2.2] at h1
            exact h1)
          have HL0n := hid (HRe0.out.len hn)
          have hol : out.length ≤ 1000000 := by have := Hln.out; have := HL0n.out; omega
          have Hil := hid hil
          have hTlen := HTl.out
          have hmT : m < T.length := by omega
          have HT2 := hid (setT_row HT.out hmT)
          have HK2 := hid ((Keep.refl (fun q => q = gt) wr).set (p := ⟨gt, m, none⟩) rfl (.bool true))
          have Hou2 : Hid (IRow w3.heap.size (wr.setCell ⟨gt, m, none⟩ (.bool true)) (.slice ao out.length co) out) := hid (row_keep Hou.out HK2.out fun b hb e => by
            have := (World.ownsRow.lt Hou.out b hb).1
            have := Hgl.out.2
            omega)
          have q1 := own_get HT.out m (trCells_at hmT)
          have fr := (show ∃ c, Blk wr gt c 4 from own_ty HT.out (k := gt) rfl).elim fun c hc => hc.free m
          have hns : ((m : Int) < 0) = False := by simp
          have HBw : Hid (Blk ((wr.setCell ⟨gt, m, none⟩ (.bool true)).alloc (.cells #[.int .i64 (m : Int)] 3)) wr.heap.size #[.int .i64 (m : Int)] 3) := hid (by
            have h1 := Blk.new (wr.setCell ⟨gt, m, none⟩ (.bool true)) #[.int .i64 (m : Int)] 3
            have h2 : (wr.setCell ⟨gt, m, none⟩ (.bool true)).heap.size = wr.heap.size := by simp [World.setCell]
            rwa [h2] at h1)
          have Hbs := hid (Nat.le_trans HK.out.size (Nat.le_trans HK2.out.size ((Ext.refl (wr.setCell ⟨gt, m, none⟩ (.bool true))).alloc (.cells #[.int .i64 (m : Int)] 3)).size))
          clear hTm hfi hil hgd hcut hst hTlen
          go_wp2_with (at_builtin; refine wpList_append_el w3.heap.size Hbs.out 43 3 (.int .i64 0) 1 8 Tryz.underlying43 int_info1 rfl (by omega) (by omega) rfl _ _ rfl (.slice ao out.length co) out.length (icells out) rfl (own_ext Hou2.out ((Ext.refl _).alloc _)) wr.heap.size [.int .i64 (m : Int)] rfl (by simp [Value.oneCell']) rfl HBw.out hol ?_; intro v' w' h1 h2 h4; obtain ⟨a', c', rfl⟩ := row_form h1; have HO := hid h1; have HKa := hid h2; clear h1 h2 h4)
          have HTn := hid (row_keep (own_ext HT2.out ((Ext.refl _).alloc (.cells #[.int .i64 (m : Int)] 3))) HKa.out fun b hb hb2 => by
            have := (World.ownsRow.lt Hou.out b hb2).1
            have := Hgl.out.2
            have e : gt = b := Option.some.inj hb
            omega)
          have HKn : Hid (Keep (fun q => q = gt ∨ w3.heap.size ≤ q) w3 w') := hid (HK.out.trans ((HK2.out.mono fun b _ h => .inl h).trans ((((Ext.refl (wr.setCell ⟨gt, m, none⟩ (.bool true))).alloc (.cells #[.int .i64 (m : Int)] 3)).keep _).trans (HKa.out.mono fun b _ hb => .inr (World.ownsRow.lt Hou.out b hb).1))))
          have HO2 : Hid (IRow w3.heap.size w' (.slice a' (out ++ [(m : Int)]).length c') (out ++ [(m : Int)])) := hid (by
            unfold IRow
            rw [List.length_append, icells_append]
            exact HO.out)
          go_roundw
          case rel =>
            refine ⟨T.set m true, out ++ [(m : Int)], a', c', by rw [List.length_append]; rfl, by rw [List.length_set]; exact HTl.out, ?_, HTn.out, HO2.out, HKn.out⟩
            rw [← Ho.out, Hst.out, List.append_assoc]
            rfl
          case measure =>
            have := Hln.out
            have := Hil.out
            simp only [sliceLen]
            omega
      · obtain ⟨j, rfl⟩ : ∃ j, kk = j + 1 := ⟨kk - 1, by omega⟩
        obtain rfl : z = (j : Int) := by omega
        clear hz
        have hjn : j < n := by omega
        obtain ⟨gb, hgb⟩ : ∃ gb, ag = some ⟨gb, 0, none⟩ := by
          rcases Hrow.out.2 with ⟨_, h2⟩ | ⟨gb, cq, _, h1, _⟩
          · omega
          · exact ⟨gb, (by simpa using h1 : _ ∧ _).1⟩
        subst hgb
        obtain ⟨k0, hk0, _⟩ := HG.out.at_ j hjn
        have q0 := own_get Hroww.out j (icells_at hk0)
        have q1 := own_get HT.out j (trCells_at (by rw [HTl.out]; exact hjn))
        have Hk0 := hid hk0
        obtain ⟨tj, htj⟩ : ∃ tj, tj = T.getD j false := ⟨_, rfl⟩
        rw [← htj] at q1
        have Htj := hid htj
        clear hk0 htj
        by_cases hxj : k0 = j
        · subst hxj
          cases tj with
          | true =>
            have HNn := hid (HN.out.no (by unfold candB; rw [← Htj.out]; simp))
            go_wp2
            go_roundw
            case rel => exact ⟨k0, nx, _, by go_num, rfl, by omega, by omega, HNn.out, by trivial⟩
            case measure => simp [intOf]
          | false =>
            obtain ⟨wQ, hwQ⟩ : ∃ x, x = wr := ⟨_, rfl⟩
            subst hwQ
            go_wp2
            go_loopw [10, 11] (fun t10 t11 wr => ∃ (i : Nat) (b : Bool), t11 = .int .i64 (i : Int) ∧ t10 = .bool b ∧ i ≤ E.length ∧ b = !((E.take i).any (hindB G T k0)) ∧ wr = wQ) (fun _ t11 _ => E.length - (intOf t11).toNat)
            case atStart => exact ⟨0, true, rfl, rfl, Nat.zero_le _, rfl, rfl⟩
            case round =>
              obtain ⟨i, b, rfl, rfl, hi, hb, rfl⟩ := hrel
              have Hb := hid hb
              clear hb
              by_cases hlt : i < E.length
              · obtain ⟨e, he⟩ : ∃ e, E[i]? = some e := ⟨_, List.getElem?_eq_getElem hlt⟩
                obtain ⟨y, hya, hyb, r0, r1⟩ := HEw.out.at2 he
                subst hya
                have hein := HE.out e (List.mem_of_getElem? he)
                obtain ⟨x1, x2⟩ := e
                simp only at r0 r1 hein
                obtain ⟨⟨e1, e2⟩, e3, e4⟩ := hein
                obtain ⟨m1, rfl⟩ := Int.eq_ofNat_of_zero_le e1
                obtain ⟨m2, rfl⟩ := Int.eq_ofNat_of_zero_le e3
                obtain ⟨k1, hk1, hg1, k1n, m1n⟩ := HG.out.get (x := (m1 : Int)) (by omega)
                obtain ⟨k2, hk2, hg2, k2n, m2n⟩ := HG.out.get (x := (m2 : Int)) (by omega)
                have Htk : Hid (E.take (i + 1) = E.take i ++ [((m1 : Int), (m2 : Int))]) := hid (by rw [List.take_add_one, he]; rfl)
                have Hhi : Hid (hindB G T k0 ((m1 : Int), (m2 : Int)) = (decide ((k2 : Int) = (k0 : Int)) && !decide ((k1 : Int) = (k0 : Int)) && !T.getD k1 false)) := hid (by
                  unfold hindB
                  rw [hg1, hg2, Int.toNat_natCast])
                rw [Int.toNat_natCast] at hk1 hk2 m1n m2n
                have s1 := own_get Hroww.out m1 (icells_at hk1)
                have s2 := own_get Hroww.out m2 (icells_at hk2)
                have s3 := own_get HT.out k1 (trCells_at (by rw [HTl.out]; exact k1n))
                obtain ⟨tk, htk⟩ : ∃ tk, tk = T.getD k1 false := ⟨_, rfl⟩
                rw [← htk] at s3 Hhi
                clear he e1 e2 e3 e4 hk1 hk2 hg1 hg2 htk
                have hgo : ∀ d : Bool, hindB G T k0 ((m1 : Int), (m2 : Int)) = d → (b && !d) = !((E.take (i + 1)).any (hindB G T k0)) := fun d hd => by
                  rw [Htk.out, List.any_append, List.any_cons, List.any_nil, Bool.or_false, hd, Bool.not_or, Hb.out]
                have Hgo := hid hgo
                clear hgo
                by_cases h2 : k2 = k0
                · by_cases h1 : k1 = k0
                  · have Hd := hid (Hgo.out false (by rw [Hhi.out, h1]; simp))
                    have h1' : ((k1 : Int) != (k0 : Int)) = false := by rw [h1]; simp
                    have h2' : ((k2 : Int) == (k0 : Int)) = true := by rw [h2]; simp
                    clear h1
                    go_wp2
                    go_roundw
                    case rel => exact ⟨i + 1, b, by go_num, rfl, by omega, by rw [← Hd.out]; simp, by trivial⟩
                    case measure => simp [intOf]; omega
                  · have h1' : ((k1 : Int) != (k0 : Int)) = true := by rw [bne_iff_ne]; omega
                    have h2' : ((k2 : Int) == (k0 : Int)) = true := by rw [h2]; simp
                    cases tk with
                    | true =>
                      have Hd := hid (Hgo.out false (by rw [Hhi.out]; simp))
                      go_wp2
                      go_roundw
                      case rel => exact ⟨i + 1, b, by go_num, rfl, by omega, by rw [← Hd.out]; simp, by trivial⟩
                      case measure => simp [intOf]; omega
                    | false =>
                      have Hd := hid (Hgo.out true (by rw [Hhi.out, h2, decide_eq_false (by omega : ¬ (k1 : Int) = (k0 : Int))]; simp))
                      go_wp2
                      go_roundw
                      case rel => exact ⟨i + 1, false, by go_num, rfl, by omega, by rw [← Hd.out]; simp, by trivial⟩
                      case measure => simp [intOf]; omega
                · have Hd := hid (Hgo.out false (by rw [Hhi.out, decide_eq_false (by omega : ¬ (k2 : Int) = (k0 : Int))]; rfl))
                  have h2' : ((k2 : Int) == (k0 : Int)) = false := by rw [beq_eq_false_iff_ne]; omega
                  go_wp2
                  go_roundw
                  case rel => exact ⟨i + 1, b, by go_num, rfl, by omega, by rw [← Hd.out]; simp, by trivial⟩
                  case measure => simp [intOf]; omega
              · obtain rfl : i = E.length := by omega
                rw [List.take_length] at Hb
                cases b with
                | true =>
                  have HNn := hid (HN.out.yes hjn (by
                    unfold candB
                    rw [Hk0.out, ← Htj.out, ← Hb.out]
                    simp))
                  go_wp2
                  go_roundw
                  case rel => exact ⟨k0, (k0 : Int), _, by go_num, rfl, by omega, by omega, HNn.out, by trivial⟩
                  case measure => simp [intOf]
                | false =>
                  have HNn := hid (HN.out.no (by
                    unfold candB
                    rw [← Hb.out]
                    simp))
                  go_wp2
                  go_roundw
                  case rel => exact ⟨k0, nx, _, by go_num, rfl, by omega, by omega, HNn.out, by trivial⟩
                  case measure => simp [intOf]
        · have HNn := hid (HN.out.no (by
            unfold candB
            rw [Hk0.out, decide_eq_false (by intro h; exact hxj (by have := Option.some.inj h; omega))]
            rfl))
          have hxj2 : ((k0 : Int) != (j : Int)) = true := by rw [bne_iff_ne]; omega
          go_wp2
          go_roundw
          case rel => exact ⟨j, nx, _, by go_num, rfl, by omega, by omega, HNn.out, by trivial⟩
          case measure => simp [intOf]
theorem mmEql_some (b : Nat) (w : World) : (binOp .eql 99 (.map (some b)) (.map none)).run Tryz.prog w = .ok (.bool false) w := by kernel_rfl
theorem mmEql_none (w : World) : (binOp .eql 99 (.map none) (.map none)).run Tryz.prog w = .ok (.bool true) w := by kernel_rfl
set_option maxRecDepth 100000 in
set_option maxHeartbeats 3200000 in
theorem cycleorder_yes (n : Nat) (v : Value) (E : List (Int × Int)) (w : World) (n0 : Nat) (ad : Nat → Addr) (he2 : w.cell? ⟨0, 0, none⟩ = some (evOf ad 2)) (hr : EsR w n0 v E) (hl : E.length ≤ 100000) (hn : n ≤ 1000) (hin : einAll (n : Int) E E.length) (hn0 : n0 ≤ w.heap.size) :
    Calls Tryz.prog 27 #[.int .i64 (n : Int), v] w fun e w' => ∃ u G, e = .returned (.tuple #[u, .nilIface]) ∧ GrpL n E G ∧ IRow w.heap.size w' u (ordRun E G (sset G).length (sset G)) ∧ Ext w w' := by
  obtain ⟨al, cl, rfl⟩ := hr.form2
  have hE := hin.ein
  have HE := hid hE
  have HR0 := hid hr
  have HGr := hid (cyclegroups_yes n (.slice al E.length cl) E w n0 ad he2 hr hl hn hin hn0)
  clear hE he2 hr hin
  have hmm := @run_makeMap Tryz.prog
  go_enter Tryz.func27, Tryz.ntmps27
  go_wp2_with fail
  refine HGr.out.mono ?_
  intro e w1 hx
  obtain ⟨g, G, rfl, hG, hrow, hx1⟩ := hx
  have HG := hid hG
  have Hrow := hid hrow
  have Hx1 := hid hx1
  clear HGr hG hrow hx1
  obtain ⟨W2, hW2⟩ : ∃ W2, W2 = w1.alloc (.map #[] 0) := ⟨_, rfl⟩
  obtain ⟨W3, hW3⟩ : ∃ W3, W3 = W2.alloc (.cells #[.map (some w1.heap.size)] 86) := ⟨_, rfl⟩
  have hx2 : Ext w1 W2 := by rw [hW2]; exact (Ext.refl _).alloc _
  have hx3 : Ext W2 W3 := by rw [hW3]; exact (Ext.refl _).alloc _
  have HX3 := hid (hx2.trans hx3)
  have HM0 : Hid (AheadM W3 w1.heap.size w1.heap.size [] G (fun _ => none)) := hid ⟨(show KMap Tryz.prog 3 (Value.int .i64) W2 w1.heap.size (fun _ => none) by rw [hW2]; exact KMap.new _ _ _ _).ext hx3, Nat.le_refl _, fun b => .inl ⟨rfl, fun a => rfl⟩, fun b c q _ h => by cases h⟩
  obtain ⟨GA, hGA⟩ : ∃ GA, GA = W2.heap.size := ⟨_, rfl⟩
  have HGs : Hid (GA = w1.heap.size + 1) := hid (by rw [hGA, hW2]; simp)
  have HgA : Hid (Blk W3 GA #[.map (some w1.heap.size)] 86) := hid (by rw [hGA, hW3]; exact Blk.new _ _ _)
  have HWe : Hid (W3 = (w1.alloc (.map #[] 0)).alloc (.cells #[.map (some w1.heap.size)] 86)) := hid (by rw [hW3, hW2])
  clear hW2 hW3 hx2 hx3 hGA
  go_wp2
  rw [← HWe.out]
  clear HWe
  rw [← HGs.out]
  obtain ⟨M, hM⟩ : ∃ M, M = w1.heap.size := ⟨_, rfl⟩
  have HMe := hid hM
  rw [← hM]
  rw [← hM] at HM0 HgA HGs
  clear hM hmm
  go_loopw [28] (fun t28 wr => ∃ (i : Nat) (f : Int → Option Value), t28 = .int .i64 (i : Int) ∧ i ≤ E.length ∧ AheadM wr M M (E.take i) G f ∧ Ext w1 wr ∧ Blk wr GA #[.map (some M)] 86) (fun t28 _ => E.length - (intOf t28).toNat)
  case atStart => exact ⟨0, _, rfl, Nat.zero_le _, HM0.out, HX3.out, HgA.out⟩
  case round =>
    obtain ⟨i, f, rfl, hi, hA, hx, hg⟩ := hrel
    have HA := hid hA
    have Hx := hid hx
    have Hg := hid hg
    clear hA hx hg
    by_cases hlt : i < E.length
    · obtain ⟨e, he⟩ : ∃ e, E[i]? = some e := ⟨_, List.getElem?_eq_getElem hlt⟩
      obtain ⟨y, rfl, hyb, q0, q1⟩ := (HR0.out.ext (Hx1.out.trans Hx.out)).at2 he
      have hein := HE.out e (List.mem_of_getElem? he)
      obtain ⟨x1, x2⟩ := e
      simp only at q0 q1 hein
      obtain ⟨⟨e1, e2⟩, e3, e4⟩ := hein
      obtain ⟨a1, rfl⟩ := Int.eq_ofNat_of_zero_le e1
      obtain ⟨a2, rfl⟩ := Int.eq_ofNat_of_zero_le e3
      obtain ⟨k1, G1', G1, k1n, a1n⟩ := HG.out.get (x := (a1 : Int)) (by omega)
      obtain ⟨k2, G2', G2, k2n, a2n⟩ := HG.out.get (x := (a2 : Int)) (by omega)
      rw [Int.toNat_natCast] at G1 G1' G2 G2' a1n a2n
      obtain ⟨c1, hc1⟩ : ∃ c1 : Int, c1 = (k1 : Int) := ⟨_, rfl⟩
      obtain ⟨c2, hc2⟩ : ∃ c2 : Int, c2 = (k2 : Int) := ⟨_, rfl⟩
      rw [← hc1] at G1 G1'
      rw [← hc2] at G2 G2'
      have b1 : 0 ≤ c1 ∧ c1 < 1000 := by omega
      have b2 : 0 ≤ c2 ∧ c2 < 1000 := by omega
      have G1 := hid G1
      have G2 := hid G2
      clear hc1 hc2 k1n k2n e1 e2 e3 e4
      obtain ⟨wA, hwA⟩ : ∃ wA, wA = wr.alloc (.cells #[.int .i64 (a1 : Int), .int .i64 (a2 : Int)] 95) := ⟨_, rfl⟩
      have HxA : Hid (Ext wr wA) := hid (by rw [hwA]; exact (Ext.refl _).alloc _)
      have HbA : Hid (Blk wA wr.heap.size #[.int .i64 (a1 : Int), .int .i64 (a2 : Int)] 95) := hid (by rw [hwA]; exact Blk.new _ _ _)
      have Htk : Hid (E.take (i + 1) = E.take i ++ [((a1 : Int), (a2 : Int))]) := hid (by rw [List.take_add_one, he]; rfl)
      have HrA := own_ext Hrow.out (Hx.out.trans HxA.out)
      have d0 := HbA.out.kc (X := fun _ => False) (fun h => h) 0 rfl
      have d1 := HbA.out.kc (X := fun _ => False) (fun h => h) 1 rfl
      simp only [qA0, qA1, qA2] at d0 d1
      have c0 : ∀ w1, Keep (fun _ => False) wA w1 → w1.cell? ⟨g, a1, none⟩ = some (.int .i64 c1) := fun w1 k => k.ext.cellx (own_get HrA a1 (icells_at G1'))
      have c0' : ∀ w1, Keep (fun _ => False) wA w1 → w1.cell? ⟨g, a2, none⟩ = some (.int .i64 c2) := fun w1 k => k.ext.cellx (own_get HrA a2 (icells_at G2'))
      have HwA := hid hwA
      clear he hwA HrA G1' G2'
      go_wp2
      rw [← HwA.out]
      clear q0 q1
      refine wp_flowT (fun _ => False) (by kernel_rfl) (by kernel_rfl) ?_
      repeat (apply FlowT.d; (intro w1 hk; unfold does; go_simp; (try go_ints); (first | exact DetR.mk | (simp only [↓IntWalk.iteOmega, Oper.doesUpon_value]; exact DetR.mk) | (simp only [↓IntWalk.iteOmega]; go_simp; (try go_ints); exact DetR.mk))); simp only [Act.put, qS0, qS1, qS2])
      refine FlowT.fin fun w5 hx5 hk5 => ?_
      have Hx5 := hid (Hx.out.trans (HxA.out.trans hx5))
      have HA5 := hid (HA.out.ext (HxA.out.trans hx5))
      have Hg5 := hid (Hg.out.ext (HxA.out.trans hx5))
      have p5 := Hg5.out.av 0 rfl
      simp only [qA0, qA1] at p5
      have l5 := HA5.out.look1 (b := c2) (by omega)
      clear hx5 hk5 c0 c0' d0 d1
      cases hf : f c2 with
      | none =>
        rw [hf] at l5
        simp only [Option.getD_none] at l5
        have heq := mmEql_none
        have hmm := @run_makeMap Tryz.prog
        obtain ⟨lk, hlk⟩ := key_int (a := c2) (by omega)
        obtain ⟨w7, hrun, hm7, hk7⟩ := run_kmap_put int_keyed64 intV_inj Tryz.underlying86 (HA5.out.map.ext ((Ext.refl w5).alloc (.map #[] 0))) hlk (.map (some w5.heap.size))
        have p6 := (Hg5.out.ext ((Ext.refl w5).alloc (.map #[] 0))).av 0 rfl
        simp only [qA0, qA1] at p6
        have HM7 := hid (HA5.out.make (by have := Hx5.out.size; have := HMe.out; omega) hf rfl hm7 hk7)
        have Hx7 : Hid (Ext w1 w7) := hid (Keep.new (Hx5.out.trans ((Ext.refl w5).alloc (.map #[] 0))) hk7 fun b hb => by rw [hb, HMe.out]; exact Nat.le_refl _)
        have Hg7 : Hid (Blk w7 GA #[.map (some M)] 86) := hid ((Hg5.out.ext ((Ext.refl w5).alloc (.map #[] 0))).keep hk7 fun e => by have := HGs.out; omega)
        obtain ⟨f7, hf7⟩ : ∃ f7, f7 = (fun q => if q = c2 then some (.map (some w5.heap.size)) else f q) := ⟨_, rfl⟩
        have Hf7 : Hid (f7 c2 = some (.map (some w5.heap.size))) := hid (by rw [hf7]; simp)
        rw [← hf7] at HM7
        clear hf hm7 hk7 hf7 hlk
        have HG1 := hid (G1.out)
        by_cases hne : c1 = c2
        · have HMn := hid (HM7.out.skip (e := ((a1 : Int), (a2 : Int))) (by rw [Int.toNat_natCast, Int.toNat_natCast, HG1.out, G2.out]; exact hne))
          subst hne
          go_wp2
          go_roundw
          case rel => exact ⟨i + 1, _, by go_num, by omega, by rw [Htk.out]; exact HMn.out, Hx7.out, Hg7.out⟩
          case measure => simp [intOf]; omega
        · obtain ⟨hh, g2, g3, g4, g5⟩ : ∃ hh, M ≤ (w5.heap.size) ∧ (w5.heap.size) ≠ M ∧ KMap Tryz.prog 3 (Value.int .i64) w7 (w5.heap.size) hh ∧ ∀ a, hh a = if aheadB (E.take i) G c2 a = true then some (.bool true) else none := by
            rcases HM7.out.val c2 with g | ⟨q, hh, g1, g2, g3, g4, g5⟩
            · rw [g.1] at Hf7
              cases Hf7.out
            · rw [Hf7.out] at g1
              obtain rfl : (w5.heap.size) = q := by simpa using g1
              exact ⟨hh, g2, g3, g4, g5⟩
          have g1 := Hf7.out
          have l1 := HM7.out.look1 (b := c2) (by omega)
          rw [g1] at l1
          simp only [Option.getD_some] at l1
          obtain ⟨lk, hlk⟩ := key_int (a := c1) (by omega)
          obtain ⟨w8, hrun, hm8, hk8⟩ := run_kmap_put int_keyed64 intV_inj Tryz.underlying99 g4 hlk (.bool true)
          have p7 := Hg7.out.av 0 rfl
          simp only [qA0, qA1] at p7
          have HMn := hid (HM7.out.put (e := ((a1 : Int), (a2 : Int))) (a := c1) (b := c2) (by rw [Int.toNat_natCast]; exact HG1.out) (by rw [Int.toNat_natCast]; exact G2.out) hne g1 g5 hm8 hk8)
          have Hxn : Hid (Ext w1 w8) := hid (Keep.new Hx7.out hk8 fun b hb => by rw [hb]; rw [HMe.out] at g2; exact g2)
          have Hgn : Hid (Blk w8 GA #[.map (some M)] 86) := hid (Hg7.out.keep hk8 fun e => by
            rw [← e] at g4
            exact g4.not_blk Hg7.out)
          clear g1 g2 g3 g4 g5 hm8 hk8 hlk
          go_wp2
          go_roundw
          case rel => exact ⟨i + 1, _, by go_num, by omega, by rw [Htk.out]; exact HMn.out, Hxn.out, Hgn.out⟩
          case measure => simp [intOf]; omega
      | some v5 =>
        obtain ⟨q5, rfl⟩ : ∃ q, v5 = .map (some q) := by
          rcases HA5.out.val c2 with g | ⟨q, _, g1, _⟩
          · rw [g.1] at hf; cases hf
          · rw [g1] at hf; exact ⟨q, (Option.some.inj hf).symm⟩
        rw [hf] at l5
        simp only [Option.getD_some] at l5
        have heq := mmEql_some
        obtain ⟨w7, hw7⟩ : ∃ w7, w7 = w5 := ⟨_, rfl⟩
        subst hw7
        obtain ⟨f7, hf7⟩ : ∃ f7, f7 = f := ⟨_, rfl⟩
        subst hf7
        have HM7 := hid HA5.out
        have Hx7 := hid Hx5.out
        have Hg7 := hid Hg5.out
        have Hf7 : Hid (f7 c2 = some (.map (some q5))) := hid hf
        clear hf
        have HG1 := hid (G1.out)
        by_cases hne : c1 = c2
        · have HMn := hid (HM7.out.skip (e := ((a1 : Int), (a2 : Int))) (by rw [Int.toNat_natCast, Int.toNat_natCast, HG1.out, G2.out]; exact hne))
          subst hne
          go_wp2
          go_roundw
          case rel => exact ⟨i + 1, _, by go_num, by omega, by rw [Htk.out]; exact HMn.out, Hx7.out, Hg7.out⟩
          case measure => simp [intOf]; omega
        · obtain ⟨hh, g2, g3, g4, g5⟩ : ∃ hh, M ≤ q5 ∧ q5 ≠ M ∧ KMap Tryz.prog 3 (Value.int .i64) w7 q5 hh ∧ ∀ a, hh a = if aheadB (E.take i) G c2 a = true then some (.bool true) else none := by
            rcases HM7.out.val c2 with g | ⟨q, hh, g1, g2, g3, g4, g5⟩
            · rw [g.1] at Hf7
              cases Hf7.out
            · rw [Hf7.out] at g1
              obtain rfl : q5 = q := by simpa using g1
              exact ⟨hh, g2, g3, g4, g5⟩
          have g1 := Hf7.out
          have l1 := HM7.out.look1 (b := c2) (by omega)
          rw [g1] at l1
          simp only [Option.getD_some] at l1
          obtain ⟨lk, hlk⟩ := key_int (a := c1) (by omega)
          obtain ⟨w8, hrun, hm8, hk8⟩ := run_kmap_put int_keyed64 intV_inj Tryz.underlying99 g4 hlk (.bool true)
          have p7 := Hg7.out.av 0 rfl
          simp only [qA0, qA1] at p7
          have HMn := hid (HM7.out.put (e := ((a1 : Int), (a2 : Int))) (a := c1) (b := c2) (by rw [Int.toNat_natCast]; exact HG1.out) (by rw [Int.toNat_natCast]; exact G2.out) hne g1 g5 hm8 hk8)
          have Hxn : Hid (Ext w1 w8) := hid (Keep.new Hx7.out hk8 fun b hb => by rw [hb]; rw [HMe.out] at g2; exact g2)
          have Hgn : Hid (Blk w8 GA #[.map (some M)] 86) := hid (Hg7.out.keep hk8 fun e => by
            rw [← e] at g4
            exact g4.not_blk Hg7.out)
          clear g1 g2 g3 g4 g5 hm8 hk8 hlk
          go_wp2
          go_roundw
          case rel => exact ⟨i + 1, _, by go_num, by omega, by rw [Htk.out]; exact HMn.out, Hxn.out, Hgn.out⟩
          case measure => simp [intOf]; omega
    · obtain rfl : i = E.length := by omega
      obtain ⟨wz, hwz⟩ : ∃ x, x = wr := ⟨_, rfl⟩
      subst hwz
      have HAz : Hid (AheadM wz M M E G f) := hid (by have := HA.out; rwa [List.take_length] at this)
      have hGl : G.length = n := HG.out.len
      have HGl := hid hGl
      have Hxz := hid Hx.out
      have Hgz := hid Hg.out
      have Hrz := hid (own_ext Hrow.out Hx.out)
      have hgb := World.ownsRow.lt Hrow.out g rfl
      have HV := hid (valuesi_any g 0 n n wz)
      obtain ⟨wV, hwV⟩ : ∃ wV, wV = wz.alloc (.cells #[.slice (some ⟨g, 0, none⟩) n n] 43) := ⟨_, rfl⟩
      have HxV : Hid (Ext wz wV) := hid (by rw [hwV]; exact (Ext.refl _).alloc _)
      have HrV : IRow w.heap.size wV (.slice (some ⟨g, 0, none⟩) n n) G := by
        have := own_ext Hrz.out HxV.out
        unfold IRow
        rw [hGl]
        exact this
      have HS := hid (sortedi_vals wV g 0 n wz.heap.size G (by omega) (by have := Hxz.out.size; have := HxV.out.size; omega) (by rw [hGl, hwV]; exact Blk.new _ _ _) (row_cells HrV))
      have HwV := hid hwV
      clear HA Hx Hg hGl hgb hwV HrV
      go_wp2_with fail
      refine HV.out.mono ?_
      rintro e w' ⟨rfl, rfl⟩
      rw [← HwV.out]
      clear HV
      go_wp2_with fail
      refine HS.out.mono ?_
      intro e w4 hx
      obtain ⟨u4, rfl, hr4, hx4⟩ := hx
      obtain ⟨S4, hS4⟩ : ∃ S4, S4 = G.mergeSort (fun x y => decide (x ≤ y)) := ⟨_, rfl⟩
      rw [← hS4] at hr4
      obtain ⟨a4, p4, rfl⟩ := hr4.form
      have HS4 := hid hS4
      have HK := hid (compact_row _ _ w4 wV.heap.size hr4 (by rw [hS4, List.length_mergeSort, HGl.out]; omega))
      clear hS4
      have Hr4 := hid hr4
      have Hx4 := hid hx4
      clear HS hr4 hx4
      go_wp2_with fail
      refine HK.out.mono ?_
      intro e w5 hx
      obtain ⟨v5, rfl, hr5, hk5⟩ := hx
      obtain ⟨L0, hL0⟩ : ∃ L0, L0 = sset G := ⟨_, rfl⟩
      have Hr5 : Hid (IRow wz.heap.size w5 v5 L0) := hid (by rw [HS4.out, compact_sort (HG.out.inR hn), ← hL0] at hr5; exact hr5.base HxV.out.size)
      have Hx5 : Hid (Ext wz w5) := hid (HxV.out.trans (Keep.fresh Hx4.out Hr4.out (Nat.le_refl _) hk5))
      obtain ⟨a5, p5, rfl⟩ := Hr5.out.form
      have HRe : Hid (Reps n G L0) := hid (by rw [hL0]; exact HG.out.reps hn)
      have HL0 := hid hL0
      obtain ⟨WL, hWL⟩ : ∃ WL, WL = w5.alloc (.cells #[.slice a5 L0.length p5] 43) := ⟨_, rfl⟩
      have HxL : Hid (Ext w5 WL) := hid (by rw [hWL]; exact (Ext.refl _).alloc _)
      have HbL : Hid (Blk WL w5.heap.size #[.slice a5 L0.length p5] 43) := hid (by rw [hWL]; exact Blk.new _ _ _)
      have HsL : Hid (WL.heap.size = w5.heap.size + 1) := hid (by rw [hWL]; simp)
      have HWL := hid hWL
      clear HK hr5 hk5 hL0 hWL
      go_wp2
      rw [← HWL.out]
      clear HWL
      obtain ⟨GL, hGL⟩ : ∃ GL, GL = w5.heap.size := ⟨_, rfl⟩
      rw [← hGL]
      rw [← hGL] at HbL
      have HGL := hid hGL
      clear hGL
      have HgaL := hid (Hgz.out.ext (Hx5.out.trans HxL.out))
      have HAL := hid (HAz.out.ext (Hx5.out.trans HxL.out))
      have hlt5 : ∀ b, (Value.slice a5 L0.length p5).ownBlock = some b → b < WL.heap.size := fun b hb => by
        have := (World.ownsRow.lt Hr5.out b hb).2
        have := HsL.out
        omega
      have Hlt5 := hid hlt5
      clear hlt5
      go_loopw [14] (fun t14 w8 => ∃ (L out : List Int) (av : Option Addr) (cv : Nat) (ao : Option Addr) (co : Nat), t14 = .slice ao out.length co ∧ Reps n G L ∧ out ++ ordRun E G L.length L = ordRun E G L0.length L0 ∧ IRow wz.heap.size w8 (.slice av L.length cv) L ∧ (∀ b, (Value.slice av L.length cv).ownBlock = some b → b < WL.heap.size) ∧ IRow WL.heap.size w8 (.slice ao out.length co) out ∧ Blk w8 GL #[.slice av L.length cv] 43 ∧ Ext wz w8) (fun t14 _ => L0.length - sliceLen t14)
      case atStart => exact ⟨L0, [], a5, p5, none, 0, rfl, HRe.out, rfl, own_ext Hr5.out HxL.out, Hlt5.out, World.ownsRow_nil _ _ _ _, HbL.out, Hx5.out.trans HxL.out⟩
      case round =>
        obtain ⟨L, out, av, cv, ao, co, rfl, hR, ho, hl, hlb, hou, hb, hx⟩ := hrel
        have HR := hid hR
        have Ho := hid ho
        have Hl := hid hl
        have Hlb := hid hlb
        have Hou := hid hou
        have Hb := hid hb
        have Hx := hid hx
        have p0 := Hb.out.av 0 rfl
        simp only [qA0, qA1] at p0
        clear hR ho hl hlb hou hb hx
        by_cases hlt : 0 < L.length
        · have hne : L ≠ [] := fun e => by rw [e] at hlt; simp at hlt
          obtain ⟨i, hi, hil⟩ := free_idx HE.out HG.out HR.out hne
          obtain ⟨x, hx⟩ : ∃ x, L[i]? = some x := ⟨_, List.getElem?_eq_getElem hil⟩
          obtain ⟨bq, hav⟩ : ∃ bq, av = some ⟨bq, 0, none⟩ := by
            rcases Hl.out.case with ⟨_, h2⟩ | ⟨bq, cq, h1⟩
            · exact absurd h2 hne
            · exact ⟨bq, (by simpa using h1 : _ ∧ _).1⟩
          subst hav
          have Hbq := hid (World.ownsRow.lt Hl.out bq rfl)
          have Hbl := hid (Hlb.out bq rfl)
          have HI := hid (indexfi_oc1 (.pointer (some ⟨GL, 0, none⟩)) (.pointer (some ⟨GA, 0, none⟩)) (freeB E G L) (.slice (some ⟨bq, 0, none⟩) L.length cv) L wr wr.heap.size (IntsR.own Hl.out (Nat.le_refl _)) fun b hb w9 x9 => orderc1_any GL GA M M E G L f _ b w9 wr.heap.size (Hb.out.ext x9) (Hgz.out.ext (Hx.out.trans x9)) (HAz.out.ext (Hx.out.trans x9)) ((IntsR.own Hl.out (Nat.le_refl _)).old (x9.old _)) (HR.out.small hn b hb) (HR.out.small hn))
          have Hln : Hid (out.length + L.length = L0.length) := hid (by
            have h1 := congrArg List.length Ho.out
            rw [List.length_append, (ord_mem HE.out HG.out _ HR.out (Nat.le_refl _)).2.2, (ord_mem HE.out HG.out _ HRe.out (Nat.le_refl _)).2.2] at h1
            exact h1)
          have HL0n := hid (HRe.out.len hn)
          have hol : out.length ≤ 1000000 := by have := Hln.out; have := HL0n.out; omega
          have hLl : L.length ≤ 100000 := by have := Hln.out; have := HL0n.out; omega
          have Hi := hid hi
          have Hxi := hid hx
          have Hst := hid (ord_step (E := E) (G := G) hi hil)
          have Hcut := hid (HR.out.cut i)
          obtain ⟨L', hL'⟩ : ∃ L', L' = L.take i ++ L.drop (i + 1) := ⟨_, rfl⟩
          rw [← hL'] at Hst Hcut
          have HL' := hid hL'
          clear hL'
          clear hi hx hne
          go_wp2_with fail
          refine HI.out.mono ?_
          intro e w9 hx9
          obtain ⟨r, rfl, hr, hx9⟩ := hx9
          obtain rfl : r = (i : Int) := by
            rcases idx_of hr with ⟨_, h⟩ | ⟨j, y, h1, _, _, h2⟩
            · rw [Hi.out] at h; cases h
            · rw [Hi.out] at h2
              rw [h1, Option.some.inj h2]
          have Hx9 := hid (Hx.out.trans hx9)
          have Hb9 := hid (Hb.out.ext hx9)
          have Hl9 := hid (own_ext Hl.out hx9)
          have Ho9 := hid (own_ext Hou.out hx9)
          have Hs9 : Hid (WL.heap.size ≤ w9.heap.size) := hid (by have := Hx9.out.size; have := Hb9.out.lt; have := HsL.out; have := HGL.out; omega)
          have p9 := Hb9.out.av 0 rfl
          have q9 := own_get Hl9.out i (icells_at Hxi.out)
          simp only [qA0, qA1] at p9
          clear HI hr hx9 p0
          go_wp2_with (first
            | (at_builtin
               refine wpList_append_el WL.heap.size (by simp; have := Hs9.out; omega) 43 3 (.int .i64 0) 1 8 Tryz.underlying43 int_info1 rfl (by omega) (by omega) rfl _ _ rfl (.slice ao out.length co) out.length (icells out) rfl (own_ext Ho9.out ((Ext.refl _).alloc _)) w9.heap.size [.int .i64 x] rfl (by simp [Value.oneCell']) rfl (Blk.new _ _ _) hol ?_
               intro v' w' h1 h2 h4
               obtain ⟨a', c', rfl⟩ := row_form h1
               have Hxn := hid (Keep.new (Hx9.out.trans ((Ext.refl w9).alloc (.cells #[.int .i64 x] 3))) h2 fun b hb => by have := (World.ownsRow.lt Ho9.out b hb).1; have := HsL.out; have := Hx5.out.size; omega)
               have HO := hid h1
               have hnb : ∀ b, (Value.slice ao out.length co).ownBlock = some b → ¬ (b = bq ∨ b = GL) := fun b hb => by
                 have := (World.ownsRow.lt Ho9.out b hb).1
                 have := Hbl.out
                 have := HsL.out
                 have := HGL.out
                 omega
               have Hbn := hid ((Hb9.out.ext ((Ext.refl w9).alloc (.cells #[.int .i64 x] 3))).keep h2 fun hb => hnb _ hb (.inr rfl))
               have Hlw := hid (row_keep (own_ext Hl9.out ((Ext.refl w9).alloc (.cells #[.int .i64 x] 3))) h2 fun b hb hb2 => hnb b hb2 (.inl (Option.some.inj hb).symm))
               have HD := hid (delete_row _ L w' wz.heap.size i Hlw.out hLl hil)
               rw [← HL'.out] at HD
               have pw := Hbn.out.av 0 rfl
               simp only [qA0, qA1] at pw
               clear h1 h2 h4 hnb p9 q9)
            | (go_at_call 69
               refine HD.out.mono ?_
               intro e w10 hx
               obtain ⟨g', cap', hv, rfl, hrow, hk⟩ := hx
               obtain ⟨rfl, rfl⟩ : bq = g' ∧ cv = cap' := by simpa using hv
               have Hr10 := hid hrow
               have Hk10 := hid hk
               have Hb10 := hid (Hbn.out.keep hk (fun e => by
                 obtain ⟨c, hc⟩ := own_ty Hlw.out (k := bq) rfl
                 exact Hbn.out.ty_ne hc (by decide) e))
               have f10 := Hb10.out.free 0
               have p10 := Hb10.out.av 0 rfl
               simp only [qA0, qA1] at p10
               clear hrow hk hv HD pw))
          have HSk := hid ((Keep.refl (fun q => q = GL) w10).set (p := ⟨GL, 0, none⟩) rfl (.slice (some ⟨bq, 0, none⟩) L'.length cv))
          have hgb : bq ≠ GL := fun e => by
            obtain ⟨c, hc⟩ := own_ty Hr10.out (k := bq) rfl
            exact hc.ty_ne Hb10.out (by decide) e
          have Hgb := hid hgb
          have hob : ∀ b, (Value.slice a' (out.length + 1) c').ownBlock = some b → ¬ b = bq ∧ ¬ b = GL := fun b hb => by
            have := (World.ownsRow.lt HO.out b hb).1
            have := Hbl.out
            have := HsL.out
            have := HGL.out
            omega
          have Hob := hid hob
          have HO2 : Hid (IRow WL.heap.size (w10.setCell ⟨GL, 0, none⟩ (.slice (some ⟨bq, 0, none⟩) L'.length cv)) (.slice a' (out ++ [x]).length c') (out ++ [x])) := hid (by
            unfold IRow
            rw [List.length_append, icells_append]
            show World.ownsRow _ WL.heap.size 3 1 (.slice a' (out.length + 1) c') (out.length + 1) (icells out ++ [.int .i64 x])
            exact row_keep (row_keep (show w'.ownsRow WL.heap.size 3 1 (.slice a' (out.length + 1) c') (out.length + 1) (icells out ++ [.int .i64 x]) from HO.out) Hk10.out fun b hb => (Hob.out b hb).1) HSk.out fun b hb => (Hob.out b hb).2)
          have HL2 : Hid (IRow wz.heap.size (w10.setCell ⟨GL, 0, none⟩ (.slice (some ⟨bq, 0, none⟩) L'.length cv)) (.slice (some ⟨bq, 0, none⟩) L'.length cv) L') := hid (row_keep Hr10.out HSk.out fun b hb => by
            obtain rfl := Option.some.inj hb
            exact Hgb.out)
          have HB2 : Hid (Blk (w10.setCell ⟨GL, 0, none⟩ (.slice (some ⟨bq, 0, none⟩) L'.length cv)) GL #[.slice (some ⟨bq, 0, none⟩) L'.length cv] 43) := hid (by
            have := Hb10.out.set 0 (.slice (some ⟨bq, 0, none⟩) L'.length cv)
            simpa using this)
          have HX2 : Hid (Ext wz (w10.setCell ⟨GL, 0, none⟩ (.slice (some ⟨bq, 0, none⟩) L'.length cv))) := hid (Keep.new (X := fun q => q = bq ∨ q = GL) Hxn.out ((Hk10.out.mono fun _ _ h => .inl h).trans (HSk.out.mono fun _ _ h => .inr h)) fun b hb => by
            rcases hb with hb | hb
            · rw [hb]; exact Hbq.out.1
            · rw [hb, HGL.out]; exact Hx5.out.size)
          clear hgb hob
          go_roundw
          case rel =>
            refine ⟨L', out ++ [x], some ⟨bq, 0, none⟩, cv, a', c', by rw [List.length_append]; rfl, Hcut.out, ?_, HL2.out, fun b hb => ?_, HO2.out, HB2.out, HX2.out⟩
            · have h1 := Hst.out
              rw [List.getD_eq_getElem?_getD, Hxi.out] at h1
              rw [← Ho.out, h1, List.append_assoc]
              rfl
            · obtain rfl := Option.some.inj hb
              exact Hbl.out
          case measure =>
            have := Hln.out
            simp only [sliceLen]
            omega
        · obtain rfl : L = [] := List.eq_nil_of_length_eq_zero (by omega)
          go_wp2
          go_ret2
          refine ⟨_, G, rfl, HG.out, ?_, Hx1.out.trans (Hxz.out.trans Hx.out)⟩
          have := Ho.out
          rw [show ordRun E G ([] : List Int).length [] = [] from rfl, List.append_nil] at this
          rw [← HL0.out, ← this]
          exact Hou.out.base (by have := Hx1.out.size; have := Hxz.out.size; have := Hx5.out.size; have := HsL.out; omega)
def frT : Fr := ⟨100, 1, 0, 2, [3]⟩
theorem Ints.lit {w : World} {b : Nat} {vs : List Int} {e : TypeId} (h : Blk w b (icells vs).toArray e) (hi : ∀ i, vs.getD i 0 ≤ 9223372036854775807) : Ints w (some ⟨b, 0, none⟩) vs.length vs :=
  ⟨rfl, fun _ => ⟨_, rfl⟩, fun x hx i hi => by
    obtain rfl := Option.some.inj hx
    rw [show (⟨b, 0, none⟩ : Addr).add i = ⟨b, i, none⟩ from by by_cases h0 : i = 0 <;> simp [Addr.add, h0], h.cell i]
    simp [icells, List.getD_eq_getElem?_getD, List.getElem?_eq_getElem hi], hi⟩
set_option maxRecDepth 100000 in
set_option maxHeartbeats 1600000 in
theorem cycleorder_no (n : Int) (v : Value) (E : List (Int × Int)) (w : World) (n0 : Nat) (ad : Nat → Addr) (he2 : w.cell? ⟨0, 0, none⟩ = some (evOf ad 2)) (hr : EsR w n0 v E) (hbad : ¬ ((0 ≤ n ∧ n ≤ 1000) ∧ einAll n E E.length)) :
    Calls Tryz.prog 27 #[.int .i64 n, v] w fun e w' => ∃ t x, e = .returned (.tuple #[.slice none 0 0, .iface t (.pointer (some x))]) ∧ EdgeErr ad n E w' (.iface t (.pointer (some x))) ∧ Ext w w' := by
  have HG := hid (cyclegroups_no n v E w n0 ad he2 hr hbad)
  obtain ⟨al, cl, rfl⟩ := hr.form2
  clear he2 hr hbad
  go_enter Tryz.func27, Tryz.ntmps27
  go_wp2_with fail
  refine HG.out.mono ?_
  intro e w1 hx
  obtain ⟨t, x, rfl, hee, hx1⟩ := hx
  have Hee := hid hee
  have Hx1 := hid hx1
  clear HG hee hx1
  go_wp2
  go_ret2
  exact ⟨_, _, rfl, Hee.out, Hx1.out⟩
def edges3 : List (Int × Int) := [(0, 2), (2, 0), (2, 1)]
theorem edges3_from1 {x : Int} (h : Rch edges3 1 x) : x = 1 := by
  induction h with
  | refl => rfl
  | step _ he ih =>
    subst ih
    simp [edges3] at he
theorem edges3_grp : GrpL 3 edges3 [0, 1, 0] := by
  refine ⟨rfl, fun i hi => ?_⟩
  rcases (by omega : i = 0 ∨ i = 1 ∨ i = 2) with rfl | rfl | rfl
  · exact ⟨0, rfl, Nat.le_refl _, ⟨.refl, .refl⟩, fun j hj => by omega⟩
  · refine ⟨1, rfl, Nat.le_refl _, ⟨.refl, .refl⟩, fun j hj h => ?_⟩
    obtain rfl : j = 0 := by omega
    have := edges3_from1 h.2
    cases this
  · exact ⟨0, rfl, by omega, ⟨.step .refl (by simp [edges3]), .step .refl (by simp [edges3])⟩, fun j hj => by omega⟩
set_option maxRecDepth 100000 in
set_option maxHeartbeats 1600000 in
theorem grouped_any (w : World) (ad : Nat → Addr) (he2 : w.cell? ⟨0, 0, none⟩ = some (evOf ad 2)) : Calls Tryz.prog 24 #[] w fun e w' => e = .returned (.bool true) ∧ Ext w w' := by
  obtain ⟨W1, hW1⟩ : ∃ W1, W1 = w.alloc (.cells #[.int .i64 0, .int .i64 2, .int .i64 2, .int .i64 0, .int .i64 2, .int .i64 1] 95) := ⟨_, rfl⟩
  have x1 : Ext w W1 := by rw [hW1]; exact (Ext.refl _).alloc _
  have b1 : Blk W1 w.heap.size #[.int .i64 0, .int .i64 2, .int .i64 2, .int .i64 0, .int .i64 2, .int .i64 1] 95 := by rw [hW1]; exact Blk.new _ _ _
  have hr : EsR W1 W1.heap.size (.slice (some ⟨w.heap.size, 0, none⟩) 3 3) edges3 := EsR.own (base := 0) (t := 95) ⟨rfl, .inr ⟨w.heap.size, 3, _, rfl, Nat.zero_le _, b1, by decide, by decide, rfl, rfl⟩⟩ (Nat.le_refl _)
  have HG := hid (cyclegroups_yes 3 (.slice (some ⟨w.heap.size, 0, none⟩) 3 3) edges3 W1 W1.heap.size ad (x1.cellx he2) hr (by decide) (by decide) (fun j e hj he => by
    have : e ∈ edges3 := List.mem_of_getElem? he
    rcases (by simpa [edges3] using this : e = (0, 2) ∨ e = (2, 0) ∨ e = (2, 1)) with rfl | rfl | rfl <;> rfl) (Nat.le_refl _))
  have HX := hid x1
  have HW := hid hW1
  clear he2 hW1 x1 b1 hr
  go_enter Tryz.func24, Tryz.ntmps24
  go_wp2_with fail
  rw [← HW.out]
  refine HG.out.mono ?_
  intro e w2 hx
  obtain ⟨g, G, rfl, hG, hrow, hx2⟩ := hx
  obtain rfl := hG.uniq edges3_grp
  have Hx2 := hid (HX.out.trans hx2)
  obtain ⟨W3, hW3⟩ : ∃ W3, W3 = w2.alloc (.cells #[.int .i64 0, .int .i64 1, .int .i64 0] 3) := ⟨_, rfl⟩
  have x3 : Ext w2 W3 := by rw [hW3]; exact (Ext.refl _).alloc _
  have hi : ∀ i, ([0, 1, 0] : List Int).getD i 0 ≤ 9223372036854775807 := fun i => by
    rcases i with _ | _ | _ | i <;> simp
  have HS := hid (sameints_any (some ⟨g, 0, none⟩) (some ⟨w2.heap.size, 0, none⟩) 3 3 3 3 [0, 1, 0] [0, 1, 0] W3 (IRow.ints (own_ext hrow x3) hi) (Ints.lit (vs := [0, 1, 0]) (by rw [hW3]; exact Blk.new _ _ _) hi) (by decide) (by decide))
  have HX3 := hid (Hx2.out.trans x3)
  have HW3 := hid hW3
  clear HG hG hrow hx2 hW3 x3 hi
  go_wp2_with fail
  rw [← HW3.out]
  refine HS.out.mono ?_
  intro e w4 hx
  obtain ⟨rfl, hx4⟩ := hx
  have HX4 := hid (HX3.out.trans hx4)
  clear HS hx4
  go_wp2
  go_ret
  exact ⟨by simp, HX4.out⟩
theorem ext_take {α : Type} {a b : List α} (hl : a.length = b.length) (h : ∀ j, j < a.length → a[j]? = b[j]?) : a = b :=
  List.ext_getElem? fun i => by
    by_cases hi : i < a.length
    · exact h i hi
    · rw [List.getElem?_eq_none (by omega), List.getElem?_eq_none (by omega)]
set_option maxRecDepth 100000 in
set_option maxHeartbeats 1600000 in
theorem equali_any (va vb : Value) (a b : List Int) (w : World) (n0 : Nat) (ha : IntsR w n0 va a) (hb : IntsR w n0 vb b) :
    Calls Tryz.prog 121 #[va, vb] w fun e w' => e = .returned (.bool (decide (a = b))) ∧ Ext w w' := by
  have hal := ha.len
  have hbl := hb.len
  have HA := hid ha
  have HB := hid hb
  obtain ⟨aa, ca, rfl, _⟩ := ha
  obtain ⟨ab, cb, rfl, _⟩ := hb
  by_cases hl : a.length = b.length
  · have Hl := hid hl
    have e0 : ((a.length : Int) != (b.length : Int)) = false := by rw [hl]; simp
    clear hl
    go_enter Tryz.func121, Tryz.ntmps121
    go_wp2
    clear e0
    go_loopw [13] (fun t13 wr => ∃ k : Nat, t13 = .int .i64 (k : Int) ∧ k ≤ a.length ∧ (∀ j, j < k → a[j]? = b[j]?) ∧ Ext w wr) (fun t13 _ => a.length - (intOf t13).toNat)
    case atStart => exact ⟨0, rfl, Nat.zero_le _, fun j h => by omega, Ext.refl _⟩
    case round =>
      obtain ⟨k, rfl, hk, hp, hx⟩ := hrel
      have Hp := hid hp
      have Hx := hid hx
      clear hp hx
      by_cases hlt : k < a.length
      · have hlt2 : k < b.length := by rw [← Hl.out]; exact hlt
        obtain ⟨ya, p, hya, hpk, hcp⟩ := (HA.out.old (Hx.out.old n0)).at hlt
        subst hya
        obtain ⟨yb, q, hyb, hqk, hcq⟩ := (HB.out.old (Hx.out.old n0)).at hlt2
        subst hyb
        have c0 : ∀ w1, Keep (fun _ => False) wr w1 → w1.cell? (ya.add k) = some (.int .i64 p) := fun w1 k => k.ext.cellx hcp
        have c1 : ∀ w1, Keep (fun _ => False) wr w1 → w1.cell? (yb.add k) = some (.int .i64 q) := fun w1 k => k.ext.cellx hcq
        have Hpk := hid hpk
        have Hqk := hid hqk
        clear hpk hqk hcp hcq
        by_cases hpq : p = q
        · subst hpq
          go_wp2
          refine wp_flowT (fun _ => False) (by kernel_rfl) (by kernel_rfl) ?_
          repeat (apply FlowT.d; (intro w1 hk; unfold does; go_simp; (try go_ints); (first | exact DetR.mk | (simp only [↓IntWalk.iteOmega, Oper.doesUpon_value]; exact DetR.mk) | (simp only [↓IntWalk.iteOmega]; go_simp; (try go_ints); exact DetR.mk))); simp only [Act.put, qS0, qS1, qS2])
          refine FlowT.fin fun w1 hx1 hk1 => ?_
          have Hx1 := hid (Hx.out.trans hx1)
          clear hx1 hk1 c0 c1
          go_wp2
          go_roundw
          case rel =>
            refine ⟨k + 1, by go_num, by omega, fun j hj => ?_, Hx1.out⟩
            by_cases hjk : j = k
            · subst hjk; exact Hpk.out.trans Hqk.out.symm
            · exact Hp.out j (by omega)
          case measure => simp [intOf]; omega
        · have hpq' : (p != q) = true := bne_iff_ne.2 hpq
          have Hne : Hid (decide (a = b) = false) := hid (decide_eq_false fun h => hpq (by
            have h1 := Hpk.out
            rw [h] at h1
            exact Option.some.inj (h1.symm.trans Hqk.out)))
          clear hpq
          go_wp2
          refine wp_flowT (fun _ => False) (by kernel_rfl) (by kernel_rfl) ?_
          repeat (apply FlowT.d; (intro w1 hk; unfold does; go_simp; (try go_ints); (first | exact DetR.mk | (simp only [↓IntWalk.iteOmega, Oper.doesUpon_value]; exact DetR.mk) | (simp only [↓IntWalk.iteOmega]; go_simp; (try go_ints); exact DetR.mk))); simp only [Act.put, qS0, qS1, qS2])
          refine FlowT.fin fun w1 hx1 hk1 => ?_
          have Hx1 := hid (Hx.out.trans hx1)
          clear hx1 hk1 c0 c1
          go_wp2
          go_ret
          exact ⟨by rw [Hne.out]; rfl, Hx1.out⟩
      · have Heq : Hid (decide (a = b) = true) := hid (decide_eq_true (ext_take Hl.out fun j hj => Hp.out j (by omega)))
        obtain rfl : k = a.length := by omega
        go_wp2
        go_ret
        exact ⟨by rw [Heq.out]; rfl, Hx.out⟩
  · have e0 : ((a.length : Int) != (b.length : Int)) = true := bne_iff_ne.2 (fun h => hl (Int.ofNat_inj.1 h))
    have Hne : Hid (decide (a = b) = false) := hid (decide_eq_false fun h => hl (by rw [h]))
    clear hl
    go_enter Tryz.func121, Tryz.ntmps121
    go_wp2
    go_ret
    exact ⟨by rw [Hne.out]; rfl, Ext.refl _⟩
set_option maxRecDepth 100000 in
set_option maxHeartbeats 1600000 in
theorem equalfs_any (va vb : Value) (A B : List (List Int)) (w : World) (n0 : Nat) (ha : SetsR w n0 va A) (hb : SetsR w n0 vb B) :
    Calls Tryz.prog 120 #[va, vb, .func (.func 121) #[] #[]] w fun e w' => e = .returned (.bool (decide (A = B))) ∧ Ext w w' := by
  have hal := ha.len
  have hbl := hb.len
  have HA := hid ha
  have HB := hid hb
  obtain ⟨aa, ca, rfl⟩ := ha.form
  obtain ⟨ab, cb, rfl⟩ := hb.form
  clear ha hb
  by_cases hl : A.length = B.length
  · have Hl := hid hl
    have e0 : ((A.length : Int) != (B.length : Int)) = false := by rw [hl]; simp
    clear hl
    go_enter Tryz.func120, Tryz.ntmps120
    go_wp2
    clear e0
    go_loopw [17] (fun t17 wr => ∃ k : Nat, t17 = .int .i64 (k : Int) ∧ k ≤ A.length ∧ (∀ j, j < k → A[j]? = B[j]?) ∧ Ext w wr) (fun t17 _ => A.length - (intOf t17).toNat)
    case atStart => exact ⟨0, rfl, Nat.zero_le _, fun j h => by omega, Ext.refl _⟩
    case round =>
      obtain ⟨k, rfl, hk, hp, hx⟩ := hrel
      have Hp := hid hp
      have Hx := hid hx
      clear hp hx
      by_cases hlt : k < A.length
      · have hlt2 : k < B.length := by rw [← Hl.out]; exact hlt
        obtain ⟨ya, l, bl, cl, hya, hpk, hcp, hI⟩ := (HA.out.ext Hx.out).at hlt
        subst hya
        obtain ⟨yb, m, bm, cm, hyb, hqk, hcq, hI'⟩ := (HB.out.ext Hx.out).at hlt2
        subst hyb
        have HC := hid (equali_any (.slice bl l.length cl) (.slice bm m.length cm) l m wr n0 hI hI')
        obtain ⟨d, hd⟩ : ∃ d, d = decide (l = m) := ⟨_, rfl⟩
        rw [← hd] at HC
        have Hd := hid hd
        have Hpk := hid hpk
        have Hqk := hid hqk
        clear hpk hqk hI hI' hd
        go_wp2_with fail
        refine HC.out.mono ?_
        intro e w1 hx
        obtain ⟨rfl, hx1⟩ := hx
        have Hx1 := hid (Hx.out.trans hx1)
        clear HC hx1 hcp hcq
        cases d with
        | true =>
          have He : Hid (l = m) := hid (of_decide_eq_true Hd.out.symm)
          go_wp2
          go_roundw
          case rel =>
            refine ⟨k + 1, by go_num, by omega, fun j hj => ?_, Hx1.out⟩
            by_cases hjk : j = k
            · subst hjk; rw [Hpk.out, Hqk.out, He.out]
            · exact Hp.out j (by omega)
          case measure => simp [intOf]; omega
        | false =>
          have Hne : Hid (decide (A = B) = false) := hid (decide_eq_false fun h => (of_decide_eq_false Hd.out.symm) (by
            have h1 := Hpk.out
            rw [h] at h1
            exact Option.some.inj (h1.symm.trans Hqk.out)))
          go_wp2
          go_ret
          exact ⟨by rw [Hne.out]; rfl, Hx1.out⟩
      · have Heq : Hid (decide (A = B) = true) := hid (decide_eq_true (ext_take Hl.out fun j hj => Hp.out j (by omega)))
        obtain rfl : k = A.length := by omega
        go_wp2
        go_ret
        exact ⟨by rw [Heq.out]; rfl, Hx.out⟩
  · have e0 : ((A.length : Int) != (B.length : Int)) = true := bne_iff_ne.2 (fun h => hl (Int.ofNat_inj.1 h))
    have Hne : Hid (decide (A = B) = false) := hid (decide_eq_false fun h => hl (by rw [h]))
    clear hl
    go_enter Tryz.func120, Tryz.ntmps120
    go_wp2
    go_ret
    exact ⟨by rw [Hne.out]; rfl, Ext.refl _⟩
theorem fixsame_any (va vb : Value) (A B : List (List Int)) (w : World) (n0 : Nat) (ha : SetsR w n0 va A) (hb : SetsR w n0 vb B) :
    Calls Tryz.prog 92 #[va, vb] w fun e w' => e = .returned (.bool (decide (A = B))) ∧ Ext w w' := by
  have HC := hid (equalfs_any va vb A B w n0 ha hb)
  obtain ⟨aa, ca, rfl⟩ := ha.form
  obtain ⟨ab, cb, rfl⟩ := hb.form
  generalize decide (A = B) = d at *
  clear ha hb
  go_enter Tryz.func92, Tryz.ntmps92
  go_wp2_with fail
  refine HC.out.mono ?_
  intro e w1 hx
  obtain ⟨rfl, hx1⟩ := hx
  have Hx1 := hid hx1
  clear HC hx1
  go_wp2
  go_ret
  exact ⟨rfl, Hx1.out⟩
set_option maxRecDepth 100000 in
set_option maxHeartbeats 800000 in
theorem fixjoin_any (va vb : Value) (a b : List Int) (w : World) (n0 : Nat) (ad : Nat → Addr) (hE : ErrS w ad) (ha : IntsR w n0 va a) (hb : IntsR w n0 vb b) (ka : chkE a = 0) (kb : chkE b = 0) :
    Calls Tryz.prog 119 #[va, vb] w fun e w' => ∃ v, e = .returned v ∧ (∃ x c, v = .slice x (sset (a ++ b)).length c) ∧ IntsT w' v (sset (a ++ b)) ∧ Ext w w' := by
  have HU := hid (setunion_any va vb a b w n0 ad hE ha hb (by have := srt_few ka; omega) (by have := srt_few kb; omega))
  have Hk := hid (bothE_zero.2 ⟨ka, kb⟩)
  obtain ⟨aa, ca, rfl, _⟩ := ha
  obtain ⟨ab, cb, rfl, _⟩ := hb
  obtain ⟨l, hl⟩ : ∃ l, l = sset (a ++ b) := ⟨_, rfl⟩
  rw [← hl] at HU ⊢
  clear hE ka kb hl
  go_enter Tryz.func119, Tryz.ntmps119
  go_wp2_with fail
  refine HU.out.mono ?_
  intro e w1 hx
  obtain ⟨t, rfl, ht, hx1⟩ := hx
  obtain ⟨v, rfl, hrow⟩ : ∃ v, t = .tuple #[v, .nilIface] ∧ IRow w.heap.size w1 v l := by
    rcases ht with ⟨_, v, h1, h2⟩ | ⟨h, _⟩
    · exact ⟨v, h1, h2⟩
    · exact absurd Hk.out h
  obtain ⟨av, cv, rfl⟩ := hrow.form
  have Hr := hid (IntsT.row hrow)
  have Hx1 := hid hx1
  clear HU ht hrow hx1
  go_wp2
  go_ret
  exact ⟨_, rfl, ⟨_, _, rfl⟩, Hr.out, Hx1.out⟩
theorem Made.put {w : World} {base g cap N : Nat} {vs : List Value} {L : List (List Int)} {n : Nat} {v : Value} {l : List Int} (hr : w.ownsRow base 43 1 (.slice (some ⟨g, 0, none⟩) N cap) N vs) (hm : Made w vs L) (hL : L.length = N) (hv : IntsT w v l) (hn : n < N) :
    (w.setCell ⟨g, n, none⟩ v).ownsRow base 43 1 (.slice (some ⟨g, 0, none⟩) N cap) N (vs.set n v) ∧ Made (w.setCell ⟨g, n, none⟩ v) (vs.set n v) (L.set n l) ∧ Keep (fun q => q = g) w (w.setCell ⟨g, n, none⟩ v) := by
  have k : Keep (fun q => q = g) w (w.setCell ⟨g, n, none⟩ v) := Keep.set (X := fun q => q = g) (Keep.refl _ _) rfl _
  have hni : ∀ b, b = g → ¬ IsInt w b := fun b e => by
    subst e
    obtain ⟨c, hc⟩ := own_ty hr (k := b) rfl
    exact notInt hc (by decide)
  have hvs := hm.1
  refine ⟨own_set hr n (by omega) v, ⟨by rw [List.length_set, List.length_set]; exact hvs, fun i u m hu hl => ?_⟩, k⟩
  by_cases hi : n = i
  · subst hi
    rw [List.getElem?_set_self (by omega)] at hu hl
    obtain rfl := Option.some.inj hu
    obtain rfl := Option.some.inj hl
    exact hv.keep k hni
  · rw [List.getElem?_set_ne hi] at hu hl
    exact (hm.2 i u m hu hl).keep k hni
theorem Made.one {w : World} {base g cap N : Nat} {vs : List Value} {S : List (List Int)} (hr : w.ownsRow base 43 1 (.slice (some ⟨g, 0, none⟩) N cap) N vs) (hm : Made w vs S) (hL : S.length = N) {n : Nat} (hn : n < N) : ∃ a c, w.cell? ⟨g, n, none⟩ = some (.slice a (S.getD n []).length c) ∧ IntsR w w.heap.size (.slice a (S.getD n []).length c) (S.getD n []) := by
  have hvs := hm.1
  have h1 : vs[n]? = some (vs[n]'(by omega)) := List.getElem?_eq_getElem (by omega)
  have h2 : S[n]? = some (S[n]'(by omega)) := List.getElem?_eq_getElem (by omega)
  have hT := hm.2 n _ _ h1 h2
  obtain ⟨a, c, ha⟩ := hT.form
  have e : S.getD n [] = S[n]'(by omega) := by rw [List.getD_eq_getElem?_getD, h2]; rfl
  rw [e]
  rw [ha] at h1
  exact ⟨a, c, own_get hr n h1, by rw [← ha]; exact hT.1⟩
set_option maxRecDepth 100000 in
set_option maxHeartbeats 6400000 in
theorem fixround_made (a1 a2 a3 : Option Addr) (c1 c2 c3 : Nat) (P : PP) (hv : Value) (has : List (List Int)) (w : World) (ad : Nat → Addr) (h : PW w w.heap.size ad a1 a2 a3 c1 c2 c3 P) (hS : ErrS w ad) (hh : SetsR w w.heap.size hv has) (hg : P.GoodS has) :
    Calls Tryz.prog 91 #[pval a1 a2 a3 c1 c2 c3 P, hv] w fun e w' => ∃ a c vs, e = .returned (.tuple #[.slice a has.length c, .nilIface]) ∧ w'.ownsRow w.heap.size 43 1 (.slice a has.length c) has.length vs ∧ Made w' vs (P.roundV has) ∧ (P.roundV has).length = has.length ∧ Ext w w' := by
  obtain ⟨ah, ch, rfl⟩ := hh.form
  have hhl := hh.len
  have Hg := hid hg
  obtain ⟨hf1, hf2, hf3⟩ := hg.1.few
  have hN6 : has.length ≤ 120 := by have := nodesV_le P hg.1; have := hg.2.1; omega
  obtain ⟨W, hW⟩ : ∃ W, W = w.alloc (.cells (pcells a1 a2 a3 c1 c2 c3 P) 26) := ⟨_, rfl⟩
  have HX : Hid (Ext w W) := hid (by rw [hW]; exact (Ext.refl _).alloc _)
  have HBx : Hid (Blk W w.heap.size (pcells a1 a2 a3 c1 c2 c3 P) 26) := hid (by rw [hW]; exact Blk.new _ _ _)
  have HWe : Hid (W = w.alloc (.cells #[.slice a1 P.vars.length c1, .slice a2 P.funs.length c2, .slice a3 P.stmts.length c3] 26)) := hid (by rw [hW]; rfl)
  have HE1 := hid (edges_fix a1 a2 a3 c1 c2 c3 P (.slice ah has.length ch) has W ad ((h.ext HX.out).lift HX.out.size) (hS.ext HX.out) ((hh.ext HX.out).lift HX.out.size) hg)
  have HO := fun w1 (x : Ext W w1) => hid (consof_yes a1 a2 a3 c1 c2 c3 P w1 w1.heap.size ad ((h.ext (HX.out.trans x)).lift (HX.out.trans x).size))
  have HH := hid (hh.ext HX.out)
  have HS := hid (hS.ext HX.out)
  have hEl := edgesL_len hg.1 has
  have HRA := hid (roundV_at hg)
  have HA := hid (edgesL_are hg)
  obtain ⟨EL, hEL⟩ : ∃ EL, EL = P.edgesL has := ⟨_, rfl⟩
  rw [← hEL] at HE1 hEl HRA HA
  have d0 := HBx.out.av 0 rfl
  have d1 := HBx.out.av 1 rfl
  have d2 := HBx.out.av 2 rfl
  simp only [pcells, qA0, qA1, qA2] at d0 d1 d2
  rw [HWe.out] at d0 d1 d2
  unfold pval at HE1 HO ⊢
  clear hW h hS hh hg hEL
  go_enter Tryz.func91, Tryz.ntmps91
  go_wp2_with fail
  rw [← HWe.out]
  refine HE1.out.mono ?_
  intro e w1 hx
  obtain ⟨ae, ce, rfl, hr, _, hx1⟩ := hx
  have Hr1 := hid hr
  have Hx1 := hid hx1
  have HO1 := HO w1 hx1
  clear HE1 HO hr hx1 d0 d1 d2
  have d0 := (HBx.out.ext Hx1.out).av 0 rfl
  have d1 := (HBx.out.ext Hx1.out).av 1 rfl
  have d2 := (HBx.out.ext Hx1.out).av 2 rfl
  simp only [pcells, qA0, qA1, qA2] at d0 d1 d2
  go_wp2_with fail
  refine HO1.out.mono ?_
  intro e w2 hx
  obtain ⟨v2, rs, rfl, hi, hx2⟩ := hx
  obtain ⟨bv, dv, rfl⟩ := row_form hi.row
  rw [show P.rulesV.length = P.stmts.length from P.rulesUp_len _] at hi ⊢
  have HI := hid hi
  have Hx2 := hid (Hx1.out.trans hx2)
  have HrE := hid (Hr1.out.ext hx2)
  have HH2 := hid (HH.out.ext Hx2.out)
  have HS2 := hid (HS.out.ext Hx2.out)
  have Hxw2 := hid (HX.out.trans Hx2.out)
  have Hlw : Hid (w.heap.size ≤ w2.heap.size) := hid Hxw2.out.size
  clear HO1 hi hx2 d0 d1 d2 Hr1 HH HS
  go_wp2
  go_loopw [9, 35] (fun t9 t35 wr => ∃ (k : Nat) (vs : List Value), t35 = .int .i64 (k : Int) ∧ k ≤ has.length ∧ wr.ownsRow w2.heap.size 43 1 t9 k vs ∧ Made wr vs (has.take k) ∧ Ext w2 wr) (fun _ t35 _ => has.length - (intOf t35).toNat)
  case atStart => exact ⟨0, [], rfl, Nat.zero_le _, World.ownsRow_nil _ _ _ _, ⟨rfl, fun i v l h => by cases h⟩, Ext.refl _⟩
  case round =>
    obtain ⟨k, vs, rfl, hk, hr, hm, hx⟩ := hrel
    obtain ⟨a9, c9, rfl⟩ := row_form hr
    have Hr := hid hr
    have Hm := hid hm
    have Hx := hid hx
    clear hr hm hx
    by_cases hlt : k < has.length
    · obtain ⟨y, l, b, c, hya, hl, hc, hI⟩ := (HH2.out.ext Hx.out).at hlt
      subst hya
      have hll := srt_few (Hg.out.ok.ok l (List.mem_of_getElem? hl)).1
      have HC := hid (clone_big (.slice b l.length c) l wr w.heap.size hI (by omega))
      have Hl := hid hl
      clear hl hI
      go_wp2_with fail
      refine HC.out.mono ?_
      intro e w3 hx
      obtain ⟨v3, rfl, hx3, hr3⟩ := hx
      have HT := hid (IntsT.row hr3)
      obtain ⟨a3', c3', rfl⟩ := hr3.form
      have Hx3 := hid hx3
      clear HC hr3 hx3 hc
      have hxa : Hid (Ext w2 (w3.alloc (.cells #[.slice a3' l.length c3'] 43))) := hid ((Hx.out.trans Hx3.out).alloc _)
      have hx3a : Hid (Ext wr (w3.alloc (.cells #[.slice a3' l.length c3'] 43))) := hid (Hx3.out.alloc _)
      have Hra := hid (own_ext Hr.out hx3a.out)
      have Hma := hid ((Hm.out.ext hx3a.out).snoc (HT.out.ext ((Ext.refl w3).alloc (.cells #[.slice a3' l.length c3'] 43))))
      go_wp2_with (at_builtin; refine wpList_append_el w2.heap.size hxa.out.size 32 43 (.slice none 0 0) 1 24 Tryz.underlying32 rows_info rfl (by omega) (by omega) rfl _ _ rfl (.slice a9 k c9) k vs rfl Hra.out w3.heap.size [.slice a3' l.length c3'] rfl (by simp [Value.oneCell']) rfl (Blk.new _ _ _) (by omega) ?_; intro v' w' h1 h2 h4; obtain ⟨a', c', rfl⟩ := row_form h1; have h3 := hid (Keep.new hxa.out h2 (fun k hk => (World.ownsRow.lt Hra.out k hk).1)); have hm5 := hid (Hma.out.keep h2 (fun b e => by obtain ⟨c, hc⟩ := own_ty Hra.out e; exact IsInt.not hc (by decide))); have h1 := hid h1; clear h2 h4)
      go_roundw
      case rel =>
        refine ⟨k + 1, _, by go_num, by omega, h1.out, ?_, h3.out⟩
        rw [List.take_add_one, Hl.out]
        exact hm5.out
      case measure => simp [intOf]; omega
    · obtain rfl : k = has.length := by omega
      rw [List.take_of_length_le (Nat.le_refl _)] at Hm
      obtain ⟨V, hV⟩ : ∃ V, V = wr := ⟨_, rfl⟩
      subst hV
      clear hlt hk
      go_wp2
      go_loopw [47] (fun t47 wr => ∃ (k : Nat) (vs : List Value) (S : List (List Int)), t47 = .int .i64 (k : Int) ∧ k ≤ P.stmts.length ∧ RoundAt P has EL k 0 S ∧ wr.ownsRow w2.heap.size 43 1 (.slice a9 has.length c9) has.length vs ∧ Made wr vs S ∧ Ext w2 wr) (fun t47 _ => P.stmts.length - (intOf t47).toNat)
      case atStart => exact ⟨0, vs, has, rfl, Nat.zero_le _, RoundAt.start Hg.out EL, Hr.out, Hm.out, Hx.out⟩
      case round =>
        clear Hr Hm Hx
        obtain ⟨k, vs, S, rfl, hk, hra, hr, hm, hx⟩ := hrel
        have HRd := hid hra
        have Hrow := hid hr
        have Hmd := hid hm
        have Hx := hid hx
        have HSl := hid hra.len
        clear hra hr hm hx
        by_cases hlt : k < P.stmts.length
        · obtain ⟨g, cp, hge⟩ := own_some HI.out.row (by rw [show P.rulesV.length = P.stmts.length from P.rulesUp_len _]; omega)
          simp only [Value.slice.injEq] at hge
          obtain ⟨rfl, -, rfl⟩ := hge
          obtain ⟨x, hxk, hxr⟩ := rules_at HI.out.eq hlt
          have hrow := own_ext HI.out.row Hx.out
          rw [show P.rulesV.length = P.stmts.length from P.rulesUp_len _] at hrow
          obtain ⟨q0, q1, q2, q3, q4⟩ := own_r hrow hxk
          have hT := HI.out.args x (List.mem_of_getElem? hxk)
          obtain ⟨aa, ca, hav⟩ := hT.form
          obtain ⟨r, xv⟩ := x
          simp only at hav hxr q0 q1 q2 q3 q4
          subst hav
          obtain ⟨wA, hwA⟩ : ∃ wA, wA = wr.alloc (.cells #[.string r.kind, .int .i64 r.a, .int .i64 r.b, .int .i64 r.k, .slice aa r.args.length ca] 90) := ⟨_, rfl⟩
          have hxA : Ext wr wA := by rw [hwA]; exact (Ext.refl _).alloc _
          have HwAe := hid hwA
          have HwA := hid hxA
          have HBr : Hid (Blk wA wr.heap.size #[.string r.kind, .int .i64 r.a, .int .i64 r.b, .int .i64 r.k, .slice aa r.args.length ca] 90) := hid (by rw [hwA]; exact Blk.new _ _ _)
          have hra := rule_a_in Hg.out.1 hlt
          rw [← hxr] at hra
          have hrb := fun hb => base_b_in Hg.out.1 hlt hb
          rw [← hxr] at hrb
          have hob := objects_few Hg.out.1
          have Hrr := hid hxr
          have hnv := nodes_vars P
          have hlen := Hg.out.2.1
          obtain ⟨A, hA⟩ := Int.eq_ofNat_of_zero_le hra.1
          have hAl : A < has.length := by omega
          have m0 := HBr.out.kc (X := fun _ => False) (fun e => e) 0 rfl
          have m1 := HBr.out.kc (X := fun _ => False) (fun e => e) 1 rfl
          have m2 := HBr.out.kc (X := fun _ => False) (fun e => e) 2 rfl
          simp only [qA0, qA1, qA2] at m0 m1 m2
          cases hkb : (r.kind.toList == [98, 97, 115, 101]) with
          | true =>
            have hkl : r.kind.toList = bBase.toList := (eq_of_beq hkb).trans (eq_of_beq bBase_list).symm
            have Hkb : Hid ((P.ruleV k (P.stAt k)).kind.toList = bBase.toList) := hid (by rw [← Hrr.out]; exact hkl)
            have hb := hrb hkl
            have Hb : Hid (0 ≤ r.b ∧ r.b < 1000) := hid (by omega)
            obtain ⟨g9, cp9, hge⟩ := own_some Hrow.out (by omega)
            simp only [Value.slice.injEq] at hge
            obtain ⟨rfl, -, rfl⟩ := hge
            obtain ⟨al, cl, hcl, hIl⟩ := Made.one Hrow.out Hmd.out HSl.out hAl
            have Hidx : Hid (A < has.length) := hid hAl
            have hlk : chkE (S.getD A []) = 0 := HRd.out.ok _ (getD_mem (by rw [HSl.out]; exact hAl))
            obtain ⟨la, hla⟩ : ∃ la, la = S.getD A [] := ⟨_, rfl⟩
            rw [← hla] at hcl hIl hlk
            obtain ⟨lj, hlj⟩ : ∃ lj, lj = sset (la ++ [r.b]) := ⟨_, rfl⟩
            have Hst := hid (RoundAt.base HRd.out Hkb.out (by rw [← Hrr.out]; exact hA) (by rw [← Hrr.out]) Hb.out hAl)
            rw [← hla, ← hlj] at Hst
            have hbk : chkE [r.b] = 0 := chkE_zero.2 ⟨fun z hz => by obtain rfl := List.mem_singleton.1 hz; exact Hb.out, List.pairwise_singleton _ _⟩
            have HJ := fun bq wa (y : Ext wA wa) (hB : Blk wa bq #[.int .i64 r.b] 3) => hid (fixjoin_any (.slice al la.length cl) (.slice (some ⟨bq, 0, none⟩) 1 1) la [r.b] wa wa.heap.size ad (HS2.out.ext (Hx.out.trans (HwA.out.trans y))) (ElR.lift (hIl.old ((HwA.out.trans y).old _)) (HwA.out.trans y).size) (IntsR.blk (l := [r.b]) hB rfl (by simp)) hlk hbk)
            rw [← hlj] at HJ
            have c0 : ∀ w1, Keep (fun _ => False) wA w1 → w1.cell? ⟨g9, A, none⟩ = some (.slice al la.length cl) := fun w1 k => (HwA.out.trans k.ext).cellx hcl
            have hll : (la.length : Int) ≤ 9223372036854775807 := by have := srt_few hlk; omega
            rw [hA] at m1
            clear hcl hIl hlk hla hlj hbk hrb hb hkl hwA hxA hxk hxr hrow hT hra hnv hlen hA
            go_wp2
            rw [← HwAe.out]
            refine wp_flowT (fun _ => False) (by kernel_rfl) (by kernel_rfl) ?_
            repeat (apply FlowT.d; (intro w1 hk; unfold does; go_simp; (try go_ints); (first | exact DetR.mk | (simp only [↓IntWalk.iteOmega, Oper.doesUpon_value]; exact DetR.mk) | (simp only [↓IntWalk.iteOmega]; go_simp; (try go_ints); exact DetR.mk))); simp only [Act.put, qS0, qS1, qS2])
            refine FlowT.s (fun v w' => (∃ b, v = .slice (some ⟨b, 0, none⟩) 1 1) ∧ (∀ b, v = .slice (some ⟨b, 0, none⟩) 1 1 → Blk w' b #[.int .i64 r.b] 3) ∧ Ext wA w') 10 rfl (by kernel_rfl) (fun _ _ _ ⟨h1, h2, h3⟩ y => ⟨h1, fun b e => (h2 b e).ext y, h3.trans y⟩) (fun wa hC hk2 => ?_) ?_
            · unfold does
              go_simp
              exact ⟨hk2.alloc _, ⟨_, rfl⟩, fun b e => by
                obtain rfl : wa.heap.size = b := by simpa using e
                exact Blk.new _ _ _, hC.alloc _⟩
            rintro _ ⟨_, ⟨bq, rfl⟩, _, _⟩
            simp only [Act.put, qS0, qS1, qS2]
            repeat (apply FlowT.d; (intro w1 hk; unfold does; go_simp; (try go_ints); (first | exact DetR.mk | (simp only [↓IntWalk.iteOmega, Oper.doesUpon_value]; exact DetR.mk) | (simp only [↓IntWalk.iteOmega]; go_simp; (try go_ints); exact DetR.mk))); simp only [Act.put, qS0, qS1, qS2])
            refine FlowT.s (fun v w' => (∃ x c, v = .slice x lj.length c) ∧ (∀ x c, v = .slice x lj.length c → IntsT w' (.slice x lj.length c) lj) ∧ Ext wA w') 11 rfl (by kernel_rfl) (fun _ _ _ ⟨h1, h2, h3⟩ y => ⟨h1, fun x c e => (h2 x c e).ext y, h3.trans y⟩) (fun wa hC hk2 => ?_) ?_
            · obtain ⟨_, hB, hxa⟩ := hC
              have HJa := HJ bq wa hxa (hB _ rfl)
              unfold does
              go_simp
              refine CallR.act (HJa.out.mono ?_)
              rintro e wb ⟨v, rfl, ⟨x, c, rfl⟩, hT, hx⟩
              refine ⟨_, rfl, hk2.trans (hx.keep _), ⟨x, c, rfl⟩, fun x' c' e => ?_, hxa.trans hx⟩
              rw [← e]
              exact hT
            rintro _ ⟨_, ⟨xj, cj, rfl⟩, _, _⟩
            simp only [Act.put, qS0, qS1, qS2]
            repeat (apply FlowT.d; (intro w1 hk; unfold does; go_simp; (try go_ints); (first | exact DetR.mk | (simp only [↓IntWalk.iteOmega, Oper.doesUpon_value]; exact DetR.mk) | (simp only [↓IntWalk.iteOmega]; go_simp; (try go_ints); exact DetR.mk))); simp only [Act.put, qS0, qS1, qS2])
            refine FlowT.last (fun _ w' => w'.ownsRow w2.heap.size 43 1 (.slice (some ⟨g9, 0, none⟩) has.length c9) has.length (vs.set A (.slice xj lj.length cj)) ∧ Made w' (vs.set A (.slice xj lj.length cj)) (S.set A lj) ∧ Ext w2 w') 13 rfl (by kernel_rfl) (by kernel_rfl) (fun wa hC hk2 => ?_) (fun _ w6 hR => ?_)
            · obtain ⟨_, hT, hxa⟩ := hC
              have hT := hT _ _ rfl
              have hrw := own_ext Hrow.out (HwA.out.trans hxa)
              have hmw := Hmd.out.ext (HwA.out.trans hxa)
              obtain ⟨p1, p2, p3⟩ := Made.put hrw hmw HSl.out hT Hidx.out
              obtain ⟨u, hu⟩ : ∃ u, vs[A]? = some u := ⟨_, List.getElem?_eq_getElem (by rw [Hmd.out.1, HSl.out]; exact Hidx.out)⟩
              have z0 := own_get hrw A hu
              have y0 := own_free hrw A
              have hbase := (own_blk hrw).choose_spec.2.1
              have hxx := Keep.new (Hx.out.trans (HwA.out.trans hxa)) p3 fun b e => by rw [e]; exact hbase
              clear hrw hmw hbase
              unfold does
              go_simp
              try exact ⟨p1, p2, hxx⟩
            obtain ⟨h1, h2, h3⟩ := hR
            simp only [Act.put, qS0, qS1, qS2]
            have Hn1 := hid h1
            have Hn2 := hid h2
            have Hn3 := hid h3
            clear h1 h2 h3
            clear m0 m1 m2 c0 HJ hkb
            go_wp2
            go_roundw
            case rel => exact ⟨k + 1, _, _, by go_num, by omega, Hst.out, Hn1.out, Hn2.out, Hn3.out⟩
            case measure => simp [intOf]; omega
          | false =>
            have Hkb : Hid ((P.ruleV k (P.stAt k)).kind.toList ≠ bBase.toList) := hid (by
              rw [← Hrr.out]
              intro h
              rw [h, bBase_list] at hkb
              cases hkb)
            have HxA := hid (Hx.out.trans HwA.out)
            have Hr2 := hid (own_ext Hrow.out HwA.out)
            have Hm2 := hid (Hmd.out.ext HwA.out)
            have m0' := HBr.out.av 0 rfl
            simp only [qA0, qA1, qA2] at m0'
            rw [HwAe.out] at m0'
            clear hrb hwA hxA hxk hxr hrow hT hra hnv hlen hA m0 m1 m2
            go_wp2
            rw [← HwAe.out]
            go_roundw
            case rel => exact ⟨k + 1, vs, S, by go_num, by omega, HRd.out.skip Hkb.out, Hr2.out, Hm2.out, HxA.out⟩
            case measure => simp [intOf]; omega
        · obtain rfl : k = P.stmts.length := by omega
          obtain ⟨U, hU⟩ : ∃ U, U = wr := ⟨_, rfl⟩
          subst hU
          clear hlt hk
          go_wp2
          go_loopw [70] (fun t70 wr => ∃ (m : Nat) (vs : List Value) (S : List (List Int)), t70 = .int .i64 (m : Int) ∧ m ≤ EL.length ∧ RoundAt P has EL P.stmts.length m S ∧ wr.ownsRow w2.heap.size 43 1 (.slice a9 has.length c9) has.length vs ∧ Made wr vs S ∧ Ext w2 wr) (fun t70 _ => EL.length - (intOf t70).toNat)
          case atStart => exact ⟨0, vs, S, rfl, Nat.zero_le _, HRd.out, Hrow.out, Hmd.out, Hx.out⟩
          case round =>
            clear HRd Hrow Hmd Hx HSl
            obtain ⟨m, vs, S, rfl, hm1, hra, hr, hm, hx⟩ := hrel
            have HRd := hid hra
            have Hrow := hid hr
            have Hmd := hid hm
            have Hx := hid hx
            have HSl := hid hra.len
            clear hra hr hm hx
            by_cases hlt : m < EL.length
            · obtain ⟨ge, cp, hge⟩ := own_some HrE.out (by omega)
              simp only [Value.slice.injEq] at hge
              obtain ⟨rfl, -, rfl⟩ := hge
              obtain ⟨⟨x, z⟩, hxk⟩ : ∃ x, EL[m]? = some x := ⟨_, List.getElem?_eq_getElem hlt⟩
              obtain ⟨q0, q1⟩ := own_e (own_ext HrE.out Hx.out) hxk
              have hin := edges0_in Hg.out.1 Hg.out.ok _ ((HA.out.mem _).1 (List.mem_of_getElem? hxk)).1
              unfold PP.InN at hin
              obtain ⟨i1, i2, i3, i4⟩ := hin
              simp only at i1 i2 i3 i4
              have hlen := Hg.out.2.1
              obtain ⟨A, rfl⟩ := Int.eq_ofNat_of_zero_le i1
              obtain ⟨B, rfl⟩ := Int.eq_ofNat_of_zero_le i3
              have hAl : A < has.length := by omega
              have hBl : B < has.length := by omega
              obtain ⟨wA, hwA⟩ : ∃ wA, wA = wr.alloc (.cells #[.int .i64 (A : Int), .int .i64 (B : Int)] 95) := ⟨_, rfl⟩
              have hxA : Ext wr wA := by rw [hwA]; exact (Ext.refl _).alloc _
              have HwAe := hid hwA
              have HwA := hid hxA
              have HBe : Hid (Blk wA wr.heap.size #[.int .i64 (A : Int), .int .i64 (B : Int)] 95) := hid (by rw [hwA]; exact Blk.new _ _ _)
              have m0 := HBe.out.kc (X := fun _ => False) (fun e => e) 0 rfl
              have m1 := HBe.out.kc (X := fun _ => False) (fun e => e) 1 rfl
              simp only [qA0, qA1, qA2] at m0 m1
              obtain ⟨y, l, bl, cl', hya, hl, hc, hI⟩ := (HH2.out.ext Hx.out).at hAl
              subst hya
              have hDl : has.getD A [] = l := by rw [List.getD_eq_getElem?_getD, hl]; rfl
              have hlk' : chkE l = 0 := (Hg.out.ok.ok l (List.mem_of_getElem? hl)).1
              obtain ⟨g9, cp9, hge⟩ := own_some Hrow.out (by omega)
              simp only [Value.slice.injEq] at hge
              obtain ⟨rfl, -, rfl⟩ := hge
              obtain ⟨al, cl, hcl, hIl⟩ := Made.one Hrow.out Hmd.out HSl.out hBl
              have Hidx : Hid (B < has.length) := hid hBl
              have hlk : chkE (S.getD B []) = 0 := HRd.out.ok _ (getD_mem (by rw [HSl.out]; exact hBl))
              obtain ⟨la, hla⟩ : ∃ la, la = S.getD B [] := ⟨_, rfl⟩
              rw [← hla] at hcl hIl hlk
              obtain ⟨lj, hlj⟩ : ∃ lj, lj = sset (la ++ l) := ⟨_, rfl⟩
              have Hst := hid (RoundAt.edge HRd.out hxk (fun l hl => (Hg.out.ok.ok l hl).1) hAl hBl)
              rw [← hla, hDl, ← hlj] at Hst
              have HJ := fun wa (y : Ext wA wa) => hid (fixjoin_any (.slice al la.length cl) (.slice bl l.length cl') la l wa wa.heap.size ad (HS2.out.ext (Hx.out.trans (HwA.out.trans y))) (ElR.lift (hIl.old ((HwA.out.trans y).old _)) (HwA.out.trans y).size) (ElR.lift (hI.old ((HwA.out.trans y).old _)) (Nat.le_trans Hlw.out (Hx.out.trans (HwA.out.trans y)).size)) hlk hlk')
              rw [← hlj] at HJ
              have c0 : ∀ w1, Keep (fun _ => False) wA w1 → w1.cell? ⟨g9, B, none⟩ = some (.slice al la.length cl) := fun w1 k => (HwA.out.trans k.ext).cellx hcl
              have c1' : ∀ w1, Keep (fun _ => False) wA w1 → w1.cell? (y.add A) = some (.slice bl l.length cl') := fun w1 k => (HwA.out.trans k.ext).cellx hc
              have hll : (la.length : Int) ≤ 9223372036854775807 := by have := srt_few hlk; omega
              have hll2 : (l.length : Int) ≤ 9223372036854775807 := by have := srt_few hlk'; omega
              clear hcl hIl hlk hla hlj hwA hxA hxk hlen hl hc hI hDl hlk' i1 i2 i3 i4
              go_wp2
              rw [← HwAe.out]
              clear q0 q1
              refine wp_flowT (fun _ => False) (by kernel_rfl) (by kernel_rfl) ?_
              repeat (apply FlowT.d; (intro w1 hk; unfold does; go_simp; (try go_ints); (first | exact DetR.mk | (simp only [↓IntWalk.iteOmega, Oper.doesUpon_value]; exact DetR.mk) | (simp only [↓IntWalk.iteOmega]; go_simp; (try go_ints); exact DetR.mk))); simp only [Act.put, qS0, qS1, qS2])
              refine FlowT.s (fun v w' => (∃ x c, v = .slice x lj.length c) ∧ (∀ x c, v = .slice x lj.length c → IntsT w' (.slice x lj.length c) lj) ∧ Ext wA w') 13 rfl (by kernel_rfl) (fun _ _ _ ⟨h1, h2, h3⟩ y => ⟨h1, fun x c e => (h2 x c e).ext y, h3.trans y⟩) (fun wa hC hk2 => ?_) ?_
              · have hxa : Ext wA wa := hC
                have HJa := HJ wa hxa
                unfold does
                go_simp
                refine CallR.act (HJa.out.mono ?_)
                rintro e wb ⟨v, rfl, ⟨x, c, rfl⟩, hT, hx⟩
                refine ⟨_, rfl, hk2.trans (hx.keep _), ⟨x, c, rfl⟩, fun x' c' e => ?_, hxa.trans hx⟩
                rw [← e]
                exact hT
              rintro _ ⟨_, ⟨xj, cj, rfl⟩, _, _⟩
              simp only [Act.put, qS0, qS1, qS2]
              repeat (apply FlowT.d; (intro w1 hk; unfold does; go_simp; (try go_ints); (first | exact DetR.mk | (simp only [↓IntWalk.iteOmega, Oper.doesUpon_value]; exact DetR.mk) | (simp only [↓IntWalk.iteOmega]; go_simp; (try go_ints); exact DetR.mk))); simp only [Act.put, qS0, qS1, qS2])
              refine FlowT.last (fun _ w' => w'.ownsRow w2.heap.size 43 1 (.slice (some ⟨g9, 0, none⟩) has.length c9) has.length (vs.set B (.slice xj lj.length cj)) ∧ Made w' (vs.set B (.slice xj lj.length cj)) (S.set B lj) ∧ Ext w2 w') 15 rfl (by kernel_rfl) (by kernel_rfl) (fun wa hC hk2 => ?_) (fun _ w6 hR => ?_)
              · obtain ⟨_, hT, hxa⟩ := hC
                have hT := hT _ _ rfl
                have hrw := own_ext Hrow.out (HwA.out.trans hxa)
                have hmw := Hmd.out.ext (HwA.out.trans hxa)
                obtain ⟨p1, p2, p3⟩ := Made.put hrw hmw HSl.out hT Hidx.out
                obtain ⟨u, hu⟩ : ∃ u, vs[B]? = some u := ⟨_, List.getElem?_eq_getElem (by rw [Hmd.out.1, HSl.out]; exact Hidx.out)⟩
                have z0 := own_get hrw B hu
                have y0 := own_free hrw B
                have hbase := (own_blk hrw).choose_spec.2.1
                have hxx := Keep.new (Hx.out.trans (HwA.out.trans hxa)) p3 fun b e => by rw [e]; exact hbase
                clear hrw hmw hbase
                unfold does
                go_simp
                try exact ⟨p1, p2, hxx⟩
              obtain ⟨h1, h2, h3⟩ := hR
              simp only [Act.put, qS0, qS1, qS2]
              have Hn1 := hid h1
              have Hn2 := hid h2
              have Hn3 := hid h3
              clear h1 h2 h3
              clear m0 m1 c0 c1' HJ
              go_wp2
              go_roundw
              case rel => exact ⟨m + 1, _, _, by go_num, by omega, Hst.out, Hn1.out, Hn2.out, Hn3.out⟩
              case measure => simp [intOf]; omega
            · obtain rfl : m = EL.length := by omega
              have He : Hid (S = P.roundV has) := hid (HRd.out.uniq HRA.out)
              have HF : Hid (Made wr vs (P.roundV has)) := hid (by rw [← He.out]; exact Hmd.out)
              have HFl : Hid ((P.roundV has).length = has.length) := hid (by rw [← He.out]; exact HSl.out)
              go_wp2
              go_ret2
              exact ⟨_, _, vs, rfl, own_low Hrow.out Hlw.out, HF.out, HFl.out, Hxw2.out.trans Hx.out⟩
theorem fixround_ok (a1 a2 a3 : Option Addr) (c1 c2 c3 : Nat) (P : PP) (hv : Value) (has : List (List Int)) (w : World) (ad : Nat → Addr) (h : PW w w.heap.size ad a1 a2 a3 c1 c2 c3 P) (hS : ErrS w ad) (hh : SetsR w w.heap.size hv has) (hg : P.GoodS has) :
    Calls Tryz.prog 91 #[pval a1 a2 a3 c1 c2 c3 P, hv] w fun e w' => ∃ a c, e = .returned (.tuple #[.slice a has.length c, .nilIface]) ∧ SetsR w' w'.heap.size (.slice a has.length c) (P.roundV has) ∧ Ext w w' :=
  (fixround_made a1 a2 a3 c1 c2 c3 P hv has w ad h hS hh hg).mono fun e w' ⟨a, c, vs, he, hr, hm, hl, hx⟩ => by
    refine ⟨a, c, he, ?_, hx⟩
    have := SetsR.made (v := .slice a has.length c) (L := P.roundV has) (by rw [hl]; exact hr) hm
    exact this
theorem first_of {p : Nat → Prop} : ∀ n, p n → ∃ m, p m ∧ ∀ k, k < m → ¬ p k := fun n => by
  induction n using Nat.strongRecOn with
  | _ n ih =>
    intro hn
    rcases Classical.em (∃ k, k < n ∧ p k) with ⟨k, hk, hp⟩ | h
    · exact ih k hk hp
    · exact ⟨n, hn, fun k hk hp => h ⟨k, hk, hp⟩⟩
theorem iter_total {P : PP} (hw : P.Well) : ∀ n, (∀ m, m < n → P.roundV (P.iterV m) ≠ P.iterV m) → n ≤ total (P.iterV n)
  | 0, _ => Nat.zero_le _
  | n + 1, h => by
    have h1 := iter_total hw n fun m hm => h m (by omega)
    have h2 := iter_grows hw n (h n (by omega))
    omega
theorem least_exists {P : PP} (hw : P.Well) : ∃ n S, LeastAt P n S := by
  have h : ∃ n, P.roundV (P.iterV n) = P.iterV n := by
    rcases Classical.em (∃ n, P.roundV (P.iterV n) = P.iterV n) with h | h
    · exact h
    · have h1 := iter_total hw 200000 fun m _ e => h ⟨m, e⟩
      have h2 := iter_few hw 200000
      omega
  obtain ⟨n, hn⟩ := h
  obtain ⟨m, hm, hf⟩ := first_of (p := fun n => P.roundV (P.iterV n) = P.iterV n) n hn
  exact ⟨m, P.iterV m, rfl, hm, hf⟩
theorem LeastAt.few {P : PP} (hw : P.Well) {n : Nat} {S : List (List Int)} (h : LeastAt P n S) : n ≤ 120000 := by
  have h1 := iter_total hw n fun m hm => h.first m hm
  have h2 := iter_few hw n
  omega
theorem made_nil (w : World) (N : Nat) : Made w (List.replicate N (.slice none 0 0)) (List.replicate N []) := by
  refine ⟨by simp, fun i v l hv hl => ?_⟩
  obtain rfl := List.eq_of_mem_replicate (List.mem_of_getElem? hv)
  obtain rfl := List.eq_of_mem_replicate (List.mem_of_getElem? hl)
  exact IntsT.nil w
set_option maxRecDepth 100000 in
set_option maxHeartbeats 1600000 in
theorem fixleast_no (a1 a2 a3 : Option Addr) (c1 c2 c3 : Nat) (P : PP) (w : World) (n0 : Nat) (ad : Nat → Addr) (h : PS0 w n0 ad a1 a2 a3 c1 c2 c3 P) (hw : ¬ P.Well) :
    Calls Tryz.prog 71 #[pval a1 a2 a3 c1 c2 c3 P] w fun e w' => ∃ t x, e = .returned (.tuple #[.slice none 0 0, .int .i64 0, .iface t (.pointer (some x))]) ∧ ErrIs ad P w' (.iface t (.pointer (some x))) ∧ Ext w w' := by
  obtain ⟨W, hW⟩ : ∃ W, W = w.alloc (.cells (pcells a1 a2 a3 c1 c2 c3 P) 26) := ⟨_, rfl⟩
  have HX : Hid (Ext w W) := hid (by rw [hW]; exact (Ext.refl _).alloc _)
  have HBx : Hid (Blk W w.heap.size (pcells a1 a2 a3 c1 c2 c3 P) 26) := hid (by rw [hW]; exact Blk.new _ _ _)
  have HWe : Hid (W = w.alloc (.cells #[.slice a1 P.vars.length c1, .slice a2 P.funs.length c2, .slice a3 P.stmts.length c3] 26)) := hid (by rw [hW]; rfl)
  have hml : (P.vars.length : Int) ≤ 9223372036854775807 := by
    obtain ⟨_, _, _, h2, h3, _⟩ := h.prog.vars
    omega
  have HK := hid (pcheck_any a1 a2 a3 c1 c2 c3 P W n0 ad (h.errs.ext HX.out) (h.prog.ext HX.out) h.z1 h.z2 hml)
  have Hw := hid hw
  have d0 := HBx.out.av 0 rfl
  have d1 := HBx.out.av 1 rfl
  have d2 := HBx.out.av 2 rfl
  simp only [pcells, qA0, qA1, qA2] at d0 d1 d2
  rw [HWe.out] at d0 d1 d2
  unfold pval at HK ⊢
  clear hW h hw
  go_enter Tryz.func71, Tryz.ntmps71
  go_wp2_with fail
  rw [← HWe.out]
  refine HK.out.mono ?_
  intro e w1 hx
  obtain ⟨v, rfl, hi, hx1⟩ := hx
  obtain ⟨t, x, rfl⟩ : ∃ t x, v = .iface t (.pointer (some x)) := by
    rcases hi.form with ⟨_, h⟩ | ⟨h, _⟩
    · exact absurd h Hw.out
    · exact h
  have Hi := hid hi
  have Hx1 := hid (HX.out.trans hx1)
  clear HK hx1 hi d0 d1 d2
  go_wp2
  refine bodyPost_ret (v := .tuple #[.slice none 0 0, .int .i64 0, .iface t (.pointer (some x))]) (by simp [results, Tryz.results71, go_sem]) rfl ?_
  exact ⟨t, x, rfl, Hi.out, Hx1.out⟩
set_option maxRecDepth 100000 in
set_option maxHeartbeats 3200000 in
theorem fixleast_ok (a1 a2 a3 : Option Addr) (c1 c2 c3 : Nat) (P : PP) (w : World) (ad : Nat → Addr) (h : PW w w.heap.size ad a1 a2 a3 c1 c2 c3 P) (hS : ErrS w ad) (n : Nat) (S : List (List Int)) (hL : LeastAt P n S) :
    Calls Tryz.prog 71 #[pval a1 a2 a3 c1 c2 c3 P] w fun e w' => ∃ a c, e = .returned (.tuple #[.slice a P.nodesV c, .int .i64 (n : Int), .nilIface]) ∧ SetsR w' w'.heap.size (.slice a P.nodesV c) S ∧ Ext w w' := by
  have Hw := hid h.well
  have HLe := hid hL
  have hn12 := hL.few h.well
  obtain ⟨hf1, hf2, hf3⟩ := h.well.few
  obtain ⟨W, hW⟩ : ∃ W, W = w.alloc (.cells (pcells a1 a2 a3 c1 c2 c3 P) 26) := ⟨_, rfl⟩
  have HX : Hid (Ext w W) := hid (by rw [hW]; exact (Ext.refl _).alloc _)
  have HBx : Hid (Blk W w.heap.size (pcells a1 a2 a3 c1 c2 c3 P) 26) := hid (by rw [hW]; exact Blk.new _ _ _)
  have HWe : Hid (W = w.alloc (.cells #[.slice a1 P.vars.length c1, .slice a2 P.funs.length c2, .slice a3 P.stmts.length c3] 26)) := hid (by rw [hW]; rfl)
  have HK := hid (check_well (h.errs.ext HX.out) (h.prog.ext HX.out) h.z1 h.z2 h.well)
  have HNo := fun w1 (x : Ext w w1) => hid (prognodes_any a1 a2 a3 c1 c2 c3 P w1 w.heap.size ad (h.errs.ext x) (h.prog.ext x) h.z1 h.z2 h.well)
  have HPW := hid h
  have HS := hid hS
  have hN6 := nodesV_le P h.well
  have HRo := fun w1 (x : Ext w w1) hv has (hh : SetsR w1 w1.heap.size hv has) (hg : P.GoodS has) => hid (fixround_ok a1 a2 a3 c1 c2 c3 P hv has w1 ad ((HPW.out.ext x).lift x.size) (HS.out.ext x) hh hg)
  have HGd := fun k => hid (iterV_good h.well k)
  obtain ⟨N, hN⟩ : ∃ N, N = P.nodesV := ⟨_, rfl⟩
  rw [← hN] at HNo hN6 ⊢
  have HN := hid hN
  have d0 := HBx.out.av 0 rfl
  have d1 := HBx.out.av 1 rfl
  have d2 := HBx.out.av 2 rfl
  simp only [pcells, qA0, qA1, qA2] at d0 d1 d2
  rw [HWe.out] at d0 d1 d2
  unfold pval at HK HNo HRo ⊢
  clear hW h hS hL hN
  go_enter Tryz.func71, Tryz.ntmps71
  go_wp2_with fail
  rw [← HWe.out]
  refine HK.out.mono ?_
  intro e w1 hx
  obtain ⟨rfl, hx1⟩ := hx
  have Hx1 := hid hx1
  have HN1 := HNo w1 (HX.out.trans hx1)
  clear HK hx1 d0 d1 d2 HNo
  have d0 := (HBx.out.ext Hx1.out).av 0 rfl
  have d1 := (HBx.out.ext Hx1.out).av 1 rfl
  have d2 := (HBx.out.ext Hx1.out).av 2 rfl
  simp only [pcells, qA0, qA1, qA2] at d0 d1 d2
  go_wp2_with fail
  refine HN1.out.mono ?_
  intro e w2 hx
  obtain ⟨rfl, hx2⟩ := hx
  have Hx2 := hid (Hx1.out.trans hx2)
  obtain ⟨bi, hbi, hbz, hbs, hbb⟩ := info_parts rows_info
  clear HN1 hx2 d0 d1 d2
  go_wp2_with (at_make; refine wpList_make_full w2 rfl _ _ _ rfl w2.heap.size 43 bi (.slice none 0 0) 1 Tryz.underlying32 hbi hbz hbs .i64 .i64 (N : Int) (N : Int) N rfl rfl rfl rfl (by rw [hbb]; omega) (by unfold maxLen; omega) (Nat.le_refl _) ?_; intro w3 hrow hgr)
  have hx3 : Ext w2 w3 := Keep.new (Ext.refl w2) (grown_keep hgr) (fun k hk => by cases hk)
  rw [show (Value.slice none 0 0).cells = #[Value.slice none 0 0] from rfl, toList_madeCells_one, Nat.mul_one] at hrow
  have Hx3 := hid (Hx2.out.trans hx3)
  have HS0 : Hid (SetsR w3 w3.heap.size (.slice (some ⟨w2.heap.size, 0, none⟩) N N) (P.iterV 0)) := hid (by
    have h1 := SetsR.made (v := .slice (some ⟨w2.heap.size, 0, none⟩) N N) (L := List.replicate N []) (by rw [List.length_replicate]; exact hrow) (made_nil w3 N)
    have e0 : P.iterV 0 = List.replicate N [] := by rw [HN.out]; rfl
    exact e0 ▸ h1)
  clear hrow hgr hx3 hbi hbz hbs hbb
  go_wp2
  go_loopw [6, 7] (fun t6 t7 wr => ∃ (k : Nat) (a : Option Addr) (c : Nat), t7 = .int .i64 (k : Int) ∧ t6 = .slice a N c ∧ k ≤ n ∧ SetsR wr wr.heap.size (.slice a N c) (P.iterV k) ∧ Ext W wr) (fun _ t7 _ => 200000 - (intOf t7).toNat)
  case atStart => exact ⟨0, _, _, rfl, rfl, Nat.zero_le _, HS0.out, Hx3.out⟩
  case round =>
    clear HS0 Hx3
    obtain ⟨k, a, c, rfl, rfl, hk, hs, hx⟩ := hrel
    have Hx := hid hx
    have Hs := hid hs
    have hlen : (P.iterV k).length = N := by rw [HN.out]; exact (HGd k).out.2.1
    have HC := HRo wr (HX.out.trans hx) (.slice a N c) (P.iterV k) hs (HGd k).out
    have d0 := (HBx.out.ext hx).av 0 rfl
    have d1 := (HBx.out.ext hx).av 1 rfl
    have d2 := (HBx.out.ext hx).av 2 rfl
    simp only [pcells, qA0, qA1, qA2] at d0 d1 d2
    rw [hlen] at HC
    clear hs hx hlen HRo
    go_wp2_with fail
    refine HC.out.mono ?_
    intro e w5 hx
    obtain ⟨a5, c5, rfl, hs5, hx5⟩ := hx
    have Hx5 := hid (Hx.out.trans hx5)
    have Hs5 := hid hs5
    have Hso := hid ((Hs.out.ext hx5).lift hx5.size)
    have HSm := hid (fixsame_any (.slice a5 N c5) (.slice a N c) (P.roundV (P.iterV k)) (P.iterV k) w5 w5.heap.size hs5 ((Hs.out.ext hx5).lift hx5.size))
    obtain ⟨d, hd⟩ : ∃ d, d = decide (P.roundV (P.iterV k) = P.iterV k) := ⟨_, rfl⟩
    rw [← hd] at HSm
    have Hd := hid hd
    clear HC hs5 hx5 d0 d1 d2 hd
    go_wp2_with fail
    refine HSm.out.mono ?_
    intro e w6 hx
    obtain ⟨rfl, hx6⟩ := hx
    have Hx6 := hid (Hx5.out.trans hx6)
    have Hs6 := hid ((Hs5.out.ext hx6).lift hx6.size)
    have Hso6 := hid ((Hso.out.ext hx6).lift hx6.size)
    clear HSm
    cases d with
    | true =>
      have hfix : P.roundV (P.iterV k) = P.iterV k := of_decide_eq_true Hd.out.symm
      have hkn : k = n := by
        rcases Nat.lt_or_ge k n with g | g
        · exact absurd hfix (HLe.out.first k g)
        · omega
      subst hkn
      have HF : Hid (SetsR w6 w6.heap.size (.slice a N c) S) := hid (by
        rw [HLe.out.eq]
        exact Hso6.out)
      clear hx6 hfix
      go_wp2
      refine bodyPost_ret (v := .tuple #[.slice a N c, .int .i64 (k : Int), .nilIface]) (by simp [results, Tryz.results71, go_sem]) rfl ?_
      exact ⟨a, c, rfl, HF.out, HX.out.trans Hx6.out⟩
    | false =>
      have hne : P.roundV (P.iterV k) ≠ P.iterV k := of_decide_eq_false Hd.out.symm
      have hkn : k < n := by
        rcases Nat.lt_or_ge k n with g | g
        · exact g
        · obtain rfl : k = n := by omega
          exact absurd (by rw [← HLe.out.eq]; exact HLe.out.fix) hne
      have Hs7 : Hid (SetsR w6 w6.heap.size (.slice a5 N c5) (P.iterV (k + 1))) := hid Hs6.out
      clear hx6 hne
      go_wp2
      go_roundw
      case rel => exact ⟨k + 1, a5, c5, by go_num, rfl, by omega, Hs7.out, Hx6.out⟩
      case measure => simp [intOf]; omega
end Go.Proofs.YtihdpijgngooaaaGreatDoor
