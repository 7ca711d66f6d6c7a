/- Texts of one proof, put together: ZZYj ZZYk. -/
import Derived.Test.YtbagppdibncfdaaGreatDoorHHN13
import Derived.Test.YtbagppdibncfdaaGreatDoorHHN16
import Derived.Test.YtbagppdibncfdaaGreatDoorHHN01
set_option linter.unusedSimpArgs false
set_option linter.unusedVariables false
namespace Go.Proofs.YtbagppdibncfdaaGreatDoor
open Go Go.RowKit
theorem asks_load {P : PP} {me k : Int} (hw : P.Well) (s : SH) {f : Int × Int} (h1 : 0 ≤ f.1 ∧ f.1 < P.nodesV) (h2 : 0 ≤ f.2 ∧ f.2 < P.objectsV) (j : Nat) : ((P.rulesV.take j).foldl (SH.ask P me k f) s).load ≤ s.load + 320 := by
  have hl := rulesV_len P
  have hf := hw.few
  have h := (fold_adds (SH.ask P me k f) 4 (P.rulesV.take j) s fun r hr u => ask_adds (me := me) (k := k) hw u h1 h2 (List.mem_of_mem_take hr)).load
  rw [List.length_take] at h
  have : 4 * min j P.rulesV.length ≤ 4 * 80 := by omega
  omega
set_option maxRecDepth 100000 in
set_option maxHeartbeats 12800000 in
theorem shardcame_any (c : SC) (s : SH) (a b : Nat) (w : World) (G F : Nat → Prop) (g : Nat) (hS : ShAt w G F g c s) (hok : s.Ok c.P (c.me : Nat) (c.k : Nat)) (ha : a < c.P.nodesV) (hb : b < c.P.objectsV) (hld : s.load ≤ 700000000) :
    Calls Tryz.prog 124 #[.pointer (some ⟨g, 0, none⟩), .int .i64 (a : Int), .int .i64 (b : Int)] w fun x w' => x = .returned (.tuple #[]) ∧ ShAt w' G F g c (s.came c.P (c.me : Nat) (c.k : Nat) ((a : Int), (b : Int))) ∧ Keep (fun b => ¬ F b) w w' := by
  have hS0 := hS
  obtain ⟨m1, m2, f1, f2, vt, vo, ts, os, h⟩ := hS
  have hnn := h.con.well.nodes
  have ha' : a < 126 := by omega
  have hb' : b < 126 := by omega
  have Hn126 := hid (hok.nxt126 h.con.well)
  have Hw := hid h.con.well
  have Han := hid ha
  have Hbo := hid hb
  obtain ⟨v, hv, l1, l2⟩ := h.mm1.look2 (b := (a : Int)) (a := (b : Int)) (by omega) (by omega)
  have HS := hid h
  have HSa := hid hS0
  have Hld := hid hld
  have b8a := h.blk.av 8 rfl
  simp only [shCells, qA0, qA1, qA2] at b8a
  clear hS0 hok hld hnn
  by_cases hm : ((a : Int), (b : Int)) ∈ s.has
  · have Hr : Hid (s.came c.P (c.me : Nat) (c.k : Nat) ((a : Int), (b : Int)) = s) := hid (by rw [came_eq, if_pos hm])
    rw [decide_eq_true hm] at l2
    clear hm h hv ha hb
    go_enter Tryz.func124, Tryz.ntmps124
    go_wp2
    refine bodyPost_ret (v := .tuple #[]) (results_none (by kernel_rfl) _ _ _) rfl ?_
    exact ⟨rfl, by rw [Hr.out]; exact HSa.out, Keep.refl _ _⟩
  · rw [decide_eq_false hm] at l2
    have Hce : Hid (s.came c.P (c.me : Nat) (c.k : Nat) ((a : Int), (b : Int)) = c.P.rulesV.foldl (SH.ask c.P (c.me : Nat) (c.k : Nat) ((a : Int), (b : Int))) (s.sent (c.me : Nat) (c.k : Nat) ((a : Int), (b : Int)))) := hid (by rw [came_eq, if_neg hm])
    clear hm ha hb HSa
    rcases h.mm1.val (a : Int) with ⟨g1, -⟩ | ⟨q, g1, -, -⟩
    · rw [g1] at hv
      simp only [Option.getD_none, Value.map.injEq] at hv
      subst hv
      obtain ⟨w2, hup, hM2, hI2, hK2⟩ := room_run h.mm1 g1 (by omega)
      have HS2 := hid (h.setHas hK2 hM2 hI2)
      have HK2 : Hid (Keep (fun b => ¬ F b) w w2) := hid (hK2.mono fun q _ hq => hq.elim (fun e => h.own q (.inr (.inl e))) fun hi => h.own q (.inr (.inr (.inr (.inl hi)))))
      have hmm := @run_makeMap Tryz.prog
      have heq := shmmEql_none
      have Hf2 : Hid ((fun l => if l = (a : Int) then some (.map (some w.heap.size)) else f1 l) (a : Int) = some (Value.map (some w.heap.size))) := hid (by simp)
      generalize (fun l => if l = (a : Int) then some (.map (some w.heap.size)) else f1 l) = f1' at HS2 Hf2
      clear h g1 hM2 hI2 hK2
      go_enter Tryz.func124, Tryz.ntmps124
      have hfx := Hf2.out
      obtain ⟨Kq, Sq⟩ := HS2.out.mm1.at hfx
      have l3 := HS2.out.mm1.look1 (b := (a : Int)) (by omega)
      rw [hfx] at l3
      simp only [Option.getD_some] at l3
      obtain ⟨w3, hput, hk3, hs3, hkp3⟩ := run_kmap_put_stm Tryz.underlying163 Kq Sq (k := (b : Int)) (by omega) (.bool true)
      obtain ⟨hM3, hkp⟩ := HS2.out.mm1.put hfx hk3 hs3 hkp3
      have HS3 := hid (HS2.out.setHas hkp hM3 fun q hq => .inl hq)
      have HK3 : Hid (Keep (fun b => ¬ F b) w w3) := hid (HK2.out.trans (hkp.mono fun q _ hq => hq.elim (fun e => HS2.out.own q (.inr (.inl e))) fun hi => HS2.out.own q (.inr (.inr (.inr (.inl hi))))))
      have l4 := HS3.out.mm2.look1 (b := (a : Int)) (by omega)
      have HKy := hid (shardkeys_any (a : Int) w3 HS3.out.mm2 Hn126.out)
      obtain ⟨vk, hvk⟩ : ∃ vk, vk = (f2 (a : Int)).getD (.map none) := ⟨_, rfl⟩
      rw [← hvk] at l4 HKy
      have b8 := HS2.out.blk.av 8 rfl
      have b9 := HS3.out.blk.av 9 rfl
      simp only [shCells, qA0, qA1, qA2] at b9 b8
      clear hfx Kq Sq hk3 hs3 hkp3 hM3 hkp hvk
      go_wp2_with fail
      refine HKy.out.mono ?_
      intro e w4 hx
      obtain ⟨v4, rfl, hr4, hx4⟩ := hx
      have Hfl : Hid ((keysL s.nxt (a : Int)).foldl (SH.sendTo (c.me : Nat) (c.k : Nat) (b : Int)) { s with has := s.has ++ [((a : Int), (b : Int))] } = s.sent (c.me : Nat) (c.k : Nat) ((a : Int), (b : Int))) := hid rfl
      have Hin : Hid (∀ o ∈ keysL s.nxt (a : Int), 0 ≤ o ∧ o < 126) := hid fun o ho => (keysL_in ho).2
      have hlen := keysL_few s.nxt (a : Int)
      generalize keysL s.nxt (a : Int) = L at hr4 Hfl Hin hlen
      obtain ⟨av, cv, rfl⟩ := row_form hr4
      have HS4 : Hid (ShAt w4 G (fun b => F b ∨ (w3.heap.size ≤ b ∧ b < w4.heap.size)) g c { s with has := s.has ++ [((a : Int), (b : Int))] }) := hid (ShAt.frz ⟨_, _, _, _, _, _, _, _, HS3.out⟩ hx4)
      have Hrf : Hid (∀ q, (Value.slice av L.length cv).ownBlock = some q → F q ∨ (w3.heap.size ≤ q ∧ q < w4.heap.size)) := hid fun q hq => .inr (hr4.lt hq)
      have HR4 := hid hr4
      have HK4 := hid (HK3.out.ext_r hx4)
      have HGF := hid HS3.out.gf
      obtain ⟨s1, hs1⟩ : ∃ s1 : SH, s1 = { s with has := s.has ++ [((a : Int), (b : Int))] } := ⟨_, rfl⟩
      have Hld1 : Hid (s1.load ≤ 700000000) := hid (by rw [hs1]; exact Hld.out)
      rw [← hs1] at HS4 Hfl
      generalize hF' : (fun b => F b ∨ (w3.heap.size ≤ b ∧ b < w4.heap.size)) = F' at HS4
      have HF1 : Hid (∀ b, F b → F' b) := hid fun b hb => by rw [← hF']; exact .inl hb
      have HrF : Hid (∀ b, (Value.slice av L.length cv).ownBlock = some b → F' b) := hid fun b hb => by rw [← hF']; exact Hrf.out b hb
      clear HKy hr4 hx4 l3 l4 hput b9 b8 HS3 HK3 Hrf hF' hs1
      go_wp2
      go_loopw [47] (fun t47 wr => ∃ j : Nat, t47 = .int .i64 (j : Int) ∧ j ≤ L.length ∧ ShAt wr G F' g c ((L.take j).foldl (SH.sendTo (c.me : Nat) (c.k : Nat) (b : Int)) s1) ∧ IRow w3.heap.size wr (.slice av L.length cv) L ∧ Keep (fun b => ¬ F b) w wr) (fun t47 _ => L.length - (intOf t47).toNat)
      case atStart => exact ⟨0, rfl, Nat.zero_le _, HS4.out, HR4.out, HK4.out⟩
      case round =>
        obtain ⟨j, rfl, hj, hS5, hR5, hK5⟩ := hrel
        have HR5 := hid hR5
        have HK5 := hid hK5
        by_cases hlt : j < L.length
        · obtain ⟨x, hqx⟩ : ∃ x, L[j]? = some x := ⟨_, List.getElem?_eq_getElem hlt⟩
          obtain ⟨g8, cp8, hge⟩ := own_some hR5 (by omega)
          simp only [Value.slice.injEq] at hge
          obtain ⟨rfl, -, rfl⟩ := hge
          have q0 := own_i hR5 hqx
          obtain ⟨hx0, hx1⟩ := Hin.out x (List.mem_of_getElem? hqx)
          obtain ⟨o, rfl⟩ := Int.eq_ofNat_of_zero_le hx0
          have Hn : Hid ((L.take (j + 1)).foldl (SH.sendTo (c.me : Nat) (c.k : Nat) (b : Int)) s1 = SH.tell (c.me : Nat) (c.k : Nat) ((L.take j).foldl (SH.sendTo (c.me : Nat) (c.k : Nat) (b : Int)) s1) (o : Nat) 100 [(o : Int), (b : Int)]) := hid (by rw [List.take_add_one, hqx, List.foldl_append]; rfl)
          have hl5 : ((L.take j).foldl (SH.sendTo (c.me : Nat) (c.k : Nat) (b : Int)) s1).load ≤ 900000000 := by
            rw [sendsTo_load, List.length_take]
            have := Hld1.out
            omega
          obtain ⟨wA, hwA⟩ : ∃ wA, wA = wr.alloc (.cells #[.int .i64 (o : Int), .int .i64 (b : Int)] 3) := ⟨_, rfl⟩
          have hxA : Ext wr wA := by rw [hwA]; exact (Ext.refl _).alloc _
          have HxA := hid hxA
          have hrow : IRow 0 wA (.slice (some ⟨wr.heap.size, 0, none⟩) 2 2) [(o : Int), (b : Int)] := by
            rw [hwA]
            exact irow_two wr o b
          have HT := hid (shardtell_any c ((L.take j).foldl (SH.sendTo (c.me : Nat) (c.k : Nat) (b : Int)) s1) o 100 [(o : Int), (b : Int)] _ wA G F' g (hS5.ext hxA) hrow (by omega) hl5)
          have HwA := hid hwA
          clear hS5 hR5 hK5 hqx hx0 hx1 hxA hwA hl5 hrow
          go_wp2_with fail
          rw [← HwA.out]
          refine HT.out.mono ?_
          intro z w6 hx
          obtain ⟨rfl, hS6, hK6⟩ := hx
          have HS6 := hid hS6
          have HK6 := hid hK6
          clear hS6 hK6 HT q0
          go_wp2
          go_roundw
          case rel =>
            refine ⟨j + 1, by go_num, by omega, ?_, ?_, ?_⟩
            · rw [Hn.out]; exact HS6.out
            · exact row_keep (own_ext HR5.out HxA.out) HK6.out fun b hb hx => hx (HrF.out b hb)
            · exact (HK5.out.ext_r HxA.out).trans (HK6.out.mono fun b _ hx hF => hx (HF1.out b hF))
          case measure => simp [intOf]; omega
        · obtain rfl : j = L.length := by omega
          rw [List.take_length, Hfl.out] at hS5
          have hl2 : (s.sent (c.me : Nat) (c.k : Nat) ((a : Int), (b : Int))).load ≤ 700000200 := by
            rw [← Hfl.out, sendsTo_load]
            have := Hld1.out
            omega
          have HS2 := hid (hS5.less HGF.out HF1.out)
          have Hc2 := Hce
          generalize s.sent (c.me : Nat) (c.k : Nat) ((a : Int), (b : Int)) = s2 at HS2 hl2 Hc2
          have Hl2 := hid hl2
          have HK2 := hid hK5
          clear hS5 hR5 hK5 hl2 HS4 HR4 HK4 HF1 HrF
          obtain ⟨m1b, m2b, f1b, f2b, vtb, vob, tsb, osb, hh⟩ := HS2.out
          have b3 := hh.blk.av 3 rfl
          simp only [shCells, qA0, qA1, qA2] at b3
          obtain ⟨ar, cr, hvr⟩ := row_form hh.con.rrow
          rw [hvr] at b3
          have hR80 : c.P.rulesV.length ≤ 80 := by have := Hw.out.few; rw [rulesV_len]; omega
          have hRe : Hid (c.P.rulesV.length = c.rs.length) := hid (by rw [← hh.con.req, List.length_map])
          have Hvr := hid hvr
          clear hh hvr
          go_wp2
          go_loopw [63] (fun t63 wr => ∃ j : Nat, t63 = .int .i64 (j : Int) ∧ j ≤ c.P.rulesV.length ∧ ShAt wr G F g c ((c.P.rulesV.take j).foldl (SH.ask c.P (c.me : Nat) (c.k : Nat) ((a : Int), (b : Int))) s2) ∧ Keep (fun b => ¬ F b) w wr) (fun t63 _ => c.P.rulesV.length - (intOf t63).toNat)
          case atStart => exact ⟨0, rfl, Nat.zero_le _, HS2.out, HK2.out⟩
          case round =>
            clear b3
            obtain ⟨j, rfl, hj, hS9, hK9⟩ := hrel
            have HK9 := hid hK9
            by_cases hlt : j < c.P.rulesV.length
            · obtain ⟨T0, hT0⟩ : ∃ T0, T0 = (c.P.rulesV.take j).foldl (SH.ask c.P (c.me : Nat) (c.k : Nat) ((a : Int), (b : Int))) s2 := ⟨_, rfl⟩
              rw [← hT0] at hS9
              have HS9 := hid hS9
              obtain ⟨m1', m2', f1', f2', vt', vo', ts', os', hh⟩ := hS9
              have hrr := hh.con.rrow
              rw [Hvr.out] at hrr
              obtain ⟨gr, cr', hge⟩ := own_some hrr (by omega)
              simp only [Value.slice.injEq] at hge
              obtain ⟨rfl, -, rfl⟩ := hge
              obtain ⟨x, hxk⟩ : ∃ x, c.rs[j]? = some x := ⟨_, List.getElem?_eq_getElem (by rw [← hRe.out]; exact hlt)⟩
              obtain ⟨q0, q1, q2, q3, q4⟩ := own_r hrr hxk
              have hI := hh.con.rargs x (List.mem_of_getElem? hxk)
              obtain ⟨aa, ca, hav, -⟩ := hI.form
              have hsk : c.P.rulesV[j]? = some x.r := by rw [← hh.con.req, List.getElem?_map, hxk]; rfl
              have hgf := hh.gf
              obtain ⟨r, xv⟩ := x
              simp only at hav q0 q1 q2 q3 q4 hI hsk
              subst hav
              have Hrv : Hid (r ∈ c.P.rulesV) := hid (List.mem_of_getElem? hsk)
              have Hn : Hid ((c.P.rulesV.take (j + 1)).foldl (SH.ask c.P (c.me : Nat) (c.k : Nat) ((a : Int), (b : Int))) s2 = SH.ask c.P (c.me : Nat) (c.k : Nat) ((a : Int), (b : Int)) T0 r) := hid (by rw [List.take_add_one, hsk, List.foldl_append, hT0]; rfl)
              have Hl9 : Hid (T0.load ≤ 800000000) := hid (by
                rw [hT0]
                have := asks_load (me := (c.me : Nat)) (k := (c.k : Nat)) Hw.out s2 (f := ((a : Int), (b : Int))) (by have := Han.out; simp only; omega) (by have := Hbo.out; simp only; omega) j
                have := Hl2.out
                omega)
              have HA9 := hid (hI.keep (Keep.refl (fun _ => False) wr) (fun _ _ h => h) fun b hb => hgf b hb)
              obtain ⟨V, hV⟩ : ∃ V, V = wr.alloc (.cells #[.string r.kind, .int .i64 r.a, .int .i64 r.b, .int .i64 r.k, .slice aa r.args.length ca] 123) := ⟨_, rfl⟩
              have HVe := hid hV
              have HVx : Hid (Ext wr V) := hid (by rw [hV]; exact (Ext.refl _).alloc _)
              have hBr : Blk V wr.heap.size #[.string r.kind, .int .i64 r.a, .int .i64 r.b, .int .i64 r.k, .slice aa r.args.length ca] 123 := by rw [hV]; exact Blk.new _ _ _
              have m0 := hBr.av 0 rfl
              have m1' := hBr.av 1 rfl
              have m2' := hBr.av 2 rfl
              have m3' := hBr.av 3 rfl
              have m4' := hBr.av 4 rfl
              simp only [qA0, qA1, qA2] at m0 m1' m2' m3' m4'
              rw [hV] at m0 m1' m2' m3' m4'
              have hal : (r.args.length : Int) ≤ 9223372036854775807 := by obtain ⟨_, cap, h1, h2, h3, _⟩ := hI.form; omega
              clear hh hrr hxk hI hsk hV hT0 hgf hBr hK9
              cases hks : (r.kind.toList == [115, 116, 111, 114, 101]) with
              | true =>
                have hpv : r.pivot = r.b := by unfold RV.pivot kStore; rw [hks]; rfl
                by_cases hp : r.b = (a : Int)
                · have hpb : (r.b == (a : Int)) = true := by simpa using hp
                  have hpv2 : r.pivot = (a : Int) := hpv.trans hp
                  have Hn2 : Hid ((c.P.rulesV.take (j + 1)).foldl (SH.ask c.P (c.me : Nat) (c.k : Nat) ((a : Int), (b : Int))) s2 = SH.fire c.P (c.me : Nat) (c.k : Nat) T0 r (b : Int)) := hid (by rw [Hn.out]; unfold SH.ask; rw [if_pos hpv2])
                  have HFi := hid (shardfire_any c T0 r aa ca b V G F g (HS9.out.ext HVx.out) Hbo.out (HA9.out.keep (HVx.out.keep fun _ => False) (fun _ _ h => h) fun _ h => h) (fun hf e he => fires_ed Hw.out Hrv.out hf (by have := Hbo.out; omega) (by rw [hpv2]; have := Han.out; omega) he) Hl9.out)
                  unfold RV.val at HFi
                  clear hp hpv2 hpv
                  go_wp2_with fail
                  rw [← HVe.out]
                  refine HFi.out.mono ?_
                  intro z w6 hx
                  obtain ⟨rfl, hS6, hK6⟩ := hx
                  have HS6 := hid hS6
                  have HK6 := hid hK6
                  clear hS6 hK6 HFi q0 q1 q2 q3 q4 m0 m1' m2' m3' m4'
                  go_wp2
                  go_roundw
                  case rel =>
                    refine ⟨j + 1, by go_num, by omega, ?_, ?_⟩
                    · rw [Hn2.out]; exact HS6.out
                    · exact (HK9.out.ext_r HVx.out).trans HK6.out
                  case measure => simp [intOf]; omega
                · have hpb : (r.b == (a : Int)) = false := beq_eq_false_iff_ne.2 hp
                  have hpv2 : ¬ r.pivot = (a : Int) := fun e => hp (hpv.symm.trans e)
                  have Hn2 : Hid ((c.P.rulesV.take (j + 1)).foldl (SH.ask c.P (c.me : Nat) (c.k : Nat) ((a : Int), (b : Int))) s2 = T0) := hid (by rw [Hn.out]; unfold SH.ask; rw [if_neg hpv2])
                  clear hp hpv2 hpv
                  go_wp2
                  rw [← HVe.out]
                  go_roundw
                  case rel =>
                    refine ⟨j + 1, by go_num, by omega, ?_, ?_⟩
                    · rw [Hn2.out]; exact HS9.out.ext HVx.out
                    · exact HK9.out.ext_r HVx.out
                  case measure => simp [intOf]; omega
              | false =>
                have hpv : r.pivot = r.a := by unfold RV.pivot kStore; rw [hks]; rfl
                by_cases hp : r.a = (a : Int)
                · have hpb : (r.a == (a : Int)) = true := by simpa using hp
                  have hpv2 : r.pivot = (a : Int) := hpv.trans hp
                  have Hn2 : Hid ((c.P.rulesV.take (j + 1)).foldl (SH.ask c.P (c.me : Nat) (c.k : Nat) ((a : Int), (b : Int))) s2 = SH.fire c.P (c.me : Nat) (c.k : Nat) T0 r (b : Int)) := hid (by rw [Hn.out]; unfold SH.ask; rw [if_pos hpv2])
                  have HFi := hid (shardfire_any c T0 r aa ca b V G F g (HS9.out.ext HVx.out) Hbo.out (HA9.out.keep (HVx.out.keep fun _ => False) (fun _ _ h => h) fun _ h => h) (fun hf e he => fires_ed Hw.out Hrv.out hf (by have := Hbo.out; omega) (by rw [hpv2]; have := Han.out; omega) he) Hl9.out)
                  unfold RV.val at HFi
                  clear hp hpv2 hpv
                  go_wp2_with fail
                  rw [← HVe.out]
                  refine HFi.out.mono ?_
                  intro z w6 hx
                  obtain ⟨rfl, hS6, hK6⟩ := hx
                  have HS6 := hid hS6
                  have HK6 := hid hK6
                  clear hS6 hK6 HFi q0 q1 q2 q3 q4 m0 m1' m2' m3' m4'
                  go_wp2
                  go_roundw
                  case rel =>
                    refine ⟨j + 1, by go_num, by omega, ?_, ?_⟩
                    · rw [Hn2.out]; exact HS6.out
                    · exact (HK9.out.ext_r HVx.out).trans HK6.out
                  case measure => simp [intOf]; omega
                · have hpb : (r.a == (a : Int)) = false := beq_eq_false_iff_ne.2 hp
                  have hpv2 : ¬ r.pivot = (a : Int) := fun e => hp (hpv.symm.trans e)
                  have Hn2 : Hid ((c.P.rulesV.take (j + 1)).foldl (SH.ask c.P (c.me : Nat) (c.k : Nat) ((a : Int), (b : Int))) s2 = T0) := hid (by rw [Hn.out]; unfold SH.ask; rw [if_neg hpv2])
                  clear hp hpv2 hpv
                  go_wp2
                  rw [← HVe.out]
                  go_roundw
                  case rel =>
                    refine ⟨j + 1, by go_num, by omega, ?_, ?_⟩
                    · rw [Hn2.out]; exact HS9.out.ext HVx.out
                    · exact HK9.out.ext_r HVx.out
                  case measure => simp [intOf]; omega
            · obtain rfl : j = c.P.rulesV.length := by omega
              rw [List.take_length, ← Hc2.out] at hS9
              have HS9 := hid hS9
              clear hS9 hK9
              go_wp2
              go_end0
              exact ⟨rfl, HS9.out, HK9.out⟩
    · rw [g1] at hv
      simp only [Option.getD_some, Value.map.injEq] at hv
      subst hv
      have heq := shmmEql_some
      have Hf2 := hid g1
      clear h g1
      go_enter Tryz.func124, Tryz.ntmps124
      have hfx := Hf2.out
      obtain ⟨Kq, Sq⟩ := HS.out.mm1.at hfx
      have l3 := HS.out.mm1.look1 (b := (a : Int)) (by omega)
      rw [hfx] at l3
      simp only [Option.getD_some] at l3
      obtain ⟨w3, hput, hk3, hs3, hkp3⟩ := run_kmap_put_stm Tryz.underlying163 Kq Sq (k := (b : Int)) (by omega) (.bool true)
      obtain ⟨hM3, hkp⟩ := HS.out.mm1.put hfx hk3 hs3 hkp3
      have HS3 := hid (HS.out.setHas hkp hM3 fun q hq => .inl hq)
      have HK3 : Hid (Keep (fun b => ¬ F b) w w3) := hid ((Keep.refl (fun b => ¬ F b) w).trans (hkp.mono fun q _ hq => hq.elim (fun e => HS.out.own q (.inr (.inl e))) fun hi => HS.out.own q (.inr (.inr (.inr (.inl hi))))))
      have l4 := HS3.out.mm2.look1 (b := (a : Int)) (by omega)
      have HKy := hid (shardkeys_any (a : Int) w3 HS3.out.mm2 Hn126.out)
      obtain ⟨vk, hvk⟩ : ∃ vk, vk = (f2 (a : Int)).getD (.map none) := ⟨_, rfl⟩
      rw [← hvk] at l4 HKy
      have b8 := HS.out.blk.av 8 rfl
      have b9 := HS3.out.blk.av 9 rfl
      simp only [shCells, qA0, qA1, qA2] at b9 b8
      clear hfx Kq Sq hk3 hs3 hkp3 hM3 hkp hvk
      go_wp2_with fail
      refine HKy.out.mono ?_
      intro e w4 hx
      obtain ⟨v4, rfl, hr4, hx4⟩ := hx
      have Hfl : Hid ((keysL s.nxt (a : Int)).foldl (SH.sendTo (c.me : Nat) (c.k : Nat) (b : Int)) { s with has := s.has ++ [((a : Int), (b : Int))] } = s.sent (c.me : Nat) (c.k : Nat) ((a : Int), (b : Int))) := hid rfl
      have Hin : Hid (∀ o ∈ keysL s.nxt (a : Int), 0 ≤ o ∧ o < 126) := hid fun o ho => (keysL_in ho).2
      have hlen := keysL_few s.nxt (a : Int)
      generalize keysL s.nxt (a : Int) = L at hr4 Hfl Hin hlen
      obtain ⟨av, cv, rfl⟩ := row_form hr4
      have HS4 : Hid (ShAt w4 G (fun b => F b ∨ (w3.heap.size ≤ b ∧ b < w4.heap.size)) g c { s with has := s.has ++ [((a : Int), (b : Int))] }) := hid (ShAt.frz ⟨_, _, _, _, _, _, _, _, HS3.out⟩ hx4)
      have Hrf : Hid (∀ q, (Value.slice av L.length cv).ownBlock = some q → F q ∨ (w3.heap.size ≤ q ∧ q < w4.heap.size)) := hid fun q hq => .inr (hr4.lt hq)
      have HR4 := hid hr4
      have HK4 := hid (HK3.out.ext_r hx4)
      have HGF := hid HS3.out.gf
      obtain ⟨s1, hs1⟩ : ∃ s1 : SH, s1 = { s with has := s.has ++ [((a : Int), (b : Int))] } := ⟨_, rfl⟩
      have Hld1 : Hid (s1.load ≤ 700000000) := hid (by rw [hs1]; exact Hld.out)
      rw [← hs1] at HS4 Hfl
      generalize hF' : (fun b => F b ∨ (w3.heap.size ≤ b ∧ b < w4.heap.size)) = F' at HS4
      have HF1 : Hid (∀ b, F b → F' b) := hid fun b hb => by rw [← hF']; exact .inl hb
      have HrF : Hid (∀ b, (Value.slice av L.length cv).ownBlock = some b → F' b) := hid fun b hb => by rw [← hF']; exact Hrf.out b hb
      clear HKy hr4 hx4 l3 l4 hput b9 b8 HS3 HK3 Hrf hF' hs1
      go_wp2
      go_loopw [47] (fun t47 wr => ∃ j : Nat, t47 = .int .i64 (j : Int) ∧ j ≤ L.length ∧ ShAt wr G F' g c ((L.take j).foldl (SH.sendTo (c.me : Nat) (c.k : Nat) (b : Int)) s1) ∧ IRow w3.heap.size wr (.slice av L.length cv) L ∧ Keep (fun b => ¬ F b) w wr) (fun t47 _ => L.length - (intOf t47).toNat)
      case atStart => exact ⟨0, rfl, Nat.zero_le _, HS4.out, HR4.out, HK4.out⟩
      case round =>
        obtain ⟨j, rfl, hj, hS5, hR5, hK5⟩ := hrel
        have HR5 := hid hR5
        have HK5 := hid hK5
        by_cases hlt : j < L.length
        · obtain ⟨x, hqx⟩ : ∃ x, L[j]? = some x := ⟨_, List.getElem?_eq_getElem hlt⟩
          obtain ⟨g8, cp8, hge⟩ := own_some hR5 (by omega)
          simp only [Value.slice.injEq] at hge
          obtain ⟨rfl, -, rfl⟩ := hge
          have q0 := own_i hR5 hqx
          obtain ⟨hx0, hx1⟩ := Hin.out x (List.mem_of_getElem? hqx)
          obtain ⟨o, rfl⟩ := Int.eq_ofNat_of_zero_le hx0
          have Hn : Hid ((L.take (j + 1)).foldl (SH.sendTo (c.me : Nat) (c.k : Nat) (b : Int)) s1 = SH.tell (c.me : Nat) (c.k : Nat) ((L.take j).foldl (SH.sendTo (c.me : Nat) (c.k : Nat) (b : Int)) s1) (o : Nat) 100 [(o : Int), (b : Int)]) := hid (by rw [List.take_add_one, hqx, List.foldl_append]; rfl)
          have hl5 : ((L.take j).foldl (SH.sendTo (c.me : Nat) (c.k : Nat) (b : Int)) s1).load ≤ 900000000 := by
            rw [sendsTo_load, List.length_take]
            have := Hld1.out
            omega
          obtain ⟨wA, hwA⟩ : ∃ wA, wA = wr.alloc (.cells #[.int .i64 (o : Int), .int .i64 (b : Int)] 3) := ⟨_, rfl⟩
          have hxA : Ext wr wA := by rw [hwA]; exact (Ext.refl _).alloc _
          have HxA := hid hxA
          have hrow : IRow 0 wA (.slice (some ⟨wr.heap.size, 0, none⟩) 2 2) [(o : Int), (b : Int)] := by
            rw [hwA]
            exact irow_two wr o b
          have HT := hid (shardtell_any c ((L.take j).foldl (SH.sendTo (c.me : Nat) (c.k : Nat) (b : Int)) s1) o 100 [(o : Int), (b : Int)] _ wA G F' g (hS5.ext hxA) hrow (by omega) hl5)
          have HwA := hid hwA
          clear hS5 hR5 hK5 hqx hx0 hx1 hxA hwA hl5 hrow
          go_wp2_with fail
          rw [← HwA.out]
          refine HT.out.mono ?_
          intro z w6 hx
          obtain ⟨rfl, hS6, hK6⟩ := hx
          have HS6 := hid hS6
          have HK6 := hid hK6
          clear hS6 hK6 HT q0
          go_wp2
          go_roundw
          case rel =>
            refine ⟨j + 1, by go_num, by omega, ?_, ?_, ?_⟩
            · rw [Hn.out]; exact HS6.out
            · exact row_keep (own_ext HR5.out HxA.out) HK6.out fun b hb hx => hx (HrF.out b hb)
            · exact (HK5.out.ext_r HxA.out).trans (HK6.out.mono fun b _ hx hF => hx (HF1.out b hF))
          case measure => simp [intOf]; omega
        · obtain rfl : j = L.length := by omega
          rw [List.take_length, Hfl.out] at hS5
          have hl2 : (s.sent (c.me : Nat) (c.k : Nat) ((a : Int), (b : Int))).load ≤ 700000200 := by
            rw [← Hfl.out, sendsTo_load]
            have := Hld1.out
            omega
          have HS2 := hid (hS5.less HGF.out HF1.out)
          have Hc2 := Hce
          generalize s.sent (c.me : Nat) (c.k : Nat) ((a : Int), (b : Int)) = s2 at HS2 hl2 Hc2
          have Hl2 := hid hl2
          have HK2 := hid hK5
          clear hS5 hR5 hK5 hl2 HS4 HR4 HK4 HF1 HrF
          obtain ⟨m1b, m2b, f1b, f2b, vtb, vob, tsb, osb, hh⟩ := HS2.out
          have b3 := hh.blk.av 3 rfl
          simp only [shCells, qA0, qA1, qA2] at b3
          obtain ⟨ar, cr, hvr⟩ := row_form hh.con.rrow
          rw [hvr] at b3
          have hR80 : c.P.rulesV.length ≤ 80 := by have := Hw.out.few; rw [rulesV_len]; omega
          have hRe : Hid (c.P.rulesV.length = c.rs.length) := hid (by rw [← hh.con.req, List.length_map])
          have Hvr := hid hvr
          clear hh hvr
          go_wp2
          go_loopw [63] (fun t63 wr => ∃ j : Nat, t63 = .int .i64 (j : Int) ∧ j ≤ c.P.rulesV.length ∧ ShAt wr G F g c ((c.P.rulesV.take j).foldl (SH.ask c.P (c.me : Nat) (c.k : Nat) ((a : Int), (b : Int))) s2) ∧ Keep (fun b => ¬ F b) w wr) (fun t63 _ => c.P.rulesV.length - (intOf t63).toNat)
          case atStart => exact ⟨0, rfl, Nat.zero_le _, HS2.out, HK2.out⟩
          case round =>
            clear b3
            obtain ⟨j, rfl, hj, hS9, hK9⟩ := hrel
            have HK9 := hid hK9
            by_cases hlt : j < c.P.rulesV.length
            · obtain ⟨T0, hT0⟩ : ∃ T0, T0 = (c.P.rulesV.take j).foldl (SH.ask c.P (c.me : Nat) (c.k : Nat) ((a : Int), (b : Int))) s2 := ⟨_, rfl⟩
              rw [← hT0] at hS9
              have HS9 := hid hS9
              obtain ⟨m1', m2', f1', f2', vt', vo', ts', os', hh⟩ := hS9
              have hrr := hh.con.rrow
              rw [Hvr.out] at hrr
              obtain ⟨gr, cr', hge⟩ := own_some hrr (by omega)
              simp only [Value.slice.injEq] at hge
              obtain ⟨rfl, -, rfl⟩ := hge
              obtain ⟨x, hxk⟩ : ∃ x, c.rs[j]? = some x := ⟨_, List.getElem?_eq_getElem (by rw [← hRe.out]; exact hlt)⟩
              obtain ⟨q0, q1, q2, q3, q4⟩ := own_r hrr hxk
              have hI := hh.con.rargs x (List.mem_of_getElem? hxk)
              obtain ⟨aa, ca, hav, -⟩ := hI.form
              have hsk : c.P.rulesV[j]? = some x.r := by rw [← hh.con.req, List.getElem?_map, hxk]; rfl
              have hgf := hh.gf
              obtain ⟨r, xv⟩ := x
              simp only at hav q0 q1 q2 q3 q4 hI hsk
              subst hav
              have Hrv : Hid (r ∈ c.P.rulesV) := hid (List.mem_of_getElem? hsk)
              have Hn : Hid ((c.P.rulesV.take (j + 1)).foldl (SH.ask c.P (c.me : Nat) (c.k : Nat) ((a : Int), (b : Int))) s2 = SH.ask c.P (c.me : Nat) (c.k : Nat) ((a : Int), (b : Int)) T0 r) := hid (by rw [List.take_add_one, hsk, List.foldl_append, hT0]; rfl)
              have Hl9 : Hid (T0.load ≤ 800000000) := hid (by
                rw [hT0]
                have := asks_load (me := (c.me : Nat)) (k := (c.k : Nat)) Hw.out s2 (f := ((a : Int), (b : Int))) (by have := Han.out; simp only; omega) (by have := Hbo.out; simp only; omega) j
                have := Hl2.out
                omega)
              have HA9 := hid (hI.keep (Keep.refl (fun _ => False) wr) (fun _ _ h => h) fun b hb => hgf b hb)
              obtain ⟨V, hV⟩ : ∃ V, V = wr.alloc (.cells #[.string r.kind, .int .i64 r.a, .int .i64 r.b, .int .i64 r.k, .slice aa r.args.length ca] 123) := ⟨_, rfl⟩
              have HVe := hid hV
              have HVx : Hid (Ext wr V) := hid (by rw [hV]; exact (Ext.refl _).alloc _)
              have hBr : Blk V wr.heap.size #[.string r.kind, .int .i64 r.a, .int .i64 r.b, .int .i64 r.k, .slice aa r.args.length ca] 123 := by rw [hV]; exact Blk.new _ _ _
              have m0 := hBr.av 0 rfl
              have m1' := hBr.av 1 rfl
              have m2' := hBr.av 2 rfl
              have m3' := hBr.av 3 rfl
              have m4' := hBr.av 4 rfl
              simp only [qA0, qA1, qA2] at m0 m1' m2' m3' m4'
              rw [hV] at m0 m1' m2' m3' m4'
              have hal : (r.args.length : Int) ≤ 9223372036854775807 := by obtain ⟨_, cap, h1, h2, h3, _⟩ := hI.form; omega
              clear hh hrr hxk hI hsk hV hT0 hgf hBr hK9
              cases hks : (r.kind.toList == [115, 116, 111, 114, 101]) with
              | true =>
                have hpv : r.pivot = r.b := by unfold RV.pivot kStore; rw [hks]; rfl
                by_cases hp : r.b = (a : Int)
                · have hpb : (r.b == (a : Int)) = true := by simpa using hp
                  have hpv2 : r.pivot = (a : Int) := hpv.trans hp
                  have Hn2 : Hid ((c.P.rulesV.take (j + 1)).foldl (SH.ask c.P (c.me : Nat) (c.k : Nat) ((a : Int), (b : Int))) s2 = SH.fire c.P (c.me : Nat) (c.k : Nat) T0 r (b : Int)) := hid (by rw [Hn.out]; unfold SH.ask; rw [if_pos hpv2])
                  have HFi := hid (shardfire_any c T0 r aa ca b V G F g (HS9.out.ext HVx.out) Hbo.out (HA9.out.keep (HVx.out.keep fun _ => False) (fun _ _ h => h) fun _ h => h) (fun hf e he => fires_ed Hw.out Hrv.out hf (by have := Hbo.out; omega) (by rw [hpv2]; have := Han.out; omega) he) Hl9.out)
                  unfold RV.val at HFi
                  clear hp hpv2 hpv
                  go_wp2_with fail
                  rw [← HVe.out]
                  refine HFi.out.mono ?_
                  intro z w6 hx
                  obtain ⟨rfl, hS6, hK6⟩ := hx
                  have HS6 := hid hS6
                  have HK6 := hid hK6
                  clear hS6 hK6 HFi q0 q1 q2 q3 q4 m0 m1' m2' m3' m4'
                  go_wp2
                  go_roundw
                  case rel =>
                    refine ⟨j + 1, by go_num, by omega, ?_, ?_⟩
                    · rw [Hn2.out]; exact HS6.out
                    · exact (HK9.out.ext_r HVx.out).trans HK6.out
                  case measure => simp [intOf]; omega
                · have hpb : (r.b == (a : Int)) = false := beq_eq_false_iff_ne.2 hp
                  have hpv2 : ¬ r.pivot = (a : Int) := fun e => hp (hpv.symm.trans e)
                  have Hn2 : Hid ((c.P.rulesV.take (j + 1)).foldl (SH.ask c.P (c.me : Nat) (c.k : Nat) ((a : Int), (b : Int))) s2 = T0) := hid (by rw [Hn.out]; unfold SH.ask; rw [if_neg hpv2])
                  clear hp hpv2 hpv
                  go_wp2
                  rw [← HVe.out]
                  go_roundw
                  case rel =>
                    refine ⟨j + 1, by go_num, by omega, ?_, ?_⟩
                    · rw [Hn2.out]; exact HS9.out.ext HVx.out
                    · exact HK9.out.ext_r HVx.out
                  case measure => simp [intOf]; omega
              | false =>
                have hpv : r.pivot = r.a := by unfold RV.pivot kStore; rw [hks]; rfl
                by_cases hp : r.a = (a : Int)
                · have hpb : (r.a == (a : Int)) = true := by simpa using hp
                  have hpv2 : r.pivot = (a : Int) := hpv.trans hp
                  have Hn2 : Hid ((c.P.rulesV.take (j + 1)).foldl (SH.ask c.P (c.me : Nat) (c.k : Nat) ((a : Int), (b : Int))) s2 = SH.fire c.P (c.me : Nat) (c.k : Nat) T0 r (b : Int)) := hid (by rw [Hn.out]; unfold SH.ask; rw [if_pos hpv2])
                  have HFi := hid (shardfire_any c T0 r aa ca b V G F g (HS9.out.ext HVx.out) Hbo.out (HA9.out.keep (HVx.out.keep fun _ => False) (fun _ _ h => h) fun _ h => h) (fun hf e he => fires_ed Hw.out Hrv.out hf (by have := Hbo.out; omega) (by rw [hpv2]; have := Han.out; omega) he) Hl9.out)
                  unfold RV.val at HFi
                  clear hp hpv2 hpv
                  go_wp2_with fail
                  rw [← HVe.out]
                  refine HFi.out.mono ?_
                  intro z w6 hx
                  obtain ⟨rfl, hS6, hK6⟩ := hx
                  have HS6 := hid hS6
                  have HK6 := hid hK6
                  clear hS6 hK6 HFi q0 q1 q2 q3 q4 m0 m1' m2' m3' m4'
                  go_wp2
                  go_roundw
                  case rel =>
                    refine ⟨j + 1, by go_num, by omega, ?_, ?_⟩
                    · rw [Hn2.out]; exact HS6.out
                    · exact (HK9.out.ext_r HVx.out).trans HK6.out
                  case measure => simp [intOf]; omega
                · have hpb : (r.a == (a : Int)) = false := beq_eq_false_iff_ne.2 hp
                  have hpv2 : ¬ r.pivot = (a : Int) := fun e => hp (hpv.symm.trans e)
                  have Hn2 : Hid ((c.P.rulesV.take (j + 1)).foldl (SH.ask c.P (c.me : Nat) (c.k : Nat) ((a : Int), (b : Int))) s2 = T0) := hid (by rw [Hn.out]; unfold SH.ask; rw [if_neg hpv2])
                  clear hp hpv2 hpv
                  go_wp2
                  rw [← HVe.out]
                  go_roundw
                  case rel =>
                    refine ⟨j + 1, by go_num, by omega, ?_, ?_⟩
                    · rw [Hn2.out]; exact HS9.out.ext HVx.out
                    · exact HK9.out.ext_r HVx.out
                  case measure => simp [intOf]; omega
            · obtain rfl : j = c.P.rulesV.length := by omega
              rw [List.take_length, ← Hc2.out] at hS9
              have HS9 := hid hS9
              clear hS9 hK9
              go_wp2
              go_end0
              exact ⟨rfl, HS9.out, HK9.out⟩
inductive Runs (P : PP) (me k : Int) (s : SH) : SH → Prop
  | refl : Runs P me k s s
  | step {t : SH} : Runs P me k s t → t.todo ≠ [] → Runs P me k s (t.step P me k)
theorem Runs.ok {P : PP} {me k : Int} {s t : SH} (hw : P.Well) (h : Runs P me k s t) (hs : s.Ok P me k) : t.Ok P me k ∧ t.phi ≤ s.phi := by
  induction h with
  | refl => exact ⟨hs, Nat.le_refl _⟩
  | step _ hne ih =>
    obtain ⟨g1, g2⟩ := step_less hw ih.1 hne
    exact ⟨g1, Nat.le_trans (Nat.le_of_lt g2) ih.2⟩
theorem Runs.keeps {P : PP} {me k : Int} {s t : SH} (h : Runs P me k s t) (I : SH → Prop) (hI : ∀ u, I u → u.todo ≠ [] → I (u.step P me k)) (hs : I s) : I t := by
  induction h with
  | refl => exact hs
  | step _ hne ih => exact hI _ ih hne
theorem least_num (p : Nat → Prop) (h : ∃ n, p n) : ∃ m, p m ∧ ∀ k, p k → m ≤ k := by
  obtain ⟨n, hn⟩ := h
  induction n using Nat.strongRecOn with
  | ind n ih =>
    by_cases hm : ∃ m, m < n ∧ p m
    · obtain ⟨m, h1, h2⟩ := hm
      exact ih m h1 h2
    · exact ⟨n, hn, fun k hk => Nat.le_of_not_lt fun hl => hm ⟨k, hl, hk⟩⟩
noncomputable def infM (p : Nat → Prop) : Nat := Classical.epsilon fun m => p m ∧ ∀ k, p k → m ≤ k
theorem infM_of {p : Nat → Prop} (h : ∃ n, p n) : p (infM p) ∧ ∀ k, p k → infM p ≤ k := Classical.epsilon_spec (least_num p h)
section
variable {w w' : World} {G F : Nat → Prop} {g : Nat} {c : SC} {m1 m2 : Nat} {f1 f2 : Int → Option Value} {vt vo : Value} {ts os : List N2} {s : SH}
theorem N2.cells_len (x : N2) : x.cells.length = 3 := rfl
theorem ShB.cutTodo {gq off cap n : Nat} {x : N2} {tr : List N2} (h : ShB w G F g c m1 m2 f1 f2 (.slice (some ⟨gq, off, none⟩) n cap) vo (x :: tr) os s) {l : List NV} (hl : s.todo = x.n :: l) :
    ShB (w.setCell ⟨g, 10, none⟩ (.slice (some (if cap = 1 then ⟨gq, off, none⟩ else ⟨gq, off + 3, none⟩)) (n - 1) (cap - 1))) G F g c m1 m2 f1 f2 (.slice (some (if cap = 1 then ⟨gq, off, none⟩ else ⟨gq, off + 3, none⟩)) (n - 1) (cap - 1)) vo tr os { s with todo := l } := by
  have hr := h.tq
  obtain ⟨a', c', e'⟩ := hr.form
  simp only [Value.slice.injEq] at e'
  obtain ⟨rfl, rfl, rfl⟩ := e'
  rw [hl] at hr
  have ht := hr.tail (by rw [List.length_cons]; omega)
  have hn := h.tn
  rw [hl, List.map_cons] at hn
  refine h.setTodo (Keep.refl _ w) (List.cons.inj hn).2 ?_ (fun y hy => h.tr y (List.mem_cons_of_mem _ hy)) fun b hb => .inl ?_
  · rw [hl]
    exact ht
  · rw [← hb]
    show some gq = some (if cap = 1 then (⟨gq, off, none⟩ : Addr) else ⟨gq, off + 3, none⟩).block
    split <;> rfl
theorem ShB.whole (h : ShB w G F g c m1 m2 f1 f2 vt vo ts os s) : ShB w G (fun b => b < w.heap.size ∧ ¬ ShOwn g m1 m2 f1 f2 vt vo b) g c m1 m2 f1 f2 vt vo ts os s :=
  h.turn (fun b hb hx => hx.2 hb) (fun b hb => ⟨h.flt b (h.gf b hb), fun q => h.own b q (h.gf b hb)⟩) fun b hb => hb.1
theorem ShB.not_own (h : ShB w G F g c m1 m2 f1 f2 vt vo ts os s) {b : Nat} {cs : Array Value} {e : TypeId} (hb : Blk w b cs e) (h1 : e ≠ 121) (h2 : e ≠ 57) : ¬ ShOwn g m1 m2 f1 f2 vt vo b := by
  rintro (rfl | rfl | rfl | ho | ho | ho | ho)
  · exact off_of hb h1 ⟨_, h.blk⟩
  · exact h.mm1.map.not_blk hb
  · exact h.mm2.map.not_blk hb
  · exact h.mm1.in_blk ho hb
  · exact h.mm2.in_blk ho hb
  · obtain ⟨c', hc⟩ := h.tblk ho
    exact off_of hb h2 ⟨_, hc⟩
  · obtain ⟨c', hc⟩ := h.oblk ho
    exact off_of hb h2 ⟨_, hc⟩
theorem ShB.not_int (h : ShB w G F g c m1 m2 f1 f2 vt vo ts os s) {b : Nat} (hb : IsInt w b) : ¬ ShOwn g m1 m2 f1 f2 vt vo b := by
  have hne : ∀ {e : TypeId} {cs : Array Value}, Blk w b cs e → e ≠ 3 → False := fun hc he => by
    obtain ⟨c', z, hz⟩ := hb
    have := hc.symm.trans hz
    simp at this
    exact he this.2.1
  rintro (rfl | rfl | rfl | ho | ho | ho | ho)
  · exact hne h.blk (by decide)
  · exact h.mm1.map.not_int hb
  · exact h.mm2.map.not_int hb
  · obtain ⟨_, hm⟩ := h.mm1.in_map ho
    exact hm.not_int hb
  · obtain ⟨_, hm⟩ := h.mm2.in_map ho
    exact hm.not_int hb
  · obtain ⟨c', hc⟩ := h.tblk ho
    exact hne hc (by decide)
  · obtain ⟨c', hc⟩ := h.oblk ho
    exact hne hc (by decide)
theorem IsInt.lt {b : Nat} (h : IsInt w b) : b < w.heap.size := by
  obtain ⟨c', z, hz⟩ := h
  exact (Array.getElem?_eq_some_iff.1 hz).1
end
structure NotesR (w : World) (F : Nat → Prop) (v : Value) (l : List NV) (os : List N2) : Prop where
  row : OwnsQ w 0 57 3 v l.length (os.flatMap N2.cells)
  eq : os.map N2.n = l
  nums : ∀ x ∈ os, IRow 0 w x.v x.n.nums
  fr : ∀ b, v.ownBlock = some b → F b
  fn : ∀ x ∈ os, ∀ b, x.v.ownBlock = some b → F b
noncomputable def shMes (G F : Nat → Prop) (g : Nat) (c : SC) (s : SH) (w : World) : Nat := infM fun n => ∃ t, Runs c.P (c.me : Nat) (c.k : Nat) s t ∧ ShAt w G F g c t ∧ t.phi = n
theorem shMes_of {G F : Nat → Prop} {g : Nat} {c : SC} {s t : SH} {w : World} (h : Runs c.P (c.me : Nat) (c.k : Nat) s t) (hS : ShAt w G F g c t) : ∃ u, Runs c.P (c.me : Nat) (c.k : Nat) s u ∧ ShAt w G F g c u ∧ u.phi = shMes G F g c s w :=
  (infM_of (p := fun n => ∃ t, Runs c.P (c.me : Nat) (c.k : Nat) s t ∧ ShAt w G F g c t ∧ t.phi = n) ⟨_, t, h, hS, rfl⟩).1
theorem shMes_le {G F : Nat → Prop} {g : Nat} {c : SC} {s t : SH} {w : World} (h : Runs c.P (c.me : Nat) (c.k : Nat) s t) (hS : ShAt w G F g c t) : shMes G F g c s w ≤ t.phi :=
  (infM_of (p := fun n => ∃ t, Runs c.P (c.me : Nat) (c.k : Nat) s t ∧ ShAt w G F g c t ∧ t.phi = n) ⟨_, t, h, hS, rfl⟩).2 _ ⟨t, h, hS, rfl⟩
theorem load_phi (s : SH) : s.load ≤ s.phi := by unfold SH.phi; omega
theorem comes_take {P : PP} {me k : Int} {s : SH} (hw : P.Well) {n : Int} (h1 : 0 ≤ n ∧ n < P.nodesV) (h3 : n % k = me) {l : List Int} (h : s.Ok P me k) (hl : ∀ o ∈ l, 0 ≤ o ∧ o < P.objectsV) (j : Nat) : ((l.take j).foldl (SH.comes P me k n) s).Ok P me k ∧ ((l.take j).foldl (SH.comes P me k n) s).phi ≤ s.phi := by
  obtain ⟨g1, _⟩ := comes_grows hw h1 h3 (l.take j) h fun o ho => hl o (List.mem_of_mem_take ho)
  exact ⟨g1.ok, g1.phi⟩
end Go.Proofs.YtbagppdibncfdaaGreatDoor
