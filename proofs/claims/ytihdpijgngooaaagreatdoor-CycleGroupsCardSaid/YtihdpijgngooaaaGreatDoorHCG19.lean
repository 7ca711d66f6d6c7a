/- Texts of one proof, put together: ZZXj SR ZZXk ZZXc ZZXl ZZXm ZZXt. -/
import Derived.Test.YtihdpijgngooaaaGreatDoorHCG03
import Derived.Test.YtihdpijgngooaaaGreatDoorHCG09
import Derived.Test.YtihdpijgngooaaaGreatDoorHCG17
import Derived.Test.YtihdpijgngooaaaGreatDoorHCG18
import Derived.Test.YtihdpijgngooaaaGreatDoorProg
import Derived.Shelf.SlIterI.Sorted
import Derived.RangeFuncBox
import Derived.RangeFuncLeaves
import Derived.RangeFuncBound
import Derived.OwnWalkIn
import Derived.TacticsInMore
import Derived.LoopNIn
import Derived.LoopIn
import Derived.Test.YtihdpijgngooaaaGreatDoorHCG01
set_option linter.unusedSimpArgs false
set_option linter.unusedVariables false
namespace Go.Proofs.YtihdpijgngooaaaGreatDoor
open Go Go.RowKit
theorem filledI_all (n : Nat) : filledI n n = icells (List.replicate n (-1)) := by
  unfold filledI icells
  rw [Nat.sub_self, List.replicate_zero, List.append_nil, List.map_replicate]
set_option maxRecDepth 100000 in
set_option maxHeartbeats 1600000 in
theorem repeati_zero (b : Nat) (w : World) (hb : Blk w b #[.int .i64 (-1)] 3) :
    Calls Tryz.prog 58 #[.slice (some ⟨b, 0, none⟩) 1 1, .int .i64 0] w fun e w' => ∃ b2, e = .returned (.slice (some ⟨b2, 0, none⟩) 0 0) ∧ Blk w' b2 #[] 3 ∧ Ext w w' ∧ w.heap.size ≤ b2 := by
  obtain ⟨ti, hi, hz0, hz1, hz2⟩ := info_parts int_info1
  have hmk := run_make (P := Tryz.prog) w 43 3 ti (.int .i64 0) Tryz.underlying43 hi hz0 .i64 .i64 0 0 (by omega) (by omega) (by rw [hz2]; omega) (by omega)
  have hmc : madeCells (Value.int .i64 0).cells ((0 : Int).toNat * ti.size) = #[] := by
    rw [hz1]; simp [madeCells]
  rw [hmc] at hmk
  have hnew := Blk.new w #[] 3
  have hx := (Ext.refl w).alloc (.cells #[] 3)
  have hsz1 : (Tryz.prog.info? 3).map (·.size) = some 1 := by rw [hi]; simp [hz1]
  have hcp := fun ty => run_copy_row Tryz.prog (w.alloc (.cells #[] 3)) 43 43 ty 3 w.heap.size 0 0 0 ⟨b, 0, none⟩ 1 1 #[] 3 [] Tryz.underlying43 hsz1 hnew rfl (fun j v hj => by simp at hj) (by simp) (by simp)
  have hset := setRow_blk hnew #[]
  have hkeep := setRow_keep (w.alloc (.cells #[] 3)) w.heap.size #[]
  have hx1 : Ext w ((w.alloc (.cells #[] 3)).setRow w.heap.size #[]) := Keep.new hx hkeep fun k hk => by rw [hk]; exact Nat.le_refl _
  have hm := mul_oneI 0 (by omega)
  simp only [List.length_nil, Nat.add_zero, List.take_zero, List.nil_append, List.append_nil, List.drop_nil, Array.toList_empty] at hcp
  have HX1 := hid hx1
  have HSet := hid hset
  obtain ⟨W1, hW1⟩ : ∃ W1, W1 = (w.alloc (.cells #[] 3)).setRow w.heap.size #[] := ⟨_, rfl⟩
  rw [← hW1] at HX1 HSet
  clear hx hkeep hx1 hset hnew hmc
  go_enter Tryz.func58, Tryz.ntmps58
  go_wp2_with (go_at_call 88; refine (hm _).mono ?_; rintro e w' ⟨rfl, rfl⟩)
  rw [← hW1]
  clear hW1 hmk hcp hm
  go_loopw [8] (fun t8 wr => t8 = .int .i64 0 ∧ wr = W1) (fun _ _ => 0)
  case atStart => exact ⟨rfl, rfl⟩
  case round =>
    obtain ⟨rfl, hw⟩ := hrel
    have Hw := hid hw
    clear hw
    go_wp2
    go_ret
    exact ⟨_, rfl, by rw [Hw.out]; exact HSet.out, by rw [Hw.out]; exact HX1.out, Nat.le_refl _⟩
theorem repeati_any (n b : Nat) (h2 : n ≤ 1000) (w : World) (hb : Blk w b #[.int .i64 (-1)] 3) :
    Calls Tryz.prog 58 #[.slice (some ⟨b, 0, none⟩) 1 1, .int .i64 (n : Int)] w fun e w' => ∃ g, e = .returned (.slice (some ⟨g, 0, none⟩) n n) ∧ w'.ownsRow w.heap.size 3 1 (.slice (some ⟨g, 0, none⟩) n n) n (icells (List.replicate n (-1))) ∧ Ext w w' := by
  by_cases h0 : n = 0
  · subst h0
    exact (repeati_zero b w hb).mono fun e w' ⟨g, h1, h2, h3, h4⟩ => ⟨g, h1, own_of_blk h2 h4 (Nat.le_refl _) (by unfold maxLen; omega) rfl rfl, h3⟩
  · exact (repeati_pos n b (by omega) h2 w hb).mono fun e w' ⟨g, h1, hb2, h3, h4⟩ => ⟨g, h1, own_of_blk hb2 h4 (Nat.le_refl _) (by unfold maxLen; omega) (by rw [List.size_toArray, filledI_len (Nat.le_refl _), Nat.mul_one]) (by
      rw [List.toList_toArray, filledI_all, List.take_of_length_le (by unfold icells; rw [List.length_map, List.length_replicate]; omega)]), h3⟩
theorem hB1_len {n : Nat} {E : List (Int × Int)} {a : Int} {B : List Bool} (h : RchB n E a B) : B.length = n := h.len
theorem NextAt.keep {w w' : World} {base m : Nat} {E : List (Int × Int)} {X : Nat → Prop} (h : NextAt w base m E) (k : Keep X w w') (hX : ∀ b, X b → b < base) : NextAt w' base m E := by
  obtain ⟨f, h⟩ := h
  exact ⟨f, h.map.keep k (fun hb => by have := hX m hb; have := h.low; omega), h.low, fun q => row_keep (h.row q) k fun b hb hx => by
    have := (World.ownsRow.lt (h.row q) b hb).1
    have := hX b hx
    omega, h.apart⟩
theorem icells_at {l : List Int} {i : Nat} {v : Int} (h : l[i]? = some v) : (icells l)[i]? = some (.int .i64 v) := by
  unfold icells
  rw [List.getElem?_map, h]; rfl
set_option maxRecDepth 100000 in
set_option maxHeartbeats 12800000 in
theorem cyclegroups_yes (n : Nat) (v : Value) (E : List (Int × Int)) (w : World) (n0 : Nat) (ad : Nat → Addr) (he2 : w.cell? ⟨0, 0, none⟩ = some (evOf ad 2)) (hr : EsR w n0 v E) (hl : E.length ≤ 100000) (hn : n ≤ 1000) (hin : einAll (n : Int) E E.length) (hn0 : n0 ≤ w.heap.size) :
    Calls Tryz.prog 25 #[.int .i64 (n : Int), v] w fun e w' => ∃ g G, e = .returned (.tuple #[.slice (some ⟨g, 0, none⟩) n n, .nilIface]) ∧ GrpL n E G ∧ w'.ownsRow w.heap.size 3 1 (.slice (some ⟨g, 0, none⟩) n n) n (icells G) ∧ Ext w w' := by
  obtain ⟨al, cl, rfl⟩ := hr.form2
  have hE := hin.ein
  have HE := hid hE
  have HER := hid hE.rev
  have HR0 := hid hr
  have hrl : (revE E).length = E.length := by unfold revE; rw [List.length_map]
  have Hrl := hid hrl
  have HCk := hid (cyclecheck_any (n : Int) (.slice al E.length cl) E w n0 ad he2 hr)
  have Hin := hid hin
  clear hE he2 hr hrl hin
  go_enter Tryz.func25, Tryz.ntmps25
  go_wp2_with fail
  refine HCk.out.mono ?_
  intro e w1 hx
  obtain ⟨v1, rfl, hee, hx1⟩ := hx
  obtain rfl : v1 = .nilIface := by
    rcases hee with ⟨h1, _⟩ | ⟨_, _, h3⟩ | ⟨_, i, e, b, h2, _, h4, _⟩
    · omega
    · exact h3
    · rw [Hin.out i e (List.getElem?_eq_some_iff.1 h2).1 h2] at h4; cases h4
  have Hx1 := hid hx1
  obtain ⟨W2, hW2⟩ : ∃ W2, W2 = w1.alloc (.cells #[.int .i64 (-1)] 3) := ⟨_, rfl⟩
  have hx2 : Ext w1 W2 := by rw [hW2]; exact (Ext.refl _).alloc _
  have Hx2 := hid (hx1.trans hx2)
  have HRe := hid (repeati_any n w1.heap.size hn W2 (by rw [hW2]; exact Blk.new _ _ _))
  have HW2 := hid hW2
  clear HCk hee hx1 hx2 hW2
  go_wp2_with fail
  rw [← HW2.out]
  refine HRe.out.mono ?_
  intro e w3 hx
  obtain ⟨g, rfl, hrow, hx3⟩ := hx
  have Hrow := hid hrow
  have Hx3 := hid (Hx2.out.trans hx3)
  have HNe := hid (cyclenexts_any (.slice al E.length cl) E w3 n0 n (HR0.out.ext (Hx2.out.trans hx3)) hl HE.out hn)
  clear HRe hrow hx3
  go_wp2_with fail
  refine HNe.out.mono ?_
  intro e w4 hx
  obtain ⟨m1, rfl, hN1, hx4⟩ := hx
  have HN1 := hid hN1
  have Hy4 := hid hx4
  have Hx4 := hid (Hx3.out.trans hx4)
  have HTu := hid (cycleturned_any (.slice al E.length cl) E w4 n0 (HR0.out.ext (Hx3.out.trans hx4)) hl)
  clear HNe hN1 hx4
  go_wp2_with fail
  refine HTu.out.mono ?_
  intro e w5 hx
  obtain ⟨v5, rfl, hr5, hx5⟩ := hx
  have Hx5 := hid (Hx4.out.trans hx5)
  have Hy5 := hid (Hy4.out.trans hx5)
  have Hz5 := hid hx5
  have HNe := hid (cyclenexts_any v5 (revE E) w5 w5.heap.size n (EsR.own hr5 (Nat.le_refl _)) (by rw [Hrl.out]; exact hl) HER.out hn)
  clear HTu hr5 hx5
  go_wp2_with fail
  refine HNe.out.mono ?_
  intro e w6 hx
  obtain ⟨m2, rfl, hN2, hx6⟩ := hx
  have HN1' := hid (HN1.out.ext (Hz5.out.trans hx6))
  have HN2 := hid hN2
  have Hx6 := hid (Hx5.out.trans hx6)
  have Hrow6 := hid (own_ext Hrow.out (Hy5.out.trans hx6))
  have hgl := (World.ownsRow.lt Hrow.out g rfl)
  have Hgl := hid hgl
  have Hs5 : Hid (w3.heap.size ≤ w5.heap.size) := hid Hy5.out.size
  clear HNe hN2 hx6 HN1 hgl
  go_wp2
  go_loopw [29] (fun t29 wr => ∃ (k : Nat) (G : List Int), t29 = .int .i64 (k : Int) ∧ k ≤ n ∧ GrpUp n E k G ∧ wr.ownsRow W2.heap.size 3 1 (.slice (some ⟨g, 0, none⟩) n n) n (icells G) ∧ Keep (fun q => q = g) w6 wr) (fun t29 _ => n - (intOf t29).toNat)
  case atStart => exact ⟨0, _, rfl, Nat.zero_le _, GrpUp.begin n E, Hrow6.out, Keep.refl _ _⟩
  case round =>
    obtain ⟨k, G, rfl, hk, hG, hR, hK⟩ := hrel
    have HG := hid hG
    have HR := hid hR
    have HK := hid hK
    clear hG hR hK
    by_cases hlt : k < n
    · obtain ⟨x, hx⟩ : ∃ x, G[k]? = some x := ⟨_, List.getElem?_eq_getElem (by rw [HG.out.len]; exact hlt)⟩
      have q0 := own_get HR.out k (icells_at hx)
      have Hx := hid hx
      clear hx
      by_cases h0 : 0 ≤ x
      · have HGn := hid (HG.out.skip hlt Hx.out h0)
        go_wp2
        go_roundw
        case rel => exact ⟨k + 1, G, by go_num, by omega, HGn.out, HR.out, HK.out⟩
        case measure => simp [intOf]; omega
      · have Hnew := hid (HG.out.new hlt Hx.out (by omega))
        have HA := hid (cyclereach_any n m1 E k wr w3.heap.size (HN1'.out.keep HK.out fun b hb => by rw [hb]; exact Hgl.out.2) HE.out hlt hn hl)
        obtain ⟨wO, hwO⟩ : ∃ x, x = wr := ⟨_, rfl⟩
        subst hwO
        go_wp2_with fail
        refine HA.out.mono ?_
        intro e w7 hx
        obtain ⟨g1, B1, rfl, hB1, hr1, hx7⟩ := hx
        have HB1 := hid hB1
        have Hr1 := hid hr1
        have Hx7 := hid hx7
        have HB := hid (cyclereach_any n m2 (revE E) k w7 w5.heap.size ((HN2.out.keep HK.out fun b hb => by rw [hb]; have := Hgl.out.2; have := Hs5.out; omega).ext hx7) HER.out hlt hn (by rw [Hrl.out]; exact hl))
        clear HA hB1 hr1 hx7 q0
        go_wp2_with fail
        refine HB.out.mono ?_
        intro e w8 hx
        obtain ⟨g2, B2, rfl, hB2, hr2, hx8⟩ := hx
        have HB2 := hid hB2
        have Hr2 := hid hr2
        have Hr1' := hid (own_ext Hr1.out hx8)
        have Hx8 := hid (Hx7.out.trans hx8)
        have HR8 := hid (own_ext HR.out (Hx7.out.trans hx8))
        have hl1 := hB1_len HB1.out
        have hl2 := hB1_len hB2
        clear HB hB2 hr2 hx8
        go_wp2
        go_loopw [46] (fun t46 wr => ∃ (i : Nat) (H : List Int), t46 = .int .i64 (i : Int) ∧ i ≤ n ∧ GrpIn n E k i H ∧ wr.ownsRow W2.heap.size 3 1 (.slice (some ⟨g, 0, none⟩) n n) n (icells H) ∧ Keep (fun q => q = g) w8 wr) (fun t46 _ => n - (intOf t46).toNat)
        case atStart => exact ⟨0, G, rfl, Nat.zero_le _, HG.out.into, HR8.out, Keep.refl _ _⟩
        case round =>
          obtain ⟨i, H, rfl, hi, hH, hRi, hKi⟩ := hrel
          have HH := hid hH
          have HRi := hid hRi
          have HKi := hid hKi
          clear hH hRi hKi
          by_cases hil : i < n
          · have hrow1 : wr.ownsRow 0 4 1 (.slice (some ⟨g1, 0, none⟩) n n) n (trCells B1) := by
              have := Hr1'.out
              unfold TrRow at this
              rw [hl1] at this
              refine own_low (row_keep this HKi.out fun b hb e => ?_) (Nat.zero_le _)
              obtain ⟨c, hc⟩ := own_ty this hb
              obtain ⟨c', hc'⟩ := own_ty HR8.out (k := g) rfl
              rw [e] at hc
              exact off_of hc (by decide) ⟨_, hc'⟩
            have hrow2 : wr.ownsRow 0 4 1 (.slice (some ⟨g2, 0, none⟩) n n) n (trCells B2) := by
              have := Hr2.out
              unfold TrRow at this
              rw [hl2] at this
              refine own_low (row_keep this HKi.out fun b hb e => ?_) (Nat.zero_le _)
              obtain ⟨c, hc⟩ := own_ty this hb
              obtain ⟨c', hc'⟩ := own_ty HR8.out (k := g) rfl
              rw [e] at hc
              exact off_of hc (by decide) ⟨_, hc'⟩
            have b1 := own_get hrow1 i (trCells_at (by omega))
            have b2 := own_get hrow2 i (trCells_at (by omega))
            have hm1 := HB1.out.iff i hil
            have hm2 := (HB2.out.iff i hil).trans rch_rev
            have Hmu : Hid (MutR E (k : Int) (i : Int) ↔ B1.getD i false = true ∧ B2.getD i false = true) := hid ⟨fun h => ⟨hm1.2 h.1, hm2.2 h.2⟩, fun h => ⟨hm1.1 h.1, hm2.1 h.2⟩⟩
            clear hm1 hm2 hrow1 hrow2
            cases hc1 : B1.getD i false with
            | false =>
              rw [hc1] at b1
              have HHn := hid (HH.out.no fun h => by rw [hc1] at Hmu; have := (Hmu.out.1 h).1; cases this)
              clear hc1 b2
              go_wp2
              go_roundw
              case rel => exact ⟨i + 1, H, by go_num, by omega, HHn.out, HRi.out, HKi.out⟩
              case measure => simp [intOf]; omega
            | true =>
              rw [hc1] at b1
              cases hc2 : B2.getD i false with
              | false =>
                rw [hc2] at b2
                have HHn := hid (HH.out.no fun h => by rw [hc2] at Hmu; have := (Hmu.out.1 h).2; cases this)
                clear hc1 hc2
                go_wp2
                go_roundw
                case rel => exact ⟨i + 1, H, by go_num, by omega, HHn.out, HRi.out, HKi.out⟩
                case measure => simp [intOf]; omega
              | true =>
                rw [hc2] at b2
                have HHn := hid (HH.out.yes hil Hnew.out (Hmu.out.2 ⟨hc1, hc2⟩))
                have hHl := HH.out.len
                obtain ⟨z, hz⟩ : ∃ z, H[i]? = some z := ⟨_, List.getElem?_eq_getElem (by rw [hHl]; exact hil)⟩
                have b3 := own_get HRi.out i (icells_at hz)
                have fr := (show ∃ c, Blk wr g c 3 from own_ty HRi.out (k := g) rfl).elim fun c hc => hc.free i
                have HRn : Hid ((wr.setCell ⟨g, i, none⟩ (.int .i64 (k : Int))).ownsRow W2.heap.size 3 1 (.slice (some ⟨g, 0, none⟩) n n) n (icells (H.set i (k : Int)))) := hid (by
                  have := own_set HRi.out i (by unfold icells; rw [List.length_map, hHl]; exact hil) (.int .i64 (k : Int))
                  rw [show (icells H).set i (.int .i64 (k : Int)) = icells (H.set i (k : Int)) by unfold icells; rw [List.map_set]] at this
                  exact this)
                have HKn : Hid (Keep (fun q => q = g) w8 (wr.setCell ⟨g, i, none⟩ (.int .i64 (k : Int)))) := hid (HKi.out.set rfl _)
                clear hc1 hc2 hz hHl
                go_wp2
                go_roundw
                case rel => exact ⟨i + 1, _, by go_num, by omega, HHn.out, HRn.out, HKn.out⟩
                case measure => simp [intOf]; omega
          · obtain rfl : i = n := by omega
            have HHo := hid HH.out.out
            have HKo := hid ((HK.out.trans (Hx8.out.keep _)).trans HKi.out)
            go_wp2
            go_roundw
            case rel => exact ⟨k + 1, H, by go_num, by omega, HHo.out, HRi.out, HKo.out⟩
            case measure => simp [intOf]; omega
    · obtain rfl : k = n := by omega
      have HGd := hid HG.out.done
      have HXz : Hid (Ext w wr) := hid (Keep.new Hx6.out HK.out fun b hb => by rw [hb]; exact Nat.le_trans Hx2.out.size Hgl.out.1)
      have HRz := hid (own_low HR.out Hx2.out.size)
      go_wp2
      go_ret2
      exact ⟨g, G, rfl, HGd.out, HRz.out, HXz.out⟩
set_option maxRecDepth 100000 in
set_option maxHeartbeats 3200000 in
theorem cyclegroups_no (n : Int) (v : Value) (E : List (Int × Int)) (w : World) (n0 : Nat) (ad : Nat → Addr) (he2 : w.cell? ⟨0, 0, none⟩ = some (evOf ad 2)) (hr : EsR w n0 v E) (hbad : ¬ ((0 ≤ n ∧ n ≤ 1000) ∧ einAll n E E.length)) :
    Calls Tryz.prog 25 #[.int .i64 n, v] w fun e w' => ∃ t x, e = .returned (.tuple #[.slice none 0 0, .iface t (.pointer (some x))]) ∧ EdgeErr ad n E w' (.iface t (.pointer (some x))) ∧ Ext w w' := by
  obtain ⟨al, cl, rfl⟩ := hr.form2
  have HCk := hid (cyclecheck_any n (.slice al E.length cl) E w n0 ad he2 hr)
  have Hb := hid hbad
  clear he2 hr hbad
  go_enter Tryz.func25, Tryz.ntmps25
  go_wp2_with fail
  refine HCk.out.mono ?_
  intro e w1 hx
  obtain ⟨v1, rfl, hee, hx1⟩ := hx
  obtain ⟨t, x, rfl⟩ : ∃ t x, v1 = .iface t (.pointer (some x)) := by
    rcases id hee with ⟨_, h2⟩ | ⟨h1, h2, _⟩ | ⟨_, i, e, b, _, _, _, h5, _⟩
    · exact ⟨_, _, h2⟩
    · exact absurd ⟨h1, h2⟩ Hb.out
    · exact ⟨_, _, h5⟩
  have Hee := hid hee
  have Hx1 := hid hx1
  clear HCk hee hx1
  go_wp2
  go_ret2
  exact ⟨_, _, rfl, Hee.out, Hx1.out⟩
end Go.Proofs.YtihdpijgngooaaaGreatDoor
namespace Go.Proofs
open Go.Shelf
def Tryz.appseq_ren : Go.Shelf.Ren := ⟨fun | 11 => 118 | n => n, fun | 24 => 43 | 26 => 3 | 28 => 114 | 0 => 0 | 33 => 97 | 4 => 4 | n => n, fun | n => n⟩
theorem Tryz.appseq : Go.Proofs.SlLaysZI.n11 Tryz.prog Tryz.appseq_ren := {
  mixed := by kernel_rfl
  f11 := ⟨Tryz.f118.name, by decide, Tryz.func118.trans (congrArg some (by kernel_rfl))⟩
  t0 := Tryz.underlying0
  a0 := Tryz.isAgg0
  z0 := Tryz.sizeOf0
  v0 := Tryz.zeroValue0
  t24 := Tryz.underlying43
  a24 := Tryz.isAgg43
  z24 := Tryz.sizeOf43
  v24 := Tryz.zeroValue43
  t26 := Tryz.underlying3
  a26 := Tryz.isAgg3
  z26 := Tryz.sizeOf3
  v26 := Tryz.zeroValue3
  t28 := Tryz.underlying114
  a28 := Tryz.isAgg114
  z28 := Tryz.sizeOf114
  v28 := Tryz.zeroValue114
  i26 := by kernel_rfl }
end Go.Proofs
namespace Go.Proofs.YtihdpijgngooaaaGreatDoor
open Go Go.RowKit Go.Shelf Go.Maps Go.Sort
set_option maxRecDepth 100000 in
set_option maxHeartbeats 2000000 in
theorem values1_in (n : Nat) (hn : 1 ≤ n) (l Bs n0 b off cap : Nat) (zs : List Int) (hreach : zs.length ≤ 1000) (hb : b < n0) (J : List Int → World → Prop) (W0 : World)
    (hJb : ∀ s V, J s V → Below n0 W0 V)
    (hY : ∀ pre x V, J pre V → pre.length < zs.length → YieldAt Fence.wide (n - 1) Tryz.prog l #[.int .i64 x] V fun e V' => e = .returned (.bool true) ∧ J (pre ++ [x]) V' ∧ KeepsWalks V V')
    (W : World) (hBs : W.cell? ⟨Bs, 0, none⟩ = some (.slice (some ⟨b, off, none⟩) zs.length cap)) (hc : ∀ j, j < zs.length → W0.cell? ⟨b, off + j, none⟩ = some (.int .i64 (zs[j]?.getD 0))) (h0 : J [] W) :
    CallsIn Fence.wide n Tryz.prog 90 #[.func (.yield l) #[] #[], .pointer (some ⟨Bs, 0, none⟩)] W fun e W' => (∃ v, e = .returned v) ∧ J zs W' := by
  have hro : Fence.wide.round = none := rfl
  refine callsIn_of_wp Tryz.func90 rfl trivial ?_ hro
  simp only [Tryz.ntmps90, List.size_toArray, List.length_cons, List.length_nil, Nat.reduceAdd, Nat.reduceSub, Array.replicate_succ, Array.replicate_zero, List.push_toArray, List.append_toArray, List.nil_append, List.cons_append]
  gi_wp2
  gi_loopw [7] (fun i wr => ∃ k : Nat, k ≤ zs.length ∧ i = .int .i64 k ∧ J (zs.take k) wr)
    (fun i _ => zs.length - (intOf i).toNat)
  case atStart => exact ⟨0, Nat.zero_le _, rfl, by simpa using h0⟩
  case round =>
    obtain ⟨k, hk, rfl, hJs⟩ := hrel
    by_cases hlt : k < zs.length
    · obtain ⟨x, hx⟩ : ∃ x, zs[k]? = some x := ⟨_, List.getElem?_eq_getElem hlt⟩
      obtain ⟨fn, tmps, assign, body, hy, hR⟩ := hY _ x wr hJs (by rw [List.length_take]; omega)
      have hcx' : wr.cell? ⟨b, off + k, none⟩ = some (.int .i64 x) := ((hJb _ _ hJs).cell (p := ⟨b, off + k, none⟩) hb).trans (by rw [hc k hlt, hx]; rfl)
      have hX := hid hx
      clear hx
      gi_wp2
      refine hR.mono ?_
      rintro e W3 ⟨rfl, hJ3, hk3⟩
      gi_wp2
      go_roundw
      case rel => exact ⟨k + 1, by omega, by simp, by rw [List.take_add_one, hX.out]; exact hJ3⟩
      case measure => simp [intOf]; omega
    · obtain rfl : k = zs.length := by omega
      gi_wp2
      go_end0
      exact ⟨⟨_, rfl⟩, by simpa using hJs⟩
set_option maxRecDepth 100000 in
set_option maxHeartbeats 2000000 in
theorem appendvals (w : World) (b off cap Bs : Nat) (zs : List Int) (hreach : zs.length ≤ 1000) (hb : b < w.heap.size) (hB0 : w.heap[Bs]? = some (.cells #[.slice (some ⟨b, off, none⟩) zs.length cap] 43 (0, 0)))
    (hc : ∀ j, j < zs.length → w.cell? ⟨b, off + j, none⟩ = some (.int .i64 (zs[j]?.getD 0))) :
    Calls Tryz.prog 118 #[.slice none 0 0, .func (.func 90) #[] #[.pointer (some ⟨Bs, 0, none⟩)]] w fun e w' => ∃ u, e = .returned u ∧ w'.ownsRow w.heap.size 3 1 u zs.length (icells zs) ∧ Ext w w' := by
  refine (callsIn_wide (n := 3)).1 ?_
  have hro : Fence.wide.round = none := rfl
  have L := Tryz.appseq
  have hBlt : Bs < w.heap.size := (Array.getElem?_eq_some_iff.1 hB0).1
  have eg : ∀ args w, (callFunc 90 args).run Tryz.prog w = .ok (.enter 90 args) w := enters_of Tryz.func90 (by kernel_rfl) rfl
  have hne : (43 : TypeId) ≠ 3 := by decide
  refine callsIn_of_wp_marks Tryz.func118 rfl trivial ?_ hro
  simp only [Tryz.ntmps118, List.size_toArray, List.length_cons, List.length_nil, Nat.reduceAdd, Nat.reduceSub, Array.replicate_succ, Array.replicate_zero, List.push_toArray, List.append_toArray, List.nil_append, List.cons_append]
  gi_wp2
  refine wpIn_rangeFunc ?_
  intro fn hfn
  rw [hro]
  obtain ⟨W0, hW0⟩ : ∃ W0, w.alloc (.cells #[.slice none 0 0] 43) = W0 := ⟨_, rfl⟩
  have hs0 : W0.heap.size = w.heap.size + 1 := by rw [← hW0]; simp
  have hv0 : W0.heap[w.heap.size]? = some (.cells #[.slice none 0 0] 43 (0, 0)) := by rw [← hW0]; exact World.alloc_heap_new w _
  have hb0 : Below w.heap.size w W0 := by rw [← hW0]; exact (Below.refl _ w).alloc (Nat.le_refl _) _
  rw [hW0]
  obtain ⟨sv, hsv⟩ : ∃ sv : Value, sv = .func (.func 90) #[] #[.pointer (some ⟨Bs, 0, none⟩)] := ⟨_, rfl⟩
  obtain ⟨W1, hW1⟩ : ∃ W1, (W0.alloc (.deferred (some []))).alloc (.loop (Go.Proofs.AnyZI.apRec Tryz.appseq_ren fn (.func (.func 90) #[] #[.pointer (some ⟨Bs, 0, none⟩)]) w.heap.size W0.heap.size .ready none)) = W1 := ⟨_, rfl⟩
  have hold : ∀ k, k < W0.heap.size → W1.heap[k]? = W0.heap[k]? := fun k hk => by
    rw [← hW1]; exact (Below.heap_alloc _ _ k (by simp; omega)).trans (Below.heap_alloc _ _ k hk)
  have hb1 : Below w.heap.size w W1 := by rw [← hW1]; exact (hb0.alloc hb0.size _).alloc (by have := hb0.size; simp; omega) _
  have hM : Go.Proofs.AnyZI.ApAt Tryz.appseq_ren w fn (.func (.func 90) #[] #[.pointer (some ⟨Bs, 0, none⟩)]) w.heap.size (W0.heap.size + 1) W0.heap.size [] W1 :=
    ⟨⟨_, (hold w.heap.size (by omega)).trans hv0, ⟨rfl, .inl ⟨rfl, rfl⟩⟩, by simp⟩,
     by rw [← hW1]; have := World.alloc_heap_new (W0.alloc (.deferred (some []))) (.loop (Go.Proofs.AnyZI.apRec Tryz.appseq_ren fn (.func (.func 90) #[] #[.pointer (some ⟨Bs, 0, none⟩)]) w.heap.size W0.heap.size .ready none)); rwa [World.size_alloc] at this,
     by rw [← hW1]; exact (Below.heap_alloc _ _ _ (by simp)).trans (World.alloc_heap_new W0 _), hb1⟩
  refine ⟨W0.heap.size + 1, [{ target := .collected W0.heap.size, args := #[] }], W1, { target := .fn (.func 90) #[.pointer (some ⟨Bs, 0, none⟩)], args := #[.func (.yield (W0.heap.size + 1)) #[] #[]] }, W1, 90,
    #[.func (.yield (W0.heap.size + 1)) #[] #[], .pointer (some ⟨Bs, 0, none⟩)], W1, ?_, ?_, ?_, ?_, fun _ => by omega, ?_⟩
  · rw [← hW1]; exact run_enterLoop_outer _ _ _ _ _
  · simp [resolve, go_sem]
  · intro f' hf'; trivial
  · simp [invoke, go_sem, eg]
  · refine (values1_in (3 - 1) (by omega) (W0.heap.size + 1) Bs w.heap.size b off cap zs hreach hb (Go.Proofs.AnyZI.ApAt Tryz.appseq_ren w fn (.func (.func 90) #[] #[.pointer (some ⟨Bs, 0, none⟩)]) w.heap.size (W0.heap.size + 1) W0.heap.size) w (fun s V h => h.below)
      (fun pre x W hJ hl => Go.Proofs.AnyZI.apYield L Fence.wide (3 - 1 - 1) w fn hfn _ w.heap.size (W0.heap.size + 1) W0.heap.size (by omega) (by omega) (by omega) (Nat.le_refl _) (by omega) zs.length (by simp [maxLen]; omega) (by omega) pre x W hJ hl)
      W1 ?_ hc hM).mono ?_
    · exact (hb1.cell (p := ⟨Bs, 0, none⟩) hBlt).trans (Go.Proofs.cell_of_box_a hB0).1
    rintro e W2 ⟨⟨v0, rfl⟩, h2⟩
    obtain ⟨v, hv, hrow, hnil⟩ := h2.box
    have hend := run_endLoop (P := Tryz.prog) h2.L (by simp [Go.Proofs.AnyZI.apRec])
    obtain ⟨W3, hW3⟩ : ∃ W3, W2.putObj (W0.heap.size + 1) (.loop { Go.Proofs.AnyZI.apRec Tryz.appseq_ren fn (.func (.func 90) #[] #[.pointer (some ⟨Bs, 0, none⟩)]) w.heap.size W0.heap.size .ready none with state := .exhausted }) = W3 := ⟨_, rfl⟩
    rw [hW3] at hend
    have hg3 : W2.grownBy W3 (some (W0.heap.size + 1)) := by rw [← hW3]; exact Go.Proofs.grownBy_putObj_a _ _ _
    have hv3 : W3.heap[w.heap.size]? = some (.cells #[v] 43 (0, 0)) := by rw [← hW3]; exact (World.putObj_heap_other (by omega)).trans hv
    have hK3 : W3.heap[W0.heap.size]? = some (.deferred (some [])) := by rw [← hW3]; exact (World.putObj_heap_other (by omega)).trans h2.K
    have hrow3 := hrow.kept hg3 (Go.Proofs.ownsRow_ne_a hrow h2.L (fun cur e => by first | cases e | exact hne (Obj.cells.inj e).2.1))
    have hb3 : Below w.heap.size w W3 := h2.below.grown hg3 h2.below.size (fun k e => by cases e; omega)
    obtain ⟨hc3, hf3⟩ := Go.Proofs.cell_of_box_a hv3
    clear hW3
    refine ⟨none, W3, hend, ?_⟩
    gi_wp2
    rw [← hs0]
    refine ⟨by simp, .inl ⟨_, _, rfl, run_takeDeferred hK3, ?_⟩⟩
    exact ⟨_, results_tmp rfl _ _ _, v, rfl, hrow3.kept (Go.Proofs.grownBy_putObj_a _ _ _) (Go.Proofs.ownsRow_ne_a hrow3 hK3 (fun cur e => by first | cases e | exact hne (Obj.cells.inj e).2.1)), hb3.grown (Go.Proofs.grownBy_putObj_a _ _ _) hb3.size (fun k e => by cases e; omega)⟩
set_option maxRecDepth 100000 in
set_option maxHeartbeats 1000000 in
theorem valuesi_any (b off len cap : Nat) (w : World) :
    Calls Tryz.prog 64 #[.slice (some ⟨b, off, none⟩) len cap] w fun e w' => e = .returned (.func (.func 90) #[] #[.pointer (some ⟨w.heap.size, 0, none⟩)]) ∧ w' = w.alloc (.cells #[.slice (some ⟨b, off, none⟩) len cap] 43) := by
  go_enter Tryz.func64, Tryz.ntmps64
  go_wp2
  exact bodyPost_ret (results_tmp rfl _ _ _) rfl ⟨rfl, rfl⟩
set_option maxRecDepth 100000 in
set_option maxHeartbeats 1000000 in
theorem collecti_vals (w : World) (b off cap Bs : Nat) (zs : List Int) (hreach : zs.length ≤ 1000) (hb : b < w.heap.size) (hB0 : w.heap[Bs]? = some (.cells #[.slice (some ⟨b, off, none⟩) zs.length cap] 43 (0, 0)))
    (hc : ∀ j, j < zs.length → w.cell? ⟨b, off + j, none⟩ = some (.int .i64 (zs[j]?.getD 0))) :
    Calls Tryz.prog 89 #[.func (.func 90) #[] #[.pointer (some ⟨Bs, 0, none⟩)]] w fun e w' => ∃ u, e = .returned u ∧ IRow w.heap.size w' u zs ∧ Ext w w' := by
  have cA := hid (appendvals w b off cap Bs zs hreach hb hB0 hc)
  clear hc hB0
  go_enter Tryz.func89, Tryz.ntmps89
  go_wp2_with (go_at_call 118; refine cA.out.mono ?_; rintro e w' ⟨u, rfl, hu, hx⟩)
  go_ret
  exact ⟨_, rfl, hu, hx⟩
set_option maxRecDepth 100000 in
set_option maxHeartbeats 1000000 in
theorem sortedi_vals (w : World) (b off cap Bs : Nat) (zs : List Int) (hreach : zs.length ≤ 1000) (hb : b < w.heap.size) (hB0 : w.heap[Bs]? = some (.cells #[.slice (some ⟨b, off, none⟩) zs.length cap] 43 (0, 0)))
    (hc : ∀ j, j < zs.length → w.cell? ⟨b, off + j, none⟩ = some (.int .i64 (zs[j]?.getD 0))) :
    Calls Tryz.prog 63 #[.func (.func 90) #[] #[.pointer (some ⟨Bs, 0, none⟩)]] w fun e w' => ∃ u, e = .returned u ∧ IRow w.heap.size w' u (zs.mergeSort fun x y => decide (x ≤ y)) ∧ Ext w w' := by
  have cA := hid (collecti_vals w b off cap Bs zs hreach hb hB0 hc)
  clear hc hB0
  go_enter Tryz.func63, Tryz.ntmps63
  go_wp2_with (first
    | (go_at_call 89; refine cA.out.mono ?_; rintro e w1 ⟨u, rfl, hu, hx⟩)
    | (go_at_call 82; refine (sort_row u zs w1 _ hu (by omega)).mono ?_; rintro e w2 ⟨rfl, hs, hk⟩))
  go_ret
  exact ⟨_, rfl, hs, Keep.fresh hx hu (Nat.le_refl _) hk⟩
theorem row_cells {base g n cap : Nat} {w : World} {l : List Int} (h : IRow base w (.slice (some ⟨g, 0, none⟩) n cap) l) : ∀ j, j < l.length → w.cell? ⟨g, 0 + j, none⟩ = some (.int .i64 (l[j]?.getD 0)) := by
  obtain ⟨rfl, _⟩ := h.cur
  intro j hj
  rw [Nat.zero_add, own_get h j (u := .int .i64 l[j]) (by unfold icells; rw [List.getElem?_map, List.getElem?_eq_getElem hj]; rfl), List.getElem?_eq_getElem hj]
  rfl
end Go.Proofs.YtihdpijgngooaaaGreatDoor
namespace Go.Proofs.YtihdpijgngooaaaGreatDoor
open Go Go.RowKit
def aheadB (E : List (Int × Int)) (G : List Int) (b a : Int) : Bool := (E.any fun e => decide (G.getD e.1.toNat (-1) = a) && decide (G.getD e.2.toNat (-1) = b)) && !decide (a = b)
def freeB (E : List (Int × Int)) (G : List Int) (L : List Int) (b : Int) : Bool := !(L.any fun a => aheadB E G b a)
def ordRun (E : List (Int × Int)) (G : List Int) : Nat → List Int → List Int
  | 0, _ => []
  | k + 1, L => match L.findIdx? (freeB E G L) with
    | none => []
    | some i => L.getD i 0 :: ordRun E G k (L.take i ++ L.drop (i + 1))
theorem aheadB_iff {E : List (Int × Int)} {G : List Int} {b a : Int} : aheadB E G b a = true ↔ a ≠ b ∧ ∃ e ∈ E, G.getD e.1.toNat (-1) = a ∧ G.getD e.2.toNat (-1) = b := by
  unfold aheadB
  simp only [Bool.and_eq_true, Bool.not_eq_true', decide_eq_false_iff_not, List.any_eq_true, decide_eq_true_eq]
  exact ⟨fun h => ⟨h.2, h.1⟩, fun h => ⟨h.2, h.1⟩⟩
theorem freeB_iff {E : List (Int × Int)} {G L : List Int} {b : Int} : freeB E G L b = true ↔ ∀ a ∈ L, aheadB E G b a = false := by
  unfold freeB
  rw [Bool.not_eq_true', List.any_eq_false]
  exact ⟨fun h a ha => by have := h a ha; simpa using this, fun h a ha => by rw [h a ha]; simp⟩
section
variable {E : List (Int × Int)} {n : Nat} {G : List Int}
structure Reps (n : Nat) (G : List Int) (L : List Int) : Prop where
  srt : Srt L
  rep : ∀ b ∈ L, ∃ k : Nat, b = (k : Int) ∧ k < n ∧ G[k]? = some (k : Int)
theorem Reps.cut {L : List Int} (h : Reps n G L) (i : Nat) : Reps n G (L.take i ++ L.drop (i + 1)) := by
  refine ⟨?_, fun b hb => h.rep b ?_⟩
  · have hs : List.Pairwise (· < ·) L := h.srt
    exact List.Pairwise.sublist (by
      rw [← List.eraseIdx_eq_take_drop_succ]
      exact List.eraseIdx_sublist L i) hs
  · rcases List.mem_append.1 hb with g | g
    · exact List.mem_of_mem_take g
    · exact List.mem_of_mem_drop g
theorem cut_mem {L : List Int} (hs : Srt L) {i : Nat} {x : Int} (hx : L[i]? = some x) (y : Int) : y ∈ L.take i ++ L.drop (i + 1) ↔ y ∈ L ∧ y ≠ x := by
  obtain ⟨hi, hxe⟩ := List.getElem?_eq_some_iff.1 hx
  have hsplit : L = L.take i ++ x :: L.drop (i + 1) := by
    rw [← hxe, ← List.drop_eq_getElem_cons hi, List.take_append_drop]
  have hp : List.Pairwise (· < ·) (L.take i ++ x :: L.drop (i + 1)) := by rw [← hsplit]; exact hs
  rw [List.pairwise_append, List.pairwise_cons] at hp
  obtain ⟨_, ⟨h2, _⟩, h3⟩ := hp
  constructor
  · intro hy
    rcases List.mem_append.1 hy with g | g
    · exact ⟨List.mem_of_mem_take g, fun e => by have := h3 y g x List.mem_cons_self; omega⟩
    · exact ⟨List.mem_of_mem_drop g, fun e => by have := h2 y g; omega⟩
  · rintro ⟨hy, hne⟩
    rw [hsplit] at hy
    rcases List.mem_append.1 hy with g | g
    · exact List.mem_append_left _ g
    · rcases List.mem_cons.1 g with g | g
      · exact absurd g hne
      · exact List.mem_append_right _ g
theorem cut_len {L : List Int} {i : Nat} (hi : i < L.length) : (L.take i ++ L.drop (i + 1)).length + 1 = L.length := by
  rw [List.length_append, List.length_take, List.length_drop]
  omega
theorem ahead_rch (hE : EIn n E) (hG : GrpL n E G) {b a : Int} (h : aheadB E G b a = true) : a ≠ b ∧ Rch E a b := by
  obtain ⟨hne, e, he, h1, h2⟩ := aheadB_iff.1 h
  obtain ⟨⟨e1, e2⟩, e3, e4⟩ := hE e he
  obtain ⟨x, hx⟩ := Int.eq_ofNat_of_zero_le e1
  obtain ⟨y, hy⟩ := Int.eq_ofNat_of_zero_le e3
  obtain ⟨k, k1, _, k3, _⟩ := hG.at_ x (by omega)
  obtain ⟨q, q1, _, q3, _⟩ := hG.at_ y (by omega)
  rw [hx, Int.toNat_natCast, List.getD_eq_getElem?_getD, k1] at h1
  rw [hy, Int.toNat_natCast, List.getD_eq_getElem?_getD, q1] at h2
  simp only [Option.getD_some] at h1 h2
  refine ⟨hne, ?_⟩
  rw [← h1, ← h2]
  refine (k3.1.step ?_).trans q3.2
  rw [← hx, ← hy]
  exact he
open Classical in
noncomputable def cnt (n : Nat) (E : List (Int × Int)) (b : Int) : Nat := ((List.range n).filter fun i : Nat => decide (Rch E (i : Int) b)).length
theorem cnt_lt {a b : Int} (ha : 0 ≤ b ∧ b < n) (h : Rch E a b) (hn : ¬ Rch E b a) : cnt n E a < cnt n E b := by
  unfold cnt
  obtain ⟨k, hk⟩ := Int.eq_ofNat_of_zero_le ha.1
  have key : ∀ (l : List Nat), (l.filter fun i : Nat => @decide (Rch E (i : Int) a) (Classical.propDecidable _)).length ≤ (l.filter fun i : Nat => @decide (Rch E (i : Int) b) (Classical.propDecidable _)).length ∧ (k ∈ l → (l.filter fun i : Nat => @decide (Rch E (i : Int) a) (Classical.propDecidable _)).length < (l.filter fun i : Nat => @decide (Rch E (i : Int) b) (Classical.propDecidable _)).length) := by
    intro l
    induction l with
    | nil => exact ⟨Nat.le_refl _, fun h => by cases h⟩
    | cons i l ih =>
      rw [List.filter_cons, List.filter_cons]
      by_cases h1 : Rch E (i : Int) a
      · have h2 : Rch E (i : Int) b := h1.trans h
        rw [if_pos (by simpa using h1), if_pos (by simpa using h2), List.length_cons, List.length_cons]
        refine ⟨by omega, fun hm => ?_⟩
        rcases List.mem_cons.1 hm with g | g
        · subst g
          rw [← hk] at h1
          exact absurd h1 hn
        · have := ih.2 g; omega
      · rw [if_neg (by simpa using h1)]
        by_cases h2 : Rch E (i : Int) b
        · rw [if_pos (by simpa using h2), List.length_cons]
          exact ⟨by omega, fun _ => by omega⟩
        · rw [if_neg (by simpa using h2)]
          refine ⟨ih.1, fun hm => ?_⟩
          rcases List.mem_cons.1 hm with g | g
          · subst g
            rw [← hk] at h2
            exact absurd Rch.refl h2
          · exact ih.2 g
  exact (key (List.range n)).2 (List.mem_range.2 (by omega))
theorem least_of (f : Int → Nat) : ∀ (L : List Int), L ≠ [] → ∃ b ∈ L, ∀ a ∈ L, f b ≤ f a
  | [], h => absurd rfl h
  | [x], _ => ⟨x, List.mem_cons_self, fun a ha => by rw [List.mem_singleton.1 ha]; exact Nat.le_refl _⟩
  | x :: y :: L, _ => by
    obtain ⟨b, hb, h⟩ := least_of f (y :: L) (by simp)
    by_cases g : f x ≤ f b
    · refine ⟨x, List.mem_cons_self, fun a ha => ?_⟩
      rcases List.mem_cons.1 ha with e | e
      · rw [e]; exact Nat.le_refl _
      · exact Nat.le_trans g (h a e)
    · refine ⟨b, List.mem_cons_of_mem _ hb, fun a ha => ?_⟩
      rcases List.mem_cons.1 ha with e | e
      · rw [e]; omega
      · exact h a e
theorem free_one (hE : EIn n E) (hG : GrpL n E G) {L : List Int} (hL : Reps n G L) (hne : L ≠ []) : ∃ b ∈ L, freeB E G L b = true := by
  obtain ⟨b, hb, hmin⟩ := least_of (cnt n E) L hne
  refine ⟨b, hb, freeB_iff.2 fun a ha => ?_⟩
  cases h : aheadB E G b a with
  | false => rfl
  | true =>
    exfalso
    obtain ⟨h1, h2⟩ := ahead_rch hE hG h
    obtain ⟨k, rfl, hk, hgk⟩ := hL.rep b hb
    obtain ⟨q, rfl, hq, hgq⟩ := hL.rep a ha
    have hn : ¬ Rch E (k : Int) (q : Int) := fun hr => by
      have hm : MutR E (q : Int) (k : Int) := ⟨h2, hr⟩
      have := (hG.same hq hk).2 hm
      rw [hgk, hgq] at this
      exact h1 (Option.some.inj this)
    have := cnt_lt (n := n) (by omega) h2 hn
    have := hmin _ ha
    omega
theorem free_idx (hE : EIn n E) (hG : GrpL n E G) {L : List Int} (hL : Reps n G L) (hne : L ≠ []) : ∃ i, L.findIdx? (freeB E G L) = some i ∧ i < L.length := by
  obtain ⟨b, hb, h⟩ := free_one hE hG hL hne
  cases hf : L.findIdx? (freeB E G L) with
  | none => rw [List.findIdx?_eq_none_iff] at hf; rw [hf b hb] at h; cases h
  | some i =>
    obtain ⟨h1, _⟩ := List.findIdx?_eq_some_iff_getElem.1 hf
    exact ⟨i, rfl, h1⟩
theorem ord_mem (hE : EIn n E) (hG : GrpL n E G) : ∀ (k : Nat) {L : List Int}, Reps n G L → L.length ≤ k → (∀ x, x ∈ ordRun E G k L ↔ x ∈ L) ∧ (ordRun E G k L).Nodup ∧ (ordRun E G k L).length = L.length
  | 0, L, _, hk => by
    obtain rfl := List.eq_nil_of_length_eq_zero (show L.length = 0 by omega)
    exact ⟨fun x => Iff.rfl, List.nodup_nil, rfl⟩
  | k + 1, L, hL, hk => by
    unfold ordRun
    by_cases hne : L = []
    · subst hne
      exact ⟨fun x => Iff.rfl, List.nodup_nil, rfl⟩
    · obtain ⟨i, hi, hil⟩ := free_idx hE hG hL hne
      rw [hi]
      simp only
      have hx : L[i]? = some (L.getD i 0) := by rw [List.getD_eq_getElem?_getD, List.getElem?_eq_getElem hil]; rfl
      have hc := cut_len hil
      obtain ⟨h1, h2, h3⟩ := ord_mem hE hG k (hL.cut i) (by omega)
      refine ⟨fun x => ?_, ?_, ?_⟩
      · rw [List.mem_cons, h1, cut_mem hL.srt hx]
        constructor
        · rintro (g | g)
          · rw [g]; exact List.mem_of_getElem? hx
          · exact g.1
        · intro g
          by_cases e : x = L.getD i 0
          · exact .inl e
          · exact .inr ⟨g, e⟩
      · rw [List.nodup_cons]
        refine ⟨fun hm => ?_, h2⟩
        rw [h1, cut_mem hL.srt hx] at hm
        exact hm.2 rfl
      · rw [List.length_cons, h3]; omega
theorem ord_step {L : List Int} {i : Nat} (hi : L.findIdx? (freeB E G L) = some i) (hil : i < L.length) : ordRun E G L.length L = L.getD i 0 :: ordRun E G (L.take i ++ L.drop (i + 1)).length (L.take i ++ L.drop (i + 1)) := by
  have hc := cut_len hil
  rw [← hc]
  conv => lhs; unfold ordRun
  rw [hi]
end
structure AheadM (w : World) (base m : Nat) (E : List (Int × Int)) (G : List Int) (f : Int → Option Value) : Prop where
  map : KMap Tryz.prog 3 (Value.int .i64) w m f
  low : base ≤ m
  val : ∀ b, (f b = none ∧ ∀ a, aheadB E G b a = false) ∨ ∃ q h, f b = some (.map (some q)) ∧ base ≤ q ∧ q ≠ m ∧ KMap Tryz.prog 3 (Value.int .i64) w q h ∧ ∀ a, h a = if aheadB E G b a = true then some (.bool true) else none
  apart : ∀ b c q, b ≠ c → f b = some (.map (some q)) → f c ≠ some (.map (some q))
section
variable {w w' : World} {base m : Nat} {E : List (Int × Int)} {G : List Int} {f : Int → Option Value}
theorem AheadM.ext (h : AheadM w base m E G f) (x : Ext w w') : AheadM w' base m E G f :=
  ⟨h.map.ext x, h.low, fun b => by
    rcases h.val b with g | ⟨q, k, g1, g2, g3, g4, g5⟩
    · exact .inl g
    · exact .inr ⟨q, k, g1, g2, g3, g4.ext x, g5⟩, h.apart⟩
theorem aheadB_add {e : Int × Int} {b a : Int} : aheadB (E ++ [e]) G b a = (aheadB E G b a || (decide (G.getD e.1.toNat (-1) = a) && decide (G.getD e.2.toNat (-1) = b) && !decide (a = b))) := by
  unfold aheadB
  rw [List.any_append]
  simp only [List.any_cons, List.any_nil, Bool.or_false]
  rw [Bool.and_or_distrib_right]
theorem zero_mmark (w : World) : (zeroValue 99).run Tryz.prog w = .ok (.map none) w := Tryz.zeroValue99 w
theorem AheadM.look1 (h : AheadM w base m E G f) {b : Int} (hb : 0 ≤ b ∧ b < 1000000) : (Instr.lookup 86 (.map (some m)) (.int .i64 b) false).run Tryz.prog w = .ok ((f b).getD (.map none)) w := by
  obtain ⟨k, hk⟩ := key_int hb
  have := run_kmap_lookup int_keyed64 intV_inj Tryz.underlying86 h.map hk (zero_mmark w) false
  rw [this]; rfl
theorem look_nil (w : World) {a : Int} (ha : 0 ≤ a ∧ a < 1000000) : (Instr.lookup 99 (.map none) (.int .i64 a) false).run Tryz.prog w = .ok (.bool false) w := by
  obtain ⟨k, hk⟩ := key_int ha
  unfold Instr.lookup
  simp [run_underlying Tryz.underlying99, int_keyed64.check w _ hk, Instr.findKey, Instr.findNow, zero_bool, Result.andThen]
theorem AheadM.look2 (h : AheadM w base m E G f) {b a : Int} (hb : 0 ≤ b ∧ b < 1000000) (ha : 0 ≤ a ∧ a < 1000000) : ∃ v, (Instr.lookup 86 (.map (some m)) (.int .i64 b) false).run Tryz.prog w = .ok (.map v) w ∧ (Instr.lookup 99 (.map v) (.int .i64 a) false).run Tryz.prog w = .ok (.bool (aheadB E G b a)) w := by
  have h1 := h.look1 hb
  rcases h.val b with ⟨g1, g2⟩ | ⟨q, k, g1, g2, g3, g4, g5⟩
  · rw [g1] at h1
    exact ⟨none, h1, by rw [g2]; exact look_nil w ha⟩
  · rw [g1] at h1
    refine ⟨some q, h1, ?_⟩
    obtain ⟨l, hl⟩ := key_int ha
    have := run_kmap_lookup int_keyed64 intV_inj Tryz.underlying99 g4 hl (zero_bool w) false
    rw [this, g5]
    cases aheadB E G b a <;> rfl
end
set_option maxRecDepth 100000 in
set_option maxHeartbeats 800000 in
theorem indexfi_oc2 (b c0 : Value) (p : Int → Bool) (v : Value) (l : List Int) (w : World) (n0 : Nat) (h : IntsR w n0 v l) (hF : ∀ n ∈ l, ∀ w1, Ext w w1 → Calls Tryz.prog 68 #[.int .i64 n, b, c0] w1 fun e w' => e = .returned (.bool (p n)) ∧ Ext w1 w') :
    Calls Tryz.prog 65 #[v, .func (.func 68) #[] #[b, c0]] w fun e w' => ∃ r : Int, e = .returned (.int .i64 r) ∧ IdxF p l r ∧ Ext w w' := by
  have HS := hid h
  have HF := hid hF
  obtain ⟨a, cap, rfl, h2, h3, h4, _⟩ := h
  have H4 := hid h4
  have hml : (l.length : Int) ≤ 9223372036854775807 := by omega
  clear h2 h3 h4 hF
  go_enter Tryz.func65, Tryz.ntmps65
  go_wp2
  go_loopw [8] (fun t8 wr => ∃ k : Nat, t8 = .int .i64 (k : Int) ∧ k ≤ l.length ∧ (∀ j t, j < k → l[j]? = some t → p t = false) ∧ Ext w wr) (fun t8 _ => l.length - (intOf t8).toNat)
  case atStart => exact ⟨0, rfl, Nat.zero_le _, fun j t h => by omega, Ext.refl _⟩
  case round =>
    obtain ⟨k, rfl, hk, hne, hx⟩ := hrel
    have Hne := hid hne
    clear hne
    by_cases hlt : k < l.length
    · obtain ⟨y, rfl⟩ := H4.out (by omega)
      have hxk : l[k]? = some (l[k]'hlt) := List.getElem?_eq_getElem hlt
      obtain ⟨t, ht⟩ : ∃ t, t = l[k]'hlt := ⟨_, rfl⟩
      rw [← ht] at hxk
      obtain ⟨a', cap', h1, _, _, _, h5⟩ := HS.out.old (hx.old n0)
      obtain ⟨rfl, rfl⟩ : some y = a' ∧ cap = cap' := by simpa using h1
      have hc := (h5 y rfl (by omega)).2 k hlt t hxk
      have HN := hid (HF.out t (List.mem_of_getElem? hxk) wr hx)
      have Hxk := hid hxk
      have Hx := hid hx
      clear hxk ht h1 h5 hx
      go_wp2_with fail
      refine HN.out.mono ?_
      intro e w1 hx1
      obtain ⟨rfl, hx1⟩ := hx1
      have Hx1 := hid (Hx.out.trans hx1)
      clear HN hx1 Hx hc
      cases he : p t with
      | true =>
        have Hin := hid (show IdxF p l (k : Int) from .inr ⟨k, t, rfl, hlt, Hxk.out, he, Hne.out⟩)
        go_wp2
        go_ret
        exact ⟨(k : Int), rfl, Hin.out, Hx1.out⟩
      | false =>
        have Hf := hid he
        clear he
        go_wp2
        go_roundw
        case rel =>
          refine ⟨k + 1, by go_num, by omega, fun j u hj hu => ?_, Hx1.out⟩
          by_cases hjk : j = k
          · subst hjk
            obtain rfl := Option.some.inj (Hxk.out.symm.trans hu)
            exact Hf.out
          · exact Hne.out j u (by omega) hu
        case measure => simp [intOf]; omega
    · obtain rfl : k = l.length := by omega
      have Hx := hid hx
      clear hx
      have Hnot := hid (show IdxF p l (-1) from .inl ⟨rfl, fun x hx => by
        obtain ⟨j, hj, e2⟩ := List.mem_iff_getElem.1 hx
        exact Hne.out j x hj (by rw [List.getElem?_eq_getElem hj, e2])⟩)
      go_wp2
      go_ret
      exact ⟨(-1 : Int), rfl, Hnot.out, Hx.out⟩
set_option maxRecDepth 100000 in
set_option maxHeartbeats 800000 in
theorem containsfi_oc2 (b c0 : Value) (p : Int → Bool) (v : Value) (l : List Int) (w : World) (n0 : Nat) (h : IntsR w n0 v l) (hF : ∀ n ∈ l, ∀ w1, Ext w w1 → Calls Tryz.prog 68 #[.int .i64 n, b, c0] w1 fun e w' => e = .returned (.bool (p n)) ∧ Ext w1 w') :
    Calls Tryz.prog 67 #[v, .func (.func 68) #[] #[b, c0]] w fun e w' => e = .returned (.bool (l.any p)) ∧ Ext w w' := by
  have H := hid (indexfi_oc2 b c0 p v l w n0 h hF)
  obtain ⟨a, cap, rfl, h2, h3, _⟩ := h
  have hml : (l.length : Int) ≤ 9223372036854775807 := by omega
  clear hF
  go_enter Tryz.func67, Tryz.ntmps67
  go_wp2_with fail
  refine H.out.mono ?_
  intro e w1 hx
  obtain ⟨r, rfl, hr, hx⟩ := hx
  clear H
  rcases hr with ⟨rfl, hr⟩ | ⟨i, x, rfl, hi, hxi, hp, _⟩
  · have Hr := hid (show l.any p = false from List.any_eq_false.2 fun x hx => by rw [hr x hx]; simp)
    clear hr
    go_wp2
    go_ret
    exact ⟨by rw [Hr.out]; rfl, hx⟩
  · have Hr := hid (show l.any p = true from List.any_eq_true.2 ⟨x, List.mem_of_getElem? hxi, hp⟩)
    clear hp hxi
    go_wp2
    go_ret
    exact ⟨by rw [Hr.out]; rfl, hx⟩
set_option maxRecDepth 100000 in
set_option maxHeartbeats 800000 in
theorem indexfi_oc1 (b c0 : Value) (p : Int → Bool) (v : Value) (l : List Int) (w : World) (n0 : Nat) (h : IntsR w n0 v l) (hF : ∀ n ∈ l, ∀ w1, Ext w w1 → Calls Tryz.prog 66 #[.int .i64 n, b, c0] w1 fun e w' => e = .returned (.bool (p n)) ∧ Ext w1 w') :
    Calls Tryz.prog 65 #[v, .func (.func 66) #[] #[b, c0]] w fun e w' => ∃ r : Int, e = .returned (.int .i64 r) ∧ IdxF p l r ∧ Ext w w' := by
  have HS := hid h
  have HF := hid hF
  obtain ⟨a, cap, rfl, h2, h3, h4, _⟩ := h
  have H4 := hid h4
  have hml : (l.length : Int) ≤ 9223372036854775807 := by omega
  clear h2 h3 h4 hF
  go_enter Tryz.func65, Tryz.ntmps65
  go_wp2
  go_loopw [8] (fun t8 wr => ∃ k : Nat, t8 = .int .i64 (k : Int) ∧ k ≤ l.length ∧ (∀ j t, j < k → l[j]? = some t → p t = false) ∧ Ext w wr) (fun t8 _ => l.length - (intOf t8).toNat)
  case atStart => exact ⟨0, rfl, Nat.zero_le _, fun j t h => by omega, Ext.refl _⟩
  case round =>
    obtain ⟨k, rfl, hk, hne, hx⟩ := hrel
    have Hne := hid hne
    clear hne
    by_cases hlt : k < l.length
    · obtain ⟨y, rfl⟩ := H4.out (by omega)
      have hxk : l[k]? = some (l[k]'hlt) := List.getElem?_eq_getElem hlt
      obtain ⟨t, ht⟩ : ∃ t, t = l[k]'hlt := ⟨_, rfl⟩
      rw [← ht] at hxk
      obtain ⟨a', cap', h1, _, _, _, h5⟩ := HS.out.old (hx.old n0)
      obtain ⟨rfl, rfl⟩ : some y = a' ∧ cap = cap' := by simpa using h1
      have hc := (h5 y rfl (by omega)).2 k hlt t hxk
      have HN := hid (HF.out t (List.mem_of_getElem? hxk) wr hx)
      have Hxk := hid hxk
      have Hx := hid hx
      clear hxk ht h1 h5 hx
      go_wp2_with fail
      refine HN.out.mono ?_
      intro e w1 hx1
      obtain ⟨rfl, hx1⟩ := hx1
      have Hx1 := hid (Hx.out.trans hx1)
      clear HN hx1 Hx hc
      cases he : p t with
      | true =>
        have Hin := hid (show IdxF p l (k : Int) from .inr ⟨k, t, rfl, hlt, Hxk.out, he, Hne.out⟩)
        go_wp2
        go_ret
        exact ⟨(k : Int), rfl, Hin.out, Hx1.out⟩
      | false =>
        have Hf := hid he
        clear he
        go_wp2
        go_roundw
        case rel =>
          refine ⟨k + 1, by go_num, by omega, fun j u hj hu => ?_, Hx1.out⟩
          by_cases hjk : j = k
          · subst hjk
            obtain rfl := Option.some.inj (Hxk.out.symm.trans hu)
            exact Hf.out
          · exact Hne.out j u (by omega) hu
        case measure => simp [intOf]; omega
    · obtain rfl : k = l.length := by omega
      have Hx := hid hx
      clear hx
      have Hnot := hid (show IdxF p l (-1) from .inl ⟨rfl, fun x hx => by
        obtain ⟨j, hj, e2⟩ := List.mem_iff_getElem.1 hx
        exact Hne.out j x hj (by rw [List.getElem?_eq_getElem hj, e2])⟩)
      go_wp2
      go_ret
      exact ⟨(-1 : Int), rfl, Hnot.out, Hx.out⟩
set_option maxRecDepth 100000 in
set_option maxHeartbeats 800000 in
theorem orderc2_any (gA gb m base : Nat) (E : List (Int × Int)) (G : List Int) (f : Int → Option Value) (a b : Int) (w : World) (hA : Blk w gA #[.map (some m)] 86) (hb : Blk w gb #[.int .i64 b] 3) (hM : AheadM w base m E G f) (hb0 : 0 ≤ b ∧ b < 1000000) (ha0 : 0 ≤ a ∧ a < 1000000) :
    Calls Tryz.prog 68 #[.int .i64 a, .pointer (some ⟨gA, 0, none⟩), .pointer (some ⟨gb, 0, none⟩)] w fun e w' => e = .returned (.bool (aheadB E G b a)) ∧ Ext w w' := by
  obtain ⟨v, q1, q2⟩ := hM.look2 hb0 ha0
  have g0 := hA.av 0 rfl
  have g1 := hb.av 0 rfl
  simp only [qA0, qA1] at g0 g1
  generalize aheadB E G b a = d at *
  clear hA hb hM
  go_enter Tryz.func68, Tryz.ntmps68
  go_wp2
  go_ret
  exact ⟨rfl, Ext.refl _⟩
set_option maxRecDepth 100000 in
set_option maxHeartbeats 800000 in
theorem orderc1_any (gL gA m base : Nat) (E : List (Int × Int)) (G L : List Int) (f : Int → Option Value) (lv : Value) (b : Int) (w : World) (n0 : Nat) (hL : Blk w gL #[lv] 43) (hA : Blk w gA #[.map (some m)] 86) (hM : AheadM w base m E G f) (hv : IntsR w n0 lv L) (hb0 : 0 ≤ b ∧ b < 1000000) (ha0 : ∀ a ∈ L, 0 ≤ a ∧ a < 1000000) :
    Calls Tryz.prog 66 #[.int .i64 b, .pointer (some ⟨gL, 0, none⟩), .pointer (some ⟨gA, 0, none⟩)] w fun e w' => e = .returned (.bool (freeB E G L b)) ∧ Ext w w' := by
  obtain ⟨W, hW⟩ : ∃ W, W = w.alloc (.cells #[.int .i64 b] 3) := ⟨_, rfl⟩
  have hx : Ext w W := by rw [hW]; exact (Ext.refl _).alloc _
  have HX := hid hx
  have hbb : Blk W w.heap.size #[.int .i64 b] 3 := by rw [hW]; exact Blk.new _ _ _
  have HC := hid (containsfi_oc2 (.pointer (some ⟨gA, 0, none⟩)) (.pointer (some ⟨w.heap.size, 0, none⟩)) (fun a => aheadB E G b a) lv L W n0 (hv.old (hx.old n0)) fun a ha w1 x => orderc2_any gA w.heap.size m base E G f a b w1 (hA.ext (hx.trans x)) (hbb.ext x) (hM.ext (hx.trans x)) hb0 (ha0 a ha))
  have g0 := (hL.ext hx).av 0 rfl
  simp only [qA0, qA1] at g0
  rw [hW] at g0
  obtain ⟨al, cl, rfl, _⟩ := hv
  have HW := hid hW
  unfold freeB
  generalize L.any (fun a => aheadB E G b a) = d at *
  clear hL hA hM hbb hx hW ha0
  go_enter Tryz.func66, Tryz.ntmps66
  go_wp2_with fail
  rw [← HW.out]
  refine HC.out.mono ?_
  intro e w1 hx
  obtain ⟨rfl, hx⟩ := hx
  have HX1 := hid (HX.out.trans hx)
  clear HC g0 hx
  go_wp2
  go_ret
  exact ⟨rfl, HX1.out⟩
theorem delete_row (v : Value) (l : List Int) (w : World) (base i : Nat) (h : IRow base w v l) (hl : l.length ≤ 100000) (hi : i < l.length) :
    Calls Tryz.prog 69 #[v, .int .i64 (i : Int), .int .i64 ((i : Int) + 1)] w fun e w' => ∃ g cap, v = .slice (some ⟨g, 0, none⟩) l.length cap ∧ e = .returned (.slice (some ⟨g, 0, none⟩) (l.take i ++ l.drop (i + 1)).length cap) ∧ IRow base w' (.slice (some ⟨g, 0, none⟩) (l.take i ++ l.drop (i + 1)).length cap) (l.take i ++ l.drop (i + 1)) ∧ Keep (fun b => b = g) w w' := by
  rcases h.case with ⟨rfl, rfl⟩ | ⟨g, cap, rfl⟩
  · simp at hi
  · obtain ⟨_, _, h2, h3, cur, hb, _, _⟩ := h.cur
    have hc := cut_len hi
    have hm : maxLen ≤ 9223372036854775807 := by decide
    refine (Tryz.slices_Delete_int g 0 cap i (i + 1) l w h.holds h2 (by omega) (by omega) (by omega)).mono ?_
    rintro e w' ⟨rfl, q, rfl⟩
    obtain ⟨p1, p2⟩ := h.put (q := q) (os := #[]) (ys := l.take i ++ l.drop (i + 1) ++ List.replicate (i + 1 - i) 0) (by rw [List.length_append, List.length_replicate]; omega) (l.take i ++ l.drop (i + 1)).length (List.prefix_append _ _).length_le
    rw [Sort.grow_empty] at p1 p2
    rw [List.take_left] at p1
    have e1 : l.length - (i + 1 - i) = (l.take i ++ l.drop (i + 1)).length := by omega
    exact ⟨g, cap, rfl, by rw [e1], p1, p2⟩
section
variable {E : List (Int × Int)} {n : Nat} {G : List Int}
theorem GrpL.inR (hG : GrpL n E G) (hn : n ≤ 1000) : InR G := fun x hx => by
  obtain ⟨i, hi⟩ := List.getElem?_of_mem hx
  have hin : i < n := by rw [← hG.len]; exact (List.getElem?_eq_some_iff.1 hi).1
  obtain ⟨k, h1, h2, _⟩ := hG.at_ i hin
  rw [hi] at h1
  obtain rfl := Option.some.inj h1
  omega
theorem GrpL.get (hG : GrpL n E G) {x : Int} (h : 0 ≤ x ∧ x < n) : ∃ k : Nat, G[x.toNat]? = some (k : Int) ∧ G.getD x.toNat (-1) = (k : Int) ∧ k < n ∧ x.toNat < n := by
  obtain ⟨k, h1, h2, _⟩ := hG.at_ x.toNat (by omega)
  exact ⟨k, h1, by rw [List.getD_eq_getElem?_getD, h1]; rfl, by omega, by omega⟩
theorem GrpL.reps (hG : GrpL n E G) (hn : n ≤ 1000) : Reps n G (sset G) := ⟨sset_srt G, fun b hb => by
  obtain ⟨i, hi⟩ := List.getElem?_of_mem ((mem_sset (hG.inR hn)).1 hb)
  have hin : i < n := by rw [← hG.len]; exact (List.getElem?_eq_some_iff.1 hi).1
  obtain ⟨k, h1, h2, _⟩ := hG.at_ i hin
  rw [hi] at h1
  obtain rfl := Option.some.inj h1
  exact ⟨k, rfl, by omega, (hG.rep hin hi).2⟩⟩
theorem Reps.small {L : List Int} (h : Reps n G L) (hn : n ≤ 1000) : ∀ a ∈ L, 0 ≤ a ∧ a < 1000000 := fun a ha => by
  obtain ⟨k, rfl, h1, _⟩ := h.rep a ha
  omega
theorem Reps.len {L : List Int} (h : Reps n G L) (hn : n ≤ 1000) : L.length ≤ 1000 := by
  have hs : sset L = L := sset_self h.srt fun x hx => by
    obtain ⟨k, rfl, h1, _⟩ := h.rep x hx
    omega
  rw [← hs]
  unfold sset
  rw [List.length_map]
  exact Nat.le_trans (List.length_filter_le _ _) (by simp)
theorem idx_of {p : Int → Bool} {L : List Int} {r : Int} (h : IdxF p L r) : (r = -1 ∧ L.findIdx? p = none) ∨ ∃ i x, r = ((i : Nat) : Int) ∧ i < L.length ∧ L[i]? = some x ∧ L.findIdx? p = some i := by
  rcases h with ⟨h1, h2⟩ | ⟨i, x, h1, h2, h3, h4, h5⟩
  · exact .inl ⟨h1, List.findIdx?_eq_none_iff.2 h2⟩
  · refine .inr ⟨i, x, h1, h2, h3, List.findIdx?_eq_some_iff_getElem.2 ⟨h2, ?_, fun j hj => ?_⟩⟩
    · rw [List.getElem?_eq_getElem h2] at h3
      rw [Option.some.inj h3]; exact h4
    · simp only [Bool.not_eq_true]
      exact h5 j _ hj (List.getElem?_eq_getElem (by omega))
end
section
variable {w w' : World} {base m : Nat} {E : List (Int × Int)} {G : List Int} {f : Int → Option Value}
theorem AheadM.make (h : AheadM w base m E G f) (hb : base ≤ w.heap.size) {b : Int} (hf : f b = none) {wa : World} (hwa : wa = w.alloc (.map #[] 0)) (hm : KMap Tryz.prog 3 (Value.int .i64) w' m (fun q => if q = b then some (.map (some w.heap.size)) else f q)) (k : Keep (fun q => q = m) wa w') :
    AheadM w' base m E G (fun q => if q = b then some (.map (some w.heap.size)) else f q) := by
  have hx : Ext w wa := by rw [hwa]; exact (Ext.refl _).alloc _
  have hlt := h.map.lt
  refine ⟨hm, h.low, fun c => ?_, fun c d q hcd hc hd => ?_⟩
  · by_cases hcb : c = b
    · subst hcb
      have hno : ∀ a, aheadB E G c a = false := by
        rcases h.val c with g | ⟨q, _, g1, _⟩
        · exact g.2
        · rw [hf] at g1; cases g1
      refine .inr ⟨w.heap.size, fun _ => none, by simp, hb, by omega, ?_, fun a => by rw [hno]; rfl⟩
      exact (show KMap Tryz.prog 3 (Value.int .i64) wa w.heap.size (fun _ => none) by rw [hwa]; exact KMap.new _ _ _ _).keep k (by omega)
    · rcases h.val c with g | ⟨q, hh, g1, g2, g3, g4, g5⟩
      · exact .inl ⟨by simp [hcb, g.1], g.2⟩
      · exact .inr ⟨q, hh, by simp [hcb, g1], g2, g3, (g4.ext hx).keep k g3, g5⟩
  · have hq : ∀ c q, f c = some (.map (some q)) → q < w.heap.size := fun c q hc => by
      rcases h.val c with g | ⟨q', _, g1, _, _, g4, _⟩
      · rw [g.1] at hc; cases hc
      · rw [g1] at hc
        obtain rfl : q' = q := by simpa using hc
        exact g4.lt
    by_cases hcb : c = b
    · rw [if_pos hcb] at hc
      obtain rfl : w.heap.size = q := by simpa using hc
      rw [if_neg (fun e => hcd (hcb.trans e.symm))] at hd
      have := hq d _ hd; omega
    · rw [if_neg hcb] at hc
      by_cases hdb : d = b
      · rw [if_pos hdb] at hd
        obtain rfl : w.heap.size = q := by simpa using hd
        have := hq c _ hc; omega
      · rw [if_neg hdb] at hd
        exact h.apart c d q hcd hc hd
theorem AheadM.skip (h : AheadM w base m E G f) {e : Int × Int} (he : G.getD e.1.toNat (-1) = G.getD e.2.toNat (-1)) : AheadM w base m (E ++ [e]) G f := by
  have hs : ∀ b a, aheadB (E ++ [e]) G b a = aheadB E G b a := fun b a => by
    rw [aheadB_add, he]
    by_cases h1 : G.getD e.2.toNat (-1) = a
    · by_cases h2 : G.getD e.2.toNat (-1) = b
      · rw [← h1, ← h2]; simp
      · rw [decide_eq_false h2]; simp
    · rw [decide_eq_false h1]; simp
  refine ⟨h.map, h.low, fun b => ?_, h.apart⟩
  rcases h.val b with g | ⟨q, hh, g1, g2, g3, g4, g5⟩
  · exact .inl ⟨g.1, fun a => by rw [hs]; exact g.2 a⟩
  · exact .inr ⟨q, hh, g1, g2, g3, g4, fun a => by rw [hs]; exact g5 a⟩
theorem AheadM.put (h : AheadM w base m E G f) {e : Int × Int} {a b : Int} (h1 : G.getD e.1.toNat (-1) = a) (h2 : G.getD e.2.toNat (-1) = b) (hab : a ≠ b) {q : Nat} {hh : Int → Option Value} (hf : f b = some (.map (some q))) (g5 : ∀ c, hh c = if aheadB E G b c = true then some (.bool true) else none)
    (hm : KMap Tryz.prog 3 (Value.int .i64) w' q (fun c => if c = a then some (.bool true) else hh c)) (k : Keep (fun c => c = q) w w') : AheadM w' base m (E ++ [e]) G f := by
  have hqm : q ≠ m := by
    rcases h.val b with g | ⟨q', _, g1, _, g3, _⟩
    · rw [g.1] at hf; cases hf
    · rw [hf] at g1
      obtain rfl : q = q' := by simpa using g1
      exact g3
  refine ⟨h.map.keep k (fun e2 => hqm e2.symm), h.low, fun c => ?_, h.apart⟩
  by_cases hcb : c = b
  · subst hcb
    have hqb : base ≤ q := by
      rcases h.val c with g | ⟨q', _, g1, g2, _⟩
      · rw [g.1] at hf; cases hf
      · rw [hf] at g1
        obtain rfl : q = q' := by simpa using g1
        exact g2
    refine .inr ⟨q, _, hf, hqb, hqm, hm, fun d => ?_⟩
    rw [aheadB_add, h1, h2, g5]
    by_cases hda : d = a
    · subst hda
      simp [hab]
    · have : ¬ a = d := fun e2 => hda e2.symm
      simp [hda, this]
  · have hs : ∀ d, aheadB (E ++ [e]) G c d = aheadB E G c d := fun d => by
      rw [aheadB_add, h2]
      have : ¬ b = c := fun e2 => hcb e2.symm
      simp [this]
    rcases h.val c with g | ⟨q', hh', g1, g2, g3, g4, g6⟩
    · exact .inl ⟨g.1, fun d => by rw [hs]; exact g.2 d⟩
    · refine .inr ⟨q', hh', g1, g2, g3, g4.keep k fun e2 => ?_, fun d => by rw [hs]; exact g6 d⟩
      rw [e2] at g1
      exact h.apart b c q (fun e3 => hcb e3.symm) hf g1
end
def leftL (n : Nat) (G : List Int) (T : List Bool) : List Int := ((List.range n).filter fun k : Nat => decide (G[k]? = some (k : Int)) && !T.getD k false).map fun k : Nat => (k : Int)
def hindB (G : List Int) (T : List Bool) (k : Nat) (e : Int × Int) : Bool := decide (G.getD e.2.toNat (-1) = (k : Int)) && !decide (G.getD e.1.toNat (-1) = (k : Int)) && !T.getD (G.getD e.1.toNat (-1)).toNat false
def candB (E : List (Int × Int)) (G : List Int) (T : List Bool) (k : Nat) : Bool := decide (G[k]? = some (k : Int)) && !T.getD k false && !E.any (hindB G T k)
def NextOk (n : Nat) (E : List (Int × Int)) (G : List Int) (T : List Bool) (kk : Nat) (nx : Int) : Prop :=
  (nx = -1 ∧ ∀ j : Nat, kk ≤ j → j < n → candB E G T j = false) ∨ ∃ m : Nat, nx = (m : Int) ∧ kk ≤ m ∧ m < n ∧ candB E G T m = true ∧ ∀ j : Nat, kk ≤ j → j < m → candB E G T j = false
section
variable {n : Nat} {E : List (Int × Int)} {G : List Int} {T : List Bool}
theorem NextOk.start : NextOk n E G T n (-1) := .inl ⟨rfl, fun j h1 h2 => by omega⟩
theorem NextOk.yes {j : Nat} {nx : Int} (h : NextOk n E G T (j + 1) nx) (hj : j < n) (hc : candB E G T j = true) : NextOk n E G T j (j : Int) :=
  .inr ⟨j, rfl, Nat.le_refl _, hj, hc, fun i h1 h2 => by omega⟩
theorem NextOk.no {j : Nat} {nx : Int} (h : NextOk n E G T (j + 1) nx) (hc : candB E G T j = false) : NextOk n E G T j nx := by
  have hs : ∀ i : Nat, j ≤ i → i = j ∨ j + 1 ≤ i := fun i hi => by omega
  rcases h with ⟨h1, h2⟩ | ⟨m, h1, h2, h3, h4, h5⟩
  · refine .inl ⟨h1, fun i hi hin => ?_⟩
    rcases hs i hi with rfl | g
    · exact hc
    · exact h2 i g hin
  · refine .inr ⟨m, h1, by omega, h3, h4, fun i hi him => ?_⟩
    rcases hs i hi with rfl | g
    · exact hc
    · exact h5 i g him
theorem mem_leftL {b : Int} : b ∈ leftL n G T ↔ ∃ k : Nat, b = (k : Int) ∧ k < n ∧ G[k]? = some (k : Int) ∧ T.getD k false = false := by
  unfold leftL
  rw [List.mem_map]
  constructor
  · rintro ⟨k, hk, rfl⟩
    rw [List.mem_filter, List.mem_range, Bool.and_eq_true, Bool.not_eq_true', decide_eq_true_iff] at hk
    exact ⟨k, rfl, hk.1, hk.2.1, hk.2.2⟩
  · rintro ⟨k, rfl, h1, h2, h3⟩
    exact ⟨k, by rw [List.mem_filter, List.mem_range, Bool.and_eq_true, Bool.not_eq_true', decide_eq_true_iff]; exact ⟨h1, h2, h3⟩, rfl⟩
theorem leftL_srt : Srt (leftL n G T) := by
  have h1 : List.Pairwise (· < ·) ((List.range n).filter fun k : Nat => decide (G[k]? = some (k : Int)) && !T.getD k false) := List.Pairwise.filter _ List.pairwise_lt_range
  have : List.Pairwise (· < ·) (leftL n G T) := by
    unfold leftL
    rw [List.pairwise_map]
    exact h1.imp fun h => by omega
  exact this
theorem leftL_reps : Reps n G (leftL n G T) := ⟨leftL_srt, fun b hb => by
  obtain ⟨k, h1, h2, h3, _⟩ := mem_leftL.1 hb
  exact ⟨k, h1, h2, h3⟩⟩
theorem cand_iff (hE : EIn n E) (hG : GrpL n E G) {j : Nat} (hj : j < n) : candB E G T j = true ↔ (j : Int) ∈ leftL n G T ∧ freeB E G (leftL n G T) (j : Int) = true := by
  unfold candB
  rw [Bool.and_eq_true, Bool.and_eq_true, decide_eq_true_iff, Bool.not_eq_true', Bool.not_eq_true', List.any_eq_false, freeB_iff]
  have hin : (j : Int) ∈ leftL n G T ↔ G[j]? = some (j : Int) ∧ T.getD j false = false := by
    rw [mem_leftL]
    constructor
    · rintro ⟨k, hk, _, h2, h3⟩
      obtain rfl : j = k := by omega
      exact ⟨h2, h3⟩
    · rintro ⟨h1, h2⟩
      exact ⟨j, rfl, hj, h1, h2⟩
  rw [hin]
  refine and_congr Iff.rfl ⟨fun h a ha => ?_, fun h e he hh => ?_⟩
  · cases hb : aheadB E G (j : Int) a with
    | false => rfl
    | true =>
      obtain ⟨hne, e, he, h1, h2⟩ := aheadB_iff.1 hb
      obtain ⟨k, rfl, hk, hgk, hT⟩ := mem_leftL.1 ha
      refine absurd ?_ (h e he)
      unfold hindB
      rw [h1, h2, decide_eq_true rfl, decide_eq_false hne, Int.toNat_natCast, hT]
      rfl
  · unfold hindB at hh
    rw [Bool.and_eq_true, Bool.and_eq_true, decide_eq_true_iff, Bool.not_eq_true', Bool.not_eq_true', decide_eq_false_iff_not] at hh
    obtain ⟨⟨h1, h2⟩, h3⟩ := hh
    obtain ⟨k, q1, q2, q3, q4⟩ := hG.get (hE e he).1
    rw [q2] at h2 h3
    rw [Int.toNat_natCast] at h3
    have hrep := (hG.rep q4 q1).2
    have := h (k : Int) (mem_leftL.2 ⟨k, rfl, q3, hrep, h3⟩)
    rw [aheadB_iff.2 ⟨h2, e, he, q2, h1⟩] at this
    cases this
theorem NextOk.none (hE : EIn n E) (hG : GrpL n E G) (h : NextOk n E G T 0 (-1)) : leftL n G T = [] := by
  rcases Classical.em (leftL n G T = []) with g | g
  · exact g
  · obtain ⟨b, hb, hf⟩ := free_one hE hG leftL_reps g
    obtain ⟨k, rfl, hk, _⟩ := mem_leftL.1 hb
    have hc := (cand_iff hE hG hk).2 ⟨hb, hf⟩
    rcases h with ⟨_, h2⟩ | ⟨m, h1, _⟩
    · rw [h2 k (Nat.zero_le _) hk] at hc; cases hc
    · omega
theorem NextOk.some (hE : EIn n E) (hG : GrpL n E G) (hT : T.length = n) {nx : Int} (h : NextOk n E G T 0 nx) (hx : nx ≠ -1) : ∃ m i : Nat, nx = (m : Int) ∧ m < n ∧ T.getD m false = false ∧ (leftL n G T).findIdx? (freeB E G (leftL n G T)) = Option.some i ∧ i < (leftL n G T).length ∧ (leftL n G T).getD i 0 = (m : Int) ∧ (leftL n G T).take i ++ (leftL n G T).drop (i + 1) = leftL n G (T.set m true) := by
  rcases h with ⟨h1, _⟩ | ⟨m, h1, _, hm, hc, hno⟩
  · exact absurd h1 hx
  · obtain ⟨hmem, hfr⟩ := (cand_iff hE hG hm).1 hc
    obtain ⟨k, hk, hkn, hgk, hTk⟩ := mem_leftL.1 hmem
    obtain rfl : m = k := by omega
    obtain ⟨i, hi⟩ := List.getElem?_of_mem hmem
    obtain ⟨hil, hie⟩ := List.getElem?_eq_some_iff.1 hi
    have hs : List.Pairwise (· < ·) (leftL n G T) := leftL_srt
    refine ⟨m, i, h1, hm, hTk, List.findIdx?_eq_some_iff_getElem.2 ⟨hil, by rw [hie]; exact hfr, fun j hj => ?_⟩, hil, by rw [List.getD_eq_getElem?_getD, hi]; rfl, ?_⟩
    · have hjm : (leftL n G T)[j] ∈ leftL n G T := List.getElem_mem _
      obtain ⟨q, hq, hqn, hgq, hTq⟩ := mem_leftL.1 hjm
      have hlt := List.pairwise_iff_getElem.1 hs j i (by omega) hil hj
      rw [hie, hq] at hlt
      intro hf
      rw [hq] at hf
      have := (cand_iff hE hG hqn).2 ⟨by rw [← hq]; exact hjm, hf⟩
      rw [hno q (Nat.zero_le _) (by omega)] at this
      cases this
    · refine srt_uniq (leftL_reps.cut i).srt leftL_srt fun x => ?_
      rw [cut_mem leftL_srt hi, mem_leftL, mem_leftL]
      constructor
      · rintro ⟨⟨q, rfl, q1, q2, q3⟩, hne⟩
        refine ⟨q, rfl, q1, q2, ?_⟩
        rw [List.getD_eq_getElem?_getD, List.getElem?_set_ne (by omega), ← List.getD_eq_getElem?_getD]
        exact q3
      · rintro ⟨q, rfl, q1, q2, q3⟩
        have hne : m ≠ q := fun e => by
          subst e
          rw [List.getD_eq_getElem?_getD, List.getElem?_set_self (by omega)] at q3
          cases q3
        rw [List.getD_eq_getElem?_getD, List.getElem?_set_ne hne, ← List.getD_eq_getElem?_getD] at q3
        exact ⟨⟨q, rfl, q1, q2, q3⟩, by omega⟩
theorem leftL_all (hG : GrpL n E G) (hn : n ≤ 1000) : leftL n G (List.replicate n false) = sset G := by
  refine srt_uniq leftL_srt (sset_srt G) fun x => ?_
  rw [mem_leftL, mem_sset (hG.inR hn)]
  constructor
  · rintro ⟨k, rfl, h1, h2, _⟩
    exact List.mem_of_getElem? h2
  · intro hx
    obtain ⟨k, rfl, h1, h2⟩ := (hG.reps hn).rep x ((mem_sset (hG.inR hn)).2 hx)
    refine ⟨k, rfl, h1, h2, ?_⟩
    rw [List.getD_eq_getElem?_getD]
    cases h : (List.replicate n false)[k]? with
    | none => rfl
    | some b => exact (List.mem_replicate.1 (List.mem_of_getElem? h)).2
end
end Go.Proofs.YtihdpijgngooaaaGreatDoor
