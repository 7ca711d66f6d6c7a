
/- LinkTicks walked. -/
import Derived.Test.YtcfopaopcbjkeaaDoorLE
import Derived.Test.YtcfopaopcbjkeaaDoorLT
namespace Go.Proofs.YtcfopaopcbjkeaaDoor
set_option linter.unusedSimpArgs false
set_option linter.unusedVariables false
open Go Go.RowKit

set_option maxRecDepth 100000 in
set_option maxHeartbeats 1600000 in
theorem linkTicks_no (many acked ticks : Int) (w : World) (ev : Nat → Value) (he : ErrsC w ev) (hev : ∀ c, c ≠ 0 → ∃ t v, ev c = .iface t v) (hn : many < 0 ∨ 60 < many ∨ ticks < 0 ∨ 40 < ticks) :
    Calls Tryd.prog 4 #[.int .i64 many, .int .i64 acked, .int .i64 ticks] w fun e w' => e = .returned (.bool true) ∧ Ext w w' := by
  have Hn := hid hn
  clear hn
  have HN := hid (linked_any w ev he hev)
  go_enter Tryd.func4, Tryd.ntmps4
  go_wp2_with fail
  refine HN.out.mono ?_
  intro e w1 hx
  obtain ⟨rfl, hx1⟩ := hx
  clear HN
  by_cases h1 : many < 0
  · go_wp2
    go_ret
    exact ⟨rfl, hx1⟩
  by_cases h2 : 60 < many
  · go_wp2
    go_ret
    exact ⟨rfl, hx1⟩
  by_cases h3 : ticks < 0
  · go_wp2
    go_ret
    exact ⟨rfl, hx1⟩
  · have h4 : 40 < ticks := by have := Hn.out; omega
    go_wp2
    go_ret
    exact ⟨rfl, hx1⟩

theorem FRow.get {w : World} {n0 : Nat} {t : Option Nat} {base g n cap : Nat} {e : TypeId} {fs : List FV} (h : FRow w n0 t base e (.slice (some ⟨g, 0, none⟩) n cap) fs) (hn : fs.length = n) {j : Nat} {x : FV} (hx : fs[j]? = some x) :
    w.cell? ⟨g, j * 5, none⟩ = some (.int .u8 (x.f.kind.toNat : Int)) ∧ w.cell? ⟨g, j * 5 + 1, none⟩ = some (.int .i64 x.f.fr) ∧ w.cell? ⟨g, j * 5 + 2, none⟩ = some (.int .i64 x.f.to) ∧ w.cell? ⟨g, j * 5 + 3, none⟩ = some (.int .i64 x.f.seq) ∧ w.cell? ⟨g, j * 5 + 4, none⟩ = some x.v := by
  have hr := h.row
  rw [hn] at hr
  have c : ∀ i v, (FV.cells x)[i]? = some v → i < 5 → w.cell? ⟨g, j * 5 + i, none⟩ = some v := fun i v hv hi => own_get hr _ ((fm_get FV.cells 5 FV.cells_len fs j i x hx hi).trans hv)
  exact ⟨c 0 _ rfl (by omega), c 1 _ rfl (by omega), c 2 _ rfl (by omega), c 3 _ rfl (by omega), c 4 _ rfl (by omega)⟩


set_option maxRecDepth 100000 in
set_option maxHeartbeats 6400000 in
theorem linkTicks_yes (many ticks : Nat) (acked : Int) (w : World) (ev : Nat → Value) (he : ErrsC w ev) (hev : ∀ c, c ≠ 0 → ∃ t v, ev c = .iface t v) (hm : many ≤ 60) (ht : ticks ≤ 40) (ha0 : -9223372036854775808 ≤ acked) (ha1 : acked ≤ 9223372036854775807) :
    Calls Tryd.prog 4 #[.int .i64 (many : Int), .int .i64 acked, .int .i64 (ticks : Int)] w fun e w' => e = .returned (.bool true) ∧ Ext w w' := by
  have He := hid he
  have HN := hid (linked_any w ev he hev)
  go_enter Tryd.func4, Tryd.ntmps4
  go_wp2_with fail
  refine HN.out.mono ?_
  intro e w1 hx
  obtain ⟨rfl, hx1⟩ := hx
  clear HN
  clear he
  have HS := hid (newS_ok 5 0 w1 ev (He.out.ext hx1) w.heap.size none hx1.size (by decide))
  have Hx1 := hid hx1
  clear hx1
  go_wp2_with fail
  refine HS.out.mono ?_
  intro e w2 hx
  obtain ⟨rfl, hS, hx2⟩ := hx
  have HS2 := hid hS
  have Hx2 := hid (Hx1.out.trans hx2)
  obtain ⟨p, hp⟩ : ∃ p, p = w1.heap.size := ⟨_, rfl⟩
  rw [← hp] at HS2 ⊢
  clear HS hS hx2 Hx1 hp
  go_wp2
  go_loopw [10] (fun t10 wr => ∃ (i : Nat) (lv : Value) (ks : List (FV × Int)), t10 = .int .i64 (i : Int) ∧ i ≤ many ∧ SndAt wr w.heap.size none p (tk i) lv ks ∧ Ext w wr) (fun t10 _ => many - (intOf t10).toNat)
  case atStart => exact ⟨0, _, _, rfl, Nat.zero_le _, HS2.out, Hx2.out⟩
  case round =>
    obtain ⟨i, lv, ks, rfl, hi, hS, hx⟩ := hrel
    have HSi := hid hS
    have Hxi := hid hx
    clear HS2 Hx2 hS hx
    by_cases hlt : i < many
    · have HSd := hid (send_good (tk i) 101 [(i : Int), (i : Int)] (some ⟨wr.heap.size, 0, none⟩) 2 (wr.alloc (.cells #[.int .i64 (i : Int), .int .i64 (i : Int)] 3)) w.heap.size none p lv ks (HSi.out.ext ((Ext.refl wr).alloc _)) (ints_new wr [(i : Int), (i : Int)] (fun j => by
        rcases j with _ | _ | j <;> simp <;> omega) (by simp)) (by simp) ev (He.out.ext (Hxi.out.alloc _)) (tk_err i (by omega)) i (tk_ok i (by omega)) (by omega) (Hxi.out.alloc _).size (fun _ h => by cases h))
      have Hx3 := hid (Hxi.out.alloc (.cells #[.int .i64 (i : Int), .int .i64 (i : Int)] 3))
      have HS3 := hid (HSi.out.ext ((Ext.refl wr).alloc (.cells #[.int .i64 (i : Int), .int .i64 (i : Int)] 3)))
      have hfr : (tk i).frame 101 [(i : Int), (i : Int)] = tf i := by rw [tk_eq]; rfl
      rw [hfr] at HSd
      clear hfr
      go_wp2_with fail
      refine HSd.out.mono ?_
      intro e w3 hx
      obtain ⟨v, lv', ks', rfl, hS4, hI, hk⟩ := hx
      obtain ⟨av, cv, rfl⟩ := hI.form
      have HS4 := hid (hS4.ext ((Ext.refl w3).alloc (.cells #[.int .u8 101, .int .i64 5, .int .i64 0, .int .i64 (i : Int), .slice av 2 cv] 34)))
      have Hx4 := hid ((HS3.out.ext_of Hx3.out hk).alloc (.cells #[.int .u8 101, .int .i64 5, .int .i64 0, .int .i64 (i : Int), .slice av 2 cv] 34))
      clear HSd hS4 hI hk HS3 Hx3
      simp only [FV.val, tf]
      go_wp2
      go_roundw
      case rel => exact ⟨i + 1, lv', ks', by go_num, by omega, HS4.out, Hx4.out⟩
      case measure => simp [intOf]; omega
    · obtain rfl : i = many := by omega
      have HA := hid (acked_any (tk i) acked wr w.heap.size none p lv ks HSi.out (tk_ok i (by omega)).len)
      rw [tk_acked] at HA
      go_wp2_with fail
      refine HA.out.mono ?_
      intro e w3 hx
      obtain ⟨rfl, lv', ks', hS, hk⟩ := hx
      have HS := hid hS
      have Hx := hid (HSi.out.ext_of Hxi.out hk)
      have HW := hid (waits_any w3 _ _ _ _ _ _ hS)
      rw [tks_len] at HW
      clear HA hS hk HSi Hxi
      clear hlt hi
      by_cases g1 : 0 < acked
      · by_cases g2 : (i : Int) - acked < 0
        · have hL : i - acked.toNat = 0 := by omega
          have HAL : Hid (0 = 0 ∨ i = acked.toNat + 0) := hid (.inl rfl)
          rw [hL] at HW HS
          clear hL
          go_wp2_with fail
          refine HW.out.mono ?_
          intro e w4 hx
          obtain ⟨rfl, rfl⟩ := hx
          clear HW
          go_wp2
          go_loopw [14] (fun t14 wr => ∃ (k : Nat) (lv : Value) (ks : List (FV × Int)), t14 = .int .i64 ((k : Int) + 1) ∧ k ≤ ticks ∧ SndAt wr w.heap.size none p (tks i acked.toNat 0 k) lv ks ∧ Ext w wr) (fun t14 _ => ticks + 1 - (intOf t14).toNat)
          case atStart => exact ⟨0, _, _, by go_num, Nat.zero_le _, HS.out, Hx.out⟩
          case round =>
            clear HS Hx
            obtain ⟨k, lv2, ks2, rfl, hk, hS, hx⟩ := hrel
            have HSk := hid hS
            have Hxk := hid hx
            by_cases hkt : k < ticks
            · have HT := hid (tick_any (tks i acked.toNat 0 k) 1000 (tks_ok i acked.toNat 0 k (by omega) (by omega) (by omega)) (by omega) _ w.heap.size none p lv2 ks2 hS hx.size (fun _ h => by cases h) (fun x hx => tks_nums i acked.toNat 0 k (x.1.f, x.2) (by rw [hS.eq]; exact List.mem_map.2 ⟨x, hx, rfl⟩)))
              rw [tks_tick, tks_again] at HT
              clear hS hx
              go_wp2_with fail
              refine HT.out.mono ?_
              intro e w5 hx
              obtain ⟨ov, outs, ks3, rfl, hS3, hF, hO, hk3⟩ := hx
              have HS3 := hid hS3
              have Hx3 := hid (HSk.out.ext_of Hxk.out hk3)
              obtain ⟨ao, co, rfl⟩ := hF.form
              have HF := hid hF
              clear HT hS3 hF hk3 HSk Hxk
              by_cases h3 : (k + 1) % 3 = 0
              · rw [if_pos h3] at hO
                have hol : outs.length = 0 := by have := congrArg List.length hO; simpa using this
                have hm3 : (((k : Int) + 1) % 3 == 0) = true := beq_iff_eq.2 (by omega)
                have Hol := hid hol
                have HO := hid hO
                rw [hol]
                clear h3 hO hol
                go_wp2
                clear hm3
                go_loop [17] (fun t17 => ∃ j : Nat, t17 = .int .i64 (j : Int) ∧ j ≤ 0) (fun t17 => 0 - (intOf t17).toNat)
                case atStart => exact ⟨0, rfl, Nat.zero_le _⟩
                case round =>
                  obtain ⟨j, rfl, hj⟩ := hrel
                  by_cases hjl : j < 0
                  · have hjo : j < outs.length := by have := Hol.out; omega
                    have hxj : outs[j]? = some (outs[j]'hjo) := List.getElem?_eq_getElem hjo
                    have hfj : (outs[j]'hjo).f = tf (acked.toNat + j) := by
                      have h1 := congrArg (fun l => l[j]?) HO.out
                      simp only [List.getElem?_map, hxj, Option.map_some] at h1
                      rw [List.getElem?_range' (by omega)] at h1
                      simpa using h1
                    obtain ⟨g, cp, he⟩ := own_some HF.out.row (by omega)
                    simp only [Value.slice.injEq, true_and] at he
                    obtain ⟨rfl, rfl⟩ := he
                    obtain ⟨z0, z1, z2, z3, z4⟩ := HF.out.get rfl hxj
                    clear z1 z2 z4
                    rw [hfj] at z0 z3
                    have hsq : (tf (acked.toNat + j)).seq = (i : Int) - (0 : Nat) + (j : Int) := by
                      have := HAL.out
                      show ((acked.toNat + j : Nat) : Int) = _
                      omega
                    have hkd : ((tf (acked.toNat + j)).kind.toNat : Int) = 101 := rfl
                    rw [hsq] at z3
                    rw [hkd] at z0
                    clear hsq hkd hfj hxj hjo
                    go_wp2
                    first
                      | done
                      | (go_round
                         case rel => exact ⟨j + 1, by go_num, by omega⟩
                         case measure => simp [intOf]; omega)
                  · obtain rfl : j = 0 := by omega
                    go_wp2
                    go_roundw
                    case rel => exact ⟨k + 1, lv2, ks3, by go_num, by omega, HS3.out, Hx3.out⟩
                    case measure => simp [intOf]; omega
              · rw [if_neg h3] at hO
                have hol : outs.length = 0 := by have := congrArg List.length hO; simpa using this
                have hm3 : (((k : Int) + 1) % 3 == 0) = false := beq_eq_false_iff_ne.2 (by omega)
                rw [hol]
                clear h3 hO hol
                go_wp2
                clear hm3
                go_loop [17] (fun t17 => t17 = .int .i64 0) (fun t17 => 0)
                case atStart => rfl
                case round =>
                  obtain rfl := hrel
                  go_wp2
                  go_roundw
                  case rel => exact ⟨k + 1, lv2, ks3, by go_num, by omega, HS3.out, Hx3.out⟩
                  case measure => simp [intOf]; omega
            · obtain rfl : k = ticks := by omega
              have HW := hid (waits_any _ _ _ _ _ _ _ hS)
              rw [tks_len] at HW
              clear hS hx
              go_wp2_with fail
              refine HW.out.mono ?_
              intro e w5 hx
              obtain ⟨rfl, rfl⟩ := hx
              go_wp2
              go_ret
              exact ⟨rfl, Hxk.out⟩
        · obtain ⟨L, hL⟩ : ∃ L, L = i - acked.toNat := ⟨_, rfl⟩
          rw [← hL] at HW HS
          have hE : (i : Int) - acked = (L : Int) := by omega
          have HAL : Hid (L = 0 ∨ i = acked.toNat + L) := hid (.inr (by omega))
          have hL6 : L ≤ 60 := by omega
          clear hL
          go_wp2_with fail
          refine HW.out.mono ?_
          intro e w4 hx
          obtain ⟨rfl, rfl⟩ := hx
          clear HW
          go_wp2
          go_loopw [14] (fun t14 wr => ∃ (k : Nat) (lv : Value) (ks : List (FV × Int)), t14 = .int .i64 ((k : Int) + 1) ∧ k ≤ ticks ∧ SndAt wr w.heap.size none p (tks i acked.toNat L k) lv ks ∧ Ext w wr) (fun t14 _ => ticks + 1 - (intOf t14).toNat)
          case atStart => exact ⟨0, _, _, by go_num, Nat.zero_le _, HS.out, Hx.out⟩
          case round =>
            clear HS Hx
            obtain ⟨k, lv2, ks2, rfl, hk, hS, hx⟩ := hrel
            have HSk := hid hS
            have Hxk := hid hx
            by_cases hkt : k < ticks
            · have HT := hid (tick_any (tks i acked.toNat L k) 1000 (tks_ok i acked.toNat L k (by omega) (by omega) (by omega)) (by omega) _ w.heap.size none p lv2 ks2 hS hx.size (fun _ h => by cases h) (fun x hx => tks_nums i acked.toNat L k (x.1.f, x.2) (by rw [hS.eq]; exact List.mem_map.2 ⟨x, hx, rfl⟩)))
              rw [tks_tick, tks_again] at HT
              clear hS hx
              go_wp2_with fail
              refine HT.out.mono ?_
              intro e w5 hx
              obtain ⟨ov, outs, ks3, rfl, hS3, hF, hO, hk3⟩ := hx
              have HS3 := hid hS3
              have Hx3 := hid (HSk.out.ext_of Hxk.out hk3)
              obtain ⟨ao, co, rfl⟩ := hF.form
              have HF := hid hF
              clear HT hS3 hF hk3 HSk Hxk
              by_cases h3 : (k + 1) % 3 = 0
              · rw [if_pos h3] at hO
                have hol : outs.length = L := by have := congrArg List.length hO; simpa using this
                have hm3 : (((k : Int) + 1) % 3 == 0) = true := beq_iff_eq.2 (by omega)
                have Hol := hid hol
                have HO := hid hO
                rw [hol]
                clear h3 hO hol
                go_wp2
                clear hm3
                go_loop [17] (fun t17 => ∃ j : Nat, t17 = .int .i64 (j : Int) ∧ j ≤ L) (fun t17 => L - (intOf t17).toNat)
                case atStart => exact ⟨0, rfl, Nat.zero_le _⟩
                case round =>
                  obtain ⟨j, rfl, hj⟩ := hrel
                  by_cases hjl : j < L
                  · have hjo : j < outs.length := by have := Hol.out; omega
                    have hxj : outs[j]? = some (outs[j]'hjo) := List.getElem?_eq_getElem hjo
                    have hfj : (outs[j]'hjo).f = tf (acked.toNat + j) := by
                      have h1 := congrArg (fun l => l[j]?) HO.out
                      simp only [List.getElem?_map, hxj, Option.map_some] at h1
                      rw [List.getElem?_range' (by omega)] at h1
                      simpa using h1
                    obtain ⟨g, cp, he⟩ := own_some HF.out.row (by omega)
                    simp only [Value.slice.injEq, true_and] at he
                    obtain ⟨rfl, rfl⟩ := he
                    obtain ⟨z0, z1, z2, z3, z4⟩ := HF.out.get rfl hxj
                    clear z1 z2 z4
                    rw [hfj] at z0 z3
                    have hsq : (tf (acked.toNat + j)).seq = (i : Int) - (L : Nat) + (j : Int) := by
                      have := HAL.out
                      show ((acked.toNat + j : Nat) : Int) = _
                      omega
                    have hkd : ((tf (acked.toNat + j)).kind.toNat : Int) = 101 := rfl
                    rw [hsq] at z3
                    rw [hkd] at z0
                    clear hsq hkd hfj hxj hjo
                    go_wp2
                    first
                      | done
                      | (go_round
                         case rel => exact ⟨j + 1, by go_num, by omega⟩
                         case measure => simp [intOf]; omega)
                  · obtain rfl : j = L := by omega
                    go_wp2
                    go_roundw
                    case rel => exact ⟨k + 1, lv2, ks3, by go_num, by omega, HS3.out, Hx3.out⟩
                    case measure => simp [intOf]; omega
              · rw [if_neg h3] at hO
                have hol : outs.length = 0 := by have := congrArg List.length hO; simpa using this
                have hm3 : (((k : Int) + 1) % 3 == 0) = false := beq_eq_false_iff_ne.2 (by omega)
                rw [hol]
                clear h3 hO hol
                go_wp2
                clear hm3
                go_loop [17] (fun t17 => t17 = .int .i64 0) (fun t17 => 0)
                case atStart => rfl
                case round =>
                  obtain rfl := hrel
                  go_wp2
                  go_roundw
                  case rel => exact ⟨k + 1, lv2, ks3, by go_num, by omega, HS3.out, Hx3.out⟩
                  case measure => simp [intOf]; omega
            · obtain rfl : k = ticks := by omega
              have HW := hid (waits_any _ _ _ _ _ _ _ hS)
              rw [tks_len] at HW
              clear hS hx
              go_wp2_with fail
              refine HW.out.mono ?_
              intro e w5 hx
              obtain ⟨rfl, rfl⟩ := hx
              go_wp2
              go_ret
              exact ⟨rfl, Hxk.out⟩
      · have hL : i - acked.toNat = i := by omega
        have HAL : Hid (i = 0 ∨ i = acked.toNat + i) := hid (.inr (by omega))
        rw [hL] at HW HS
        clear hL
        go_wp2_with fail
        refine HW.out.mono ?_
        intro e w4 hx
        obtain ⟨rfl, rfl⟩ := hx
        clear HW
        go_wp2
        go_loopw [14] (fun t14 wr => ∃ (k : Nat) (lv : Value) (ks : List (FV × Int)), t14 = .int .i64 ((k : Int) + 1) ∧ k ≤ ticks ∧ SndAt wr w.heap.size none p (tks i acked.toNat i k) lv ks ∧ Ext w wr) (fun t14 _ => ticks + 1 - (intOf t14).toNat)
        case atStart => exact ⟨0, _, _, by go_num, Nat.zero_le _, HS.out, Hx.out⟩
        case round =>
          clear HS Hx
          obtain ⟨k, lv2, ks2, rfl, hk, hS, hx⟩ := hrel
          have HSk := hid hS
          have Hxk := hid hx
          by_cases hkt : k < ticks
          · have HT := hid (tick_any (tks i acked.toNat i k) 1000 (tks_ok i acked.toNat i k (by omega) (by omega) (by omega)) (by omega) _ w.heap.size none p lv2 ks2 hS hx.size (fun _ h => by cases h) (fun x hx => tks_nums i acked.toNat i k (x.1.f, x.2) (by rw [hS.eq]; exact List.mem_map.2 ⟨x, hx, rfl⟩)))
            rw [tks_tick, tks_again] at HT
            clear hS hx
            go_wp2_with fail
            refine HT.out.mono ?_
            intro e w5 hx
            obtain ⟨ov, outs, ks3, rfl, hS3, hF, hO, hk3⟩ := hx
            have HS3 := hid hS3
            have Hx3 := hid (HSk.out.ext_of Hxk.out hk3)
            obtain ⟨ao, co, rfl⟩ := hF.form
            have HF := hid hF
            clear HT hS3 hF hk3 HSk Hxk
            by_cases h3 : (k + 1) % 3 = 0
            · rw [if_pos h3] at hO
              have hol : outs.length = i := by have := congrArg List.length hO; simpa using this
              have hm3 : (((k : Int) + 1) % 3 == 0) = true := beq_iff_eq.2 (by omega)
              have Hol := hid hol
              have HO := hid hO
              rw [hol]
              clear h3 hO hol
              go_wp2
              clear hm3
              go_loop [17] (fun t17 => ∃ j : Nat, t17 = .int .i64 (j : Int) ∧ j ≤ i) (fun t17 => i - (intOf t17).toNat)
              case atStart => exact ⟨0, rfl, Nat.zero_le _⟩
              case round =>
                obtain ⟨j, rfl, hj⟩ := hrel
                by_cases hjl : j < i
                · have hjo : j < outs.length := by have := Hol.out; omega
                  have hxj : outs[j]? = some (outs[j]'hjo) := List.getElem?_eq_getElem hjo
                  have hfj : (outs[j]'hjo).f = tf (acked.toNat + j) := by
                    have h1 := congrArg (fun l => l[j]?) HO.out
                    simp only [List.getElem?_map, hxj, Option.map_some] at h1
                    rw [List.getElem?_range' (by omega)] at h1
                    simpa using h1
                  obtain ⟨g, cp, he⟩ := own_some HF.out.row (by omega)
                  simp only [Value.slice.injEq, true_and] at he
                  obtain ⟨rfl, rfl⟩ := he
                  obtain ⟨z0, z1, z2, z3, z4⟩ := HF.out.get rfl hxj
                  clear z1 z2 z4
                  rw [hfj] at z0 z3
                  have hsq : (tf (acked.toNat + j)).seq = (i : Int) - (i : Nat) + (j : Int) := by
                    have := HAL.out
                    show ((acked.toNat + j : Nat) : Int) = _
                    omega
                  have hkd : ((tf (acked.toNat + j)).kind.toNat : Int) = 101 := rfl
                  rw [hsq] at z3
                  rw [hkd] at z0
                  clear hsq hkd hfj hxj hjo
                  go_wp2
                  first
                    | done
                    | (go_round
                       case rel => exact ⟨j + 1, by go_num, by omega⟩
                       case measure => simp [intOf]; omega)
                · obtain rfl : j = i := by omega
                  go_wp2
                  go_roundw
                  case rel => exact ⟨k + 1, lv2, ks3, by go_num, by omega, HS3.out, Hx3.out⟩
                  case measure => simp [intOf]; omega
            · rw [if_neg h3] at hO
              have hol : outs.length = 0 := by have := congrArg List.length hO; simpa using this
              have hm3 : (((k : Int) + 1) % 3 == 0) = false := beq_eq_false_iff_ne.2 (by omega)
              rw [hol]
              clear h3 hO hol
              go_wp2
              clear hm3
              go_loop [17] (fun t17 => t17 = .int .i64 0) (fun t17 => 0)
              case atStart => rfl
              case round =>
                obtain rfl := hrel
                go_wp2
                go_roundw
                case rel => exact ⟨k + 1, lv2, ks3, by go_num, by omega, HS3.out, Hx3.out⟩
                case measure => simp [intOf]; omega
          · obtain rfl : k = ticks := by omega
            have HW := hid (waits_any _ _ _ _ _ _ _ hS)
            rw [tks_len] at HW
            clear hS hx
            go_wp2_with fail
            refine HW.out.mono ?_
            intro e w5 hx
            obtain ⟨rfl, rfl⟩ := hx
            go_wp2
            go_ret
            exact ⟨rfl, Hxk.out⟩

/-- The walk: whatever the numbers. -/
theorem linkTicks_any (many acked ticks : Int) (w : World) (ev : Nat → Value) (he : ErrsC w ev) (hev : ∀ c, c ≠ 0 → ∃ t v, ev c = .iface t v) (ha0 : -9223372036854775808 ≤ acked) (ha1 : acked ≤ 9223372036854775807) :
    Calls Tryd.prog 4 #[.int .i64 many, .int .i64 acked, .int .i64 ticks] w fun e w' => e = .returned (.bool true) ∧ Ext w w' := by
  by_cases hn : many < 0 ∨ 60 < many ∨ ticks < 0 ∨ 40 < ticks
  · exact linkTicks_no many acked ticks w ev he hev hn
  · obtain ⟨m, rfl⟩ : ∃ m : Nat, many = (m : Int) := ⟨many.toNat, by omega⟩
    obtain ⟨k, rfl⟩ : ∃ k : Nat, ticks = (k : Int) := ⟨ticks.toNat, by omega⟩
    exact linkTicks_yes m k acked w ev he hev (by omega) (by omega) ha0 ha1
end Go.Proofs.YtcfopaopcbjkeaaDoor
