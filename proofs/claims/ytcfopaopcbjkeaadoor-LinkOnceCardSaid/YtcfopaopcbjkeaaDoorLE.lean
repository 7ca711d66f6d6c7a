
/- Links: the law's own trial. -/
import Derived.Test.YtcfopaopcbjkeaaDoorLD
namespace Go.Proofs.YtcfopaopcbjkeaaDoor
set_option linter.unusedSimpArgs false
set_option linter.unusedVariables false
open Go Go.RowKit

theorem ints_new (w : World) (vs : List Int) (hi : ∀ i, vs.getD i 0 ≤ 9223372036854775807) (hl : vs.length ≤ 1000) : Ints (w.alloc (.cells (icells vs).toArray 3)) (some ⟨w.heap.size, 0, none⟩) vs.length vs := by
  have h : IRow w.heap.size (w.alloc (.cells (icells vs).toArray 3)) (.slice (some ⟨w.heap.size, 0, none⟩) vs.length vs.length) vs :=
    own_of_blk (Blk.new _ _ _) (Nat.le_refl _) (Nat.le_refl _) (by unfold maxLen; omega) (by simp [icells]) (by rw [List.toList_toArray, Nat.mul_one, List.take_of_length_le (by simp [icells])])
  exact h.ints hi

set_option maxRecDepth 100000 in
set_option maxHeartbeats 3200000 in
theorem linked_any (w : World) (ev : Nat → Value) (he : ErrsC w ev) (hev : ∀ c, c ≠ 0 → ∃ t v, ev c = .iface t v) : Calls Tryd.prog 8 #[] w fun e w' => e = .returned (.bool true) ∧ Ext w w' := by
  have HN := hid (newS_ok 0 1 w ev he w.heap.size none (Nat.le_refl _) (by decide))
  have He := hid he
  clear he
  go_enter Tryd.func8, Tryd.ntmps8
  go_wp2_with fail
  refine HN.out.mono ?_
  intro e w1 hx
  obtain ⟨rfl, hS, hx1⟩ := hx
  have HR := hid (newR_ok 0 1 w1 ev (He.out.ext hx1) w.heap.size none hx1.size (by decide))
  have HS := hid hS
  have Hx1 := hid hx1
  clear HN hS hx1
  obtain ⟨p, hp⟩ : ∃ p, p = w.heap.size := ⟨_, rfl⟩
  have HS2 : Hid (SndAt w1 w.heap.size none p (Snd.new 0 1) (.slice none 0 0) []) := hid (by rw [hp]; exact HS.out)
  rw [← hp]
  have Hp := hid hp
  clear hp HS
  go_wp2_with fail
  refine HR.out.mono ?_
  intro e w2 hx
  obtain ⟨q, b, rfl, hR, hx2, hq, hb⟩ := hx
  have hS2 := HS2.out.ext (hx2.alloc (.cells #[.int .i64 5] 3))
  have hR2 := hR.ext ((Ext.refl w2).alloc (.cells #[.int .i64 5] 3))
  have hx3 := (Hx1.out.trans hx2).alloc (.cells #[.int .i64 5] 3)
  have HSd := hid (send_good (Snd.new 0 1) 100 [5] (some ⟨w2.heap.size, 0, none⟩) 1 (w2.alloc (.cells #[.int .i64 5] 3)) w.heap.size none p (.slice none 0 0) [] hS2 (ints_new w2 [5] (fun i => by
    rcases i with _ | i <;> simp) (by simp)) (by simp) ev (He.out.ext hx3) (by decide) 0 (Snd.Ok.new 0 1) (by omega) hx3.size (fun _ h => by cases h))
  have HR2 := hid hR2
  have Hx3 := hid hx3
  have HS3 := hid hS2
  clear HR hR hx2 hq hb hS2 hR2 hx3 HS2 Hx1
  go_wp2_with fail
  refine HSd.out.mono ?_
  intro e w3 hx
  obtain ⟨v, lv, ks, rfl, hS4, hI, hk⟩ := hx
  obtain ⟨av, cv, rfl⟩ := hI.form
  have hR4 := RcvAt.beside HS3.out HR2.out hk
  have hx4 := HS3.out.ext_of Hx3.out hk
  have hx5 := hx4.alloc (.cells #[.int .u8 100, .int .i64 0, .int .i64 1, .int .i64 0, .slice av 1 cv] 34)
  have hR5 := hR4.ext ((Ext.refl w3).alloc (.cells #[.int .u8 100, .int .i64 0, .int .i64 1, .int .i64 0, .slice av 1 cv] 34))
  have hS5 := hS4.ext ((Ext.refl w3).alloc (.cells #[.int .u8 100, .int .i64 0, .int .i64 1, .int .i64 0, .slice av 1 cv] 34))
  have hI5 := (hI.ext ((Ext.refl w3).alloc (.cells #[.int .u8 100, .int .i64 0, .int .i64 1, .int .i64 0, .slice av 1 cv] 34))).ints (fun i => by rcases i with _ | i <;> simp)
  have HT := hid (take_any (Rcv.new 0 1) ⟨100, 0, 1, 0, [5]⟩ av cv _ w.heap.size none q b [] hR5 hI5 (by simp) ev (He.out.ext hx5) hev (by decide) (by decide) hx5.size (fun _ h => by cases h) (by decide) (fun _ h => by cases h))
  have HS5 := hid hS5
  have HR5 := hid hR5
  have Hx5 := hid hx5
  clear HSd hS4 hI hk hR4 hx4 hx5 hR5 hS5 hI5 HS3 HR2 Hx3
  simp only [FV.val, Snd.frame, Snd.new]
  go_wp2_with fail
  refine HT.out.mono ?_
  intro e w4 hx
  obtain ⟨ov, outs, ms, rfl, hR6, hF6, hO, hk6⟩ := hx
  have hlen : outs.length = 1 := by have := congrArg List.length hO; rw [List.length_map] at this; exact this.trans rfl
  obtain ⟨ao, co, rfl⟩ := hF6.form
  rw [hlen]
  have HW := hid (waits_any w4 _ _ _ _ _ _ (SndAt.beside HS5.out HR5.out hk6))
  have HD := hid (due_any w4 _ _ _ _ _ _ hR6)
  have Hx6 := hid (HR5.out.ext_of Hx5.out hk6)
  have hE : errv ev ((Rcv.new 0 1).err ⟨100, 0, 1, 0, [5]⟩) = .nilIface := rfl
  rw [hE]
  clear HT hR6 hF6 hO hk6 hlen HS5 HR5 Hx5 hE
  have e1 : ((Rcv.new 0 1).take ⟨100, 0, 1, 0, [5]⟩).2.due = 1 := rfl
  have e2 : ((((Snd.new 0 1).sent 100 [5]).l.length : Nat) : Int) = 1 := rfl
  rw [e1] at HD
  rw [e2] at HW
  clear e1 e2
  go_wp2_with fail
  refine HD.out.mono ?_
  intro e w5 hx
  obtain ⟨rfl, rfl⟩ := hx
  go_wp2_with fail
  refine HW.out.mono ?_
  intro e w5 hx
  obtain ⟨rfl, rfl⟩ := hx
  go_wp2
  go_ret
  exact ⟨rfl, Hx6.out⟩
end Go.Proofs.YtcfopaopcbjkeaaDoor
