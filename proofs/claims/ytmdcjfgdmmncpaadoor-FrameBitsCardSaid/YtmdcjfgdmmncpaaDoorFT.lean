/- The reference's text of a frame is walked. -/
import Derived.Test.YtmdcjfgdmmncpaaDoorFB
namespace Go.Proofs.YtmdcjfgdmmncpaaDoor
set_option linter.unusedSimpArgs false
set_option linter.unusedVariables false
open Go Go.RowKit

theorem refhigh_arg {k : Nat} {x : Int} (hx : (k : Int) = x) (hk : k ≤ 4294967295) (w : World) : Calls Tryd.prog 78 #[.int .i64 x] w fun e w' => e = .returned (.string ⟨(high4 k).toArray⟩) ∧ Ext w w' := by
  subst hx; exact refhigh_any k hk w

set_option maxRecDepth 100000 in
set_option maxHeartbeats 3200000 in
theorem reftext_any (f : Fr) (a : Option Addr) (cap : Nat) (w : World) (hr : Ints w a f.nums.length f.nums) (hc : f.code = 0) :
    Calls Tryd.prog 40 #[frv f a cap] w fun e w' => e = .returned (.string ⟨f.text.toArray⟩) ∧ Ext w w' := by
  have Hr := hid hr
  obtain ⟨z1, ⟨z2, z3⟩, ⟨z4, z5⟩, ⟨z6, z7⟩, z8, z9, z10⟩ := Fr.code_zero hc
  obtain ⟨kind, fr, to, seq, nums⟩ := f
  simp only at *
  obtain ⟨fn, rfl⟩ := Int.eq_ofNat_of_zero_le z2
  obtain ⟨tn, rfl⟩ := Int.eq_ofNat_of_zero_le z4
  obtain ⟨sn, rfl⟩ := Int.eq_ofNat_of_zero_le z6
  have Hfar := hid z8
  have hkb := byte_lt kind
  have B1 := fun w => hid (byte_any kind.toNat w (by omega))
  have B2 := fun w => hid (byte_any fn w (by omega))
  have B3 := fun w => hid (byte_any tn w (by omega))
  have B4 := fun w => hid (refhigh_any sn (by omega) w)
  have B5 := fun w => hid (byte_any nums.length w (by omega))
  rw [ofNat_byte] at B1
  unfold frv
  simp only
  clear hr hc z1 z2 z4 z6 z8 z9
  obtain ⟨W, hW⟩ : ∃ W, W = w.alloc (Obj.cells #[Value.int .u8 (kind.toNat : Int), .int .i64 fn, .int .i64 tn, .int .i64 sn, .slice a nums.length cap] 24) := ⟨_, rfl⟩
  have xW : Ext w W := by rw [hW]; exact (Ext.refl w).alloc _
  have bW : Blk W w.heap.size #[Value.int .u8 (kind.toNat : Int), .int .i64 fn, .int .i64 tn, .int .i64 sn, .slice a nums.length cap] 24 := by rw [hW]; exact Blk.new _ _ _
  have HW := hid hW
  clear hW
  have d0 := bW.kc (X := fun _ => False) (fun e => e) 0 rfl
  have d1 := bW.kc (X := fun _ => False) (fun e => e) 1 rfl
  have d2 := bW.kc (X := fun _ => False) (fun e => e) 2 rfl
  have d3 := bW.kc (X := fun _ => False) (fun e => e) 3 rfl
  have d4 := bW.kc (X := fun _ => False) (fun e => e) 4 rfl
  go_enter Tryd.func40, Tryd.ntmps40
  go_wp2
  rw [← HW.out]
  refine wp_flowT (fun _ => False) (by kernel_rfl) (by kernel_rfl) ?_
  repeat (apply FlowT.d; (intro w1 hk; unfold does; go_simp; (try go_ints); (first | exact DetR.mk | (simp only [↓IntWalk.iteOmega, Oper.doesUpon_value]; exact DetR.mk) | (simp only [↓IntWalk.iteOmega]; go_simp; (try go_ints); exact DetR.mk))); simp only [Act.put, List.setIfInBounds_toArray, List.set_cons_zero, List.set_cons_succ])
  apply FlowT.d
  · intro w1 hk
    unfold does
    go_simp
    exact CallR.det ((B1 w1).out)
  simp only [Act.put, List.setIfInBounds_toArray, List.set_cons_zero, List.set_cons_succ]
  repeat (apply FlowT.d; (intro w1 hk; unfold does; go_simp; (try go_ints); (first | exact DetR.mk | (simp only [↓IntWalk.iteOmega, Oper.doesUpon_value]; exact DetR.mk) | (simp only [↓IntWalk.iteOmega]; go_simp; (try go_ints); exact DetR.mk))); simp only [Act.put, List.setIfInBounds_toArray, List.set_cons_zero, List.set_cons_succ])
  apply FlowT.d
  · intro w1 hk
    unfold does
    go_simp
    exact CallR.det ((B2 w1).out)
  simp only [Act.put, List.setIfInBounds_toArray, List.set_cons_zero, List.set_cons_succ]
  repeat (apply FlowT.d; (intro w1 hk; unfold does; go_simp; (try go_ints); (first | exact DetR.mk | (simp only [↓IntWalk.iteOmega, Oper.doesUpon_value]; exact DetR.mk) | (simp only [↓IntWalk.iteOmega]; go_simp; (try go_ints); exact DetR.mk))); simp only [Act.put, List.setIfInBounds_toArray, List.set_cons_zero, List.set_cons_succ])
  apply FlowT.d
  · intro w1 hk
    unfold does
    go_simp
    exact CallR.det ((B3 w1).out)
  simp only [Act.put, List.setIfInBounds_toArray, List.set_cons_zero, List.set_cons_succ]
  repeat (apply FlowT.d; (intro w1 hk; unfold does; go_simp; (try go_ints); (first | exact DetR.mk | (simp only [↓IntWalk.iteOmega, Oper.doesUpon_value]; exact DetR.mk) | (simp only [↓IntWalk.iteOmega]; go_simp; (try go_ints); exact DetR.mk))); simp only [Act.put, List.setIfInBounds_toArray, List.set_cons_zero, List.set_cons_succ])
  apply FlowT.d
  · intro w1 hk
    unfold does
    go_simp
    exact CallR.det ((B4 w1).out)
  simp only [Act.put, List.setIfInBounds_toArray, List.set_cons_zero, List.set_cons_succ]
  repeat (apply FlowT.d; (intro w1 hk; unfold does; go_simp; (try go_ints); (first | exact DetR.mk | (simp only [↓IntWalk.iteOmega, Oper.doesUpon_value]; exact DetR.mk) | (simp only [↓IntWalk.iteOmega]; go_simp; (try go_ints); exact DetR.mk))); simp only [Act.put, List.setIfInBounds_toArray, List.set_cons_zero, List.set_cons_succ])
  apply FlowT.d
  · intro w1 hk
    unfold does
    go_simp
    exact CallR.det ((B5 w1).out)
  simp only [Act.put, List.setIfInBounds_toArray, List.set_cons_zero, List.set_cons_succ]
  repeat (apply FlowT.d; (intro w1 hk; unfold does; go_simp; (try go_ints); (first | exact DetR.mk | (simp only [↓IntWalk.iteOmega, Oper.doesUpon_value]; exact DetR.mk) | (simp only [↓IntWalk.iteOmega]; go_simp; (try go_ints); exact DetR.mk))); simp only [Act.put, List.setIfInBounds_toArray, List.set_cons_zero, List.set_cons_succ])
  refine FlowT.fin fun w1 hx hk => ?_
  clear hk d0 d1 d2 d3 d4 B1 B2 B3 B4 B5
  obtain ⟨h8, hh8⟩ : ∃ h8, h8 = [kind, UInt8.ofNat fn, UInt8.ofNat tn] ++ high4 sn ++ [UInt8.ofNat nums.length] := ⟨_, rfl⟩
  have hl8 : h8.length = 8 := by rw [hh8]; rfl
  have hst : (⟨#[kind]⟩ ++ ⟨#[UInt8.ofNat fn]⟩ ++ ⟨#[UInt8.ofNat tn]⟩ ++ ⟨(high4 sn).toArray⟩ ++ ⟨#[UInt8.ofNat nums.length]⟩ : ByteArray) = ⟨h8.toArray⟩ := by
    rw [hh8]; exact ByteArray.ext (by simp)
  rw [hst]
  have Hh8 := hid hh8
  have Hl8 := hid hl8
  clear hh8 hl8 hst
  have d4 := bW.ec 4 rfl
  go_wp2
  go_loopw [3, 4] (fun t3 t4 wr => ∃ k : Nat, t4 = .int .i64 (k : Int) ∧ k ≤ nums.length ∧ t3 = .string ⟨(h8 ++ (nums.take k).flatMap fun n => high4 n.toNat).toArray⟩ ∧ Ext W wr) (fun _ t4 _ => nums.length - (intOf t4).toNat)
  case atStart => exact ⟨0, rfl, Nat.zero_le _, by simp, hx⟩
  case round =>
    clear hx
    obtain ⟨k, rfl, hk, rfl, hx⟩ := hrel
    by_cases hlt : k < nums.length
    · obtain ⟨x, rfl⟩ := Hr.out.sm (by omega)
      have hcx := (xW.trans hx).cellx (Hr.out.cl x rfl k hlt)
      have hnear := near_of Hfar.out (nums.getD k 0) (by
        rw [List.getD_eq_getElem?_getD, List.getElem?_eq_getElem hlt]; exact List.getElem_mem _)
      have hts := flat_take_succ nums k hlt
      obtain ⟨n, hn⟩ := Int.eq_ofNat_of_zero_le hnear.1
      have hn2 : n ≤ 2147483648 := by omega
      rw [hn] at hcx hts
      simp only [Int.toNat_natCast] at hts
      have Hts := hid hts
      have hfl : (h8 ++ (nums.take k).flatMap fun n => high4 n.toNat).length ≤ 1000 := by
        rw [List.length_append, Hl8.out, flat_len]
        have := List.length_take_le k nums
        omega
      obtain ⟨pre, hpre⟩ : ∃ pre, pre = h8 ++ (nums.take k).flatMap fun n => high4 n.toNat := ⟨_, rfl⟩
      rw [← hpre] at hfl ⊢
      have Hpre := hid hpre
      clear hn hts hpre hnear
      have HH := fun w => hid (refhigh_any n (by omega) w)
      have hsz : (high4 n).toArray.size = 4 := rfl
      have hps : pre.toArray.size ≤ 1000 := by simpa using hfl
      go_wp2_with fail
      refine (HH _).out.mono ?_
      rintro e w3 ⟨rfl, hx3⟩
      clear HH hcx
      have hx4 := hx.trans hx3
      go_wp2
      go_roundw
      case rel => exact ⟨k + 1, by go_num, by omega, by rw [Hts.out, ← List.append_assoc, ← Hpre.out, ByteArray.mk_append_mk], hx4⟩
      case measure => simp [intOf]; omega
    · obtain rfl : k = nums.length := by omega
      rw [List.take_of_length_le (Nat.le_refl _)]
      obtain ⟨body, hbody⟩ : ∃ body, body = h8 ++ nums.flatMap fun n => high4 n.toNat := ⟨_, rfl⟩
      rw [← hbody]
      have hbl : body.length ≤ 1000 := by
        rw [hbody, List.length_append, Hl8.out, flat_len]; omega
      have Hbody : Hid (body = Fr.body ⟨kind, fn, tn, sn, nums⟩) := hid (by
        rw [hbody, Hh8.out]; rfl)
      have hbsz : (⟨body.toArray⟩ : ByteArray).size ≤ 1000000 := by
        show body.toArray.size ≤ _
        simp; omega
      have HS := fun w => hid (refcrc_any ⟨body.toArray⟩ w hbsz)
      have hcl := crc_lt body
      have HL := fun w => hid (reflow_any (crc body) (by omega) w)
      have hl4 : (low4 (crc body)).toArray.size = 4 := rfl
      clear hbody hlt hk
      go_wp2_with fail
      refine (HS _).out.mono ?_
      rintro e w3 ⟨rfl, rfl⟩
      go_wp2_with fail
      refine (HL _).out.mono ?_
      rintro e w4 ⟨rfl, hx4⟩
      go_wp2
      go_ret
      refine ⟨?_, xW.trans (hx.trans hx4)⟩
      rw [Fr.text, ← Hbody.out, ← ByteArray.mk_append_mk]
      rfl
end Go.Proofs.YtmdcjfgdmmncpaaDoor
