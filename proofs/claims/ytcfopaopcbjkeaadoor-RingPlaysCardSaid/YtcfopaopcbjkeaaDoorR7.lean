
/- The ring: a new play. -/
import Derived.Test.YtcfopaopcbjkeaaDoorR6
import Derived.Test.YtcfopaopcbjkeaaDoorPar
namespace Go.Proofs.YtcfopaopcbjkeaaDoor
set_option linter.unusedSimpArgs false
set_option linter.unusedVariables false
open Go Go.RowKit

set_option maxRecDepth 100000 in
set_option maxHeartbeats 1600000 in
theorem mul_one (n : Nat) (h : 2 ≤ n ∧ n ≤ 6) (w : World) : Calls Tryd.prog 75 #[.int .u64 1, .int .u64 (n : Int)] w fun e w' => e = .returned (.tuple #[.int .u64 0, .int .u64 (n : Int)]) ∧ w = w' := by
  obtain ⟨h1, h2⟩ := h
  rcases (by omega : n = 2 ∨ n = 3 ∨ n = 4 ∨ n = 5 ∨ n = 6) with rfl | rfl | rfl | rfl | rfl
  all_goals
    go_enter Tryd.func75, Tryd.ntmps75
    go_wp2
    go_ret2
    exact ⟨rfl, rfl⟩

def filled (n k : Nat) : List Value := List.replicate k (.bool true) ++ List.replicate (n - k) (.bool false)
theorem filled_len {n k : Nat} (h : k ≤ n) : (filled n k).length = n := by simp [filled]; omega
theorem filled_more {n k m : Nat} (h : k + m ≤ n) : (filled n k).take k ++ List.replicate m (Value.bool true) ++ (filled n k).drop (k + m) = filled n (k + m) := by
  unfold filled
  rw [List.take_left' (by simp)]
  have : (List.replicate k (Value.bool true) ++ List.replicate (n - k) (Value.bool false)).drop (k + m) = List.replicate (n - (k + m)) (.bool false) := by
    rw [List.drop_append, List.drop_of_length_le (by simp), List.length_replicate, List.drop_replicate]
    simp only [List.nil_append]
    congr 1
    omega
  rw [this, List.replicate_append_replicate]
theorem bool_info : (Tryd.prog.info? 4).map (fun i => (i.zero, i.size, i.bytes)) = some (some (.bool false), 1, 1) := by kernel_rfl

set_option maxRecDepth 100000 in
set_option maxHeartbeats 1600000 in
theorem repeat_any (n b : Nat) (h1 : 2 ≤ n) (h2 : n ≤ 6) (w : World) (hb : Blk w b #[.bool true] 4) :
    Calls Tryd.prog 53 #[.slice (some ⟨b, 0, none⟩) 1 1, .int .i64 (n : Int)] w fun e w' => ∃ b2, e = .returned (.slice (some ⟨b2, 0, none⟩) n n) ∧ Blk w' b2 (filled n n).toArray 4 ∧ Ext w w' ∧ w.heap.size ≤ b2 := by
  obtain ⟨ti, hi, hz0, hz1, hz2⟩ := info_parts bool_info
  have hblt := hb.lt
  have hmk := run_make (P := Tryd.prog) w 57 4 ti (.bool false) Tryd.underlying57 hi hz0 .i64 .i64 (n : Int) (n : Int) (by omega) (by omega) (by rw [hz2]; omega) (by omega)
  have hmc : madeCells (Value.bool false).cells ((n : Int).toNat * ti.size) = (filled n 0).toArray := by
    rw [hz1, Int.toNat_natCast, Nat.mul_one]
    apply Array.ext'
    rw [show (Value.bool false).cells = #[.bool false] from rfl, toList_madeCells_one]
    simp [filled]
  rw [hmc, Int.toNat_natCast] at hmk
  have hb' := hb.alloc (.cells (filled n 0).toArray 4)
  have hnew := Blk.new w (filled n 0).toArray 4
  have hx := (Ext.refl w).alloc (.cells (filled n 0).toArray 4)
  obtain ⟨N, hN⟩ : ∃ N, N = w.heap.size := ⟨_, rfl⟩
  rw [← hN] at hmk hnew
  clear hmc
  have hsz1 : (Tryd.prog.info? 4).map (·.size) = some 1 := by rw [hi]; simp [hz1]
  have hcp := fun ty => run_copy_row Tryd.prog (w.alloc (.cells (filled n 0).toArray 4)) 57 57 ty 4 N 0 n n ⟨b, 0, none⟩ 1 1 (filled n 0).toArray 4 [.bool true] Tryd.underlying57 hsz1 hnew (by show 1 = Nat.min 1 n; exact (Nat.min_eq_left (by omega)).symm)
    (fun j v hj => by
      cases j with
      | zero => simp at hj; subst hj; exact hb'.cell 0
      | succ j => simp at hj) (by simp [filled_len]; omega) (by simp [Value.oneCell'])
  have hrow : ((filled n 0).toArray.toList.take 0 ++ [Value.bool true] ++ (filled n 0).toArray.toList.drop (0 + [Value.bool true].length)) = filled n 1 := by
    have := filled_more (n := n) (k := 0) (m := 1) (by omega)
    simpa using this
  rw [hrow] at hcp
  have hset := setRow_blk hnew (filled n 1).toArray
  have hkeep := setRow_keep (w.alloc (.cells (filled n 0).toArray 4)) N (filled n 1).toArray
  have hx1 : Ext w ((w.alloc (.cells (filled n 0).toArray 4)).setRow N (filled n 1).toArray) := Keep.new hx hkeep fun k hk => by rw [hk, hN]; exact Nat.le_refl _
  have HN := hid hN
  have hgo : goInt 1 = .int .i64 1 := rfl
  generalize hW1 : (w.alloc (.cells (filled n 0).toArray 4)).setRow N (filled n 1).toArray = W1 at *
  generalize hW0 : w.alloc (.cells (filled n 0).toArray 4) = W0 at *
  clear hrow hkeep hx hW1 hW0 hN hnew hb'
  go_enter Tryd.func53, Tryd.ntmps53
  go_wp2_with (go_at_call 75; refine (mul_one n ⟨h1, h2⟩ _).mono ?_; rintro e w' ⟨rfl, rfl⟩)
  clear hmk hcp
  go_loopw [8] (fun t8 wr => ∃ k : Nat, t8 = .int .i64 (k : Int) ∧ 1 ≤ k ∧ k ≤ n ∧ Ext w wr ∧ Blk wr N (filled n k).toArray 4) (fun t8 _ => n - (intOf t8).toNat)
  case atStart => exact ⟨1, rfl, by omega, by omega, hx1, hset⟩
  case round =>
    obtain ⟨k, rfl, hk1, hk2, hxr, hbr⟩ := hrel
    clear hset hx1
    by_cases hlt : k < n
    · have hnk : (n = k) = False := by simp; omega
      go_wp2
      refine wp_flowT (fun g => g = N) (by kernel_rfl) (by kernel_rfl) ?_
      repeat (apply FlowT.d; (intro w1 hk; unfold does; go_simp; (try go_ints); (first | exact DetR.mk | (simp only [↓IntWalk.iteOmega, Oper.doesUpon_value]; exact DetR.mk) | (simp only [↓IntWalk.iteOmega]; go_simp; (try go_ints); exact DetR.mk))); simp only [Act.put, List.setIfInBounds_toArray, List.set_cons_zero, List.set_cons_succ])
      obtain ⟨m, hm⟩ : ∃ m, m = min k (n - k) := ⟨_, rfl⟩
      have hm1 : 1 ≤ m ∧ k + m ≤ n := by omega
      have Hm := hid hm
      clear hm
      refine FlowT.v (.int .i64 (m : Int)) (fun w' => Keep (fun g => g = N) wr w' ∧ Blk w' N (filled n (k + m)).toArray 4) 7 rfl (by kernel_rfl) (fun _ _ h x => ⟨h.1.ext_r x, h.2.ext x⟩) (fun w1 hC hkk => ?_) ?_
      · have hb1 := hbr.ext hC
        refine does_copy rfl (.tmp 41) (.tmp 44) 57 57 rfl 4 Tryd.underlying57 hsz1 N k (n - k) (n - k) (filled n k).toArray 4 hb1 rfl ⟨N, 0, none⟩ k n (List.replicate m (.bool true)) rfl (by rw [List.length_replicate, Hm.out]) (fun j v hj => ?_) (by simp [filled_len hk2, hm1.2]) (by simp [Value.oneCell']) ?_
        · rw [List.getElem?_replicate] at hj
          split at hj
          · rename_i hjm
            simp only [Option.some.injEq] at hj
            subst hj
            have hjk : j < k := by have := Hm.out; omega
            have := hb1.cell j
            rw [show (⟨N, 0, none⟩ : Addr).add j = ⟨N, j, none⟩ from by by_cases h0 : j = 0 <;> simp [Addr.add, h0], this]
            unfold filled
            rw [List.getElem?_toArray, List.getElem?_append_left (by simpa using hjk), List.getElem?_replicate, if_pos hjk]
          · cases hj
        · have hkw := (hC.keep (fun g => g = N)).trans (setRow_keep w1 N ((filled n k).toArray.toList.take k ++ List.replicate m (Value.bool true) ++ (filled n k).toArray.toList.drop (k + (List.replicate m (Value.bool true)).length)).toArray)
          refine ⟨hkw, by simp [goInt], hkw, ?_⟩
          have e : ((filled n k).toArray.toList.take k ++ List.replicate m (Value.bool true) ++ (filled n k).toArray.toList.drop (k + (List.replicate m (Value.bool true)).length)) = filled n (k + m) := by rw [List.length_replicate]; exact filled_more hm1.2
          rw [e]
          have := setRow_blk hb1 (filled n (k + m)).toArray
          exact this
      simp only [Act.put, List.setIfInBounds_toArray, List.set_cons_zero, List.set_cons_succ]
      repeat (apply FlowT.d; (intro w1 hk; unfold does; go_simp; (try go_ints); (first | exact DetR.mk | (simp only [↓IntWalk.iteOmega, Oper.doesUpon_value]; exact DetR.mk) | (simp only [↓IntWalk.iteOmega]; go_simp; (try go_ints); exact DetR.mk))); simp only [Act.put, List.setIfInBounds_toArray, List.set_cons_zero, List.set_cons_succ])
      refine FlowT.fin fun w1 hC hkk => ?_
      go_wp2
      go_roundw
      case rel => exact ⟨k + m, by go_num, by omega, by omega, Keep.new hxr hC.1 (fun g hg => by rw [hg, HN.out]; exact Nat.le_refl _), hC.2⟩
      case measure => simp [intOf]; omega
    · obtain rfl : k = n := by omega
      go_wp2
      go_ret
      exact ⟨N, rfl, hbr, hxr, by rw [HN.out]; exact Nat.le_refl _⟩

theorem made_peers (n : Nat) : madeCells #[.int .i64 0, .bool false] (n * 2) = (pcells (List.replicate n ((0 : Int), false))).toArray := by
  apply Array.ext
  · simp [size_madeCells, pcells_len]; omega
  · intro i h1 h2
    have hi : i < n * 2 := by simpa [size_madeCells] using h1
    have hg := pcells_get (List.replicate n ((0 : Int), false)) (i / 2) (by simp; omega)
    have h3 : i < (pcells (List.replicate n ((0 : Int), false))).length := by simpa using h2
    have hq : i / 2 < n := by omega
    have hrep : (List.replicate n ((0 : Int), false)).getD (i / 2) (0, false) = (0, false) := by simp [List.getElem?_replicate, hq]
    rw [hrep] at hg
    simp only [madeCells, Array.getElem_map, Array.getElem_range, List.getElem_toArray]
    rcases Nat.mod_two_eq_zero_or_one i with h | h
    · have e : i / 2 * 2 = i := by omega
      have hg1 := hg.1
      rw [e, List.getElem?_eq_getElem h3] at hg1
      simp only [Option.some.injEq] at hg1
      rw [hg1]
      simp [h]
    · have e : i / 2 * 2 + 1 = i := by omega
      have hg1 := hg.2
      rw [e, List.getElem?_eq_getElem h3] at hg1
      simp only [Option.some.injEq] at hg1
      rw [hg1]
      simp [h]

theorem peers_info : (Tryd.prog.info? 45).map (fun i => (i.zero, i.size, i.bytes)) = some (some (.agg #[.int .i64 0, .bool false]), 2, 16) := by kernel_rfl

def MkP (W : World) (n : Nat) (v : Value) (w : World) : Prop := ∃ b, v = .slice (some ⟨b, 0, none⟩) n n ∧ Blk w b (pcells (List.replicate n (0, false))).toArray 45 ∧ W.heap.size ≤ b
def MkT (v : Value) (w : World) : Prop := ∃ b, v = .slice (some ⟨b, 0, none⟩) 1 1 ∧ Blk w b #[.bool true] 4
def MkR (W : World) (n : Nat) (v : Value) (w : World) : Prop := ∃ b, v = .slice (some ⟨b, 0, none⟩) n n ∧ Blk w b (filled n n).toArray 4 ∧ W.heap.size ≤ b

set_option maxRecDepth 100000 in
set_option maxHeartbeats 1600000 in
theorem new_any (n : Nat) (h1 : 2 ≤ n) (h2 : n ≤ 6) (w : World) :
    Calls Tryd.prog 23 #[.int .i64 (n : Int)] w fun e w' => ∃ p b1 b2 su, e = .returned (.tuple #[.pointer (some ⟨p, 0, none⟩), .nilIface]) ∧ RingAt w' p b1 b2 su (RS.init n) ∧ Ext w w' ∧ w.heap.size ≤ p ∧ w.heap.size ≤ b1 ∧ w.heap.size ≤ b2 ∧ su.ownBlock = none := by
  obtain ⟨ti, hi, hz0, hz1, hz2⟩ := info_parts peers_info
  have hmk := fun W => run_make (P := Tryd.prog) W 117 45 ti (.agg #[.int .i64 0, .bool false]) Tryd.underlying117 hi hz0 .i64 .i64 (n : Int) (n : Int) (by omega) (by omega) (by rw [hz2]; omega) (by omega)
  have hmc : madeCells (Value.agg #[.int .i64 0, .bool false]).cells ((n : Int).toNat * ti.size) = (pcells (List.replicate n (0, false))).toArray := by
    rw [hz1, Int.toNat_natCast]
    exact made_peers n
  rw [hmc, Int.toNat_natCast] at hmk
  clear hmc
  go_enter Tryd.func23, Tryd.ntmps23
  go_wp2
  refine wp_flow (fun _ => False) (by kernel_rfl) (by kernel_rfl) ?_
  apply Flow.d 0 _ rfl (by simp) (by kernel_rfl)
  · intro w1 hk; unfold does; go_simp; exact DetR.mk
  apply Flow.d 3 _ rfl (by simp) (by kernel_rfl)
  · intro w1 hk; unfold does; go_simp; exact DetR.mk
  simp only [List.getElem_toArray, List.getElem_cons_zero, List.getElem_cons_succ, Act.put, List.setIfInBounds_toArray, List.set_cons_zero, List.set_cons_succ]
  refine Flow.par3 1 2 4 _ _ _ rfl rfl rfl (by decide) (by decide) (fun _ _ h => by cases h) (fun _ _ h => by cases h) (fun _ _ h => by cases h) (by kernel_rfl) (by kernel_rfl) (by kernel_rfl) (by kernel_rfl) (by kernel_rfl) (by kernel_rfl) (by kernel_rfl)
    (MkP w n) MkT (fun _ => MkR w n) (fun _ _ h x => h.trans x) (fun _ _ _ ⟨b, h1, h2, h3⟩ hx => ⟨b, h1, h2.ext hx, h3⟩) (fun _ _ _ ⟨b, h1, h2⟩ hx => ⟨b, h1, h2.ext hx⟩) (fun _ _ _ _ ⟨b, h1, h2, h3⟩ hx => ⟨b, h1, h2.ext hx, h3⟩) ?_ ?_ ?_ ?_
  · intro w1 hC hk
    unfold does
    go_simp
    exact ⟨(Ext.refl _).alloc _, _, rfl, Blk.new _ _ _, hC.size⟩
  · intro w1 hC hk
    unfold does
    go_simp
    exact ⟨(Ext.refl _).alloc _, _, rfl, Blk.new _ _ _⟩
  · rintro vj w1 hC ⟨b, rfl, hb⟩ hk
    unfold does
    go_simp
    refine CallR.gen ((repeat_any n b h1 h2 w1 hb).mono ?_)
    rintro e w2 ⟨b2, rfl, hb2, hx, hlt⟩
    exact ⟨_, rfl, hx, b2, rfl, hb2, Nat.le_trans hC.size hlt⟩
  rintro _ _ _ ⟨_, b1, rfl, _, _⟩ ⟨_, b0, rfl, _⟩ ⟨_, b2, rfl, _, _⟩
  simp only [List.getElem_toArray, List.getElem_cons_zero, List.getElem_cons_succ, Act.put, List.setIfInBounds_toArray, List.set_cons_zero, List.set_cons_succ]
  apply Flow.d 5 _ rfl (by simp) (by kernel_rfl)
  · intro w1 hk; unfold does; go_simp; exact DetR.mk
  simp only [List.getElem_toArray, List.getElem_cons_zero, List.getElem_cons_succ, Act.put, List.setIfInBounds_toArray, List.set_cons_zero, List.set_cons_succ]
  refine Flow.one 6 _ rfl (by kernel_rfl) (fun v w' => ∃ p, v = .pointer (some ⟨p, 0, none⟩) ∧ RingAt w' p b1 b2 (.slice none 0 0) (RS.init n) ∧ Ext w w' ∧ w.heap.size ≤ p) (fun _ _ _ ⟨p, h1, h2, h3, h4⟩ hx => ⟨p, h1, h2.ext hx, h3.trans hx, h4⟩) ?_ ?_
  · rintro w1 ⟨hx, ⟨c1, e1, hb1, _⟩, _, ⟨c2, e2, hb2, _⟩⟩ hk
    obtain rfl : b1 = c1 := by simpa using e1
    obtain rfl : b2 = c2 := by simpa using e2
    unfold does
    go_simp
    have hne : b1 ≠ b2 := by
      intro e
      rw [e] at hb1
      have h3 := hb1.symm.trans hb2
      simp at h3
    have l1 := hb1.lt
    have l2 := hb2.lt
    have hn : (RS.init n).n = n := by simp [RS.n, RS.init]
    refine ⟨(hx.alloc _).keep _, _, rfl, ⟨?_, hb1.alloc _, ?_, World.ownsRow_nil _ _ _ _, by omega, by omega, hne, fun k hk => by simp [Value.ownBlock] at hk⟩, hx.alloc _, hx.size⟩
    · rw [hn]; exact Blk.new _ _ _
    · have := hb2.alloc (.cells #[.slice (some ⟨b1, 0, none⟩) n n, .slice (some ⟨b2, 0, none⟩) n n, .slice none 0 0, .int .i64 0, .bool false, .int .i64 0, .bool true, .bool false] 120)
      simpa [RS.init, filled] using this
  rintro _ ⟨_, p, rfl, _, _, hp⟩
  simp only [List.getElem_toArray, List.getElem_cons_zero, List.getElem_cons_succ, Act.put, List.setIfInBounds_toArray, List.set_cons_zero, List.set_cons_succ]
  apply Flow.d 7 _ rfl (by simp) (by kernel_rfl)
  · intro w1 hk; unfold does; go_simp; exact DetR.mk
  apply Flow.d 8 _ rfl (by simp) (by kernel_rfl)
  · intro w1 hk; unfold does; go_simp; exact DetR.mk
  simp only [List.getElem_toArray, List.getElem_cons_zero, List.getElem_cons_succ, Act.put, List.setIfInBounds_toArray, List.set_cons_zero, List.set_cons_succ]
  refine Flow.fin (by kernel_rfl) fun w1 hC hk => ?_
  obtain ⟨p', e, hR, hx, _⟩ := hC
  obtain rfl : p = p' := by simpa using e
  go_wp2
  go_ret2
  exact ⟨p, b1, b2, _, rfl, hR, hx, hp, by assumption, by assumption, rfl⟩
end Go.Proofs.YtcfopaopcbjkeaaDoor
