/- The frame: what the sum tells. -/
import Derived.Test.YtmdcjfgdmmncpaaDoorF8
import Derived.Lib.IndexBytes
namespace Go.Proofs.YtmdcjfgdmmncpaaDoor
set_option linter.unusedSimpArgs false
set_option linter.unusedVariables false
open Go Go.RowKit

theorem ofBlk {w : World} {n : Nat} {c : Array Value} {e : TypeId} (h : Blk w n c e) {W : World} (X : Nat → Prop) (hk : Keep X w W) (hx : ¬ X n) : Blk W n c e := h.keep hk hx


set_option maxRecDepth 100000 in
set_option maxHeartbeats 1600000 in
theorem fdecode_sum (s : ByteArray) (w : World) (ev : Nat → Value) (hs : s.size ≤ 1000000) (he : Errs w ev) (h : sizeOk s = true) (h2 : sumOk s = false) :
    Calls Tryd.prog 17 #[.string s] w fun e w' => e = .returned (.tuple #[fr0, ev 11]) ∧ Ext w w' := by
  simp only [sizeOk, Bool.and_eq_true, decide_eq_true_eq] at h
  obtain ⟨h12, heq⟩ := h
  have h7 : 7 < s.size := by omega
  have g7 := at8_get s 7 h7
  have hb := byte_lt (at8 s 7)
  have hne : ((s.size : Int) != 12 + 4 * ((at8 s 7).toNat : Int)) = false := by
    simp; omega
  obtain ⟨b, hbd⟩ : ∃ b, b = at8 s 7 := ⟨_, rfl⟩
  rw [← hbd] at g7 hb hne heq
  have Heq := hid heq
  have Hbd := hid hbd
  clear heq hbd
  have hsz : (s.extract 0 (s.size - 4)).size ≤ 1000000 := by simp; omega
  have HS := fun w => hid (sum_any (s.extract 0 (s.size - 4)) w hsz)
  have hcl := crc_lt (s.extract 0 (s.size - 4)).data.toList
  obtain ⟨c, hc⟩ : ∃ c, c = crc (s.extract 0 (s.size - 4)).data.toList := ⟨_, rfl⟩
  rw [← hc] at HS hcl
  have HL := fun w => hid (low_any c (by omega) w)
  have hq : (low4 c == (s.extract (s.size - 4) s.size).toList) = false := by
    rw [Lib.toList_data, Lib.extract_to_end, hc, Lib.extract_data, List.drop_zero, Nat.sub_zero]
    exact h2
  clear hc hsz h2
  go_enter Tryd.func17, Tryd.ntmps17
  go_wp2
  refine wp_flowT (fun _ => False) (by kernel_rfl) (by kernel_rfl) ?_
  iterate 3 (apply FlowT.d; (intro w1 hk; unfold does; go_simp; (try go_ints); (first | exact DetR.mk | (simp only [↓IntWalk.iteOmega, Oper.doesUpon_value]; exact DetR.mk) | (simp only [↓IntWalk.iteOmega]; go_simp; (try go_ints); exact DetR.mk))); simp only [Act.put, List.setIfInBounds_toArray, List.set_cons_zero, List.set_cons_succ])
  apply FlowT.d
  · intro w1 hk
    unfold does
    go_simp
    exact CallR.det ((HS w1).out.mono fun e w' ⟨h1, h2⟩ => ⟨h1, h2 ▸ Ext.refl _⟩)
  simp only [Act.put, List.setIfInBounds_toArray, List.set_cons_zero, List.set_cons_succ]
  apply FlowT.d
  · intro w1 hk
    unfold does
    go_simp
    exact CallR.det ((HL w1).out)
  simp only [Act.put, List.setIfInBounds_toArray, List.set_cons_zero, List.set_cons_succ]
  repeat (apply FlowT.d; (intro w1 hk; unfold does; go_simp; (try go_ints); (first | exact DetR.mk | (simp only [↓IntWalk.iteOmega, Oper.doesUpon_value]; exact DetR.mk) | (simp only [↓IntWalk.iteOmega]; go_simp; (try go_ints); exact DetR.mk))); simp only [Act.put, List.setIfInBounds_toArray, List.set_cons_zero, List.set_cons_succ])
  refine FlowT.fin fun W xW hk => ?_
  clear hk HS HL
  have hz := he.at_ (((Ext.refl w).alloc _).trans xW) 10 11 he.sum
  go_wp2
  refine wp_flowT (fun b => b = w.heap.size) (by kernel_rfl) (by kernel_rfl) ?_
  repeat (apply FlowT.d; (intro w1 hk; unfold does; go_simp; (try go_ints); (first | exact DetR.mk | (simp only [↓IntWalk.iteOmega, Oper.doesUpon_value]; exact DetR.mk) | (simp only [↓IntWalk.iteOmega]; go_simp; (try go_ints); exact DetR.mk))); simp only [Act.put, List.setIfInBounds_toArray, List.set_cons_zero, List.set_cons_succ])
  refine FlowT.v undef (fun w' => Blk w' w.heap.size frz 30 ∧ Keep (fun b => b = w.heap.size) W w') 2 rfl (by kernel_rfl) (fun w1 w2 h x => ⟨h.1.ext x, h.2.ext_r x⟩) (fun wa hx hk => ?_) ?_
  · have hB := (Blk.new w frz 30).ext (xW.trans hx)
    have c0 := hB.av 0 rfl
    have c1 := hB.av 1 rfl
    have c2 := hB.av 2 rfl
    have c3 := hB.av 3 rfl
    have c4 := hB.av 4 rfl
    have f0 := hB.free
    unfold does
    go_simp
    exact ⟨hk.trans (store5_keep _ _ _ _ _ _ _), rfl, store5 hB, hk.trans (store5_keep _ _ _ _ _ _ _)⟩
  repeat (apply FlowT.d; (intro w1 hk; unfold does; go_simp; (try go_ints); (first | exact DetR.mk | (simp only [↓IntWalk.iteOmega, Oper.doesUpon_value]; exact DetR.mk) | (simp only [↓IntWalk.iteOmega]; go_simp; (try go_ints); exact DetR.mk))); simp only [Act.put, List.setIfInBounds_toArray, List.set_cons_zero, List.set_cons_succ])
  refine FlowT.fin fun wb hC hk => ?_
  obtain ⟨hB, hK⟩ := hC
  have c0 := hB.av 0 rfl
  have c1 := hB.av 1 rfl
  have c2 := hB.av 2 rfl
  have c3 := hB.av 3 rfl
  have c4 := hB.av 4 rfl
  have hE := hid (Keep.new (((Ext.refl w).alloc _).trans xW) hK (fun n hn => Nat.le_of_eq hn.symm))
  clear hk hK hB
  go_wp2
  exact bodyPost_ret (v := .tuple #[fr0, ev 11]) (by simp [results, Tryd.results17, go_sem, c0, c1, c2, c3, c4]; rfl) rfl ⟨rfl, hE.out⟩
end Go.Proofs.YtmdcjfgdmmncpaaDoor
