/- The frame: it is read. -/
import Derived.Test.YtmdcjfgdmmncpaaDoorF7
namespace Go.Proofs.YtmdcjfgdmmncpaaDoor
set_option linter.unusedSimpArgs false
set_option linter.unusedVariables false
open Go Go.RowKit

def fr0 : Value := .agg #[.int .u8 0, .int .i64 0, .int .i64 0, .int .i64 0, .slice none 0 0]

def frz : Array Value := #[.int .u8 0, .int .i64 0, .int .i64 0, .int .i64 0, .slice none 0 0]
theorem Keep.cellx {X : Nat → Prop} {w w' : World} (h : Keep X w w') {x : Addr} {v : Value} (hc : w.cell? x = some v) (hx : ¬ X x.block) : w'.cell? x = some v := by
  have hb := h.block x.block (cell_lt hc) hx
  unfold World.cell? at *
  rw [hb]
  exact hc
theorem store5 {w : World} {n : Nat} {a0 a1 a2 a3 a4 b0 b1 b2 b3 b4 : Value} {e : TypeId} (h : Blk w n #[a0, a1, a2, a3, a4] e) :
    Blk (((((w.setCell ⟨n, 0, none⟩ b0).setCell ⟨n, 1, none⟩ b1).setCell ⟨n, 2, none⟩ b2).setCell ⟨n, 3, none⟩ b3).setCell ⟨n, 4, none⟩ b4) n #[b0, b1, b2, b3, b4] e := by
  have := ((((h.set 0 b0).set 1 b1).set 2 b2).set 3 b3).set 4 b4
  simpa using this
theorem store5_keep (w : World) (n : Nat) (b0 b1 b2 b3 b4 : Value) : Keep (fun b => b = n) w (((((w.setCell ⟨n, 0, none⟩ b0).setCell ⟨n, 1, none⟩ b1).setCell ⟨n, 2, none⟩ b2).setCell ⟨n, 3, none⟩ b3).setCell ⟨n, 4, none⟩ b4) :=
  have k : ∀ (u : World) i v, Keep (fun b => b = n) w u → Keep (fun b => b = n) w (u.setCell ⟨n, i, none⟩ v) := fun _ _ v h => h.set rfl v
  k _ _ _ (k _ _ _ (k _ _ _ (k _ _ _ (k _ _ _ (Keep.refl _ w)))))

theorem Keep.tr {X Y : Nat → Prop} {a b c : World} (h : Keep X a b) (k : Keep Y b c) (hx : ∀ n, Y n → a.heap.size ≤ n ∨ X n) : Keep X a c :=
  ⟨k.os.trans h.os, k.tape.trans h.tape, k.output.trans h.output, Nat.le_trans h.size k.size, fun i hi hX => (k.block i (Nat.lt_of_lt_of_le hi h.size) fun hY => (hx i hY).elim (fun h => by omega) hX).trans (h.block i hi hX)⟩
theorem Errs.at_ {w : World} {ev : Nat → Value} (h : Errs w ev) {W : World} (x : Ext w W) (i c : Nat) (hc : w.cell? ⟨i, 0, none⟩ = some (ev c)) : ∀ w1, Keep (fun b => b = w.heap.size) W w1 → w1.cell? ⟨i, 0, none⟩ = some (ev c) :=
  fun _ hk => hk.cellx (x.cellx hc) (fun e => by have := cell_lt hc; simp only at e this; omega)


set_option maxRecDepth 100000 in
set_option maxHeartbeats 1600000 in
theorem fdecode_size (s : ByteArray) (w : World) (ev : Nat → Value) (hs : s.size ≤ 1000000) (he : Errs w ev) (h : sizeOk s = false) :
    Calls Tryd.prog 17 #[.string s] w fun e w' => e = .returned (.tuple #[fr0, ev 1]) ∧ Ext w w' := by
  have hz := he.at_ ((Ext.refl w).alloc (.cells frz 30)) 0 1 he.text
  have xW := Ext.refl (w.alloc (.cells frz 30))
  unfold frz at hz
  by_cases h12 : s.size < 12
  · go_enter Tryd.func17, Tryd.ntmps17
    go_wp2
    refine wp_flowT (fun b => b = w.heap.size) (by kernel_rfl) (by kernel_rfl) ?_
    repeat (apply FlowT.d; (intro w1 hk; unfold does; go_simp; (try go_ints); (first | exact DetR.mk | (simp only [↓IntWalk.iteOmega, Oper.doesUpon_value]; exact DetR.mk) | (simp only [↓IntWalk.iteOmega]; go_simp; (try go_ints); exact DetR.mk))); simp only [Act.put, List.setIfInBounds_toArray, List.set_cons_zero, List.set_cons_succ])
    refine FlowT.v undef (fun w' => Blk w' w.heap.size frz 30 ∧ Keep (fun b => b = w.heap.size) (w.alloc (.cells frz 30)) w') 2 rfl (by kernel_rfl) (fun w1 w2 h x => ⟨h.1.ext x, h.2.ext_r x⟩) (fun wa hx hk => ?_) ?_
    · have hB := (Blk.new w frz 30).ext (xW.trans hx)
      have c0 := hB.av 0 rfl
      have c1 := hB.av 1 rfl
      have c2 := hB.av 2 rfl
      have c3 := hB.av 3 rfl
      have c4 := hB.av 4 rfl
      have f0 := hB.free
      unfold does
      go_simp
      exact ⟨hk.trans (store5_keep _ _ _ _ _ _ _), rfl, store5 hB, hk.trans (store5_keep _ _ _ _ _ _ _)⟩
    repeat (apply FlowT.d; (intro w1 hk; unfold does; go_simp; (try go_ints); (first | exact DetR.mk | (simp only [↓IntWalk.iteOmega, Oper.doesUpon_value]; exact DetR.mk) | (simp only [↓IntWalk.iteOmega]; go_simp; (try go_ints); exact DetR.mk))); simp only [Act.put, List.setIfInBounds_toArray, List.set_cons_zero, List.set_cons_succ])
    refine FlowT.fin fun wb hC hk => ?_
    obtain ⟨hB, hK⟩ := hC
    have c0 := hB.av 0 rfl
    have c1 := hB.av 1 rfl
    have c2 := hB.av 2 rfl
    have c3 := hB.av 3 rfl
    have c4 := hB.av 4 rfl
    have hE := hid (Keep.new (((Ext.refl w).alloc _).trans xW) hK (fun n hn => Nat.le_of_eq hn.symm))
    clear hk hK hB
    go_wp2
    exact bodyPost_ret (v := .tuple #[fr0, ev 1]) (by simp [results, Tryd.results17, go_sem, c0, c1, c2, c3, c4]; rfl) rfl ⟨rfl, hE.out⟩
  · have g7 := at8_get s 7 (by omega)
    have hb := byte_lt (at8 s 7)
    have hne : ((s.size : Int) != 12 + 4 * ((at8 s 7).toNat : Int)) = true := bne_iff_ne.2 (by
      simp [sizeOk] at h; omega)
    generalize at8 s 7 = b at *
    clear h
    go_enter Tryd.func17, Tryd.ntmps17
    go_wp2
    refine wp_flowT (fun b => b = w.heap.size) (by kernel_rfl) (by kernel_rfl) ?_
    repeat (apply FlowT.d; (intro w1 hk; unfold does; go_simp; (try go_ints); (first | exact DetR.mk | (simp only [↓IntWalk.iteOmega, Oper.doesUpon_value]; exact DetR.mk) | (simp only [↓IntWalk.iteOmega]; go_simp; (try go_ints); exact DetR.mk))); simp only [Act.put, List.setIfInBounds_toArray, List.set_cons_zero, List.set_cons_succ])
    refine FlowT.v undef (fun w' => Blk w' w.heap.size frz 30 ∧ Keep (fun b => b = w.heap.size) (w.alloc (.cells frz 30)) w') 2 rfl (by kernel_rfl) (fun w1 w2 h x => ⟨h.1.ext x, h.2.ext_r x⟩) (fun wa hx hk => ?_) ?_
    · have hB := (Blk.new w frz 30).ext (xW.trans hx)
      have c0 := hB.av 0 rfl
      have c1 := hB.av 1 rfl
      have c2 := hB.av 2 rfl
      have c3 := hB.av 3 rfl
      have c4 := hB.av 4 rfl
      have f0 := hB.free
      unfold does
      go_simp
      exact ⟨hk.trans (store5_keep _ _ _ _ _ _ _), rfl, store5 hB, hk.trans (store5_keep _ _ _ _ _ _ _)⟩
    repeat (apply FlowT.d; (intro w1 hk; unfold does; go_simp; (try go_ints); (first | exact DetR.mk | (simp only [↓IntWalk.iteOmega, Oper.doesUpon_value]; exact DetR.mk) | (simp only [↓IntWalk.iteOmega]; go_simp; (try go_ints); exact DetR.mk))); simp only [Act.put, List.setIfInBounds_toArray, List.set_cons_zero, List.set_cons_succ])
    refine FlowT.fin fun wb hC hk => ?_
    obtain ⟨hB, hK⟩ := hC
    have c0 := hB.av 0 rfl
    have c1 := hB.av 1 rfl
    have c2 := hB.av 2 rfl
    have c3 := hB.av 3 rfl
    have c4 := hB.av 4 rfl
    have hE := hid (Keep.new (((Ext.refl w).alloc _).trans xW) hK (fun n hn => Nat.le_of_eq hn.symm))
    clear hk hK hB
    go_wp2
    exact bodyPost_ret (v := .tuple #[fr0, ev 1]) (by simp [results, Tryd.results17, go_sem, c0, c1, c2, c3, c4]; rfl) rfl ⟨rfl, hE.out⟩
end Go.Proofs.YtmdcjfgdmmncpaaDoor
