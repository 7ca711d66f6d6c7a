/- The reference reads a frame's text: walked. -/
import Derived.Test.YtmdcjfgdmmncpaaDoorFC
import Derived.Test.YtmdcjfgdmmncpaaDoorFT
namespace Go.Proofs.YtmdcjfgdmmncpaaDoor
set_option linter.unusedSimpArgs false
set_option linter.unusedVariables false
open Go Go.RowKit

theorem at8_extract (s : ByteArray) (i j k : Nat) (hj : i + k < j) : at8 (s.extract i j) k = at8 s (i + k) := by
  unfold at8
  rw [Lib.extract_data]
  simp only [List.getD_eq_getElem?_getD, List.getElem?_take, List.getElem?_drop]
  rw [if_pos (by omega)]
theorem four_extract (s : ByteArray) (i : Nat) : four (s.extract i (i + 4)) 0 = four s i := by
  unfold four
  rw [at8_extract _ _ _ _ (by omega), at8_extract _ _ _ _ (by omega), at8_extract _ _ _ _ (by omega), at8_extract _ _ _ _ (by omega)]
  rfl
theorem number_at (s : ByteArray) (i : Nat) (hi : i + 4 ≤ s.size) (w : World) : Calls Tryd.prog 80 #[.string (s.extract i (i + 4))] w fun e w' => e = .returned (.int .i64 (four s i : Int)) ∧ Ext w w' := by
  rw [← four_extract]
  exact (number_any (s.extract i (i + 4)) (by simp; omega) w).mono fun e w' ⟨h1, h2⟩ => ⟨h1, h2 ▸ Ext.refl _⟩


set_option maxRecDepth 100000 in
set_option maxHeartbeats 1600000 in
theorem refof_size (s : ByteArray) (w : World) (hs : s.size ≤ 1000000) (h : sizeOk s = false) :
    Calls Tryd.prog 41 #[.string s] w fun e w' => e = .returned (.tuple #[fr0, .int .i64 1]) ∧ Ext w w' := by
  by_cases h12 : s.size < 12
  · go_enter Tryd.func41, Tryd.ntmps41
    go_wp2
    exact bodyPost_ret (v := .tuple #[fr0, .int .i64 1]) (by simp [results, Tryd.results41, go_sem]; rfl) rfl ⟨rfl, (Ext.refl w).alloc _⟩
  · have h7 : 7 < s.size := by omega
    have g7 := at8_get s 7 h7
    have hb := byte_lt (at8 s 7)
    have hne : ((s.size : Int) != 12 + 4 * ((at8 s 7).toNat : Int)) = true := bne_iff_ne.2 (by
      simp [sizeOk] at h; omega)
    generalize at8 s 7 = b at *
    clear h
    go_enter Tryd.func41, Tryd.ntmps41
    go_wp2
    exact bodyPost_ret (v := .tuple #[fr0, .int .i64 1]) (by simp [results, Tryd.results41, go_sem]; rfl) rfl ⟨rfl, (Ext.refl w).alloc _⟩


set_option maxRecDepth 100000 in
set_option maxHeartbeats 1600000 in
theorem refof_sum (s : ByteArray) (w : World) (hs : s.size ≤ 1000000) (h : sizeOk s = true) (h2 : sumOk s = false) :
    Calls Tryd.prog 41 #[.string s] w fun e w' => e = .returned (.tuple #[fr0, .int .i64 11]) ∧ Ext w w' := by
  simp only [sizeOk, Bool.and_eq_true, decide_eq_true_eq] at h
  obtain ⟨h12, heq⟩ := h
  have h7 : 7 < s.size := by omega
  have g7 := at8_get s 7 h7
  have hb := byte_lt (at8 s 7)
  have hne : ((s.size : Int) != 12 + 4 * ((at8 s 7).toNat : Int)) = false := by
    simp; omega
  obtain ⟨b, hbd⟩ : ∃ b, b = at8 s 7 := ⟨_, rfl⟩
  rw [← hbd] at g7 hb hne heq
  have Heq := hid heq
  have Hbd := hid hbd
  clear heq hbd
  have hsz : (s.extract 0 (s.size - 4)).size ≤ 1000000 := by simp; omega
  have HS := fun w => hid (refcrc_any (s.extract 0 (s.size - 4)) w hsz)
  have hcl := crc_lt (s.extract 0 (s.size - 4)).data.toList
  obtain ⟨c, hc⟩ : ∃ c, c = crc (s.extract 0 (s.size - 4)).data.toList := ⟨_, rfl⟩
  rw [← hc] at HS hcl
  have HL := fun w => hid (reflow_any c (by omega) w)
  have hq : (low4 c == (s.extract (s.size - 4) s.size).toList) = false := by
    rw [Lib.toList_data, Lib.extract_to_end, hc, Lib.extract_data, List.drop_zero, Nat.sub_zero]
    exact h2
  clear hc hsz h2
  go_enter Tryd.func41, Tryd.ntmps41
  go_wp2
  refine wp_flowT (fun _ => False) (by kernel_rfl) (by kernel_rfl) ?_
  iterate 1 (apply FlowT.d; (intro w1 hk; unfold does; go_simp; (try go_ints); (first | exact DetR.mk | (simp only [↓IntWalk.iteOmega, Oper.doesUpon_value]; exact DetR.mk) | (simp only [↓IntWalk.iteOmega]; go_simp; (try go_ints); exact DetR.mk))); simp only [Act.put, List.setIfInBounds_toArray, List.set_cons_zero, List.set_cons_succ])
  apply FlowT.d
  · intro w1 hk
    unfold does
    go_simp
    exact CallR.det ((HS w1).out.mono fun e w' ⟨h1, h2⟩ => ⟨h1, h2 ▸ Ext.refl _⟩)
  simp only [Act.put, List.setIfInBounds_toArray, List.set_cons_zero, List.set_cons_succ]
  apply FlowT.d
  · intro w1 hk
    unfold does
    go_simp
    exact CallR.det ((HL w1).out)
  simp only [Act.put, List.setIfInBounds_toArray, List.set_cons_zero, List.set_cons_succ]
  repeat (apply FlowT.d; (intro w1 hk; unfold does; go_simp; (try go_ints); (first | exact DetR.mk | (simp only [↓IntWalk.iteOmega, Oper.doesUpon_value]; exact DetR.mk) | (simp only [↓IntWalk.iteOmega]; go_simp; (try go_ints); exact DetR.mk))); simp only [Act.put, List.setIfInBounds_toArray, List.set_cons_zero, List.set_cons_succ])
  refine FlowT.fin fun W xW hk => ?_
  clear hk HS HL
  have hB := (Blk.new w frz 24).ext xW
  have c0 := hB.av 0 rfl
  have c1 := hB.av 1 rfl
  have c2 := hB.av 2 rfl
  have c3 := hB.av 3 rfl
  have c4 := hB.av 4 rfl
  have f0 := hB.free
  go_wp2
  have hB8 := store5 (b0 := .int .u8 0) (b1 := .int .i64 0) (b2 := .int .i64 0) (b3 := .int .i64 0) (b4 := .slice none 0 0) hB
  have hK8 := store5_keep W w.heap.size (.int .u8 0) (.int .i64 0) (.int .i64 0) (.int .i64 0) (.slice none 0 0)
  have hEf := Keep.new (((Ext.refl w).alloc _).trans xW) hK8 fun x hx => by omega
  exact bodyPost_ret (v := .tuple #[fr0, .int .i64 11]) (by simp [results, Tryd.results41, go_sem, hB8.av 0 rfl, hB8.av 1 rfl, hB8.av 2 rfl, hB8.av 3 rfl, hB8.av 4 rfl]; rfl) rfl ⟨rfl, hEf⟩

def OfR (s : ByteArray) (w : World) : Ending → World → Prop := fun e w' =>
  if (frOf s).code = 0 then ∃ a cap, e = .returned (.tuple #[frv (frOf s) a cap, .int .i64 0]) ∧ Ints w' a (frOf s).nums.length (frOf s).nums ∧ Ext w w'
  else e = .returned (.tuple #[fr0, .int .i64 ((frOf s).code : Int)]) ∧ Ext w w'
theorem OfR.yes {s : ByteArray} {w w' : World} {b0 : UInt8} {fr to seq : Int} {nums : List Int} {n cap : Nat} {a : Option Addr} (hf : frOf s = ⟨b0, fr, to, seq, nums⟩) (hl : nums.length = n) (hc : Fr.code ⟨b0, fr, to, seq, nums⟩ = 0) (hi : Ints w' a n nums) (hx : Ext w w') :
    OfR s w (.returned (.tuple #[.agg #[.int .u8 (b0.toNat : Int), .int .i64 fr, .int .i64 to, .int .i64 seq, .slice a n cap], .int .i64 0])) w' := by
  subst hl
  unfold OfR
  rw [hf, if_pos hc]
  exact ⟨a, cap, rfl, hi, hx⟩
theorem OfR.no {s : ByteArray} {w w' : World} {f : Fr} {c : Nat} (hf : frOf s = f) (hc : f.code ≠ 0) (hv : c = f.code) (hx : Ext w w') : OfR s w (.returned (.tuple #[fr0, .int .i64 (c : Int)])) w' := by
  unfold OfR
  rw [hf, if_neg hc, hv]
  exact ⟨rfl, hx⟩

set_option maxRecDepth 100000 in
set_option maxHeartbeats 3200000 in
theorem refof_rest (s : ByteArray) (w : World) (hs : s.size ≤ 1000000) (h : sizeOk s = true) (h2 : sumOk s = true) :
    Calls Tryd.prog 41 #[.string s] w (OfR s w) := by
  simp only [sizeOk, Bool.and_eq_true, decide_eq_true_eq] at h
  obtain ⟨h12, heq⟩ := h
  have h7 : 7 < s.size := by omega
  have g7 := at8_get s 7 h7
  have hb := byte_lt (at8 s 7)
  have hne : ((s.size : Int) != 12 + 4 * ((at8 s 7).toNat : Int)) = false := by
    simp; omega
  obtain ⟨b, hbd⟩ : ∃ b, b = at8 s 7 := ⟨_, rfl⟩
  rw [← hbd] at g7 hb hne heq
  have Heq := hid heq
  have Hbd := hid hbd
  clear heq hbd
  have hsz : (s.extract 0 (s.size - 4)).size ≤ 1000000 := by simp; omega
  have HS := fun w => hid (refcrc_any (s.extract 0 (s.size - 4)) w hsz)
  have hcl := crc_lt (s.extract 0 (s.size - 4)).data.toList
  obtain ⟨c, hc⟩ : ∃ c, c = crc (s.extract 0 (s.size - 4)).data.toList := ⟨_, rfl⟩
  rw [← hc] at HS hcl
  have HL := fun w => hid (reflow_any c (by omega) w)
  have hq : (low4 c == (s.extract (s.size - 4) s.size).toList) = true := by
    rw [Lib.toList_data, Lib.extract_to_end, hc, Lib.extract_data, List.drop_zero, Nat.sub_zero]
    exact h2
  clear hc hsz h2
  go_enter Tryd.func41, Tryd.ntmps41
  go_wp2
  refine wp_flowT (fun _ => False) (by kernel_rfl) (by kernel_rfl) ?_
  iterate 1 (apply FlowT.d; (intro w1 hk; unfold does; go_simp; (try go_ints); (first | exact DetR.mk | (simp only [↓IntWalk.iteOmega, Oper.doesUpon_value]; exact DetR.mk) | (simp only [↓IntWalk.iteOmega]; go_simp; (try go_ints); exact DetR.mk))); simp only [Act.put, List.setIfInBounds_toArray, List.set_cons_zero, List.set_cons_succ])
  apply FlowT.d
  · intro w1 hk
    unfold does
    go_simp
    exact CallR.det ((HS w1).out.mono fun e w' ⟨h1, h2⟩ => ⟨h1, h2 ▸ Ext.refl _⟩)
  simp only [Act.put, List.setIfInBounds_toArray, List.set_cons_zero, List.set_cons_succ]
  apply FlowT.d
  · intro w1 hk
    unfold does
    go_simp
    exact CallR.det ((HL w1).out)
  simp only [Act.put, List.setIfInBounds_toArray, List.set_cons_zero, List.set_cons_succ]
  repeat (apply FlowT.d; (intro w1 hk; unfold does; go_simp; (try go_ints); (first | exact DetR.mk | (simp only [↓IntWalk.iteOmega, Oper.doesUpon_value]; exact DetR.mk) | (simp only [↓IntWalk.iteOmega]; go_simp; (try go_ints); exact DetR.mk))); simp only [Act.put, List.setIfInBounds_toArray, List.set_cons_zero, List.set_cons_succ])
  refine FlowT.fin fun W xW hk => ?_
  clear hk HS HL
  have g0 := at8_get s 0 (by omega)
  have g1 := at8_get s 1 (by omega)
  have g2 := at8_get s 2 (by omega)
  have q0 := byte_lt (at8 s 0)
  have q1 := byte_lt (at8 s 1)
  have q2 := byte_lt (at8 s 2)
  have HF : ∀ w, Hid (Calls Tryd.prog 80 #[.string (s.extract 3 7)] w fun e w' => e = .returned (.int .i64 (four s 3 : Int)) ∧ Ext w w') := fun w => number_at s 3 (by omega) w
  obtain ⟨q3, hq3⟩ : ∃ q3, q3 = four s 3 := ⟨_, rfl⟩
  rw [← hq3] at HF
  have Hq3 := hid hq3
  obtain ⟨b0, hb0⟩ : ∃ b0, b0 = at8 s 0 := ⟨_, rfl⟩
  obtain ⟨b1, hb1⟩ : ∃ b1, b1 = at8 s 1 := ⟨_, rfl⟩
  obtain ⟨b2, hb2⟩ : ∃ b2, b2 = at8 s 2 := ⟨_, rfl⟩
  rw [← hb0] at g0 q0
  rw [← hb1] at g1 q1
  rw [← hb2] at g2 q2
  have Hb0 := hid hb0
  have Hb1 := hid hb1
  have Hb2 := hid hb2
  clear hq3 hb0 hb1 hb2
  have hN := Blk.new w frz 24
  go_wp2
  refine wp_flowT (fun _ => False) (by kernel_rfl) (by kernel_rfl) ?_
  repeat (apply FlowT.d; (intro w1 hk; unfold does; go_simp; (try go_ints); (first | exact DetR.mk | (simp only [↓IntWalk.iteOmega, Oper.doesUpon_value]; exact DetR.mk) | (simp only [↓IntWalk.iteOmega]; go_simp; (try go_ints); exact DetR.mk))); simp only [Act.put, List.setIfInBounds_toArray, List.set_cons_zero, List.set_cons_succ])
  apply FlowT.d
  · intro w1 hk
    unfold does
    go_simp
    exact CallR.det ((HF w1).out)
  simp only [Act.put, List.setIfInBounds_toArray, List.set_cons_zero, List.set_cons_succ]
  repeat (apply FlowT.d; (intro w1 hk; unfold does; go_simp; (try go_ints); (first | exact DetR.mk | (simp only [↓IntWalk.iteOmega, Oper.doesUpon_value]; exact DetR.mk) | (simp only [↓IntWalk.iteOmega]; go_simp; (try go_ints); exact DetR.mk))); simp only [Act.put, List.setIfInBounds_toArray, List.set_cons_zero, List.set_cons_succ])
  refine FlowT.s (fun v w' => ∃ n, v = .pointer (some ⟨n, 0, none⟩) ∧ Blk w' n frz 24 ∧ W.heap.size ≤ n ∧ Ext W w') 12 rfl (by kernel_rfl) (fun _ _ _ ⟨n, h1, h2, h3, h4⟩ x => ⟨n, h1, h2.ext x, h3, h4.trans x⟩) (fun w1 hC hk => ?_) ?_
  · unfold does
    go_simp
    exact ⟨hk.alloc _, _, rfl, Blk.new _ _ _, hC.size, hC.alloc _⟩
  rintro _ ⟨_, n5, rfl, _, hn5, _⟩
  simp only [Act.put, List.setIfInBounds_toArray, List.set_cons_zero, List.set_cons_succ]
  refine FlowT.t (fun b => b = n5) (fun _ w' => Blk w' n5 #[.int .u8 (b0.toNat : Int), .int .i64 (b1.toNat : Int), .int .i64 (b2.toNat : Int), .int .i64 (q3 : Int), .slice none 0 0] 24 ∧ Ext W w') 13 rfl (by kernel_rfl) (by kernel_rfl) (fun _ _ _ h x => ⟨h.1.ext x, h.2.trans x⟩) (fun w1 hC hk => ?_) ?_
  · obtain ⟨n', e, hB, _, hE⟩ := hC
    obtain rfl : n5 = n' := by simpa using e
    have c0 := hB.av 0 rfl
    have c1 := hB.av 1 rfl
    have c2 := hB.av 2 rfl
    have c3 := hB.av 3 rfl
    have c4 := hB.av 4 rfl
    have f0 := hB.free
    unfold does
    go_simp
    exact ⟨(hE.keep _).trans (store5_keep _ _ _ _ _ _ _), store5 hB, Keep.new hE (store5_keep _ _ _ _ _ _ _) (fun b hb => by omega)⟩
  intro v _
  simp only [Act.put, List.setIfInBounds_toArray, List.set_cons_zero, List.set_cons_succ]
  refine FlowT.fin fun W2 hC hk => ?_
  obtain ⟨hB5, hE2⟩ := hC
  clear hk HF g0 g1 g2 hq hne
  have hxx := xW.trans hE2
  have hw2 : w.heap.size < n5 ∧ n5 < W2.heap.size := by
    have h1 := xW.size
    have h2 := hB5.lt
    simp at h1
    omega
  go_wp2
  go_loopw [6] (fun t6 wr => ∃ (k : Nat) (v : Value), t6 = .int .i64 (k : Int) ∧ k ≤ b.toNat ∧ Blk wr n5 #[.int .u8 (b0.toNat : Int), .int .i64 (b1.toNat : Int), .int .i64 (b2.toNat : Int), .int .i64 (q3 : Int), v] 24 ∧ IRow W2.heap.size wr v (nm s k) ∧ Keep (fun x => x = n5) W2 wr) (fun t6 _ => s.size - (intOf t6).toNat)
  case atStart => exact ⟨0, _, rfl, Nat.zero_le _, hB5, IRow.nil _ _, Keep.refl _ _⟩
  case round =>
    obtain ⟨k, v, rfl, hk, hB, hI, hK⟩ := hrel
    by_cases hlt : k < b.toNat
    · have hb4 : 8 + 4 * k + 4 ≤ s.size := by have := Heq.out; omega
      have HF : ∀ w, Hid (Calls Tryd.prog 80 #[.string (s.extract (8 + 4 * k) (12 + 4 * k))] w fun e w' => e = .returned (.int .i64 (four s (8 + 4 * k) : Int)) ∧ Ext w w') := fun w => by
        have := number_at s (8 + 4 * k) hb4 w
        rw [show 8 + 4 * k + 4 = 12 + 4 * k by omega] at this
        exact this
      have hsl := fun w1 => run_slice_of_slice (P := Tryd.prog) 9 Tryd.underlying9 s 0 s.size (8 + 4 * k) (12 + 4 * k) (by omega) (by omega) w1
      obtain ⟨q, hq⟩ : ∃ q, q = four s (8 + 4 * k) := ⟨_, rfl⟩
      rw [← hq] at HF
      have Hq := hid hq
      clear hq
      have hnl := nm_len s k
      have Hsucc := hid (nm_succ s k)
      rw [← Hq.out] at Hsucc
      have Hnl := hid hnl
      clear hnl
      obtain ⟨av, cv, hv⟩ := hI.form
      rw [Hnl.out] at hv
      have hne5 : ∀ x, v.ownBlock = some x → ¬ x = n5 := fun x hx e => by
        have := (hI.lt hx).1
        omega
      have d4 := hB.kc (X := fun x => v.ownBlock = some x) (fun e => hne5 _ e rfl) 4 rfl
      have Hv := hid hv
      clear hv
      go_wp2
      refine wp_flowT (fun x => v.ownBlock = some x) (by kernel_rfl) (by kernel_rfl) ?_
      repeat (apply FlowT.d; (intro w1 hk; unfold does; go_simp; (try go_ints); (first | exact DetR.mk | (simp only [↓IntWalk.iteOmega, Oper.doesUpon_value]; exact DetR.mk) | (simp only [↓IntWalk.iteOmega]; go_simp; (try go_ints); exact DetR.mk))); simp only [Act.put, List.setIfInBounds_toArray, List.set_cons_zero, List.set_cons_succ])
      apply FlowT.d
      · intro w1 hk
        unfold does
        go_simp
        exact CallR.det ((HF w1).out)
      simp only [Act.put, List.setIfInBounds_toArray, List.set_cons_zero, List.set_cons_succ]
      refine FlowT.s (fun v' w' => ∃ g, v' = .slice (some ⟨g, 0, none⟩) 1 1 ∧ Blk w' g #[.int .i64 (q : Int)] 3 ∧ Ext wr w') 11 rfl (by kernel_rfl) (fun _ _ _ ⟨g, h1, h2, h3⟩ he => ⟨g, h1, h2.ext he, h3.trans he⟩) (fun w2 hC hk => ?_) ?_
      · unfold does
        go_simp
        exact ⟨hk.alloc _, _, rfl, Blk.new _ _ _, hC.alloc _⟩
      rintro _ ⟨_, g, rfl, _, _⟩
      simp only [Act.put, List.setIfInBounds_toArray, List.set_cons_zero, List.set_cons_succ]
      have hbs := hK.size
      refine FlowT.s (fun v' w' => IRow W2.heap.size w' v' (nm s k ++ [(q : Int)])) 12 rfl (by kernel_rfl) (fun _ _ _ h he => h.ext he) (fun w2 hC hk => ?_) ?_
      · obtain ⟨g', e, hg, hE⟩ := hC
        obtain rfl : g = g' := by simpa using e
        exact does_int W2.heap.size (Nat.le_trans hbs hE.size) rfl (.tmp 56) (.tmp 66) rfl v (nm s k) rfl (hI.ext hE) g (q : Int) rfl hg (by rw [Hnl.out]; omega) fun v' w' h1 h2 => ⟨(hE.keep _).trans h2, h1⟩
      rintro v3 ⟨w3, hv3⟩
      obtain ⟨a3, c3, rfl⟩ := hv3.form
      clear hv3
      simp only [Act.put, List.setIfInBounds_toArray, List.set_cons_zero, List.set_cons_succ]
      have hl3 : (nm s k ++ [(q : Int)]).length = k + 1 := by rw [List.length_append, Hnl.out]; rfl
      rw [hl3]
      have Hl3 := hid hl3
      clear hl3
      repeat (apply FlowT.d; (intro w1 hk; unfold does; go_simp; (try go_ints); (first | exact DetR.mk | (simp only [↓IntWalk.iteOmega, Oper.doesUpon_value]; exact DetR.mk) | (simp only [↓IntWalk.iteOmega]; go_simp; (try go_ints); exact DetR.mk))); simp only [Act.put, List.setIfInBounds_toArray, List.set_cons_zero, List.set_cons_succ])
      refine FlowT.last (fun _ w' => ∃ w2, IRow W2.heap.size w2 (.slice a3 (k + 1) c3) (nm s k ++ [(q : Int)]) ∧ Keep (fun x => v.ownBlock = some x) wr w2 ∧ w' = w2.setCell ⟨n5, 4, none⟩ (.slice a3 (k + 1) c3)) 14 rfl (by kernel_rfl) (by kernel_rfl) (fun w2 hC hk => ?_) (fun _ w4 hR => ?_)
      · have q2 := d4 w2 hk
        have f2 := (hB.keep hk fun e => hne5 _ e rfl).free 4
        unfold does
        go_simp
        exact ⟨w2, hC, hk, rfl⟩
      obtain ⟨w5, hI5, hK5, rfl⟩ := hR
      simp only [Act.put]
      have hB6 := (hB.keep hK5 fun e => hne5 _ e rfl).set 4 (.slice a3 (k + 1) c3)
      simp only [List.setIfInBounds_toArray, List.set_cons_zero, List.set_cons_succ] at hB6
      have hI6 : IRow W2.heap.size (w5.setCell ⟨n5, 4, none⟩ (.slice a3 (k + 1) c3)) (.slice a3 (k + 1) c3) (nm s (k + 1)) := by
        rw [Hsucc.out]
        exact hI5.keep (X := fun x => x = n5) (Keep.set (X := fun x => x = n5) (Keep.refl _ _) rfl _) fun x hx e => by
          have := (hI5.lt hx).1
          omega
      have hK6 : Keep (fun x => x = n5) W2 (w5.setCell ⟨n5, 4, none⟩ (.slice a3 (k + 1) c3)) :=
        Keep.set (X := fun x => x = n5) (hK.tr hK5 fun x hx => .inl (hI.lt hx).1) rfl _
      clear hI hB hK hI5 hK5 d4 hne5 Hv HF
      generalize w5.setCell ⟨n5, 4, none⟩ (.slice a3 (k + 1) c3) = w6 at *
      go_wp2
      go_roundw
      case rel => exact ⟨k + 1, _, by go_num, by omega, hB6, hI6, hK6⟩
      case measure => simp [intOf]; omega
    · obtain rfl : k = b.toNat := by omega
      have hfn : frOf s = ⟨b0, b1.toNat, b2.toNat, q3, nm s b.toNat⟩ := by
        unfold frOf
        rw [Hb0.out, Hb1.out, Hb2.out, Hq3.out, Hbd.out]
        rfl
      have hlen := nm_len s b.toNat
      obtain ⟨av, cv, rfl⟩ := hI.form
      have hii := hI.ints (nm_hi s b.toNat)
      rw [hlen] at hii hB hI
      have hEw : Ext w wr := Keep.new (((Ext.refl w).alloc _).trans hxx) hK fun x hx => by have := ((Ext.refl w).alloc (.cells frz 24)).size; omega
      have HC := fun w1 (x : Ext wr w1) => hid (referror_any ⟨b0, b1.toNat, b2.toNat, q3, nm s b.toNat⟩ av cv w1 (by simp only; rw [hlen]; exact hii.ext x) (by simp only; rw [hlen]; omega))
      unfold frv at HC
      simp only [hlen] at HC
      have hbz := (hN.ext hxx).keep hK (fun e => by omega)
      have Hfn := hid hfn
      have Hlen := hid hlen
      have HI := hid hI
      have d0 := hB.av 0 rfl
      have d1 := hB.av 1 rfl
      have d2 := hB.av 2 rfl
      have d3 := hB.av 3 rfl
      have d4 := hB.av 4 rfl
      have HEw := hid hEw
      by_cases hc : Fr.code ⟨b0, b1.toNat, b2.toNat, q3, nm s b.toNat⟩ = 0
      · rw [hc] at HC
        have Hc := hid hc
        clear hc hfn hlen hii hI hK hEw
        go_wp2_with fail
        refine (HC _ (Ext.refl _)).out.mono ?_
        intro e w7 hx
        obtain ⟨rfl, hx7⟩ := hx
        clear HC d0 d1 d2 d3 d4
        have hB7 := hB.ext hx7
        have hbz7 := hbz.ext hx7
        have d0 := hB7.av 0 rfl
        have d1 := hB7.av 1 rfl
        have d2 := hB7.av 2 rfl
        have d3 := hB7.av 3 rfl
        have d4 := hB7.av 4 rfl
        have c0 := hbz7.av 0 rfl
        have c1 := hbz7.av 1 rfl
        have c2 := hbz7.av 2 rfl
        have c3 := hbz7.av 3 rfl
        have c4 := hbz7.av 4 rfl
        have f0 := hbz7.free
        have hne : n5 ≠ w.heap.size := by omega
        go_wp2
        have hB8 := store5 (b0 := .int .u8 (b0.toNat : Int)) (b1 := .int .i64 (b1.toNat : Int)) (b2 := .int .i64 (b2.toNat : Int)) (b3 := .int .i64 (q3 : Int)) (b4 := .slice av b.toNat cv) hbz7
        have hK8 := store5_keep w7 w.heap.size (.int .u8 (b0.toNat : Int)) (.int .i64 (b1.toNat : Int)) (.int .i64 (b2.toNat : Int)) (.int .i64 (q3 : Int)) (.slice av b.toNat cv)
        generalize ((((w7.setCell ⟨w.heap.size, 0, none⟩ (.int .u8 (b0.toNat : Int))).setCell ⟨w.heap.size, 1, none⟩ (.int .i64 (b1.toNat : Int))).setCell ⟨w.heap.size, 2, none⟩ (.int .i64 (b2.toNat : Int))).setCell ⟨w.heap.size, 3, none⟩ (.int .i64 (q3 : Int))).setCell ⟨w.heap.size, 4, none⟩ (.slice av b.toNat cv) = w8 at *
        have hEf : Ext w w8 := Keep.new (HEw.out.trans hx7) hK8 fun x hx => by omega
        have hI8 := (HI.out.ext hx7).keep hK8 fun x hx e => by
          have := (HI.out.lt hx).1
          omega
        have hii8 := hI8.ints (nm_hi s b.toNat)
        rw [Hlen.out] at hii8
        exact bodyPost_ret (v := .tuple #[.agg #[.int .u8 (b0.toNat : Int), .int .i64 (b1.toNat : Int), .int .i64 (b2.toNat : Int), .int .i64 (q3 : Int), .slice av b.toNat cv], .int .i64 0]) (by simp [results, Tryd.results41, go_sem, hB8.av 0 rfl, hB8.av 1 rfl, hB8.av 2 rfl, hB8.av 3 rfl, hB8.av 4 rfl]) rfl (OfR.yes Hfn.out Hlen.out Hc.out hii8 hEf)
      · obtain ⟨cc, hcc⟩ : ∃ cc, cc = Fr.code ⟨b0, b1.toNat, b2.toNat, q3, nm s b.toNat⟩ := ⟨_, rfl⟩
        rw [← hcc] at HC
        have Hc := hid hc
        have Hv := hid hcc
        have hpos : 0 < cc := by omega
        clear hc hfn hlen hI hK hEw hcc
        go_wp2_with fail
        refine (HC _ (Ext.refl _)).out.mono ?_
        intro e w7 hx
        obtain ⟨rfl, hx7⟩ := hx
        clear HC d0 d1 d2 d3 d4
        have hbz7 := hbz.ext hx7
        have c0 := hbz7.av 0 rfl
        have c1 := hbz7.av 1 rfl
        have c2 := hbz7.av 2 rfl
        have c3 := hbz7.av 3 rfl
        have c4 := hbz7.av 4 rfl
        have f0 := hbz7.free
        go_wp2
        have hB8 := store5 (b0 := .int .u8 0) (b1 := .int .i64 0) (b2 := .int .i64 0) (b3 := .int .i64 0) (b4 := .slice none 0 0) hbz7
        have hK8 := store5_keep w7 w.heap.size (.int .u8 0) (.int .i64 0) (.int .i64 0) (.int .i64 0) (.slice none 0 0)
        generalize ((((w7.setCell ⟨w.heap.size, 0, none⟩ (.int .u8 0)).setCell ⟨w.heap.size, 1, none⟩ (.int .i64 0)).setCell ⟨w.heap.size, 2, none⟩ (.int .i64 0)).setCell ⟨w.heap.size, 3, none⟩ (.int .i64 0)).setCell ⟨w.heap.size, 4, none⟩ (.slice none 0 0) = w8 at *
        have hEf : Ext w w8 := Keep.new (HEw.out.trans hx7) hK8 fun x hx => by omega
        exact bodyPost_ret (v := .tuple #[fr0, .int .i64 (cc : Int)]) (by simp [results, Tryd.results41, go_sem, hB8.av 0 rfl, hB8.av 1 rfl, hB8.av 2 rfl, hB8.av 3 rfl, hB8.av 4 rfl]; rfl) rfl (OfR.no Hfn.out Hc.out Hv.out hEf)
end Go.Proofs.YtmdcjfgdmmncpaaDoor
