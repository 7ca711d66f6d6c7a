/- Texts of one proof, put together: T3 T4. -/
import Derived.Test.YtbagppdibncfdaaGreatDoorHHN05
import Derived.Test.YtbagppdibncfdaaGreatDoorHHN09
import Derived.Test.YtbagppdibncfdaaGreatDoorHHN12
import Derived.Test.YtbagppdibncfdaaGreatDoorHHN01
set_option linter.unusedSimpArgs false
set_option linter.unusedVariables false
namespace Go.Proofs.YtbagppdibncfdaaGreatDoor
open Go Go.RowKit
set_option maxRecDepth 100000 in
set_option maxHeartbeats 3200000 in
theorem risedge_copy (a1 a2 a3 : Option Addr) (c1 c2 c3 : Nat) (P : PP) (r : RV) (av hv : Value) (has : List (List Int)) (p q : Int) (w : World) (n0 : Nat) (h : ProgR w n0 (.slice a1 P.vars.length c1) (.slice a2 P.funs.length c2) (.slice a3 P.stmts.length c3) P) (hf1 : P.vars.length ≤ 1000) (hf3 : P.stmts.length ≤ 1000) (ha : IntsR w n0 av r.args) (hh : SetsR w n0 hv has) (hkd : (r.kind.toList == [99, 111, 112, 121]) = true) :
    Calls Tryz.prog 163 #[pval a1 a2 a3 c1 c2 c3 P, r.val av, hv, .int .i64 p, .int .i64 q] w fun e w' => e = .returned (.bool (P.isE r has p q)) ∧ Ext w w' := by
  obtain ⟨aa, ca, rfl, _⟩ := id ha
  obtain ⟨ah, ch, rfl⟩ := hh.form
  have hhl := hh.len
  have hal := ha.len
  obtain ⟨W1, hW1⟩ : ∃ W1, W1 = w.alloc (.cells (pcells a1 a2 a3 c1 c2 c3 P) 26) := ⟨_, rfl⟩
  have hx1 : Ext w W1 := by rw [hW1]; exact (Ext.refl _).alloc _
  obtain ⟨W, hW⟩ : ∃ W, W = W1.alloc (.cells #[.string r.kind, .int .i64 r.a, .int .i64 r.b, .int .i64 r.k, .slice aa r.args.length ca] 166) := ⟨_, rfl⟩
  have hx2 : Ext W1 W := by rw [hW]; exact (Ext.refl _).alloc _
  have s1 : W1.heap.size = w.heap.size + 1 := by rw [hW1, heap_size_alloc]
  have HX := hid (hx1.trans hx2)
  have HB0 : Hid (Blk W w.heap.size (pcells a1 a2 a3 c1 c2 c3 P) 26) := hid (by
    have : Blk W1 w.heap.size (pcells a1 a2 a3 c1 c2 c3 P) 26 := by rw [hW1]; exact Blk.new _ _ _
    exact this.ext hx2)
  have HB1 : Hid (Blk W (w.heap.size + 1) #[.string r.kind, .int .i64 r.a, .int .i64 r.b, .int .i64 r.k, .slice aa r.args.length ca] 166) := hid (by rw [← s1, hW]; exact Blk.new _ _ _)
  have HWe : Hid (W = (w.alloc (.cells #[.slice a1 P.vars.length c1, .slice a2 P.funs.length c2, .slice a3 P.stmts.length c3] 26)).alloc (.cells #[.string r.kind, .int .i64 r.a, .int .i64 r.b, .int .i64 r.k, .slice aa r.args.length ca] 166)) := hid (by rw [hW, hW1]; rfl)
  have HP := hid (h.ext HX.out)
  have HH := hid (hh.ext HX.out)
  have HA := hid (ha.old (HX.out.old n0))
  have hnl := P.nodesV_le2
  have HNo := hid (rnodesof_any a1 a2 a3 c1 c2 c3 P W n0 (h.ext HX.out) hf1 hf3)
  obtain ⟨N, hN⟩ : ∃ N, N = P.nodesV := ⟨_, rfl⟩
  rw [← hN] at HNo hnl
  have HN := hid hN
  have d0 := HB0.out.av 0 rfl
  have d1 := HB0.out.av 1 rfl
  have d2 := HB0.out.av 2 rfl
  simp only [pcells, qA0, qA1, qA2] at d0 d1 d2
  rw [HWe.out] at d0 d1 d2
  unfold RV.val
  unfold pval at HNo ⊢
  clear h ha hh hW1 hW hx1 hx2 s1 hN
  have Hr : Hid (P.isE r has p q = (decide (p = r.a) && decide (q = r.b))) := hid (by unfold PP.isE kCopy; rw [hkd]; rfl)
  obtain ⟨ra, hra⟩ : ∃ x, x = r.a := ⟨_, rfl⟩
  obtain ⟨rb, hrb⟩ : ∃ x, x = r.b := ⟨_, rfl⟩
  go_enter Tryz.func163, Tryz.ntmps163
  go_wp2_with fail
  rw [← HWe.out]
  refine HNo.out.mono ?_
  intro e w1 hx
  obtain ⟨rfl, hx1⟩ := hx
  have Hx1 := hid hx1
  have m0 := (HB1.out.ext hx1).av 0 rfl
  have m1 := (HB1.out.ext hx1).av 1 rfl
  have m2 := (HB1.out.ext hx1).av 2 rfl
  have m3 := (HB1.out.ext hx1).av 3 rfl
  have m4 := (HB1.out.ext hx1).av 4 rfl
  simp only [qA0, qA1, qA2] at m0 m1 m2 m3 m4
  clear HNo hx1 d0 d1 d2
  rw [← hra] at m1 Hr
  rw [← hrb] at m2 Hr
  clear hra hrb
  by_cases h1 : p = ra
  · subst h1
    by_cases h2 : q = rb
    · subst h2
      go_wp2
      go_ret
      exact ⟨by rw [Hr.out]; simp, HX.out.trans Hx1.out⟩
    · have h2' : (q == rb) = false := beq_eq_false_iff_ne.2 h2
      have Hr2 : Hid (P.isE r has p q = false) := hid (by rw [Hr.out, decide_eq_false h2, Bool.and_false])
      go_wp2
      go_ret
      exact ⟨by rw [Hr2.out]; rfl, HX.out.trans Hx1.out⟩
  · have h1' : (p == ra) = false := beq_eq_false_iff_ne.2 h1
    have Hr2 : Hid (P.isE r has p q = false) := hid (by rw [Hr.out, decide_eq_false h1, Bool.false_and])
    go_wp2
    go_ret
    exact ⟨by rw [Hr2.out]; rfl, HX.out.trans Hx1.out⟩
set_option maxRecDepth 100000 in
set_option maxHeartbeats 3200000 in
theorem risedge_load (a1 a2 a3 : Option Addr) (c1 c2 c3 : Nat) (P : PP) (r : RV) (av hv : Value) (has : List (List Int)) (p q : Int) (w : World) (n0 : Nat) (h : ProgR w n0 (.slice a1 P.vars.length c1) (.slice a2 P.funs.length c2) (.slice a3 P.stmts.length c3) P) (hf1 : P.vars.length ≤ 1000) (hf3 : P.stmts.length ≤ 1000) (ha : IntsR w n0 av r.args) (hh : SetsR w n0 hv has) (hkd : (r.kind.toList == [108, 111, 97, 100]) = true) (hidx : 0 ≤ r.a ∧ r.a < has.length) :
    Calls Tryz.prog 163 #[pval a1 a2 a3 c1 c2 c3 P, r.val av, hv, .int .i64 p, .int .i64 q] w fun e w' => e = .returned (.bool (P.isE r has p q)) ∧ Ext w w' := by
  obtain ⟨aa, ca, rfl, _⟩ := id ha
  obtain ⟨ah, ch, rfl⟩ := hh.form
  have hhl := hh.len
  have hal := ha.len
  obtain ⟨W1, hW1⟩ : ∃ W1, W1 = w.alloc (.cells (pcells a1 a2 a3 c1 c2 c3 P) 26) := ⟨_, rfl⟩
  have hx1 : Ext w W1 := by rw [hW1]; exact (Ext.refl _).alloc _
  obtain ⟨W, hW⟩ : ∃ W, W = W1.alloc (.cells #[.string r.kind, .int .i64 r.a, .int .i64 r.b, .int .i64 r.k, .slice aa r.args.length ca] 166) := ⟨_, rfl⟩
  have hx2 : Ext W1 W := by rw [hW]; exact (Ext.refl _).alloc _
  have s1 : W1.heap.size = w.heap.size + 1 := by rw [hW1, heap_size_alloc]
  have HX := hid (hx1.trans hx2)
  have HB0 : Hid (Blk W w.heap.size (pcells a1 a2 a3 c1 c2 c3 P) 26) := hid (by
    have : Blk W1 w.heap.size (pcells a1 a2 a3 c1 c2 c3 P) 26 := by rw [hW1]; exact Blk.new _ _ _
    exact this.ext hx2)
  have HB1 : Hid (Blk W (w.heap.size + 1) #[.string r.kind, .int .i64 r.a, .int .i64 r.b, .int .i64 r.k, .slice aa r.args.length ca] 166) := hid (by rw [← s1, hW]; exact Blk.new _ _ _)
  have HWe : Hid (W = (w.alloc (.cells #[.slice a1 P.vars.length c1, .slice a2 P.funs.length c2, .slice a3 P.stmts.length c3] 26)).alloc (.cells #[.string r.kind, .int .i64 r.a, .int .i64 r.b, .int .i64 r.k, .slice aa r.args.length ca] 166)) := hid (by rw [hW, hW1]; rfl)
  have HP := hid (h.ext HX.out)
  have HH := hid (hh.ext HX.out)
  have HA := hid (ha.old (HX.out.old n0))
  have hnl := P.nodesV_le2
  have HNo := hid (rnodesof_any a1 a2 a3 c1 c2 c3 P W n0 (h.ext HX.out) hf1 hf3)
  obtain ⟨N, hN⟩ : ∃ N, N = P.nodesV := ⟨_, rfl⟩
  rw [← hN] at HNo hnl
  have HN := hid hN
  have d0 := HB0.out.av 0 rfl
  have d1 := HB0.out.av 1 rfl
  have d2 := HB0.out.av 2 rfl
  simp only [pcells, qA0, qA1, qA2] at d0 d1 d2
  rw [HWe.out] at d0 d1 d2
  unfold RV.val
  unfold pval at HNo ⊢
  clear h ha hh hW1 hW hx1 hx2 s1 hN
  have hk0 : (r.kind.toList == [99, 111, 112, 121]) = false := by rw [eq_of_beq hkd]; rfl
  have Hr : Hid (P.isE r has p q = (decide (q = r.b) && (decide (p < (P.nodesV : Int)) && decide (p ∈ has.getD r.a.toNat [])))) := hid (by unfold PP.isE kCopy kLoad; rw [hk0, hkd]; rfl)
  obtain ⟨K, hK⟩ := Int.eq_ofNat_of_zero_le hidx.1
  have hKl : K < has.length := by omega
  obtain ⟨y, l, bl, cl, hya, hl, hc, hI⟩ := HH.out.at hKl
  subst hya
  have Hl : Hid (has.getD (r.a).toNat [] = l) := hid (by rw [hK, List.getD_eq_getElem?_getD]; show (has[K]?).getD [] = l; rw [hl]; rfl)
  have HC := fun w1 (x : Ext W w1) => hid (rhas_any (.slice bl l.length cl) l p w1 n0 (hI.old (x.old n0)))
  have Hc := hid hc
  have HK := hid hK
  clear hl hI hidx hc hK
  go_enter Tryz.func163, Tryz.ntmps163
  go_wp2_with fail
  rw [← HWe.out]
  refine HNo.out.mono ?_
  intro e w1 hx
  obtain ⟨rfl, hx1⟩ := hx
  have Hx1 := hid hx1
  have m0 := (HB1.out.ext hx1).av 0 rfl
  have m1 := (HB1.out.ext hx1).av 1 rfl
  have m2 := (HB1.out.ext hx1).av 2 rfl
  have m3 := (HB1.out.ext hx1).av 3 rfl
  have m4 := (HB1.out.ext hx1).av 4 rfl
  simp only [qA0, qA1, qA2] at m0 m1 m2 m3 m4
  clear HNo hx1 d0 d1 d2
  have c0 := Hx1.out.cellx Hc.out
  have HC1 := HC w1 Hx1.out
  rw [Hl.out, ← HN.out] at Hr
  obtain ⟨rb, hrb⟩ : ∃ x, x = r.b := ⟨_, rfl⟩
  rw [← hrb] at m2 Hr
  rw [HK.out] at m1
  clear hrb HC
  by_cases h1 : q = rb
  · subst h1
    by_cases h2 : p < (N : Int)
    · obtain ⟨d, hd⟩ : ∃ d, d = decide (p ∈ l) := ⟨_, rfl⟩
      rw [← hd] at HC1
      have Hr2 : Hid (P.isE r has p q = d) := hid (by rw [Hr.out, decide_eq_true rfl, decide_eq_true h2, ← hd]; rfl)
      clear hd
      go_wp2_with fail
      refine HC1.out.mono ?_
      intro e w2 hx
      obtain ⟨rfl, rfl⟩ := hx
      clear HC1
      go_wp2
      go_ret
      exact ⟨by rw [Hr2.out]; rfl, HX.out.trans Hx1.out⟩
    · have Hr2 : Hid (P.isE r has p q = false) := hid (by rw [Hr.out, decide_eq_false h2, Bool.false_and, Bool.and_false])
      go_wp2
      go_ret
      exact ⟨by rw [Hr2.out]; rfl, HX.out.trans Hx1.out⟩
  · have h1' : (q == rb) = false := beq_eq_false_iff_ne.2 h1
    have Hr2 : Hid (P.isE r has p q = false) := hid (by rw [Hr.out, decide_eq_false h1, Bool.false_and])
    go_wp2
    go_ret
    exact ⟨by rw [Hr2.out]; rfl, HX.out.trans Hx1.out⟩
set_option maxRecDepth 100000 in
set_option maxHeartbeats 3200000 in
theorem risedge_store (a1 a2 a3 : Option Addr) (c1 c2 c3 : Nat) (P : PP) (r : RV) (av hv : Value) (has : List (List Int)) (p q : Int) (w : World) (n0 : Nat) (h : ProgR w n0 (.slice a1 P.vars.length c1) (.slice a2 P.funs.length c2) (.slice a3 P.stmts.length c3) P) (hf1 : P.vars.length ≤ 1000) (hf3 : P.stmts.length ≤ 1000) (ha : IntsR w n0 av r.args) (hh : SetsR w n0 hv has) (hkd : (r.kind.toList == [115, 116, 111, 114, 101]) = true) (hidx : 0 ≤ r.b ∧ r.b < has.length) :
    Calls Tryz.prog 163 #[pval a1 a2 a3 c1 c2 c3 P, r.val av, hv, .int .i64 p, .int .i64 q] w fun e w' => e = .returned (.bool (P.isE r has p q)) ∧ Ext w w' := by
  obtain ⟨aa, ca, rfl, _⟩ := id ha
  obtain ⟨ah, ch, rfl⟩ := hh.form
  have hhl := hh.len
  have hal := ha.len
  obtain ⟨W1, hW1⟩ : ∃ W1, W1 = w.alloc (.cells (pcells a1 a2 a3 c1 c2 c3 P) 26) := ⟨_, rfl⟩
  have hx1 : Ext w W1 := by rw [hW1]; exact (Ext.refl _).alloc _
  obtain ⟨W, hW⟩ : ∃ W, W = W1.alloc (.cells #[.string r.kind, .int .i64 r.a, .int .i64 r.b, .int .i64 r.k, .slice aa r.args.length ca] 166) := ⟨_, rfl⟩
  have hx2 : Ext W1 W := by rw [hW]; exact (Ext.refl _).alloc _
  have s1 : W1.heap.size = w.heap.size + 1 := by rw [hW1, heap_size_alloc]
  have HX := hid (hx1.trans hx2)
  have HB0 : Hid (Blk W w.heap.size (pcells a1 a2 a3 c1 c2 c3 P) 26) := hid (by
    have : Blk W1 w.heap.size (pcells a1 a2 a3 c1 c2 c3 P) 26 := by rw [hW1]; exact Blk.new _ _ _
    exact this.ext hx2)
  have HB1 : Hid (Blk W (w.heap.size + 1) #[.string r.kind, .int .i64 r.a, .int .i64 r.b, .int .i64 r.k, .slice aa r.args.length ca] 166) := hid (by rw [← s1, hW]; exact Blk.new _ _ _)
  have HWe : Hid (W = (w.alloc (.cells #[.slice a1 P.vars.length c1, .slice a2 P.funs.length c2, .slice a3 P.stmts.length c3] 26)).alloc (.cells #[.string r.kind, .int .i64 r.a, .int .i64 r.b, .int .i64 r.k, .slice aa r.args.length ca] 166)) := hid (by rw [hW, hW1]; rfl)
  have HP := hid (h.ext HX.out)
  have HH := hid (hh.ext HX.out)
  have HA := hid (ha.old (HX.out.old n0))
  have hnl := P.nodesV_le2
  have HNo := hid (rnodesof_any a1 a2 a3 c1 c2 c3 P W n0 (h.ext HX.out) hf1 hf3)
  obtain ⟨N, hN⟩ : ∃ N, N = P.nodesV := ⟨_, rfl⟩
  rw [← hN] at HNo hnl
  have HN := hid hN
  have d0 := HB0.out.av 0 rfl
  have d1 := HB0.out.av 1 rfl
  have d2 := HB0.out.av 2 rfl
  simp only [pcells, qA0, qA1, qA2] at d0 d1 d2
  rw [HWe.out] at d0 d1 d2
  unfold RV.val
  unfold pval at HNo ⊢
  clear h ha hh hW1 hW hx1 hx2 s1 hN
  have hk0 : (r.kind.toList == [99, 111, 112, 121]) = false := by rw [eq_of_beq hkd]; rfl
  have hk1 : (r.kind.toList == [108, 111, 97, 100]) = false := by rw [eq_of_beq hkd]; rfl
  have Hr : Hid (P.isE r has p q = (decide (p = r.a) && (decide (q < (P.nodesV : Int)) && decide (q ∈ has.getD r.b.toNat [])))) := hid (by unfold PP.isE kCopy kLoad kStore; rw [hk0, hk1, hkd]; rfl)
  obtain ⟨K, hK⟩ := Int.eq_ofNat_of_zero_le hidx.1
  have hKl : K < has.length := by omega
  obtain ⟨y, l, bl, cl, hya, hl, hc, hI⟩ := HH.out.at hKl
  subst hya
  have Hl : Hid (has.getD (r.b).toNat [] = l) := hid (by rw [hK, List.getD_eq_getElem?_getD]; show (has[K]?).getD [] = l; rw [hl]; rfl)
  have HC := fun w1 (x : Ext W w1) => hid (rhas_any (.slice bl l.length cl) l q w1 n0 (hI.old (x.old n0)))
  have Hc := hid hc
  have HK := hid hK
  clear hl hI hidx hc hK
  go_enter Tryz.func163, Tryz.ntmps163
  go_wp2_with fail
  rw [← HWe.out]
  refine HNo.out.mono ?_
  intro e w1 hx
  obtain ⟨rfl, hx1⟩ := hx
  have Hx1 := hid hx1
  have m0 := (HB1.out.ext hx1).av 0 rfl
  have m1 := (HB1.out.ext hx1).av 1 rfl
  have m2 := (HB1.out.ext hx1).av 2 rfl
  have m3 := (HB1.out.ext hx1).av 3 rfl
  have m4 := (HB1.out.ext hx1).av 4 rfl
  simp only [qA0, qA1, qA2] at m0 m1 m2 m3 m4
  clear HNo hx1 d0 d1 d2
  have c0 := Hx1.out.cellx Hc.out
  have HC1 := HC w1 Hx1.out
  rw [Hl.out, ← HN.out] at Hr
  obtain ⟨rb, hrb⟩ : ∃ x, x = r.a := ⟨_, rfl⟩
  rw [← hrb] at m1 Hr
  rw [HK.out] at m2
  clear hrb HC
  by_cases h1 : p = rb
  · subst h1
    by_cases h2 : q < (N : Int)
    · obtain ⟨d, hd⟩ : ∃ d, d = decide (q ∈ l) := ⟨_, rfl⟩
      rw [← hd] at HC1
      have Hr2 : Hid (P.isE r has p q = d) := hid (by rw [Hr.out, decide_eq_true rfl, decide_eq_true h2, ← hd]; rfl)
      clear hd
      go_wp2_with fail
      refine HC1.out.mono ?_
      intro e w2 hx
      obtain ⟨rfl, rfl⟩ := hx
      clear HC1
      go_wp2
      go_ret
      exact ⟨by rw [Hr2.out]; rfl, HX.out.trans Hx1.out⟩
    · have Hr2 : Hid (P.isE r has p q = false) := hid (by rw [Hr.out, decide_eq_false h2, Bool.false_and, Bool.and_false])
      go_wp2
      go_ret
      exact ⟨by rw [Hr2.out]; rfl, HX.out.trans Hx1.out⟩
  · have h1' : (p == rb) = false := beq_eq_false_iff_ne.2 h1
    have Hr2 : Hid (P.isE r has p q = false) := hid (by rw [Hr.out, decide_eq_false h1, Bool.false_and])
    go_wp2
    go_ret
    exact ⟨by rw [Hr2.out]; rfl, HX.out.trans Hx1.out⟩
theorem any_range_true {n : Nat} {g : Nat → Bool} {k : Nat} (hk : k < n) (h : g k = true) : (List.range n).any g = true := List.any_eq_true.2 ⟨k, List.mem_range.2 hk, h⟩
theorem any_range_false {n : Nat} {g : Nat → Bool} (h : ∀ j, j < n → g j = false) : (List.range n).any g = false := List.any_eq_false.2 fun x hx => by rw [h x (List.mem_range.1 hx)]; simp
theorem fEdge_len {f : PF} {r : RV} {p q : Int} (h : f.params.length ≠ r.args.length) : fEdge f r p q = false := by
  unfold fEdge
  rw [decide_eq_false h, Bool.false_and]
theorem fEdge_ret {f : PF} {r : RV} {p q : Int} (h : f.params.length = r.args.length) (h1 : p = f.ret) (h2 : q = r.b) : fEdge f r p q = true := by
  unfold fEdge
  rw [decide_eq_true h, decide_eq_true h1, decide_eq_true h2]
  rfl
theorem fEdge_arg {f : PF} {r : RV} {p q : Int} (h : f.params.length = r.args.length) {i : Nat} (hi : i < f.params.length) (h1 : r.args[i]? = some p) (h2 : f.params[i]? = some q) : fEdge f r p q = true := by
  unfold fEdge
  rw [decide_eq_true h, any_range_true hi, Bool.or_true]
  · rfl
  · rw [List.getD_eq_getElem?_getD, List.getD_eq_getElem?_getD, h1, h2]; simp
theorem fEdge_no {f : PF} {r : RV} {p q : Int} (h1 : ¬ (p = f.ret ∧ q = r.b)) (h2 : ∀ i, i < f.params.length → ¬ (p = r.args.getD i 0 ∧ q = f.params.getD i 0)) : fEdge f r p q = false := by
  unfold fEdge
  rw [any_range_false fun j hj => by
    rw [← Bool.decide_and]
    exact decide_eq_false (h2 j hj), ← Bool.decide_and, decide_eq_false h1]
  simp
set_option maxRecDepth 100000 in
set_option maxHeartbeats 3200000 in
theorem risedge_call (a1 a2 a3 : Option Addr) (c1 c2 c3 : Nat) (P : PP) (r : RV) (av hv : Value) (has : List (List Int)) (p q : Int) (w : World) (n0 : Nat) (h : ProgR w n0 (.slice a1 P.vars.length c1) (.slice a2 P.funs.length c2) (.slice a3 P.stmts.length c3) P) (hf1 : P.vars.length ≤ 1000) (hf3 : P.stmts.length ≤ 1000) (ha : IntsR w n0 av r.args) (hh : SetsR w n0 hv has) (hkd : (r.kind.toList == [99, 97, 108, 108]) = true) (hidx : 0 ≤ r.a ∧ r.a < has.length) (hfl : P.funs.length ≤ 1000) :
    Calls Tryz.prog 163 #[pval a1 a2 a3 c1 c2 c3 P, r.val av, hv, .int .i64 p, .int .i64 q] w fun e w' => e = .returned (.bool (P.isE r has p q)) ∧ Ext w w' := by
  obtain ⟨aa, ca, rfl, _⟩ := id ha
  obtain ⟨ah, ch, rfl⟩ := hh.form
  have hhl := hh.len
  have hal := ha.len
  obtain ⟨W1, hW1⟩ : ∃ W1, W1 = w.alloc (.cells (pcells a1 a2 a3 c1 c2 c3 P) 26) := ⟨_, rfl⟩
  have hx1 : Ext w W1 := by rw [hW1]; exact (Ext.refl _).alloc _
  obtain ⟨W, hW⟩ : ∃ W, W = W1.alloc (.cells #[.string r.kind, .int .i64 r.a, .int .i64 r.b, .int .i64 r.k, .slice aa r.args.length ca] 166) := ⟨_, rfl⟩
  have hx2 : Ext W1 W := by rw [hW]; exact (Ext.refl _).alloc _
  have s1 : W1.heap.size = w.heap.size + 1 := by rw [hW1, heap_size_alloc]
  have HX := hid (hx1.trans hx2)
  have HB0 : Hid (Blk W w.heap.size (pcells a1 a2 a3 c1 c2 c3 P) 26) := hid (by
    have : Blk W1 w.heap.size (pcells a1 a2 a3 c1 c2 c3 P) 26 := by rw [hW1]; exact Blk.new _ _ _
    exact this.ext hx2)
  have HB1 : Hid (Blk W (w.heap.size + 1) #[.string r.kind, .int .i64 r.a, .int .i64 r.b, .int .i64 r.k, .slice aa r.args.length ca] 166) := hid (by rw [← s1, hW]; exact Blk.new _ _ _)
  have HWe : Hid (W = (w.alloc (.cells #[.slice a1 P.vars.length c1, .slice a2 P.funs.length c2, .slice a3 P.stmts.length c3] 26)).alloc (.cells #[.string r.kind, .int .i64 r.a, .int .i64 r.b, .int .i64 r.k, .slice aa r.args.length ca] 166)) := hid (by rw [hW, hW1]; rfl)
  have HP := hid (h.ext HX.out)
  have HH := hid (hh.ext HX.out)
  have HA := hid (ha.old (HX.out.old n0))
  have hnl := P.nodesV_le2
  have HNo := hid (rnodesof_any a1 a2 a3 c1 c2 c3 P W n0 (h.ext HX.out) hf1 hf3)
  obtain ⟨N, hN⟩ : ∃ N, N = P.nodesV := ⟨_, rfl⟩
  rw [← hN] at HNo hnl
  have HN := hid hN
  have d0 := HB0.out.av 0 rfl
  have d1 := HB0.out.av 1 rfl
  have d2 := HB0.out.av 2 rfl
  simp only [pcells, qA0, qA1, qA2] at d0 d1 d2
  rw [HWe.out] at d0 d1 d2
  unfold RV.val
  unfold pval at HNo ⊢
  clear h ha hh hW1 hW hx1 hx2 s1 hN
  have hk0 : (r.kind.toList == [99, 111, 112, 121]) = false := by rw [eq_of_beq hkd]; rfl
  have hk1 : (r.kind.toList == [108, 111, 97, 100]) = false := by rw [eq_of_beq hkd]; rfl
  have hk2 : (r.kind.toList == [115, 116, 111, 114, 101]) = false := by rw [eq_of_beq hkd]; rfl
  obtain ⟨G, hG⟩ : ∃ G : Nat → Bool, G = fun f : Nat => decide ((P.nodesV : Int) + (f : Int) ∈ has.getD r.a.toNat []) && fEdge (P.funs.getD f ⟨⟨#[]⟩, [], 0⟩) r p q := ⟨_, rfl⟩
  have Hr : Hid (P.isE r has p q = (List.range P.funs.length).any G) := hid (by unfold PP.isE kCopy kLoad kStore kCall; rw [hk0, hk1, hk2, hkd, hG]; rfl)
  obtain ⟨K, hK⟩ := Int.eq_ofNat_of_zero_le hidx.1
  have hKl : K < has.length := by omega
  obtain ⟨y, l, bl, cl, hya, hl, hc, hI⟩ := HH.out.at hKl
  subst hya
  have HG : Hid (∀ k f, P.funs[k]? = some f → G k = (decide ((N : Int) + (k : Int) ∈ l) && fEdge f r p q)) := hid (fun k f hf => by
    rw [hG, HN.out]
    simp only
    rw [hK, Int.toNat_natCast, List.getD_eq_getElem?_getD, hl, List.getD_eq_getElem?_getD, hf]
    rfl)
  have HC := fun x w1 (e : Ext W w1) => hid (rhas_any (.slice bl l.length cl) l x w1 n0 (hI.old (e.old n0)))
  have Hc := hid hc
  have HK := hid hK
  clear hl hI hidx hc hG hK
  go_enter Tryz.func163, Tryz.ntmps163
  go_wp2_with fail
  rw [← HWe.out]
  refine HNo.out.mono ?_
  intro e w1 hx
  obtain ⟨rfl, hx1⟩ := hx
  have Hx1 := hid hx1
  have m0 := (HB1.out.ext hx1).av 0 rfl
  have m1 := (HB1.out.ext hx1).av 1 rfl
  have m2 := (HB1.out.ext hx1).av 2 rfl
  have m3 := (HB1.out.ext hx1).av 3 rfl
  have m4 := (HB1.out.ext hx1).av 4 rfl
  simp only [qA0, qA1, qA2] at m0 m1 m2 m3 m4
  clear HNo hx1 d0 d1 d2
  have c0 := Hx1.out.cellx Hc.out
  have d0 := (HB0.out.ext Hx1.out).av 0 rfl
  have d1 := (HB0.out.ext Hx1.out).av 1 rfl
  have d2 := (HB0.out.ext Hx1.out).av 2 rfl
  simp only [pcells, qA0, qA1, qA2] at d0 d1 d2
  rw [HK.out] at m1
  go_wp2
  go_loop [12] (fun t12 => ∃ k : Nat, t12 = .int .i64 (k : Int) ∧ k ≤ P.funs.length ∧ ∀ j, j < k → G j = false) (fun t12 => P.funs.length - (intOf t12).toNat)
  case atStart => exact ⟨0, rfl, Nat.zero_le _, fun j h => by omega⟩
  case round =>
    obtain ⟨k, rfl, hk, hp⟩ := hrel
    have Hp := hid hp
    clear hp
    by_cases hlt : k < P.funs.length
    · obtain ⟨yf, f, afp, cfp, hyf, hfk, e0, e1, e2, hIp⟩ := HP.out.funs.at hlt
      subst hyf
      have e1 := Hx1.out.cellx e1
      have e2 := Hx1.out.cellx e2
      have HIp := hid hIp
      have hpl := hIp.len
      have HGk0 := hid (HG.out k f hfk)
      have HC1 := HC ((N : Int) + (k : Int)) w1 Hx1.out
      obtain ⟨d, hd⟩ : ∃ d, d = decide ((N : Int) + (k : Int) ∈ l) := ⟨_, rfl⟩
      rw [← hd] at HC1 HGk0
      clear e0 hfk hIp hd
      go_wp2_with fail
      refine HC1.out.mono ?_
      intro e w2 hx
      obtain ⟨rfl, rfl⟩ := hx
      clear HC1 HC
      cases d with
      | false =>
        have Hgk : Hid (G k = false) := hid (by rw [HGk0.out]; rfl)
        go_wp2
        refine ⟨⟨k + 1, by go_num, by omega, fun j hj => ?_⟩, by simp [intOf]; omega⟩
        by_cases hjk : j = k
        · subst hjk; exact Hgk.out
        · exact Hp.out j (by omega)
      | true =>
        have HGk : Hid (G k = (true && fEdge f r p q)) := HGk0
        by_cases hlen : f.params.length = r.args.length
        · have Hlen := hid hlen
          have hl1 : ((f.params.length : Int) != (r.args.length : Int)) = false := by rw [hlen]; simp
          obtain ⟨fr, hfr⟩ : ∃ x, x = f.ret := ⟨_, rfl⟩
          obtain ⟨rb, hrb⟩ : ∃ x, x = r.b := ⟨_, rfl⟩
          rw [← hfr] at e2
          rw [← hrb] at m2
          have Hfr := hid hfr
          have Hrb := hid hrb
          clear hfr hrb
          by_cases h1 : p = fr
          · by_cases h2 : q = rb
            · have Hgk : Hid (G k = true) := hid (by rw [HGk.out, fEdge_ret Hlen.out (h1.trans Hfr.out) (h2.trans Hrb.out)]; rfl)
              subst h1 h2
              clear hlen
              have Hr2 : Hid (P.isE r has p q = true) := hid (by rw [Hr.out]; exact any_range_true hlt Hgk.out)
              go_wp2
              go_ret
              exact ⟨by rw [Hr2.out]; rfl, HX.out.trans Hx1.out⟩
            · have h2' : (q == rb) = false := beq_eq_false_iff_ne.2 h2
              have Hnr : Hid (¬ (p = f.ret ∧ q = r.b)) := hid fun h => h2 (h.2.trans Hrb.out.symm)
              subst h1
              have hlen2 := Hlen.out
              clear hlen
              go_wp2
              go_loop [14] (fun t14 => ∃ i : Nat, t14 = .int .i64 (i : Int) ∧ i ≤ f.params.length ∧ ∀ j, j < i → ¬ (p = r.args.getD j 0 ∧ q = f.params.getD j 0)) (fun t14 => f.params.length - (intOf t14).toNat)
              case atStart => exact ⟨0, rfl, Nat.zero_le _, fun j h => by omega⟩
              case round =>
                obtain ⟨i, rfl, hi, hq⟩ := hrel
                have Hq := hid hq
                clear hq
                by_cases hil : i < f.params.length
                · have hil2 : i < r.args.length := by rw [← Hlen.out]; exact hil
                  obtain ⟨ya, o, hya, ho, hco⟩ := (HA.out.old (Hx1.out.old n0)).at hil2
                  subst hya
                  obtain ⟨yp, u, hyp, hu, hcu⟩ := (HIp.out.old (Hx1.out.old n0)).at hil
                  subst hyp
                  have Ho := hid ho
                  have Hu := hid hu
                  clear ho hu
                  by_cases g1 : p = o
                  · by_cases g2 : q = u
                    · subst g1 g2
                      have Hgk : Hid (G k = true) := hid (by rw [HGk.out, fEdge_arg Hlen.out hil Ho.out Hu.out]; rfl)
                      have Hr2 : Hid (P.isE r has p q = true) := hid (by rw [Hr.out]; exact any_range_true hlt Hgk.out)
                      go_wp2
                      go_ret
                      exact ⟨by rw [Hr2.out]; rfl, HX.out.trans Hx1.out⟩
                    · have g2' : (q == u) = false := beq_eq_false_iff_ne.2 g2
                      have Hn : Hid (¬ (p = r.args.getD i 0 ∧ q = f.params.getD i 0)) := hid (by rw [List.getD_eq_getElem?_getD, List.getD_eq_getElem?_getD, Ho.out, Hu.out]; exact fun h => g2 h.2)
                      subst g1
                      go_wp2
                      refine ⟨⟨i + 1, by go_num, by omega, fun j hj => ?_⟩, by simp [intOf]; omega⟩
                      by_cases hji : j = i
                      · subst hji; exact Hn.out
                      · exact Hq.out j (by omega)
                  · have g1' : (p == o) = false := beq_eq_false_iff_ne.2 g1
                    have Hn : Hid (¬ (p = r.args.getD i 0 ∧ q = f.params.getD i 0)) := hid (by rw [List.getD_eq_getElem?_getD, List.getD_eq_getElem?_getD, Ho.out, Hu.out]; exact fun h => g1 h.1)
                    go_wp2
                    refine ⟨⟨i + 1, by go_num, by omega, fun j hj => ?_⟩, by simp [intOf]; omega⟩
                    by_cases hji : j = i
                    · subst hji; exact Hn.out
                    · exact Hq.out j (by omega)
                · obtain rfl : i = f.params.length := by omega
                  have Hgk : Hid (G k = false) := hid (by rw [HGk.out, fEdge_no Hnr.out Hq.out]; rfl)
                  go_wp2
                  refine ⟨⟨k + 1, by go_num, by omega, fun j hj => ?_⟩, by simp [intOf]; omega⟩
                  by_cases hjk : j = k
                  · subst hjk; exact Hgk.out
                  · exact Hp.out j (by omega)
          · have h1' : (p == fr) = false := beq_eq_false_iff_ne.2 h1
            have Hnr : Hid (¬ (p = f.ret ∧ q = r.b)) := hid fun h => h1 (h.1.trans Hfr.out.symm)
            clear hlen
            go_wp2
            go_loop [14] (fun t14 => ∃ i : Nat, t14 = .int .i64 (i : Int) ∧ i ≤ f.params.length ∧ ∀ j, j < i → ¬ (p = r.args.getD j 0 ∧ q = f.params.getD j 0)) (fun t14 => f.params.length - (intOf t14).toNat)
            case atStart => exact ⟨0, rfl, Nat.zero_le _, fun j h => by omega⟩
            case round =>
              obtain ⟨i, rfl, hi, hq⟩ := hrel
              have Hq := hid hq
              clear hq
              by_cases hil : i < f.params.length
              · have hil2 : i < r.args.length := by rw [← Hlen.out]; exact hil
                obtain ⟨ya, o, hya, ho, hco⟩ := (HA.out.old (Hx1.out.old n0)).at hil2
                subst hya
                obtain ⟨yp, u, hyp, hu, hcu⟩ := (HIp.out.old (Hx1.out.old n0)).at hil
                subst hyp
                have Ho := hid ho
                have Hu := hid hu
                clear ho hu
                by_cases g1 : p = o
                · by_cases g2 : q = u
                  · subst g1 g2
                    have Hgk : Hid (G k = true) := hid (by rw [HGk.out, fEdge_arg Hlen.out hil Ho.out Hu.out]; rfl)
                    have Hr2 : Hid (P.isE r has p q = true) := hid (by rw [Hr.out]; exact any_range_true hlt Hgk.out)
                    go_wp2
                    go_ret
                    exact ⟨by rw [Hr2.out]; rfl, HX.out.trans Hx1.out⟩
                  · have g2' : (q == u) = false := beq_eq_false_iff_ne.2 g2
                    have Hn : Hid (¬ (p = r.args.getD i 0 ∧ q = f.params.getD i 0)) := hid (by rw [List.getD_eq_getElem?_getD, List.getD_eq_getElem?_getD, Ho.out, Hu.out]; exact fun h => g2 h.2)
                    subst g1
                    go_wp2
                    refine ⟨⟨i + 1, by go_num, by omega, fun j hj => ?_⟩, by simp [intOf]; omega⟩
                    by_cases hji : j = i
                    · subst hji; exact Hn.out
                    · exact Hq.out j (by omega)
                · have g1' : (p == o) = false := beq_eq_false_iff_ne.2 g1
                  have Hn : Hid (¬ (p = r.args.getD i 0 ∧ q = f.params.getD i 0)) := hid (by rw [List.getD_eq_getElem?_getD, List.getD_eq_getElem?_getD, Ho.out, Hu.out]; exact fun h => g1 h.1)
                  go_wp2
                  refine ⟨⟨i + 1, by go_num, by omega, fun j hj => ?_⟩, by simp [intOf]; omega⟩
                  by_cases hji : j = i
                  · subst hji; exact Hn.out
                  · exact Hq.out j (by omega)
              · obtain rfl : i = f.params.length := by omega
                have Hgk : Hid (G k = false) := hid (by rw [HGk.out, fEdge_no Hnr.out Hq.out]; rfl)
                go_wp2
                refine ⟨⟨k + 1, by go_num, by omega, fun j hj => ?_⟩, by simp [intOf]; omega⟩
                by_cases hjk : j = k
                · subst hjk; exact Hgk.out
                · exact Hp.out j (by omega)
        · have hl1 : ((f.params.length : Int) != (r.args.length : Int)) = true := bne_iff_ne.2 (fun h => hlen (Int.ofNat_inj.1 h))
          have Hgk : Hid (G k = false) := hid (by rw [HGk.out, fEdge_len hlen]; rfl)
          clear hlen
          go_wp2
          refine ⟨⟨k + 1, by go_num, by omega, fun j hj => ?_⟩, by simp [intOf]; omega⟩
          by_cases hjk : j = k
          · subst hjk; exact Hgk.out
          · exact Hp.out j (by omega)
    · obtain rfl : k = P.funs.length := by omega
      have Hr2 : Hid (P.isE r has p q = false) := hid (by rw [Hr.out]; exact any_range_false Hp.out)
      go_wp2
      go_ret
      exact ⟨by rw [Hr2.out]; rfl, HX.out.trans Hx1.out⟩
end Go.Proofs.YtbagppdibncfdaaGreatDoor
