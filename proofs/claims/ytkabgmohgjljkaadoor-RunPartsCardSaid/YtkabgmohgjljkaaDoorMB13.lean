/- Texts of one proof, put together: V1 V2 L4 L8. -/
import Derived.Test.YtkabgmohgjljkaaDoorMB07
import Derived.Test.YtkabgmohgjljkaaDoorMB08
import Derived.Test.YtkabgmohgjljkaaDoorMB12

/- Runs: run.Do: programs that are none, scripts that are none. -/
namespace Go.Proofs.YtkabgmohgjljkaaDoor
set_option linter.unusedSimpArgs false
set_option linter.unusedVariables false
open Go Go.RowKit

def PP.badk (P : PP) (n : Int) : Bool := decide (n < 0) || decide ((P.stmts.length : Int) ≤ n)
set_option maxRecDepth 100000 in
set_option maxHeartbeats 800000 in
theorem rundoc_any (g : Nat) (a1 a2 a3 : Option Addr) (c1 c2 c3 : Nat) (P : PP) (n : Int) (w : World) (h : Blk w g (pcells a1 a2 a3 c1 c2 c3 P) 73) :
    Calls Tryd.prog 46 #[.int .i64 n, .pointer (some ⟨g, 0, none⟩)] w fun e w' => e = .returned (.bool (P.badk n)) ∧ Ext w w' := by
  have h2 := h.av 2 rfl
  have Hr := hid (show P.badk n = (decide (n < 0) || decide ((P.stmts.length : Int) ≤ n)) from rfl)
  generalize hm : P.stmts.length = m at *
  simp only [pcells, hm, List.getElem_toArray, List.getElem_cons_zero, List.getElem_cons_succ] at h2
  clear h hm
  go_enter Tryd.func46, Tryd.ntmps46
  by_cases hn : n < 0
  · go_wp2
    go_ret
    exact ⟨by rw [Hr.out, decide_eq_true hn]; rfl, Ext.refl _⟩
  · have Hn := hid hn
    by_cases hn2 : (m : Int) ≤ n
    · have Hn2 := hid hn2
      go_wp2
      go_ret
      exact ⟨by rw [Hr.out, decide_eq_false (show ¬ n < 0 by have := Hn.out; omega), decide_eq_true (show (m : Int) ≤ n by have := Hn2.out; omega)]; rfl, Ext.refl _⟩
    · have Hn2 := hid hn2
      go_wp2
      go_ret
      exact ⟨by rw [Hr.out, decide_eq_false (show ¬ n < 0 by have := Hn.out; omega), decide_eq_false (show ¬ (m : Int) ≤ n by have := Hn2.out; omega)]; rfl, Ext.refl _⟩

def zeroS : Value := .agg #[.slice none 0 0, .slice none 0 0, .slice none 0 0]
def zcells : Array Value := #[.slice none 0 0, .slice none 0 0, .slice none 0 0]
theorem ErrIs.keep {X : Nat → Prop} {ad : Nat → Addr} {P : PP} {w w' : World} {v : Value} (h : ErrIs ad P w v) (k : Keep X w w') (hX : ∀ i, X i → ∃ c, Blk w i c 78) : ErrIs ad P w' v := by
  rcases h with h | h | ⟨h1, i, s, b, h2, h3, h4⟩
  · exact .inl h
  · exact .inr (.inl h)
  · refine .inr (.inr ⟨h1, i, s, b, h2, h3, h4.keep k fun e => ?_⟩)
    obtain ⟨c, hc⟩ := hX b e
    exact Blk.ty_ne h4 hc (by decide) rfl
theorem ErrIs.form {ad : Nat → Addr} {P : PP} {w : World} {v : Value} (h : ErrIs ad P w v) : (v = .nilIface ∧ P.err1 = 0 ∧ P.allWell) ∨ ((∃ t x, v = .iface t (.pointer (some x))) ∧ ¬ (P.err1 = 0 ∧ P.allWell)) := by
  rcases h with ⟨h1, h2⟩ | ⟨h1, h2, h3⟩ | ⟨h1, i, s, b, h2, h3, _⟩
  · refine .inr ⟨?_, fun h => h1 h.1⟩
    obtain ⟨x, hx⟩ : ∃ x, evOf ad P.err1 = .iface 197 (.pointer (some x)) := ⟨_, rfl⟩
    exact ⟨_, _, by rw [h2, hx]⟩
  · exact .inl ⟨h3, h1, h2⟩
  · refine .inr ⟨⟨_, _, h3⟩, fun h => h2.2.1 (h.2 i s ?_ h2.1)⟩
    rcases Nat.lt_or_ge i P.stmts.length with h | h
    · exact h
    · have h3 := h2.1; rw [List.getElem?_eq_none h] at h3; cases h3
/-- The script's first number that names no statement. -/
def PP.FirstK (P : PP) (l : List Int) (i : Nat) : Prop := ∃ x, l[i]? = some x ∧ P.badk x = true ∧ ∀ j y, j < i → l[j]? = some y → P.badk y = false
/-- What a run tells that is refused. -/
def RunNo (ad : Nat → Addr) (P : PP) (l : List Int) (w : World) (v : Value) : Prop :=
  (¬ (P.err1 = 0 ∧ P.allWell) ∧ ErrIs ad P w v) ∨ (P.err1 = 0 ∧ P.allWell ∧ 2000 < l.length ∧ v = evOf ad 8) ∨
  (P.err1 = 0 ∧ P.allWell ∧ l.length ≤ 2000 ∧ ∃ i b, P.FirstK l i ∧ v = .iface 114 (.pointer (some ⟨b, 0, none⟩)) ∧ Blk w b #[.int .i64 (i : Int), evOf ad 2] 116)
/-- A script that may be done. -/
def PP.Runs (P : PP) (l : List Int) : Prop := P.err1 = 0 ∧ P.allWell ∧ l.length ≤ 2000 ∧ ∀ x ∈ l, P.badk x = false

theorem store3_keep (w : World) (g : Nat) (v0 v1 v2 : Value) : Keep (fun b => b = g) w (((w.setCell ⟨g, 0, none⟩ v0).setCell ⟨g, 1, none⟩ v1).setCell ⟨g, 2, none⟩ v2) :=
  have k : ∀ (u : World) j v, Keep (fun b => b = g) w u → Keep (fun b => b = g) w (u.setCell ⟨g, j, none⟩ v) := fun _ _ v h => h.set rfl v
  k _ _ _ (k _ _ _ (k _ _ _ (Keep.refl _ w)))
theorem store3 {w : World} {g : Nat} {x0 x1 x2 v0 v1 v2 : Value} {t : TypeId} (h : Blk w g #[x0, x1, x2] t) : Blk (((w.setCell ⟨g, 0, none⟩ v0).setCell ⟨g, 1, none⟩ v1).setCell ⟨g, 2, none⟩ v2) g #[v0, v1, v2] t := by
  have := ((h.set 0 v0).set 1 v1).set 2 v2
  simpa using this
set_option maxRecDepth 100000 in
set_option maxHeartbeats 6400000 in
theorem rundo_bad (a1 a2 a3 : Option Addr) (c1 c2 c3 : Nat) (P : PP) (va : Value) (l : List Int) (w : World) (ad : Nat → Addr) (hE : ErrsP w ad) (hP : ProgR w w.heap.size (.slice a1 P.vars.length c1) (.slice a2 P.funs.length c2) (.slice a3 P.stmts.length c3) P) (hI : IntsR w w.heap.size va l)
    (hz1 : ∀ s ∈ P.vars, s.size ≤ 1000000) (hz2 : ∀ s ∈ P.names, s.size ≤ 1000000) (hno : ¬ (P.err1 = 0 ∧ P.allWell)) :
    Calls Tryd.prog 30 #[pval a1 a2 a3 c1 c2 c3 P, va] w fun e w' => Ext w w' ∧ ∃ v, e = .returned (.tuple #[zeroS, v]) ∧ RunNo ad P l w' v := by
  have HE := hid hE
  have HP := hid hP
  have hpl : (P.vars.length : Int) ≤ 9223372036854775807 := by
    obtain ⟨_, _, _, h2, h3, _⟩ := hP.vars
    omega
  have HI := hid hI
  have hll : (l.length : Int) ≤ 9223372036854775807 := by
    obtain ⟨_, _, _, h2, h3, _⟩ := hI
    omega
  obtain ⟨W1, hW1⟩ : ∃ W1, W1 = w.alloc (.cells (pcells a1 a2 a3 c1 c2 c3 P) 73) := ⟨_, rfl⟩
  have hx1 : Ext w W1 := by rw [hW1]; exact (Ext.refl _).alloc _
  obtain ⟨W2, hW2⟩ : ∃ W2, W2 = W1.alloc (.cells zcells 78) := ⟨_, rfl⟩
  have hx2 : Ext W1 W2 := by rw [hW2]; exact (Ext.refl _).alloc _
  have HW2 := hid (hx1.trans hx2)
  have HB1 : Hid (Blk W2 w.heap.size (pcells a1 a2 a3 c1 c2 c3 P) 73) := hid (by
    have : Blk W1 w.heap.size (pcells a1 a2 a3 c1 c2 c3 P) 73 := by rw [hW1]; exact Blk.new _ _ _
    exact this.ext hx2)
  have hs1 : W1.heap.size = w.heap.size + 1 := by rw [hW1, heap_size_alloc]
  have HB2 : Hid (Blk W2 (w.heap.size + 1) zcells 78) := hid (by
    rw [← hs1, hW2]; exact Blk.new _ _ _)
  have HC := hid (pcheck_any a1 a2 a3 c1 c2 c3 P W2 w.heap.size ad (hE.ext HW2.out) (hP.ext HW2.out) hz1 hz2 hpl)
  have HW2e : Hid (W2 = (w.alloc (.cells #[.slice a1 P.vars.length c1, .slice a2 P.funs.length c2, .slice a3 P.stmts.length c3] 73)).alloc (.cells #[.slice none 0 0, .slice none 0 0, .slice none 0 0] 78)) := hid (by rw [hW2, hW1]; rfl)
  obtain ⟨aa, ca, hva⟩ : ∃ aa ca, va = .slice aa l.length ca := by
    obtain ⟨aa, ca, h, _⟩ := hI
    exact ⟨aa, ca, h⟩
  subst hva
  unfold pval at HC ⊢
  clear hE hP hI hW1 hW2 hx1 hx2 hs1 hz1 hz2
  go_enter Tryd.func30, Tryd.ntmps30
  go_wp2_with fail
  rw [← HW2e.out]
  refine HC.out.mono ?_
  intro e w3 hx
  obtain ⟨v, rfl, hE3, hx3⟩ := hx
  have HB3 := hid (HB2.out.ext hx3)
  have HBp := hid (HB1.out.ext hx3)
  have HW3 := hid (HW2.out.trans hx3)
  have HE3 := hid hE3
  clear HC hE3 hx3
  have Hno := hid hno
  rcases HE3.out.form with ⟨_, h⟩ | ⟨⟨t, y, rfl⟩, _⟩
  · exact absurd h hno
  clear hno
  have z0 := (HB3.out).av 0 rfl
  have z1 := (HB3.out).av 1 rfl
  have z2 := (HB3.out).av 2 rfl
  have f0 := (HB3.out).free 0
  have f1 := (HB3.out).free 1
  have f2 := (HB3.out).free 2
  have HBz := hid (store3 (v0 := .slice none 0 0) (v1 := .slice none 0 0) (v2 := .slice none 0 0) HB3.out)
  have HKz := hid (store3_keep w3 (w.heap.size + 1) (.slice none 0 0) (.slice none 0 0) (.slice none 0 0))
  simp only [zcells, List.setIfInBounds_toArray, List.set_cons_zero, List.set_cons_succ, List.getElem_toArray, List.getElem_cons_zero, List.getElem_cons_succ] at z0 z1 z2
  go_wp2
  have c0 := HBz.out.av 0 rfl
  have c1 := HBz.out.av 1 rfl
  have c2 := HBz.out.av 2 rfl
  have hx := Keep.new HW3.out HKz.out fun b hb => by omega
  have hR : RunNo ad P l _ (.iface t (.pointer (some y))) := .inl ⟨Hno.out, HE3.out.keep HKz.out fun i e => by subst e; exact ⟨_, HB3.out⟩⟩
  generalize (((w3.setCell ⟨w.heap.size + 1, 0, none⟩ (.slice none 0 0)).setCell ⟨w.heap.size + 1, 1, none⟩ (.slice none 0 0)).setCell ⟨w.heap.size + 1, 2, none⟩ (.slice none 0 0)) = W9 at *
  exact bodyPost_ret (v := .tuple #[zeroS, .iface t (.pointer (some y))]) (by simp [results, Tryd.results30, go_sem, c0, c1, c2]; rfl) rfl ⟨hx, _, rfl, hR⟩

set_option maxRecDepth 100000 in
set_option maxHeartbeats 6400000 in
theorem rundo_full (a1 a2 a3 : Option Addr) (c1 c2 c3 : Nat) (P : PP) (va : Value) (l : List Int) (w : World) (ad : Nat → Addr) (hE : ErrsP w ad) (hP : ProgR w w.heap.size (.slice a1 P.vars.length c1) (.slice a2 P.funs.length c2) (.slice a3 P.stmts.length c3) P) (hI : IntsR w w.heap.size va l)
    (hz1 : ∀ s ∈ P.vars, s.size ≤ 1000000) (hz2 : ∀ s ∈ P.names, s.size ≤ 1000000) (hok : P.err1 = 0 ∧ P.allWell) (hlen : 2000 < l.length) :
    Calls Tryd.prog 30 #[pval a1 a2 a3 c1 c2 c3 P, va] w fun e w' => Ext w w' ∧ ∃ v, e = .returned (.tuple #[zeroS, v]) ∧ RunNo ad P l w' v := by
  have HE := hid hE
  have HP := hid hP
  have hpl : (P.vars.length : Int) ≤ 9223372036854775807 := by
    obtain ⟨_, _, _, h2, h3, _⟩ := hP.vars
    omega
  have HI := hid hI
  have hll : (l.length : Int) ≤ 9223372036854775807 := by
    obtain ⟨_, _, _, h2, h3, _⟩ := hI
    omega
  obtain ⟨W1, hW1⟩ : ∃ W1, W1 = w.alloc (.cells (pcells a1 a2 a3 c1 c2 c3 P) 73) := ⟨_, rfl⟩
  have hx1 : Ext w W1 := by rw [hW1]; exact (Ext.refl _).alloc _
  obtain ⟨W2, hW2⟩ : ∃ W2, W2 = W1.alloc (.cells zcells 78) := ⟨_, rfl⟩
  have hx2 : Ext W1 W2 := by rw [hW2]; exact (Ext.refl _).alloc _
  have HW2 := hid (hx1.trans hx2)
  have HB1 : Hid (Blk W2 w.heap.size (pcells a1 a2 a3 c1 c2 c3 P) 73) := hid (by
    have : Blk W1 w.heap.size (pcells a1 a2 a3 c1 c2 c3 P) 73 := by rw [hW1]; exact Blk.new _ _ _
    exact this.ext hx2)
  have hs1 : W1.heap.size = w.heap.size + 1 := by rw [hW1, heap_size_alloc]
  have HB2 : Hid (Blk W2 (w.heap.size + 1) zcells 78) := hid (by
    rw [← hs1, hW2]; exact Blk.new _ _ _)
  have HC := hid (pcheck_any a1 a2 a3 c1 c2 c3 P W2 w.heap.size ad (hE.ext HW2.out) (hP.ext HW2.out) hz1 hz2 hpl)
  have HW2e : Hid (W2 = (w.alloc (.cells #[.slice a1 P.vars.length c1, .slice a2 P.funs.length c2, .slice a3 P.stmts.length c3] 73)).alloc (.cells #[.slice none 0 0, .slice none 0 0, .slice none 0 0] 78)) := hid (by rw [hW2, hW1]; rfl)
  obtain ⟨aa, ca, hva⟩ : ∃ aa ca, va = .slice aa l.length ca := by
    obtain ⟨aa, ca, h, _⟩ := hI
    exact ⟨aa, ca, h⟩
  subst hva
  unfold pval at HC ⊢
  clear hE hP hI hW1 hW2 hx1 hx2 hs1 hz1 hz2
  go_enter Tryd.func30, Tryd.ntmps30
  go_wp2_with fail
  rw [← HW2e.out]
  refine HC.out.mono ?_
  intro e w3 hx
  obtain ⟨v, rfl, hE3, hx3⟩ := hx
  have HB3 := hid (HB2.out.ext hx3)
  have HBp := hid (HB1.out.ext hx3)
  have HW3 := hid (HW2.out.trans hx3)
  have HE3 := hid hE3
  clear HC hE3 hx3
  have Hok := hid hok
  obtain rfl : v = .nilIface := by
    rcases HE3.out.form with ⟨h, _⟩ | ⟨_, h⟩
    · exact h
    · exact absurd hok h
  clear hok
  have HR : Hid (∀ w', RunNo ad P l w' (evOf ad 8)) := hid fun _ => .inr (.inl ⟨Hok.out.1, Hok.out.2, hlen, rfl⟩)
  have gz : ∀ w1, Keep (fun b => b = w.heap.size + 1) w3 w1 → w1.cell? ⟨1, 0, none⟩ = some (evOf ad 8) := fun w1 hk => hk.cellx (HW3.out.cellx HE.out.at8) (fun e => by have := cell_lt HE.out.at8; simp only at e this; omega)
  go_wp2
  refine wp_flowT (fun b => b = w.heap.size + 1) (by kernel_rfl) (by kernel_rfl) ?_
  repeat (apply FlowT.d; (intro w1 hk; unfold does; go_simp; (try go_ints); (first | exact DetR.mk | (simp only [↓IntWalk.iteOmega, Oper.doesUpon_value]; exact DetR.mk) | (simp only [↓IntWalk.iteOmega]; go_simp; (try go_ints); exact DetR.mk))); simp only [Act.put, List.setIfInBounds_toArray, List.set_cons_zero, List.set_cons_succ])
  refine FlowT.v undef (fun w' => Blk w' (w.heap.size + 1) zcells 78 ∧ Keep (fun b => b = w.heap.size + 1) w3 w') 2 rfl (by kernel_rfl) (fun w1 w2 h x => ⟨h.1.ext x, h.2.ext_r x⟩) (fun wa hx hk => ?_) ?_
  · have z0 := ((HB3.out.ext hx)).av 0 rfl
    have z1 := ((HB3.out.ext hx)).av 1 rfl
    have z2 := ((HB3.out.ext hx)).av 2 rfl
    have f0 := ((HB3.out.ext hx)).free 0
    have f1 := ((HB3.out.ext hx)).free 1
    have f2 := ((HB3.out.ext hx)).free 2
    have HBz := hid (store3 (v0 := .slice none 0 0) (v1 := .slice none 0 0) (v2 := .slice none 0 0) (HB3.out.ext hx))
    have HKz := hid (store3_keep wa (w.heap.size + 1) (.slice none 0 0) (.slice none 0 0) (.slice none 0 0))
    simp only [zcells, List.setIfInBounds_toArray, List.set_cons_zero, List.set_cons_succ, List.getElem_toArray, List.getElem_cons_zero, List.getElem_cons_succ] at z0 z1 z2
    have hk2 := hk.trans HKz.out
    clear hk
    unfold does
    go_simp
    exact ⟨hk2, rfl, HBz.out, hk2⟩
  repeat (apply FlowT.d; (intro w1 hk; unfold does; go_simp; (try go_ints); (first | exact DetR.mk | (simp only [↓IntWalk.iteOmega, Oper.doesUpon_value]; exact DetR.mk) | (simp only [↓IntWalk.iteOmega]; go_simp; (try go_ints); exact DetR.mk))); simp only [Act.put, List.setIfInBounds_toArray, List.set_cons_zero, List.set_cons_succ])
  refine FlowT.fin fun wb hC hk => ?_
  obtain ⟨hB, hK⟩ := hC
  have c0 := hB.av 0 rfl
  have c1 := hB.av 1 rfl
  have c2 := hB.av 2 rfl
  simp only [zcells, List.getElem_toArray, List.getElem_cons_zero, List.getElem_cons_succ] at c0 c1 c2
  have hE := hid (Keep.new HW3.out hK (fun n hn => by omega))
  clear hk hK hB
  go_wp2
  exact bodyPost_ret (v := .tuple #[zeroS, evOf ad 8]) (by simp [results, Tryd.results30, go_sem, c0, c1, c2]; rfl) rfl ⟨hE.out, _, rfl, HR.out _⟩

/-- The state's block is as it was, and nothing else was written. -/
def SZ (n : Nat) (w w' : World) : Prop := Blk w' (n + 1) zcells 78 ∧ Keep (fun b => b = n + 1) w w'
theorem SZ.ext {n : Nat} {w w1 w2 : World} (h : SZ n w w1) (x : Ext w1 w2) : SZ n w w2 := ⟨h.1.ext x, h.2.ext_r x⟩
/-- A fault in a new block. -/
def FtAt (i : Nat) (ev : Value) (v : Value) (w : World) : Prop := ∃ b, v = .pointer (some ⟨b, 0, none⟩) ∧ Blk w b #[.int .i64 (i : Int), ev] 116
theorem FtAt.ext {i : Nat} {ev v : Value} {w w' : World} (h : FtAt i ev v w) (x : Ext w w') : FtAt i ev v w' := by
  obtain ⟨b, e, h⟩ := h
  exact ⟨b, e, h.ext x⟩
set_option maxRecDepth 100000 in
set_option maxHeartbeats 6400000 in
theorem rundo_bound (a1 a2 a3 : Option Addr) (c1 c2 c3 : Nat) (P : PP) (va : Value) (l : List Int) (w : World) (ad : Nat → Addr) (hE : ErrsP w ad) (hP : ProgR w w.heap.size (.slice a1 P.vars.length c1) (.slice a2 P.funs.length c2) (.slice a3 P.stmts.length c3) P) (hI : IntsR w w.heap.size va l)
    (hz1 : ∀ s ∈ P.vars, s.size ≤ 1000000) (hz2 : ∀ s ∈ P.names, s.size ≤ 1000000) (hok : P.err1 = 0 ∧ P.allWell) (hlen : l.length ≤ 2000) (hbad : ∃ x ∈ l, P.badk x = true) :
    Calls Tryd.prog 30 #[pval a1 a2 a3 c1 c2 c3 P, va] w fun e w' => Ext w w' ∧ ∃ v, e = .returned (.tuple #[zeroS, v]) ∧ RunNo ad P l w' v := by
  have HE := hid hE
  have HP := hid hP
  have hpl : (P.vars.length : Int) ≤ 9223372036854775807 := by
    obtain ⟨_, _, _, h2, h3, _⟩ := hP.vars
    omega
  have HI := hid hI
  have hll : (l.length : Int) ≤ 9223372036854775807 := by
    obtain ⟨_, _, _, h2, h3, _⟩ := hI
    omega
  obtain ⟨W1, hW1⟩ : ∃ W1, W1 = w.alloc (.cells (pcells a1 a2 a3 c1 c2 c3 P) 73) := ⟨_, rfl⟩
  have hx1 : Ext w W1 := by rw [hW1]; exact (Ext.refl _).alloc _
  obtain ⟨W2, hW2⟩ : ∃ W2, W2 = W1.alloc (.cells zcells 78) := ⟨_, rfl⟩
  have hx2 : Ext W1 W2 := by rw [hW2]; exact (Ext.refl _).alloc _
  have HW2 := hid (hx1.trans hx2)
  have HB1 : Hid (Blk W2 w.heap.size (pcells a1 a2 a3 c1 c2 c3 P) 73) := hid (by
    have : Blk W1 w.heap.size (pcells a1 a2 a3 c1 c2 c3 P) 73 := by rw [hW1]; exact Blk.new _ _ _
    exact this.ext hx2)
  have hs1 : W1.heap.size = w.heap.size + 1 := by rw [hW1, heap_size_alloc]
  have HB2 : Hid (Blk W2 (w.heap.size + 1) zcells 78) := hid (by
    rw [← hs1, hW2]; exact Blk.new _ _ _)
  have HC := hid (pcheck_any a1 a2 a3 c1 c2 c3 P W2 w.heap.size ad (hE.ext HW2.out) (hP.ext HW2.out) hz1 hz2 hpl)
  have HW2e : Hid (W2 = (w.alloc (.cells #[.slice a1 P.vars.length c1, .slice a2 P.funs.length c2, .slice a3 P.stmts.length c3] 73)).alloc (.cells #[.slice none 0 0, .slice none 0 0, .slice none 0 0] 78)) := hid (by rw [hW2, hW1]; rfl)
  obtain ⟨aa, ca, hva⟩ : ∃ aa ca, va = .slice aa l.length ca := by
    obtain ⟨aa, ca, h, _⟩ := hI
    exact ⟨aa, ca, h⟩
  subst hva
  unfold pval at HC ⊢
  clear hE hP hI hW1 hW2 hx1 hx2 hs1 hz1 hz2
  go_enter Tryd.func30, Tryd.ntmps30
  go_wp2_with fail
  rw [← HW2e.out]
  refine HC.out.mono ?_
  intro e w3 hx
  obtain ⟨v, rfl, hE3, hx3⟩ := hx
  have HB3 := hid (HB2.out.ext hx3)
  have HBp := hid (HB1.out.ext hx3)
  have HW3 := hid (HW2.out.trans hx3)
  have HE3 := hid hE3
  clear HC hE3 hx3
  have Hok := hid hok
  obtain rfl : v = .nilIface := by
    rcases HE3.out.form with ⟨h, _⟩ | ⟨_, h⟩
    · exact h
    · exact absurd hok h
  clear hok
  have HX := hid (indexfi_rd (.pointer (some ⟨w.heap.size, 0, none⟩)) P.badk (.slice aa l.length ca) l w3 w.heap.size (HI.out.old (HW3.out.old _)) (fun n w1 x => rundoc_any _ a1 a2 a3 c1 c2 c3 P n w1 (HBp.out.ext x)))
  have hl2 : ¬ 2000 < l.length := by omega
  go_wp2_with fail
  refine HX.out.mono ?_
  intro e w4 hx
  obtain ⟨r, rfl, hF, hx4⟩ := hx
  rcases hF with ⟨_, h⟩ | ⟨i, y, rfl, hi, hy, hb, hfirst⟩
  · obtain ⟨x, hx, h2⟩ := hbad
    rw [h x hx] at h2; cases h2
  have HK := hid (show P.FirstK l i from ⟨y, hy, hb, hfirst⟩)
  have HW4 := hid (HW3.out.trans hx4)
  have HB4 := hid (HB3.out.ext hx4)
  have gz : ∀ w1, Keep (fun b => b = w.heap.size + 1) w4 w1 → w1.cell? ⟨3, 0, none⟩ = some (evOf ad 2) := fun w1 hk => hk.cellx (HW4.out.cellx HE.out.at2) (fun e => by have := cell_lt HE.out.at2; simp only at e this; omega)
  unfold evOf at gz
  clear hy hb hfirst hx4 HX hbad hll
  go_wp2
  refine wp_flow (fun b => b = w.heap.size + 1) (by kernel_rfl) (by kernel_rfl) ?_
  apply Flow.d 0 _ rfl (by simp) (by kernel_rfl)
  · intro w1 hk; unfold does; go_simp; (try go_ints); exact DetR.mk
  simp only [List.getElem_toArray, List.getElem_cons_zero, List.getElem_cons_succ, Act.put, List.setIfInBounds_toArray, List.set_cons_zero, List.set_cons_succ]
  apply Flow.d 1 _ rfl (by simp) (by kernel_rfl)
  · intro w1 hk; unfold does; go_simp; (try go_ints); exact DetR.mk
  simp only [List.getElem_toArray, List.getElem_cons_zero, List.getElem_cons_succ, Act.put, List.setIfInBounds_toArray, List.set_cons_zero, List.set_cons_succ]
  apply Flow.d 2 _ rfl (by simp) (by kernel_rfl)
  · intro w1 hk; unfold does; go_simp; (try go_ints); exact DetR.mk
  simp only [List.getElem_toArray, List.getElem_cons_zero, List.getElem_cons_succ, Act.put, List.setIfInBounds_toArray, List.set_cons_zero, List.set_cons_succ]
  apply Flow.d 3 _ rfl (by simp) (by kernel_rfl)
  · intro w1 hk; unfold does; go_simp; (try go_ints); exact DetR.mk
  simp only [List.getElem_toArray, List.getElem_cons_zero, List.getElem_cons_succ, Act.put, List.setIfInBounds_toArray, List.set_cons_zero, List.set_cons_succ]
  refine Flow.par3g 4 5 6 _ _ _ rfl rfl rfl (by decide) (by decide) (fun _ _ h => by cases h) (fun _ _ h => by cases h) (fun _ _ h => by cases h) (by kernel_rfl) (by kernel_rfl) (by kernel_rfl) (by kernel_rfl) (by kernel_rfl) (by kernel_rfl)
    (fun u w' => u = undef ∧ SZ w.heap.size w4 w')
    (fun v w' => FtAt i (evOf ad 2) v w' ∧ SZ w.heap.size w4 w')
    (fun u v w' => u = undef ∧ FtAt i (evOf ad 2) v w' ∧ SZ w.heap.size w4 w')
    (fun v t w' => t = .iface 114 v ∧ FtAt i (evOf ad 2) v w' ∧ SZ w.heap.size w4 w')
    (fun u v t w' => (u = undef ∧ t = .iface 114 v) ∧ FtAt i (evOf ad 2) v w' ∧ SZ w.heap.size w4 w')
    (fun _ _ _ h y => ⟨h.1, h.2.ext y⟩) (fun _ _ _ h y => ⟨h.1.ext y, h.2.ext y⟩)
    (fun _ _ _ _ h y => ⟨h.1, h.2.1.ext y, h.2.2.ext y⟩) (fun _ _ _ _ h y => ⟨h.1, h.2.1.ext y, h.2.2.ext y⟩) (fun _ _ _ _ _ h y => ⟨h.1, h.2.1.ext y, h.2.2.ext y⟩) ?_ ?_ ?_ ?_ ?_ ?_ ?_ ?_
  · intro wa hC hk
    have hS : SZ w.heap.size w4 wa := ⟨HB4.out.ext hC, hk⟩
    have z0 := (hS.1).av 0 rfl
    have z1 := (hS.1).av 1 rfl
    have z2 := (hS.1).av 2 rfl
    have f0 := (hS.1).free 0
    have f1 := (hS.1).free 1
    have f2 := (hS.1).free 2
    have HBz := hid (store3 (v0 := .slice none 0 0) (v1 := .slice none 0 0) (v2 := .slice none 0 0) hS.1)
    have HKz := hid (store3_keep wa (w.heap.size + 1) (.slice none 0 0) (.slice none 0 0) (.slice none 0 0))
    simp only [zcells, List.setIfInBounds_toArray, List.set_cons_zero, List.set_cons_succ, List.getElem_toArray, List.getElem_cons_zero, List.getElem_cons_succ] at z0 z1 z2
    have hS2 : SZ w.heap.size w4 (((wa.setCell ⟨w.heap.size + 1, 0, none⟩ (.slice none 0 0)).setCell ⟨w.heap.size + 1, 1, none⟩ (.slice none 0 0)).setCell ⟨w.heap.size + 1, 2, none⟩ (.slice none 0 0)) := ⟨HBz.out, hS.2.trans HKz.out⟩
    clear hk
    unfold does
    go_simp
    exact ⟨hS2.2, rfl, hS2⟩
  · intro wa hC hk
    have hS : SZ w.heap.size w4 wa := ⟨HB4.out.ext hC, hk⟩
    unfold does
    go_simp
    exact ⟨hk.alloc _, ⟨_, rfl, Blk.new _ _ _⟩, hS.ext ((Ext.refl _).alloc _)⟩
  · rintro _ wa ⟨hF, hS⟩ hk
    have z0 := (hS.1).av 0 rfl
    have z1 := (hS.1).av 1 rfl
    have z2 := (hS.1).av 2 rfl
    have f0 := (hS.1).free 0
    have f1 := (hS.1).free 1
    have f2 := (hS.1).free 2
    have HBz := hid (store3 (v0 := .slice none 0 0) (v1 := .slice none 0 0) (v2 := .slice none 0 0) hS.1)
    have HKz := hid (store3_keep wa (w.heap.size + 1) (.slice none 0 0) (.slice none 0 0) (.slice none 0 0))
    simp only [zcells, List.setIfInBounds_toArray, List.set_cons_zero, List.set_cons_succ, List.getElem_toArray, List.getElem_cons_zero, List.getElem_cons_succ] at z0 z1 z2
    have hS2 : SZ w.heap.size w4 (((wa.setCell ⟨w.heap.size + 1, 0, none⟩ (.slice none 0 0)).setCell ⟨w.heap.size + 1, 1, none⟩ (.slice none 0 0)).setCell ⟨w.heap.size + 1, 2, none⟩ (.slice none 0 0)) := ⟨HBz.out, hS.2.trans HKz.out⟩
    clear hk
    unfold does
    go_simp
    obtain ⟨b, rfl, hb⟩ := hF
    exact ⟨hS2.2, rfl, ⟨b, rfl, hb.keep HKz.out fun e => Blk.ty_ne hb hS.1 (by decide) e⟩, hS2⟩
  · rintro _ wa ⟨rfl, hS⟩ hk
    unfold does
    go_simp
    exact ⟨hk.alloc _, ⟨_, rfl, Blk.new _ _ _⟩, hS.ext ((Ext.refl _).alloc _)⟩
  · rintro _ wa ⟨⟨b, rfl, hb⟩, hS⟩ hk
    unfold does
    go_simp
    exact ⟨hk, rfl, ⟨b, rfl, hb⟩, hS⟩
  · rintro _ _ wa ⟨rfl, ⟨b, rfl, hb⟩, hS⟩ hk
    unfold does
    go_simp
    exact ⟨hk, rfl, ⟨b, rfl, hb⟩, hS⟩
  · rintro _ _ _ ⟨_, ⟨rfl, rfl⟩, ⟨b, rfl, _⟩, _⟩
    simp only [List.getElem_toArray, List.getElem_cons_zero, List.getElem_cons_succ, Act.put, List.setIfInBounds_toArray, List.set_cons_zero, List.set_cons_succ]
    apply Flow.d 7 _ rfl (by simp) (by kernel_rfl)
    · intro w1 hk; unfold does; go_simp; (try go_ints); exact DetR.mk
    simp only [List.getElem_toArray, List.getElem_cons_zero, List.getElem_cons_succ, Act.put, List.setIfInBounds_toArray, List.set_cons_zero, List.set_cons_succ]
    refine Flow.fin (by kernel_rfl) fun wb hC hk => ?_
    obtain ⟨⟨b', eb, hbF⟩, hS⟩ : FtAt i (evOf ad 2) (.pointer (some ⟨b, 0, none⟩)) wb ∧ SZ w.heap.size w4 wb := by first | exact hC.2 | exact hC
    obtain rfl : b = b' := by simpa using eb
    have c0 := hS.1.av 0 rfl
    have c1 := hS.1.av 1 rfl
    have c2 := hS.1.av 2 rfl
    simp only [zcells, List.getElem_toArray, List.getElem_cons_zero, List.getElem_cons_succ] at c0 c1 c2
    have hE := hid (Keep.new HW4.out hS.2 (fun n hn => by omega))
    have HR : Hid (RunNo ad P l wb (.iface 114 (.pointer (some ⟨b, 0, none⟩)))) := hid (.inr (.inr ⟨Hok.out.1, Hok.out.2, hlen, i, b, HK.out, rfl, hbF⟩))
    clear hk hS hbF hC
    go_wp2
    exact bodyPost_ret (v := .tuple #[zeroS, .iface 114 (.pointer (some ⟨b, 0, none⟩))]) (by simp [results, Tryd.results30, go_sem, c0, c1, c2]; rfl) rfl ⟨hE.out, _, rfl, HR.out⟩
  · rintro _ _ ⟨_, rfl, ⟨b, rfl, _⟩, _⟩
    simp only [List.getElem_toArray, List.getElem_cons_zero, List.getElem_cons_succ, Act.put, List.setIfInBounds_toArray, List.set_cons_zero, List.set_cons_succ]
    refine Flow.one 6 _ rfl (by kernel_rfl) (fun _ w' => FtAt i (evOf ad 2) (.pointer (some ⟨b, 0, none⟩)) w' ∧ SZ w.heap.size w4 w') (fun _ _ _ h y => ⟨h.1.ext y, h.2.ext y⟩) ?_ ?_
    · rintro wa ⟨_, hF, hS⟩ hk
      have z0 := (hS.1).av 0 rfl
      have z1 := (hS.1).av 1 rfl
      have z2 := (hS.1).av 2 rfl
      have f0 := (hS.1).free 0
      have f1 := (hS.1).free 1
      have f2 := (hS.1).free 2
      have HBz := hid (store3 (v0 := .slice none 0 0) (v1 := .slice none 0 0) (v2 := .slice none 0 0) hS.1)
      have HKz := hid (store3_keep wa (w.heap.size + 1) (.slice none 0 0) (.slice none 0 0) (.slice none 0 0))
      simp only [zcells, List.setIfInBounds_toArray, List.set_cons_zero, List.set_cons_succ, List.getElem_toArray, List.getElem_cons_zero, List.getElem_cons_succ] at z0 z1 z2
      have hS2 : SZ w.heap.size w4 (((wa.setCell ⟨w.heap.size + 1, 0, none⟩ (.slice none 0 0)).setCell ⟨w.heap.size + 1, 1, none⟩ (.slice none 0 0)).setCell ⟨w.heap.size + 1, 2, none⟩ (.slice none 0 0)) := ⟨HBz.out, hS.2.trans HKz.out⟩
      clear hk
      unfold does
      go_simp
      obtain ⟨b', e, hb⟩ := hF
      exact ⟨hS2.2, ⟨b', e, hb.keep HKz.out fun e => Blk.ty_ne hb hS.1 (by decide) e⟩, hS2⟩
    rintro _ ⟨_, _⟩
    simp only [List.getElem_toArray, List.getElem_cons_zero, List.getElem_cons_succ, Act.put, List.setIfInBounds_toArray, List.set_cons_zero, List.set_cons_succ]
    apply Flow.d 7 _ rfl (by simp) (by kernel_rfl)
    · intro w1 hk; unfold does; go_simp; (try go_ints); exact DetR.mk
    simp only [List.getElem_toArray, List.getElem_cons_zero, List.getElem_cons_succ, Act.put, List.setIfInBounds_toArray, List.set_cons_zero, List.set_cons_succ]
    refine Flow.fin (by kernel_rfl) fun wb hC hk => ?_
    obtain ⟨⟨b', eb, hbF⟩, hS⟩ : FtAt i (evOf ad 2) (.pointer (some ⟨b, 0, none⟩)) wb ∧ SZ w.heap.size w4 wb := by first | exact hC.2 | exact hC
    obtain rfl : b = b' := by simpa using eb
    have c0 := hS.1.av 0 rfl
    have c1 := hS.1.av 1 rfl
    have c2 := hS.1.av 2 rfl
    simp only [zcells, List.getElem_toArray, List.getElem_cons_zero, List.getElem_cons_succ] at c0 c1 c2
    have hE := hid (Keep.new HW4.out hS.2 (fun n hn => by omega))
    have HR : Hid (RunNo ad P l wb (.iface 114 (.pointer (some ⟨b, 0, none⟩)))) := hid (.inr (.inr ⟨Hok.out.1, Hok.out.2, hlen, i, b, HK.out, rfl, hbF⟩))
    clear hk hS hbF hC
    go_wp2
    exact bodyPost_ret (v := .tuple #[zeroS, .iface 114 (.pointer (some ⟨b, 0, none⟩))]) (by simp [results, Tryd.results30, go_sem, c0, c1, c2]; rfl) rfl ⟨hE.out, _, rfl, HR.out⟩
end Go.Proofs.YtkabgmohgjljkaaDoor


/- Runs: run.Do: a script that is done. -/
namespace Go.Proofs.YtkabgmohgjljkaaDoor
set_option linter.unusedSimpArgs false
set_option linter.unusedVariables false
open Go Go.RowKit

theorem Rn.run_snoc (P : PP) (l : List Nat) (k : Nat) : Rn.run P (l ++ [k]) = (Rn.run P l).step P k := by simp [Rn.run, List.foldl_append]
theorem Rn.Ok.step {P : PP} {s : Rn} (h : s.Ok P) (hw : P.allWell) (k : Nat) : (s.step P k).Ok P := by
  unfold Rn.step
  cases hx : P.stmts[k]? with
  | none => exact h
  | some x =>
    have hk : k < P.stmts.length := by
      rcases Nat.lt_or_ge k P.stmts.length with h | h
      · exact h
      · rw [List.getElem?_eq_none h] at hx; cases hx
    exact h.stmt k (PP.good (hw k x hk hx))
theorem Rn.Ok.foldl {P : PP} (hw : P.allWell) : ∀ (l : List Nat) {s : Rn}, s.Ok P → (l.foldl (Rn.step P) s).Ok P
  | [], _, h => h
  | k :: l, _, h => Rn.Ok.foldl hw l (h.step hw k)
theorem Rn.Ok.run {P : PP} (hw : P.allWell) (l : List Nat) : (Rn.run P l).Ok P := Rn.Ok.foldl hw l (Rn.Ok.begin P)
theorem Rn.step_len (P : PP) (s : Rn) (k : Nat) : (s.step P k).places.length ≤ s.places.length + 1 := by
  unfold Rn.step
  cases hx : P.stmts[k]? with
  | none => exact Nat.le_succ _
  | some x =>
    simp only [Rn.stmt_places]
    split <;> simp
theorem Rn.foldl_len (P : PP) : ∀ (l : List Nat) (s : Rn), (l.foldl (Rn.step P) s).places.length ≤ s.places.length + l.length
  | [], s => Nat.le_refl _
  | k :: l, s => by
    have h1 := Rn.foldl_len P l (s.step P k)
    have h2 := Rn.step_len P s k
    simp only [List.foldl_cons, List.length_cons]
    omega
theorem Rn.run_len {P : PP} (hw : P.allWell) (l : List Nat) : (Rn.run P l).things.length ≤ l.length := by
  rw [← (Rn.Ok.run hw l).lp]
  have := Rn.foldl_len P l (Rn.begin P)
  simpa [Rn.run, Rn.begin] using this

theorem ElR.lift {n0 n1 n : Nat} {v : Value} {E : Nat → Addr → Prop} (h : ElR n0 v n E) (hn : n0 ≤ n1) : ElR n1 v n E := h.mono hn fun _ _ _ _ h => h
theorem ProgR.lift {w : World} {n0 n1 : Nat} {v1 v2 v3 : Value} {P : PP} (h : ProgR w n0 v1 v2 v3 P) (hn : n0 ≤ n1) : ProgR w n1 v1 v2 v3 P :=
  ⟨ElR.lift h.vars hn, ElR.mono h.funs hn fun i y _ _ hE f hf => by
    obtain ⟨pv, h1, h2, h3, h4⟩ := hE f hf
    exact ⟨pv, h1, h2, h3, ElR.lift h4 hn⟩, ElR.mono h.stmts hn fun i y _ _ hE f hf => by
    obtain ⟨pv, h1, h2, h3, h4, h5⟩ := hE f hf
    exact ⟨pv, h1, h2, h3, h4, ElR.lift h5 hn⟩⟩
/-- The rows of a state. -/
structure RnRows (w : World) (n0 : Nat) (vv tv pv : Value) (s : Rn) : Prop where
  vars : w.ownsRow n0 108 2 vv s.vars.length (s.vars.flatMap Vl.cells)
  things : w.ownsRow n0 108 2 tv s.things.length (s.things.flatMap Vl.cells)
  places : w.ownsRow n0 3 1 pv s.places.length (icells s.pl)
theorem RnRows.ext {w w' : World} {n0 : Nat} {vv tv pv : Value} {s : Rn} (h : RnRows w n0 vv tv pv s) (x : Ext w w') : RnRows w' n0 vv tv pv s := ⟨own_ext h.vars x, own_ext h.things x, own_ext h.places x⟩
theorem fm_rep (k : Nat) : (List.replicate (k + 1) Vl.none).flatMap Vl.cells = (List.replicate k Vl.none).flatMap Vl.cells ++ Vl.cells .none := by
  rw [List.replicate_succ', List.flatMap_append]
  simp

theorem IntsR.at {w : World} {n0 : Nat} {a : Option Addr} {n cap : Nat} {l : List Int} (h : IntsR w n0 (.slice a n cap) l) {k : Nat} (hk : k < l.length) : ∃ y q, a = some y ∧ l[k]? = some q ∧ w.cell? (y.add k) = some (.int .i64 q) := by
  obtain ⟨a', cap', h1, h2, h3, h4, h5⟩ := h
  obtain ⟨rfl, rfl, rfl⟩ : a = a' ∧ n = l.length ∧ cap = cap' := by simpa using h1
  obtain ⟨y, rfl⟩ := h4 (by omega)
  have hx : l[k]? = some (l[k]'hk) := List.getElem?_eq_getElem hk
  exact ⟨y, _, rfl, hx, (h5 y rfl (by omega)).2 k hk _ hx⟩
theorem PP.funs_ok {P : PP} (h : P.err1 = 0) : P.funsErr = 0 := by
  unfold PP.err1 at h
  cases hb : P.big with
  | true => rw [hb] at h; simp at h
  | false =>
    rw [hb] at h
    simp only [cond_false] at h
    split at h
    · omega
    · split at h
      · omega
      · exact h
set_option maxRecDepth 100000 in
set_option maxHeartbeats 6400000 in
theorem rundo_ok (a1 a2 a3 : Option Addr) (c1 c2 c3 : Nat) (P : PP) (va : Value) (l : List Int) (w : World) (ad : Nat → Addr) (hE : ErrsP w ad) (hP : ProgR w w.heap.size (.slice a1 P.vars.length c1) (.slice a2 P.funs.length c2) (.slice a3 P.stmts.length c3) P) (hI : IntsR w w.heap.size va l)
    (hz1 : ∀ s ∈ P.vars, s.size ≤ 1000000) (hz2 : ∀ s ∈ P.names, s.size ≤ 1000000) (hr : P.Runs l) :
    Calls Tryd.prog 30 #[pval a1 a2 a3 c1 c2 c3 P, va] w fun e w' => Ext w w' ∧ ∃ vv tv pv, e = .returned (.tuple #[.agg #[vv, tv, pv], .nilIface]) ∧ RnRows w' w.heap.size vv tv pv (Rn.run P (l.map Int.toNat)) := by
  have HE := hid hE
  have HP := hid hP
  have hpl : (P.vars.length : Int) ≤ 9223372036854775807 := by
    obtain ⟨_, _, _, h2, h3, _⟩ := hP.vars
    omega
  have HI := hid hI
  have hll : (l.length : Int) ≤ 9223372036854775807 := by
    obtain ⟨_, _, _, h2, h3, _⟩ := hI
    omega
  obtain ⟨W1, hW1⟩ : ∃ W1, W1 = w.alloc (.cells (pcells a1 a2 a3 c1 c2 c3 P) 73) := ⟨_, rfl⟩
  have hx1 : Ext w W1 := by rw [hW1]; exact (Ext.refl _).alloc _
  obtain ⟨W2, hW2⟩ : ∃ W2, W2 = W1.alloc (.cells zcells 78) := ⟨_, rfl⟩
  have hx2 : Ext W1 W2 := by rw [hW2]; exact (Ext.refl _).alloc _
  have HW2 := hid (hx1.trans hx2)
  have HB1 : Hid (Blk W2 w.heap.size (pcells a1 a2 a3 c1 c2 c3 P) 73) := hid (by
    have : Blk W1 w.heap.size (pcells a1 a2 a3 c1 c2 c3 P) 73 := by rw [hW1]; exact Blk.new _ _ _
    exact this.ext hx2)
  have hs1 : W1.heap.size = w.heap.size + 1 := by rw [hW1, heap_size_alloc]
  have HB2 : Hid (Blk W2 (w.heap.size + 1) zcells 78) := hid (by
    rw [← hs1, hW2]; exact Blk.new _ _ _)
  have HC := hid (pcheck_any a1 a2 a3 c1 c2 c3 P W2 w.heap.size ad (hE.ext HW2.out) (hP.ext HW2.out) hz1 hz2 hpl)
  have HW2e : Hid (W2 = (w.alloc (.cells #[.slice a1 P.vars.length c1, .slice a2 P.funs.length c2, .slice a3 P.stmts.length c3] 73)).alloc (.cells #[.slice none 0 0, .slice none 0 0, .slice none 0 0] 78)) := hid (by rw [hW2, hW1]; rfl)
  obtain ⟨aa, ca, hva⟩ : ∃ aa ca, va = .slice aa l.length ca := by
    obtain ⟨aa, ca, h, _⟩ := hI
    exact ⟨aa, ca, h⟩
  subst hva
  unfold pval at HC ⊢
  clear hE hP hI hW1 hW2 hx1 hx2 hs1 hz1 hz2
  go_enter Tryd.func30, Tryd.ntmps30
  go_wp2_with fail
  rw [← HW2e.out]
  refine HC.out.mono ?_
  intro e w3 hx
  obtain ⟨v, rfl, hE3, hx3⟩ := hx
  have HB3 := hid (HB2.out.ext hx3)
  have HBp := hid (HB1.out.ext hx3)
  have HW3 := hid (HW2.out.trans hx3)
  have HE3 := hid hE3
  clear HC hE3 hx3
  obtain ⟨hr1, hr2, hr3, hr4⟩ := hr
  have hok : P.err1 = 0 ∧ P.allWell := ⟨hr1, hr2⟩
  have Hok := hid hok
  obtain rfl : v = .nilIface := by
    rcases HE3.out.form with ⟨h, _⟩ | ⟨_, h⟩
    · exact h
    · exact absurd hok h
  clear hok
  have hlen := hr3
  have HX := hid (indexfi_rd (.pointer (some ⟨w.heap.size, 0, none⟩)) P.badk (.slice aa l.length ca) l w3 w.heap.size (HI.out.old (HW3.out.old _)) (fun n w1 x => rundoc_any _ a1 a2 a3 c1 c2 c3 P n w1 (HBp.out.ext x)))
  have hl2 : ¬ 2000 < l.length := by omega
  go_wp2_with fail
  refine HX.out.mono ?_
  intro e w4 hx
  obtain ⟨r, rfl, hF, hx4⟩ := hx
  obtain rfl : r = -1 := by
    rcases hF with ⟨h, _⟩ | ⟨i, y, _, hi, hy, hb, _⟩
    · exact h
    · rw [hr4 y (List.mem_of_getElem? hy)] at hb; cases hb
  have HBad := hid hr4
  have HW4 := hid (HW3.out.trans hx4)
  have HB4 := hid (HB3.out.ext hx4)
  have HP4 := hid (HBp.out.ext hx4)
  have hvl : P.vars.length ≤ 40 := by
    have h := hr1
    unfold PP.err1 at h
    cases hb : P.big with
    | true => rw [hb] at h; simp at h
    | false => unfold PP.big at hb; simp at hb; omega
  obtain ⟨W9, hW9⟩ : ∃ W9, W9 = w4.alloc (.cells zcells 78) := ⟨_, rfl⟩
  have hx9 : Ext w4 W9 := by rw [hW9]; exact (Ext.refl _).alloc _
  have HR9 : Hid (RnAt W9 w4.heap.size w4.heap.size (.slice none 0 0) (.slice none 0 0) (.slice none 0 0) ⟨List.replicate 0 .none, [], []⟩) := hid
    ⟨by rw [hW9]; exact Blk.new _ _ _, Nat.le_refl _, World.ownsRow_nil _ _ _ _, World.ownsRow_nil _ _ _ _, World.ownsRow_nil _ _ _ _, fun b h => by cases h⟩
  have HW9 := hid (HW4.out.trans hx9)
  have HB9 := hid (HB4.out.ext hx9)
  have HP9 := hid (HP4.out.ext hx9)
  have p0 : (w4.alloc (.cells #[.slice none 0 0, .slice none 0 0, .slice none 0 0] 78)).cell? ⟨w.heap.size, 0, none⟩ = some (.slice a1 P.vars.length c1) := ((HP4.out.ext ((Ext.refl _).alloc _)).av 0 rfl)
  have HW9e : Hid (W9 = w4.alloc (.cells #[.slice none 0 0, .slice none 0 0, .slice none 0 0] 78)) := hid hW9
  have Hlt : Hid (w.heap.size + 1 < w4.heap.size) := hid HB4.out.lt
  have HNo : ∀ w1, Hid (Calls Tryd.prog 47 #[] w1 fun e w' => e = .returned (.agg #[.string ⟨#[110, 111, 110, 101]⟩, .int .i64 0]) ∧ Ext w1 w') := fun w1 => hid (runnone_any w1)
  clear hx4 HX hr1 hr2 hr3 hr4 hW9 hx9
  go_wp2
  rw [← HW9e.out]
  generalize hsb : w4.heap.size = sb at *
  clear p0 hsb HW9e
  go_loopw [37] (fun t37 wr => ∃ (k : Nat) (vv : Value), t37 = .int .i64 (k : Int) ∧ k ≤ P.vars.length ∧ RnAt wr sb sb vv (.slice none 0 0) (.slice none 0 0) ⟨List.replicate k .none, [], []⟩ ∧ Old sb W9 wr) (fun t37 _ => P.vars.length - (intOf t37).toNat)
  case atStart => exact ⟨0, _, rfl, Nat.zero_le _, HR9.out, Old.refl _ _⟩
  case round =>
    obtain ⟨k, vv, rfl, hk, hR, hO⟩ := hrel
    obtain ⟨av, cv, hvv⟩ := row_form hR.vars
    rw [List.length_replicate] at hvv
    subst hvv
    have HR := hid hR
    have HO := hid hO
    clear hR hO
    by_cases hlt : k < P.vars.length
    · have hsX : ¬ (Value.slice av k cv).ownBlock = some sb := fun e => HR.out.vb e rfl
      have d0 := HR.out.blk.kc (X := fun q => (Value.slice av k cv).ownBlock = some q) hsX 0 rfl
      simp only [List.getElem_toArray, List.getElem_cons_zero, List.getElem_cons_succ] at d0
      have Hsl : Hid (sb ≤ wr.heap.size) := hid (Nat.le_of_lt HR.out.blk.lt)
      have Hkl : Hid (k ≤ 1000000) := hid (by omega)
      have Hrow : Hid (wr.ownsRow sb 108 2 (.slice av k cv) k ((List.replicate k Vl.none).flatMap Vl.cells)) := hid (by have := HR.out.vars; simpa only [List.length_replicate] using this)
      clear hsX
      go_wp2
      refine wp_flowT (fun q => (Value.slice av k cv).ownBlock = some q) (by kernel_rfl) (by kernel_rfl) ?_
      repeat (apply FlowT.d; (intro w1 hk; unfold does; go_simp; (try go_ints); (first | exact DetR.mk | (simp only [↓IntWalk.iteOmega, Oper.doesUpon_value]; exact DetR.mk) | (simp only [↓IntWalk.iteOmega]; go_simp; (try go_ints); exact DetR.mk))); simp only [Act.put, List.setIfInBounds_toArray, List.set_cons_zero, List.set_cons_succ])
      apply FlowT.d
      · intro w1 hk
        unfold does
        go_simp
        exact CallR.det ((HNo w1).out)
      simp only [Act.put, List.setIfInBounds_toArray, List.set_cons_zero, List.set_cons_succ]
      refine FlowT.s (fun u w' => NoneOne u w' ∧ Ext wr w') 3 rfl (by kernel_rfl) (fun _ _ _ h y => ⟨h.1.ext y, h.2.trans y⟩) (fun w1 hC hk => ?_) ?_
      · unfold does
        go_simp
        exact ⟨hk.alloc _, NoneOne.mk _, hC.alloc _⟩
      rintro _ ⟨_, ⟨b, rfl, _⟩, _⟩
      simp only [Act.put, List.setIfInBounds_toArray, List.set_cons_zero, List.set_cons_succ]
      refine FlowT.s (fun u w' => (∃ a c, u = .slice a (k + 1) c) ∧ w'.ownsRow sb 108 2 u (k + 1) ((List.replicate (k + 1) Vl.none).flatMap Vl.cells) ∧ Keep (fun q => (Value.slice av k cv).ownBlock = some q) wr w') 4 rfl (by kernel_rfl) (fun _ _ _ h y => ⟨h.1, own_ext h.2.1 y, h.2.2.ext_r y⟩) (fun w1 hC hk => ?_) ?_
      · obtain ⟨⟨b', eb, hb⟩, hx1⟩ := hC
        obtain rfl : b = b' := by simpa using eb
        refine does_append_el sb (Nat.le_trans Hsl.out hx1.size) 76 108 (.agg #[.string ⟨#[]⟩, .int .i64 0]) 2 24 Tryd.underlying76 rval_info rfl (by omega) (by omega) rfl _ _ rfl (.slice av k cv) k ((List.replicate k Vl.none).flatMap Vl.cells) rfl (own_ext Hrow.out hx1) b (Vl.cells .none) rfl (by simp [Vl.cells, Value.oneCell']) rfl hb Hkl.out ?_
        intro v' w' ho hk' hl
        rw [← fm_rep] at ho
        have hk2 := hk.trans hk'
        exact ⟨hk2, row_form ho, ho, hk2⟩
      rintro _ ⟨_, ⟨a8, c8, rfl⟩, _, _⟩
      simp only [Act.put, List.setIfInBounds_toArray, List.set_cons_zero, List.set_cons_succ]
      repeat (apply FlowT.d; (intro w1 hk; unfold does; go_simp; (try go_ints); (first | exact DetR.mk | (simp only [↓IntWalk.iteOmega, Oper.doesUpon_value]; exact DetR.mk) | (simp only [↓IntWalk.iteOmega]; go_simp; (try go_ints); exact DetR.mk))); simp only [Act.put, List.setIfInBounds_toArray, List.set_cons_zero, List.set_cons_succ])
      refine FlowT.last (fun _ w' => RnAt w' sb sb (.slice a8 (k + 1) c8) (.slice none 0 0) (.slice none 0 0) ⟨List.replicate (k + 1) .none, [], []⟩ ∧ Old sb wr w') 6 rfl (by kernel_rfl) (by kernel_rfl) (fun w2 hC hk => ?_) (fun _ w4 hR4 => ?_)
      · obtain ⟨_, hrow, hk2⟩ := hC
        have hB := HR.out.blk.keep hk2 (fun e => HR.out.vb e rfl)
        have z0 := hB.av 0 rfl
        have f0 := hB.free 0
        have hB2 := hB.set 0 (.slice a8 (k + 1) c8)
        simp only [List.setIfInBounds_toArray, List.set_cons_zero] at hB2
        have hk3 : Keep (fun q => q = sb) w2 (w2.setCell ⟨sb, 0, none⟩ (.slice a8 (k + 1) c8)) := Keep.set (X := fun q => q = sb) (Keep.refl _ _) rfl _
        have hR2 : RnAt (w2.setCell ⟨sb, 0, none⟩ (.slice a8 (k + 1) c8)) sb sb (.slice a8 (k + 1) c8) (.slice none 0 0) (.slice none 0 0) ⟨List.replicate (k + 1) .none, [], []⟩ :=
          ⟨hB2, Nat.le_refl _, row_keep (by simpa only [List.length_replicate] using hrow) hk3 (fun i hi e => by
            subst e
            obtain ⟨c, hc⟩ := own_ty hrow hi
            exact Blk.ty_ne hc hB (by decide) rfl), World.ownsRow_nil _ _ _ _, World.ownsRow_nil _ _ _ _, fun b _ e => by cases e⟩
        have hO2 : Old sb wr (w2.setCell ⟨sb, 0, none⟩ (.slice a8 (k + 1) c8)) := (hk2.mono fun q _ e => (World.ownsRow.lt Hrow.out q e).1).trans (hk3.mono fun q _ e => by rw [e]; exact Nat.le_refl _)
        clear hk hk2 hB hB2 hk3 hrow
        unfold does
        go_simp
      obtain ⟨hR5, hO5⟩ := hR4
      simp only [Act.put]
      have HR5 := hid hR5
      have HO5 := hid (HO.out.trans hO5)
      clear hR5 hO5 d0
      go_wp2
      go_roundw
      case rel => exact ⟨k + 1, _, by go_num, by omega, HR5.out, HO5.out⟩
      case measure => simp [intOf]; omega
    · obtain rfl : k = P.vars.length := by omega
      have HR5 : Hid (RnAt wr sb sb (.slice av P.vars.length cv) (.slice none 0 0) (.slice none 0 0) (Rn.begin P)) := HR
      clear HR
      go_wp2
      rename World => w7
      go_loopw [48] (fun t48 wr => ∃ (k : Nat) (vv tv pv : Value), t48 = .int .i64 (k : Int) ∧ k ≤ l.length ∧ RnAt wr sb sb vv tv pv (Rn.run P ((l.map Int.toNat).take k)) ∧ Old sb W9 wr) (fun t48 _ => l.length - (intOf t48).toNat)
      case atStart => exact ⟨0, _, _, _, rfl, Nat.zero_le _, HR5.out, HO.out⟩
      case round =>
        obtain ⟨k, vv, tv, pv, rfl, hk, hR, hO⟩ := hrel
        have HR := hid hR
        have HO := hid hO
        clear hR hO
        have HPr : Hid (Blk wr w.heap.size (pcells a1 a2 a3 c1 c2 c3 P) 73) := hid (HP9.out.keep HO.out (fun e => by have := Hlt.out; omega))
        have HBr : Hid (Blk wr (w.heap.size + 1) zcells 78) := hid (HB9.out.keep HO.out (fun e => by have := Hlt.out; omega))
        have HWo : Hid (Old w.heap.size w wr) := hid ((HW9.out.old _).trans (HO.out.mono fun q _ e => by have := Hlt.out; omega))
        by_cases hlt : k < l.length
        · obtain ⟨ya, q, rfl, hqk, hc⟩ := (HI.out.old HWo.out).at hlt
          have hqb := HBad.out q (List.mem_of_getElem? hqk)
          have hqi : 0 ≤ q ∧ q < P.stmts.length := by
            unfold PP.badk at hqb
            simp at hqb
            omega
          obtain ⟨K, rfl⟩ := Int.eq_ofNat_of_zero_le hqi.1
          have hK : K < P.stmts.length := by omega
          have hxk : P.stmts[K]? = some (P.stmts[K]'hK) := List.getElem?_eq_getElem hK
          have HD := hid (stdo_any a1 a2 a3 c1 c2 c3 P K _ hxk (Hok.out.2 K _ hK hxk) (fun f hf => PP.goodF (PP.funs_ok Hok.out.1) hf) _ (Rn.Ok.run Hok.out.2 _) wr sb sb vv tv pv HR.out ((HP.out.old HWo.out).lift (Nat.le_of_lt (Nat.lt_of_le_of_lt (Nat.le_succ _) Hlt.out))) (Nat.le_of_lt HR.out.blk.lt) (by
            have h1 := Rn.run_len Hok.out.2 ((l.map Int.toNat).take k)
            rw [List.length_take, List.length_map] at h1
            omega))
          have Hnext : Hid (Rn.run P ((l.map Int.toNat).take (k + 1)) = (Rn.run P ((l.map Int.toNat).take k)).stmt P K (P.stmts[K]'hK)) := hid (by
            rw [List.take_add_one, List.getElem?_map, hqk]
            simp only [Option.map_some, Option.toList, Int.toNat_natCast]
            rw [Rn.run_snoc]
            unfold Rn.step
            rw [hxk])
          have p0 := HPr.out.av 0 rfl
          have p1 := HPr.out.av 1 rfl
          have p2 := HPr.out.av 2 rfl
          simp only [pcells, List.getElem_toArray, List.getElem_cons_zero, List.getElem_cons_succ] at p0 p1 p2
          unfold pval at HD
          clear hqk hqb hqi hxk
          go_wp2_with fail
          refine HD.out.mono ?_
          intro e w6 hx
          obtain ⟨rfl, ⟨v1, v2, v3, hR6⟩, hO6⟩ := hx
          have HR6 := hid hR6
          have HO6 := hid (HO.out.trans hO6)
          clear HD hR6 hO6 p0 p1 p2
          go_wp2
          go_roundw
          case rel => exact ⟨k + 1, v1, v2, v3, by go_num, by omega, by rw [Hnext.out]; exact HR6.out, HO6.out⟩
          case measure => simp [intOf]; omega
        · obtain rfl : k = l.length := by omega
          rw [List.take_of_length_le (by simp)] at HR
          obtain ⟨s, hs⟩ : ∃ s, s = Rn.run P (l.map Int.toNat) := ⟨_, rfl⟩
          rw [← hs] at HR
          have Hs := hid hs
          obtain ⟨b1, e1, rfl⟩ := row_form HR.out.vars
          obtain ⟨b2, e2, rfl⟩ := row_form HR.out.things
          obtain ⟨b3, e3, rfl⟩ := row_form HR.out.places
          have d0 := HR.out.blk.av 0 rfl
          have d1 := HR.out.blk.av 1 rfl
          have d2 := HR.out.blk.av 2 rfl
          have z0 := HBr.out.av 0 rfl
          have z1 := HBr.out.av 1 rfl
          have z2 := HBr.out.av 2 rfl
          have f0 := HBr.out.free 0
          have f1 := HBr.out.free 1
          have f2 := HBr.out.free 2
          simp only [zcells, List.getElem_toArray, List.getElem_cons_zero, List.getElem_cons_succ] at d0 d1 d2 z0 z1 z2
          have HBz := hid (store3 (v0 := .slice b1 s.vars.length e1) (v1 := .slice b2 s.things.length e2) (v2 := .slice b3 s.places.length e3) HBr.out)
          have HKz := hid (store3_keep wr (w.heap.size + 1) (.slice b1 s.vars.length e1) (.slice b2 s.things.length e2) (.slice b3 s.places.length e3))
          clear hs
          go_wp2
          have c0 := HBz.out.av 0 rfl
          have c1' := HBz.out.av 1 rfl
          have c2' := HBz.out.av 2 rfl
          have hX := Keep.new (Ext.refl w) (HWo.out.trans (HKz.out.mono fun b _ e => by omega)) fun b hb => hb
          have hw : w.heap.size ≤ sb := by have := Hlt.out; omega
          have hbx : ∀ i, sb ≤ i → ¬ i = w.heap.size + 1 := fun i h e => by have := Hlt.out; omega
          have hrows : RnRows _ w.heap.size (.slice b1 s.vars.length e1) (.slice b2 s.things.length e2) (.slice b3 s.places.length e3) s :=
            ⟨own_low (row_keep HR.out.vars HKz.out fun i hi => hbx i (World.ownsRow.lt HR.out.vars i hi).1) hw, own_low (row_keep HR.out.things HKz.out fun i hi => hbx i (World.ownsRow.lt HR.out.things i hi).1) hw, own_low (row_keep HR.out.places HKz.out fun i hi => hbx i (World.ownsRow.lt HR.out.places i hi).1) hw⟩
          generalize (((wr.setCell ⟨w.heap.size + 1, 0, none⟩ (.slice b1 s.vars.length e1)).setCell ⟨w.heap.size + 1, 1, none⟩ (.slice b2 s.things.length e2)).setCell ⟨w.heap.size + 1, 2, none⟩ (.slice b3 s.places.length e3)) = W10 at *
          exact bodyPost_ret (v := .tuple #[.agg #[.slice b1 s.vars.length e1, .slice b2 s.things.length e2, .slice b3 s.places.length e3], .nilIface]) (by simp [results, Tryd.results30, go_sem, c0, c1', c2']) rfl ⟨hX, _, _, _, rfl, by rw [← Hs.out]; exact hrows⟩
end Go.Proofs.YtkabgmohgjljkaaDoor


/- Links: a frame is sent and kept. -/
namespace Go.Proofs.YtkabgmohgjljkaaDoor
set_option linter.unusedSimpArgs false
set_option linter.unusedVariables false
open Go Go.RowKit

theorem fr_cells (f : Fr) (v : Value) (n : Int) : kcells (⟨f, v⟩, n) = [.int .u8 (f.kind.toNat : Int), .int .i64 f.fr, .int .i64 f.to, .int .i64 f.seq, v, .int .i64 n] := rfl

set_option maxRecDepth 100000 in
set_option maxHeartbeats 3200000 in
theorem send_ok (s : Snd) (kind : UInt8) (nums : List Int) (a : Option Addr) (cap : Nat) (w : World) (n0 : Nat) (t : Option Nat) (p : Nat) (lv : Value) (ks : List (FV × Int)) (h : SndAt w n0 t p s lv ks) (hr : Ints w a nums.length nums) (hl : nums.length ≤ 1000)
    (ev : Nat → Value) (he : ErrsC w ev)
    (hc : (s.frame kind nums).code = 0) (hk : kind ≠ 97) (hf : s.l.length < 200) (m : Nat) (ok : s.Ok m) (hm : m ≤ 1000000) (hn0 : n0 ≤ w.heap.size) (ht : ∀ b, t = some b → b < w.heap.size) :
    Calls Tryd.prog 11 #[.pointer (some ⟨p, 0, none⟩), .int .u8 (kind.toNat : Int), .slice a nums.length cap] w fun e w' => ∃ v lv' ks', e = .returned (.tuple #[(FV.mk (s.frame kind nums) v).val, .nilIface]) ∧ SndAt w' n0 t p (s.sent kind nums) lv' ks' ∧ IRow w.heap.size w' v nums ∧ Keep (fun b => b = p ∨ lv.ownBlock = some b) w w' := by
  obtain ⟨a4, c4, rfl⟩ := row_form h.hl
  have hE : errv ev 0 = .nilIface := rfl
  have hkn : ¬ (kind.toNat : Int) = 97 := fun e => hk (UInt8.toNat_inj.1 (by rw [show (97 : UInt8).toNat = 97 from rfl]; omega))
  have hf' : (ks.length : Int) < 200 := by have := h.len; omega
  have hnx := ok.next
  have Hn0 := hid hn0
  have Ht := hid ht
  clear hk hf ok hn0 ht
  obtain ⟨W0, hW0⟩ : ∃ W0, W0 = w.alloc (.cells frz 48) := ⟨_, rfl⟩
  have xW0 : Ext w W0 := by rw [hW0]; exact (Ext.refl w).alloc _
  have hs0 : W0.heap.size = w.heap.size + 1 := by rw [hW0]; simp
  have b6 : Blk W0 w.heap.size frz 48 := by rw [hW0]; exact Blk.new _ _ _
  have hpl := h.hp.lt
  have hnp : ¬ W0.heap.size ≤ p := by omega
  have g0 := (h.hp.ext xW0).kc (X := fun b => W0.heap.size ≤ b) hnp 0 rfl
  have g1 := (h.hp.ext xW0).kc (X := fun b => W0.heap.size ≤ b) hnp 1 rfl
  have g2 := (h.hp.ext xW0).kc (X := fun b => W0.heap.size ≤ b) hnp 2 rfl
  simp only [List.getElem_toArray, List.getElem_cons_zero, List.getElem_cons_succ] at g0 g1 g2
  have HC := fun w1 (x : Ext w w1) => hid (copied_any (s.frame kind nums) a cap w1 (hr.ext x) hl)
  have HK := fun w1 (x : Ext w w1) a1 c1 (hi : Ints w1 a1 nums.length nums) => hid (fcheck_any (s.frame kind nums) a1 c1 w1 ev hi (by simp only [Snd.frame]; omega) (he.ext x))
  have Hhi : Hid (∀ i, nums.getD i 0 ≤ 9223372036854775807) := hid hr.hi
  unfold frz at hW0
  have HW0 := hid hW0
  have H := hid h
  have Hb6 := hid b6
  have Hs0 := hid hs0
  clear hW0 h hr b6 hs0
  simp only [Snd.frame, frv] at HC HK hc
  simp only [hc, hE] at HK
  clear hc hE
  go_enter Tryd.func11, Tryd.ntmps11
  go_wp2
  rw [← HW0.out]
  refine wp_flow (fun b => W0.heap.size ≤ b) (by kernel_rfl) (by kernel_rfl) ?_
  apply Flow.d 0 _ rfl (by simp) (by kernel_rfl)
  · intro w1 hk; unfold does; go_simp; (try go_ints); exact DetR.mk
  simp only [List.getElem_toArray, List.getElem_cons_zero, List.getElem_cons_succ, Act.put, List.setIfInBounds_toArray, List.set_cons_zero, List.set_cons_succ]
  apply Flow.d 1 _ rfl (by simp) (by kernel_rfl)
  · intro w1 hk; unfold does; go_simp; (try go_ints); exact DetR.mk
  simp only [List.getElem_toArray, List.getElem_cons_zero, List.getElem_cons_succ, Act.put, List.setIfInBounds_toArray, List.set_cons_zero, List.set_cons_succ]
  apply Flow.d 2 _ rfl (by simp) (by kernel_rfl)
  · intro w1 hk; unfold does; go_simp; (try go_ints); exact DetR.mk
  simp only [List.getElem_toArray, List.getElem_cons_zero, List.getElem_cons_succ, Act.put, List.setIfInBounds_toArray, List.set_cons_zero, List.set_cons_succ]
  apply Flow.d 3 _ rfl (by simp) (by kernel_rfl)
  · intro w1 hk; unfold does; go_simp; (try go_ints); exact DetR.mk
  simp only [List.getElem_toArray, List.getElem_cons_zero, List.getElem_cons_succ, Act.put, List.setIfInBounds_toArray, List.set_cons_zero, List.set_cons_succ]
  apply Flow.d 4 _ rfl (by simp) (by kernel_rfl)
  · intro w1 hk; unfold does; go_simp; (try go_ints); exact DetR.mk
  simp only [List.getElem_toArray, List.getElem_cons_zero, List.getElem_cons_succ, Act.put, List.setIfInBounds_toArray, List.set_cons_zero, List.set_cons_succ]
  apply Flow.d 5 _ rfl (by simp) (by kernel_rfl)
  · intro w1 hk; unfold does; go_simp; (try go_ints); exact DetR.mk
  simp only [List.getElem_toArray, List.getElem_cons_zero, List.getElem_cons_succ, Act.put, List.setIfInBounds_toArray, List.set_cons_zero, List.set_cons_succ]
  apply Flow.d 6 _ rfl (by simp) (by kernel_rfl)
  · intro w1 hk; unfold does; go_simp; (try go_ints); exact DetR.mk
  simp only [List.getElem_toArray, List.getElem_cons_zero, List.getElem_cons_succ, Act.put, List.setIfInBounds_toArray, List.set_cons_zero, List.set_cons_succ]
  apply Flow.d 7 _ rfl (by simp) (by kernel_rfl)
  · intro w1 hk; unfold does; go_simp; (try go_ints); exact DetR.mk
  simp only [List.getElem_toArray, List.getElem_cons_zero, List.getElem_cons_succ, Act.put, List.setIfInBounds_toArray, List.set_cons_zero, List.set_cons_succ]
  apply Flow.d 8 _ rfl (by simp) (by kernel_rfl)
  · intro w1 hk; unfold does; go_simp; (try go_ints); exact DetR.mk
  simp only [List.getElem_toArray, List.getElem_cons_zero, List.getElem_cons_succ, Act.put, List.setIfInBounds_toArray, List.set_cons_zero, List.set_cons_succ]
  apply Flow.d 9 _ rfl (by simp) (by kernel_rfl)
  · intro w1 hk; unfold does; go_simp; (try go_ints); exact DetR.mk
  simp only [List.getElem_toArray, List.getElem_cons_zero, List.getElem_cons_succ, Act.put, List.setIfInBounds_toArray, List.set_cons_zero, List.set_cons_succ]
  apply Flow.d 10 _ rfl (by simp) (by kernel_rfl)
  · intro w1 hk; unfold does; go_simp; (try go_ints); exact DetR.mk
  simp only [List.getElem_toArray, List.getElem_cons_zero, List.getElem_cons_succ, Act.put, List.setIfInBounds_toArray, List.set_cons_zero, List.set_cons_succ]
  apply Flow.d 11 _ rfl (by simp) (by kernel_rfl)
  · intro w1 hk; unfold does; go_simp; (try go_ints); exact DetR.mk
  simp only [List.getElem_toArray, List.getElem_cons_zero, List.getElem_cons_succ, Act.put, List.setIfInBounds_toArray, List.set_cons_zero, List.set_cons_succ]
  apply Flow.d 12 _ rfl (by simp) (by kernel_rfl)
  · intro w1 hk; unfold does; go_simp; (try go_ints); exact DetR.mk
  simp only [List.getElem_toArray, List.getElem_cons_zero, List.getElem_cons_succ, Act.put, List.setIfInBounds_toArray, List.set_cons_zero, List.set_cons_succ]
  apply Flow.d 13 _ rfl (by simp) (by kernel_rfl)
  · intro w1 hk; unfold does; go_simp; (try go_ints); exact DetR.mk
  simp only [List.getElem_toArray, List.getElem_cons_zero, List.getElem_cons_succ, Act.put, List.setIfInBounds_toArray, List.set_cons_zero, List.set_cons_succ]
  apply Flow.d 14 _ rfl (by simp) (by kernel_rfl)
  · intro w1 hk; unfold does; go_simp; (try go_ints); exact DetR.mk
  simp only [List.getElem_toArray, List.getElem_cons_zero, List.getElem_cons_succ, Act.put, List.setIfInBounds_toArray, List.set_cons_zero, List.set_cons_succ]
  refine Flow.par2 15 16 _ _ rfl rfl (by decide) (fun _ _ h => by cases h) (fun _ _ h => by cases h) (by kernel_rfl) (by kernel_rfl) (by kernel_rfl) (by kernel_rfl)
    (fun v w1 => ∃ v1, v = (FV.mk ⟨kind, s.fr, s.to, s.next, nums⟩ v1).val ∧ IRow W0.heap.size w1 v1 nums) (fun v w1 => ∃ b, v = .pointer (some ⟨b, 0, none⟩) ∧ Blk w1 b frz 48 ∧ W0.heap.size ≤ b) (fun _ _ h x => h.trans x) (fun _ _ _ ⟨v1, h1, h2⟩ x => ⟨v1, h1, h2.ext x⟩) (fun _ _ _ ⟨g, h1, h2, h3⟩ x => ⟨g, h1, h2.ext x, h3⟩) ?_ ?_ ?_
  · intro w1 hC hk
    unfold does
    go_simp
    refine CallR.gen ((HC w1 (xW0.trans hC)).out.mono ?_)
    rintro e w2 ⟨v, rfl, hx, hI⟩
    exact ⟨_, rfl, hx, v, rfl, hI.base hC.size⟩
  · intro w1 hC hk
    unfold does
    go_simp
    exact ⟨(Ext.refl _).alloc _, _, rfl, Blk.new _ _ _, hC.size⟩
  rintro _ _ ⟨_, v1, rfl, hI0⟩ ⟨_, b8, rfl, _, hb8⟩
  obtain ⟨a1, c1, rfl⟩ := hI0.form
  have Hb8 := hid hb8
  clear hI0 hb8
  simp only [List.getElem_toArray, List.getElem_cons_zero, List.getElem_cons_succ, Act.put, List.setIfInBounds_toArray, List.set_cons_zero, List.set_cons_succ]
  refine Flow.one 17 _ rfl (by kernel_rfl) (fun _ w1 => Blk w1 b8 #[.int .u8 (kind.toNat : Int), .int .i64 s.fr, .int .i64 s.to, .int .i64 s.next, .slice a1 nums.length c1] 48 ∧ IRow W0.heap.size w1 (.slice a1 nums.length c1) nums ∧ Ext W0 w1) (fun _ _ _ ⟨h1, h2, h3⟩ x => ⟨h1.ext x, h2.ext x, h3.trans x⟩) ?_ ?_
  · rintro w1 ⟨hx, ⟨v2, e2, hI⟩, b', eb, hB, _⟩ hk
    obtain rfl : v2 = .slice a1 nums.length c1 := by simpa [FV.val, eq_comm] using e2
    obtain rfl : b8 = b' := by simpa using eb
    have c0 := hB.av 0 rfl
    have c1 := hB.av 1 rfl
    have c2 := hB.av 2 rfl
    have c3 := hB.av 3 rfl
    have c4 := hB.av 4 rfl
    have f0 := hB.free
    unfold does
    unfold FV.val
    go_simp
    refine ⟨(store5_keep _ _ _ _ _ _ _ |>.mono fun b _ e => by subst e; exact Hb8.out) |> hk.trans, store5 hB, hI.keep (store5_keep _ _ _ _ _ _ _) (fun b hb' e => ?_), Keep.new hx (store5_keep _ _ _ _ _ _ _) (fun b e => by subst e; exact Hb8.out)⟩
    obtain ⟨c, hc⟩ := own_ty (show w1.ownsRow W0.heap.size 3 1 _ nums.length (icells nums) from hI) hb'
    exact hB.ty_ne hc (by decide) e.symm
  rintro _ ⟨_, _⟩
  simp only [List.getElem_toArray, List.getElem_cons_zero, List.getElem_cons_succ, Act.put, List.setIfInBounds_toArray, List.set_cons_zero, List.set_cons_succ]
  refine Flow.fin (by kernel_rfl) fun w1 hC hk => ?_
  obtain ⟨hB, hI, hx⟩ := hC
  clear g0 g1 g2 HC hk HW0
  have hx1 := xW0.trans hx
  have Hx1 := hid hx1
  have d0 := hB.av 0 rfl
  have d1 := hB.av 1 rfl
  have d2 := hB.av 2 rfl
  have d3 := hB.av 3 rfl
  have d4 := hB.av 4 rfl
  go_wp2_with fail
  refine (HK _ hx1 _ _ (hI.ints Hhi.out)).out.mono ?_
  intro e w2 hx2
  obtain ⟨rfl, hx2⟩ := hx2
  clear HK d0 d1 d2 d3 d4
  have hx2' := hx1.trans hx2
  have h2 := H.out.ext hx2'
  have q2 := h2.hp.av 2 rfl
  have q4 := h2.hp.av 4 rfl
  have f2 := h2.hp.free
  simp only [List.getElem_toArray, List.getElem_cons_zero, List.getElem_cons_succ] at q2 q4
  have hB2 := hB.ext hx2
  have hI2 := hI.ext hx2
  have b62 := Hb6.out.ext (hx.trans hx2)
  have hk3 : Keep (fun b => b = p) w2 (w2.setCell ⟨p, 2, none⟩ (.int .i64 (s.next + 1))) := Keep.set (X := fun b => b = p) (Keep.refl _ _) rfl _
  have hwr : Wr w2 n0 t fun b => b = p := Wr.blk h2.hp (by decide) h2.lo
  have hP3 := h2.hp.set 2 (.int .i64 (s.next + 1))
  simp only [List.setIfInBounds_toArray, List.set_cons_zero, List.set_cons_succ] at hP3
  have hB3 := hB2.keep hk3 fun e => h2.hp.ty_ne hB2 (by decide) e.symm
  have hI3 := hI2.keep hk3 fun b hb e => by
    obtain ⟨c, hc⟩ := own_ty (show w2.ownsRow W0.heap.size 3 1 _ nums.length (icells nums) from hI2) hb
    exact h2.hp.ty_ne hc (by decide) e.symm
  have b63 := b62.keep hk3 fun e => h2.hp.ty_ne b62 (by decide) e.symm
  have hL3 := row_keep h2.hl hk3 fun b hb e => by
    obtain ⟨c, hc⟩ := own_ty h2.hl hb
    exact h2.hp.ty_ne hc (by decide) e.symm
  have hN3 : ∀ x ∈ ks, x.1.At (w2.setCell ⟨p, 2, none⟩ (.int .i64 (s.next + 1))) n0 t := fun x hm => NumsAt.keep (h2.hn x hm) hk3 hwr
  have hlp : ¬ (Value.slice a4 ks.length c4).ownBlock = some p := fun e => by
    obtain ⟨c, hc⟩ := own_ty h2.hl e
    exact h2.hp.ty_ne hc (by decide) rfl
  have Hlp := hid hlp
  have HkA := hid ((hx2'.keep fun b => b = p).trans hk3)
  have hsz3 : Hid (w2.heap.size = (w2.setCell ⟨p, 2, none⟩ (.int .i64 (s.next + 1))).heap.size) := hid (by simp [World.setCell])
  have hw0 : Hid (W0.heap.size ≤ w2.heap.size) := hid (hx.trans hx2).size
  have Heq := hid h2.eq
  have Hlo := hid h2.lo
  clear hB hI hx1 hx hx2 hx2' h2 hB2 hI2 b62 hk3 hwr hlp Hb6 H Hx1
  go_wp2
  generalize w2.setCell ⟨p, 2, none⟩ (.int .i64 (s.next + 1)) = W3 at *
  clear q2 q4 f2
  have g3 := hP3.kc (X := fun k => (Value.slice a4 ks.length c4).ownBlock = some k) Hlp.out 3 rfl
  have g4 := hP3.kc (X := fun k => (Value.slice a4 ks.length c4).ownBlock = some k) Hlp.out 4 rfl
  simp only [List.getElem_toArray, List.getElem_cons_zero, List.getElem_cons_succ] at g3 g4
  have hb8 : ¬ (Value.slice a4 ks.length c4).ownBlock = some b8 := fun e => by
    obtain ⟨c, hc⟩ := own_ty hL3 e
    exact hB3.ty_ne hc (by decide) rfl
  have d0 := hB3.kc (X := fun k => (Value.slice a4 ks.length c4).ownBlock = some k) hb8 0 rfl
  have d1 := hB3.kc (X := fun k => (Value.slice a4 ks.length c4).ownBlock = some k) hb8 1 rfl
  have d2 := hB3.kc (X := fun k => (Value.slice a4 ks.length c4).ownBlock = some k) hb8 2 rfl
  have d3 := hB3.kc (X := fun k => (Value.slice a4 ks.length c4).ownBlock = some k) hb8 3 rfl
  have d4 := hB3.kc (X := fun k => (Value.slice a4 ks.length c4).ownBlock = some k) hb8 4 rfl
  obtain ⟨ti, hi, hz0, hz1, hz2⟩ := info_parts kept_info
  have HP3 := hid hP3
  have HB3 := hid hB3
  have HI3 := hid hI3
  have HL3 := hid hL3
  have HN3 := hid hN3
  have Hb63 := hid b63
  have Hb8' := hid hb8
  clear hP3 hB3 hI3 hL3 hN3 b63 hb8
  refine wp_flowT (fun k => (Value.slice a4 ks.length c4).ownBlock = some k) (by kernel_rfl) (by kernel_rfl) ?_
  repeat (apply FlowT.d; (intro w1 hk; unfold does; go_simp; (try go_ints); (first | exact DetR.mk | (simp only [↓IntWalk.iteOmega, Oper.doesUpon_value]; exact DetR.mk) | (simp only [↓IntWalk.iteOmega]; go_simp; (try go_ints); exact DetR.mk))); simp only [Act.put, List.setIfInBounds_toArray, List.set_cons_zero, List.set_cons_succ])
  obtain ⟨NC, hNC⟩ : ∃ NC, NC = kcells (⟨s.frame kind nums, .slice a1 nums.length c1⟩, s.now) := ⟨_, rfl⟩
  have HNC := hid hNC
  clear hNC
  refine FlowT.s (fun v' w' => ∃ b, v' = .slice (some ⟨b, 0, none⟩) 1 1 ∧ Blk w' b #[.int .u8 (kind.toNat : Int), .int .i64 s.fr, .int .i64 s.to, .int .i64 s.next, .slice a1 nums.length c1, .int .i64 s.now] 97 ∧ Ext W3 w') 11 rfl (by kernel_rfl) (fun _ _ _ ⟨b, h1, h2, h3⟩ he => ⟨b, h1, h2.ext he, h3.trans he⟩) (fun w4 hC hk => ?_) (fun v2 hv2 => ?_)
  · unfold does
    go_simp
    exact ⟨hk.alloc _, _, rfl, Blk.new _ _ _, hC.alloc _⟩
  obtain ⟨_, b, rfl, _, _⟩ := hv2
  simp only [Act.put, List.setIfInBounds_toArray, List.set_cons_zero, List.set_cons_succ]
  refine FlowT.s (fun v' w' => w'.ownsRow 0 97 6 v' (ks.length + 1) (ks.flatMap kcells ++ NC) ∧ ∀ k, v'.ownBlock = some k → (Value.slice a4 ks.length c4).ownBlock = some k ∨ W3.heap.size ≤ k) 12 rfl (by kernel_rfl) (fun _ _ _ h he => ⟨row_keep h.1 (he.keep fun _ => False) (fun _ _ h => h), h.2⟩) (fun w5 hC hk => ?_) (fun v3 hv3 => ?_)
  · obtain ⟨b', hb', hblk, hx⟩ := hC
    obtain rfl : b = b' := by simpa using hb'
    refine does_append rfl (.tmp 57) (.tmp 64) 86 rfl 97 ti _ 6 64 Tryd.underlying86 hi hz0 hz1 hz2 rfl (by decide) (.slice a4 ks.length c4) ks.length (ks.flatMap kcells) rfl (own_base (row_keep HL3.out (hx.keep fun _ => False) (fun _ _ h => h)) (Nat.zero_le _)) ⟨b, 0, none⟩ 1 1 NC rfl (by rw [HNC.out]; rfl) ?_ (by rw [HNC.out, fr_cells]; simp [Value.oneCell']) (by unfold maxLen; omega) (by omega) (fun v' w' ho hkk hb2 => ?_)
    · intro j u hj
      rw [HNC.out, fr_cells] at hj
      rw [show (⟨b, 0, none⟩ : Addr).add j = ⟨b, j, none⟩ from by by_cases h0 : j = 0 <;> simp [Addr.add, h0], hblk.cell j]
      simpa [Snd.frame] using hj
    · refine ⟨(hx.keep _).trans hkk, ho, fun k hk' => ?_⟩
      rcases hb2 k hk' with h1 | h1
      · exact .inl h1
      · exact .inr (Nat.le_trans hx.size h1)
  obtain ⟨a5, c5, rfl⟩ : ∃ a5 c5, v3 = .slice a5 (ks.length + 1) c5 := by
    obtain ⟨_, h1, _⟩ := hv3
    exact row_form h1
  clear hv3
  simp only [Act.put, List.setIfInBounds_toArray, List.set_cons_zero, List.set_cons_succ]
  repeat (apply FlowT.d; (intro w1 hk; unfold does; go_simp; (try go_ints); (first | exact DetR.mk | (simp only [↓IntWalk.iteOmega, Oper.doesUpon_value]; exact DetR.mk) | (simp only [↓IntWalk.iteOmega]; go_simp; (try go_ints); exact DetR.mk))); simp only [Act.put, List.setIfInBounds_toArray, List.set_cons_zero, List.set_cons_succ])
  refine FlowT.last (fun _ w' => ∃ w6, w6.ownsRow 0 97 6 (.slice a5 (ks.length + 1) c5) (ks.length + 1) (ks.flatMap kcells ++ NC) ∧ (∀ k, (Value.slice a5 (ks.length + 1) c5).ownBlock = some k → (Value.slice a4 ks.length c4).ownBlock = some k ∨ W3.heap.size ≤ k) ∧ Keep (fun k => (Value.slice a4 ks.length c4).ownBlock = some k) W3 w6 ∧ w' = w6.setCell ⟨p, 4, none⟩ (.slice a5 (ks.length + 1) c5)) 15 rfl (by kernel_rfl) (by kernel_rfl) (fun w6 hC hk => ?_) (fun v w7 hR => ?_)
  · have q4 := g4 w6 hk
    have f4 := (HP3.out.keep hk Hlp.out).free 4
    unfold does
    go_simp
    exact ⟨w6, hC.1, hC.2, hk, rfl⟩
  obtain ⟨w6, ho, hb3, hk6, rfl⟩ := hR
  simp only [Act.put]
  clear g3 g4 d0 d1 d2 d3 d4
  have hP6 := HP3.out.keep hk6 Hlp.out
  have hne5 : ∀ k, (Value.slice a5 (ks.length + 1) c5).ownBlock = some k → k ≠ p := fun k hk e => by
    obtain ⟨c, hc⟩ := own_ty ho hk
    exact hP6.ty_ne hc (by decide) e.symm
  have hP7 := hP6.set 4 (.slice a5 (ks.length + 1) c5)
  simp only [List.setIfInBounds_toArray, List.set_cons_zero, List.set_cons_succ] at hP7
  have hk7 : Keep (fun k => k = p ∨ (Value.slice a4 ks.length c4).ownBlock = some k) W3 (w6.setCell ⟨p, 4, none⟩ (.slice a5 (ks.length + 1) c5)) := (hk6.mono fun k _ h => .inr h).set (.inl rfl) _
  have hwr : Wr W3 n0 t fun k => k = p ∨ (Value.slice a4 ks.length c4).ownBlock = some k := (Wr.blk HP3.out (by decide) Hlo.out).or (Wr.row HL3.out (by decide))
  have hL7 := row_keep (X := fun k => k = p) ho (Keep.set (X := fun k => k = p) (Keep.refl _ w6) rfl _) (w' := w6.setCell ⟨p, 4, none⟩ (.slice a5 (ks.length + 1) c5)) hne5
  have hB7 := HB3.out.keep hk7 fun e => e.elim (fun e => HP3.out.ty_ne HB3.out (by decide) e.symm) Hb8'.out
  have hI7 := HI3.out.keep hk7 fun b hb e => by
    obtain ⟨c, hc⟩ := own_ty (show W3.ownsRow W0.heap.size 3 1 _ nums.length (icells nums) from HI3.out) hb
    rcases e with e | e
    · exact HP3.out.ty_ne hc (by decide) e.symm
    · obtain ⟨c', hc'⟩ := own_ty HL3.out e
      exact hc'.ty_ne hc (by decide) rfl
  have hN7 : ∀ x ∈ ks, x.1.At (w6.setCell ⟨p, 4, none⟩ (.slice a5 (ks.length + 1) c5)) n0 t := fun x hm => NumsAt.keep (HN3.out x hm) hk7 hwr
  have b67 := Hb63.out.keep hk7 fun e => e.elim (fun e => HP3.out.ty_ne Hb63.out (by decide) e.symm) fun e => by
    obtain ⟨c, hc⟩ := own_ty HL3.out e
    exact Hb63.out.ty_ne hc (by decide) rfl
  have HkB := hid (HkA.out.mono (Y := fun k => k = p ∨ (Value.slice a4 ks.length c4).ownBlock = some k) (fun k _ h => .inl h) |>.trans hk7)
  have hw0' : Hid (W0.heap.size ≤ (w6.setCell ⟨p, 4, none⟩ (.slice a5 (ks.length + 1) c5)).heap.size) := hid (by have := hk7.size; have := hsz3.out; have := hw0.out; omega)
  have hlo5 : Hid (∀ k, (Value.slice a5 (ks.length + 1) c5).ownBlock = some k → n0 ≤ k) := hid fun k hk => by
    rcases hb3 k hk with h1 | h1
    · exact (World.ownsRow.lt HL3.out k h1).1
    · have := Hn0.out; have := hw0.out; have := hsz3.out; have := Hs0.out; omega
  have Ha5 : Hid (∀ k, (Value.slice a5 (ks.length + 1) c5).ownBlock = some k → True) := hid fun _ _ => trivial
  clear ho hb3 hk6 hP6 hne5 hk7 hwr HkA HP3 HL3 HN3 HI3 HB3 Hb63 Hb8' Ha5
  generalize w6.setCell ⟨p, 4, none⟩ (.slice a5 (ks.length + 1) c5) = W7 at *
  have d0 := hB7.av 0 rfl
  have d1 := hB7.av 1 rfl
  have d2 := hB7.av 2 rfl
  have d3 := hB7.av 3 rfl
  have d4 := hB7.av 4 rfl
  have HC7 := hid (copied_any (s.frame kind nums) a1 c1 W7 (hI7.ints Hhi.out) hl)
  simp only [Snd.frame, frv] at HC7
  have HI7 := hid hI7
  have HP7 := hid hP7
  have HL7 := hid hL7
  have HN7 := hid hN7
  clear hI7 hP7 hL7 hN7 hB7
  go_wp2_with fail
  refine HC7.out.mono ?_
  intro e w8 hx
  obtain ⟨v9, rfl, hx8, hI8⟩ := hx
  obtain ⟨a9, c9, rfl⟩ := hI8.form
  have b68 := b67.ext hx8
  have e0 := b68.av 0 rfl
  have e1 := b68.av 1 rfl
  have e2 := b68.av 2 rfl
  have e3 := b68.av 3 rfl
  have e4 := b68.av 4 rfl
  have f6 := b68.free
  have hB6 := hid (store5 (b0 := .int .u8 (kind.toNat : Int)) (b1 := .int .i64 s.fr) (b2 := .int .i64 s.to) (b3 := .int .i64 s.next) (b4 := .slice a9 nums.length c9) b68)
  have hk6 := hid (store5_keep w8 w.heap.size (.int .u8 (kind.toNat : Int)) (.int .i64 s.fr) (.int .i64 s.to) (.int .i64 s.next) (.slice a9 nums.length c9))
  have Hb68 := hid b68
  have Hx8 := hid hx8
  have HI8 := hid hI8
  have Hb67 := hid b67
  have Hpl := hid hpl
  clear d0 d1 d2 d3 d4 HC7 b67 b68 hx8 hI8 hpl
  generalize hN : w.heap.size = N at *
  have HN := hid hN
  clear hN
  simp only [FV.val]
  go_wp2
  have c0 := hB6.out.av 0 rfl
  have c1' := hB6.out.av 1 rfl
  have c2 := hB6.out.av 2 rfl
  have c3 := hB6.out.av 3 rfl
  have c4' := hB6.out.av 4 rfl
  have hkN := hid ((Hx8.out.keep fun b => b = N).trans hk6.out)
  have hI9 := hid (HI8.out.keep hk6.out fun b hb e => by
    obtain ⟨c, hc⟩ := own_ty (show w8.ownsRow W7.heap.size 3 1 _ nums.length (icells nums) from HI8.out) hb
    exact Hb68.out.ty_ne hc (by decide) e.symm)
  clear hk6 hB6 Hx8 HI8
  generalize (((((w8.setCell ⟨N, 0, none⟩ (.int .u8 (kind.toNat : Int))).setCell ⟨N, 1, none⟩ (.int .i64 s.fr)).setCell ⟨N, 2, none⟩ (.int .i64 s.to)).setCell ⟨N, 3, none⟩ (.int .i64 s.next)).setCell ⟨N, 4, none⟩ (.slice a9 nums.length c9)) = w9 at *
  refine bodyPost_ret (v := .tuple #[(FV.mk ⟨kind, s.fr, s.to, s.next, nums⟩ (.slice a9 nums.length c9)).val, .nilIface]) (by simp [results, Tryd.results11, go_sem, c0, c1', c2, c3, c4']; rfl) rfl ⟨_, .slice a5 (ks.length + 1) c5, ks ++ [(⟨s.frame kind nums, .slice a1 nums.length c1⟩, s.now)], rfl, ?_, ?_, ?_⟩
  · have hwr : Wr W7 n0 t fun b => b = N := Wr.blk Hb67.out (by decide) (by have := Hn0.out; have := HN.out; omega)
    refine ⟨HP7.out.keep hkN.out (by have := Hpl.out; omega), ?_, fun x hx => ?_, ?_, Hlo.out⟩
    · have h1 := row_keep (own_rebase HL7.out hlo5.out) hkN.out fun b hb e => by
        obtain ⟨c, hc⟩ := own_ty HL7.out hb
        exact Hb67.out.ty_ne hc (by decide) e.symm
      rw [HNC.out] at h1
      simpa using h1
    · rcases List.mem_append.1 hx with hx | hx
      · exact NumsAt.keep (HN7.out x hx) hkN.out hwr
      · obtain rfl := List.mem_singleton.1 hx
        refine NumsAt.keep (NumsAt.of_row HI7.out Hhi.out fun b hb e => ?_) hkN.out hwr
        have h1 := (HI7.out.lt hb).1
        have h2 := Ht.out b e
        have h3 := Hs0.out
        have h4 := HN.out
        omega
    · simp [Snd.sent, Heq.out]
  · refine hI9.out.base ?_
    have := hw0'.out
    have := Hs0.out
    have := HN.out
    omega
  · refine Keep.tr HkB.out hkN.out fun b hb => .inl ?_
    have := HN.out
    omega
end Go.Proofs.YtkabgmohgjljkaaDoor


/- Links: a tick. -/
namespace Go.Proofs.YtkabgmohgjljkaaDoor
set_option linter.unusedSimpArgs false
set_option linter.unusedVariables false
open Go Go.RowKit

theorem FV.At.ints {w : World} {n0 : Nat} {t : Option Nat} {x : FV} {a : Option Addr} {cap : Nat} (h : x.At w n0 t) (hv : x.v = .slice a x.f.nums.length cap) : Ints w a x.f.nums.length x.f.nums := by
  obtain ⟨a', c', e, hi, _⟩ := NumsAt.form h
  rw [hv] at e
  simp only [Value.slice.injEq, true_and] at e
  rw [e.1]
  exact hi
def stampK (s : Snd) (x : FV × Int) : FV × Int := if s.late (x.1.f, x.2) then (x.1, s.now + 1) else x
def lateK (s : Snd) (x : FV × Int) : Bool := s.late (x.1.f, x.2)
theorem Snd.tick_eq {s : Snd} {ks : List (FV × Int)} (h : s.l = ks.map fun x => (x.1.f, x.2)) : s.tick.l = (ks.map (stampK s)).map fun x => (x.1.f, x.2) := by
  simp only [Snd.tick, h, List.map_map]
  apply List.map_congr_left
  intro x _
  simp only [Function.comp, Snd.stamp, stampK]
  split <;> rfl
theorem Snd.again_eq {s : Snd} {ks : List (FV × Int)} (h : s.l = ks.map fun x => (x.1.f, x.2)) : s.again = (ks.filter (lateK s)).map fun x => x.1.f := by
  simp only [Snd.again, h, List.filter_map, List.map_map]
  rfl
/-- The row while it is gone through. -/
def midK (s : Snd) (ks : List (FV × Int)) (i : Nat) : List (FV × Int) := (ks.take i).map (stampK s) ++ ks.drop i
theorem midK_len (s : Snd) (ks : List (FV × Int)) (i : Nat) (hi : i ≤ ks.length) : (midK s ks i).length = ks.length := by simp [midK]; omega
theorem midK_get (s : Snd) (ks : List (FV × Int)) (i : Nat) (x : FV × Int) (hx : ks[i]? = some x) : (midK s ks i)[i]? = some x := by
  have hi : i < ks.length := by
    rcases Nat.lt_or_ge i ks.length with h | h
    · exact h
    · rw [List.getElem?_eq_none h] at hx; cases hx
  unfold midK
  rw [List.getElem?_append_right (by simp; omega), List.getElem?_drop]
  simp only [List.length_map, List.length_take, Nat.min_eq_left (Nat.le_of_lt hi), Nat.sub_self, Nat.add_zero]
  exact hx
theorem midK_no (s : Snd) (ks : List (FV × Int)) (i : Nat) (x : FV × Int) (hx : ks[i]? = some x) (h : lateK s x = false) : midK s ks (i + 1) = midK s ks i := by
  have hi : i < ks.length := by
    rcases Nat.lt_or_ge i ks.length with h | h
    · exact h
    · rw [List.getElem?_eq_none h] at hx; cases hx
  have hd : ks.drop i = x :: ks.drop (i + 1) := by
    rw [List.drop_eq_getElem_cons hi]
    rw [List.getElem?_eq_getElem hi] at hx
    rw [Option.some.inj hx]
  unfold midK
  rw [List.take_add_one, hx, hd]
  simp only [Option.toList, List.map_append, List.map_cons, List.map_nil, List.append_assoc, List.cons_append, List.nil_append]
  congr 2
  unfold stampK
  rw [if_neg]
  unfold lateK at h
  simp [h]
theorem midK_yes (s : Snd) (ks : List (FV × Int)) (i : Nat) (x : FV × Int) (hx : ks[i]? = some x) (h : lateK s x = true) : midK s ks (i + 1) = (midK s ks i).set i (x.1, s.now + 1) := by
  have hi : i < ks.length := by
    rcases Nat.lt_or_ge i ks.length with h | h
    · exact h
    · rw [List.getElem?_eq_none h] at hx; cases hx
  have hd : ks.drop i = x :: ks.drop (i + 1) := by
    rw [List.drop_eq_getElem_cons hi]
    rw [List.getElem?_eq_getElem hi] at hx
    rw [Option.some.inj hx]
  unfold midK
  rw [List.take_add_one, hx, hd, List.set_append_right _ _ (by simp; omega)]
  simp only [Option.toList, List.map_append, List.map_cons, List.map_nil, List.append_assoc, List.cons_append, List.nil_append, List.length_map, List.length_take, Nat.min_eq_left (Nat.le_of_lt hi), Nat.sub_self, List.set_cons_zero]
  congr 2
  unfold stampK
  rw [if_pos]
  unfold lateK at h
  exact h
theorem midK_mem {s : Snd} {ks : List (FV × Int)} {i : Nat} {y : FV × Int} (h : y ∈ midK s ks i) : ∃ x ∈ ks, y.1 = x.1 := by
  rcases List.mem_append.1 h with h | h
  · obtain ⟨x, hx, rfl⟩ := List.mem_map.1 h
    refine ⟨x, List.mem_of_mem_take hx, ?_⟩
    unfold stampK
    split <;> rfl
  · exact ⟨y, List.mem_of_mem_drop h, rfl⟩
theorem late_snoc (s : Snd) (ks : List (FV × Int)) (j : Nat) (x : FV × Int) (hx : ks[j]? = some x) : ((ks.take (j + 1)).filter (lateK s)).map (fun x => x.1.f) = ((ks.take j).filter (lateK s)).map (fun x => x.1.f) ++ if lateK s x = true then [x.1.f] else [] := by
  rw [List.take_add_one, hx, List.filter_append, List.map_append]
  simp only [Option.toList, List.filter_cons, List.filter_nil]
  split <;> rfl

set_option maxRecDepth 100000 in
set_option maxHeartbeats 3200000 in
theorem tick_any (s : Snd) (m : Nat) (ok : s.Ok m) (hm : m ≤ 1000000) (w : World) (n0 : Nat) (t : Option Nat) (p : Nat) (lv : Value) (ks : List (FV × Int)) (h : SndAt w n0 t p s lv ks) (hn0 : n0 ≤ w.heap.size) (ht : ∀ b, t = some b → b < w.heap.size) (hnl : ∀ x ∈ ks, x.1.f.nums.length ≤ 1000) :
    Calls Tryd.prog 18 #[.pointer (some ⟨p, 0, none⟩)] w fun e w' => ∃ ov outs ks', e = .returned ov ∧ SndAt w' n0 t p s.tick lv ks' ∧ FRow w' n0 t w.heap.size 48 ov outs ∧ outs.map FV.f = s.again ∧ Keep (fun b => b = p ∨ lv.ownBlock = some b) w w' := by
  have hnow := ok.now
  have hlen := ok.len
  have hat : ∀ x ∈ ks, 0 ≤ x.2 ∧ x.2 ≤ s.now := fun x hx => ok.at_ (x.1.f, x.2) (by rw [h.eq]; exact List.mem_map.2 ⟨x, hx, rfl⟩)
  have hkl : ks.length ≤ 200 := by have := h.len; omega
  have c3 := h.hp.av 3 rfl
  have c4 := h.hp.av 4 rfl
  have f0 := h.hp.free
  obtain ⟨al, cl, rfl⟩ := row_form h.hl
  have hpl := h.hp.lt
  have hk1 : Keep (fun b => b = p) w (w.setCell ⟨p, 3, none⟩ (.int .i64 (s.now + 1))) := Keep.set (X := fun b => b = p) (Keep.refl _ _) rfl _
  have hp1 := h.hp.set 3 (.int .i64 (s.now + 1))
  simp only [List.setIfInBounds_toArray, List.set_cons_zero, List.set_cons_succ] at hp1
  have hwr : Wr w n0 t fun b => b = p := Wr.blk h.hp (by decide) h.lo
  have hpn : ∀ b, (Value.slice al ks.length cl).ownBlock = some b → b ≠ p := fun b hb e => by
    obtain ⟨c, hc⟩ := own_ty h.hl hb
    exact h.hp.ty_ne hc (by decide) e.symm
  have hl1 := row_keep h.hl hk1 hpn
  have hn1 : ∀ x ∈ ks, x.1.At (w.setCell ⟨p, 3, none⟩ (.int .i64 (s.now + 1))) n0 t := fun x hx => NumsAt.keep (h.hn x hx) hk1 hwr
  have hsz : (w.setCell ⟨p, 3, none⟩ (.int .i64 (s.now + 1))).heap.size = w.heap.size := by simp [World.setCell]
  have Hk1 := hid hk1
  have Hp1 := hid hp1
  have Hl1 := hid hl1
  have Hn1 := hid hn1
  have Hsz := hid hsz
  have Hpn := hid hpn
  have Heq := hid h.eq
  have Hlo := hid h.lo
  have Hn0 := hid hn0
  have Ht := hid ht
  have Hat := hid hat
  have Hnl := hid hnl
  clear hk1 hp1 hwr hpn hl1 hn1 hsz h hn0 ht hat hnl ok
  go_enter Tryd.func18, Tryd.ntmps18
  go_wp2
  generalize w.setCell ⟨p, 3, none⟩ (.int .i64 (s.now + 1)) = W1 at *
  clear c3 c4 f0
  go_loopw [3, 18] (fun t3 t18 wr => ∃ (i : Nat) (outs : List FV), t18 = .int .i64 (i : Int) ∧ i ≤ ks.length ∧ wr.ownsRow n0 97 6 (.slice al ks.length cl) ks.length ((midK s ks i).flatMap kcells) ∧ FRow wr n0 t w.heap.size 48 t3 outs ∧ outs.map FV.f = ((ks.take i).filter (lateK s)).map (fun x => x.1.f) ∧ Keep (fun b => (Value.slice al ks.length cl).ownBlock = some b) W1 wr) (fun _ t18 _ => ks.length - (intOf t18).toNat)
  case atStart => exact ⟨0, [], rfl, Nat.zero_le _, by simpa [midK] using Hl1.out, FRow.nil _ _ _ _ _, rfl, Keep.refl _ _⟩
  case round =>
    obtain ⟨i, outs, rfl, hi, hrow, hF, hO, hk⟩ := hrel
    have HO := hid hO
    clear hO
    have hrowb := own_rebase (b2 := n0) hrow fun k hk => (World.ownsRow.lt hrow k hk).1
    have hpB := Hp1.out.keep hk fun e => Hpn.out _ e rfl
    by_cases hlt : i < ks.length
    · have hxk : ks[i]? = some (ks[i]'hlt) := List.getElem?_eq_getElem hlt
      obtain ⟨x, hxd⟩ : ∃ x, x = ks[i]'hlt := ⟨_, rfl⟩
      rw [← hxd] at hxk
      have hm := List.mem_of_getElem? hxk
      obtain ⟨gb, cp, he⟩ := own_some hrow (by omega)
      simp only [Value.slice.injEq, true_and] at he
      obtain ⟨rfl, rfl⟩ := he
      have hrx := midK_get s ks i x hxk
      obtain ⟨c0, c1, c2, c3, c4, c5⟩ := own_k hrow hrx
      have hAt : x.1.At wr n0 t := NumsAt.keep (Hn1.out x hm) hk (Wr.row Hl1.out (by decide))
      obtain ⟨av, cv, _, hv, hvi⟩ := hAt.form
      rw [hv] at c4
      have hB2 := Blk.new wr #[.int .u8 (x.1.f.kind.toNat : Int), .int .i64 x.1.f.fr, .int .i64 x.1.f.to, .int .i64 x.1.f.seq, .slice av x.1.f.nums.length cv, .int .i64 x.2] 97
      have hx2 := (Ext.refl wr).alloc (.cells #[.int .u8 (x.1.f.kind.toNat : Int), .int .i64 x.1.f.fr, .int .i64 x.1.f.to, .int .i64 x.1.f.seq, .slice av x.1.f.nums.length cv, .int .i64 x.2] 97)
      have hxa := Hat.out x hm
      have Hxl := hid (Hnl.out x hm)
      have HpB := hid hpB
      have Hrow := hid hrow
      have Hk := hid hk
      have HF := hid hF
      have HAt := hid hAt
      have Hv := hid hv
      have Hxk := hid hxk
      have Hrx := hid hrx
      have Hgb : Hid (gb < wr.heap.size) := hid (own_ne_lt hrow)
      obtain ⟨ao, co, rfl⟩ := hF.form
      clear hxd hm hrow hAt hv hvi hpB hk hF hxk hrx hrowb
      go_wp2
      have HB2 := hid hB2
      have Hx2 := hid hx2
      generalize wr.alloc (.cells #[.int .u8 (x.1.f.kind.toNat : Int), .int .i64 x.1.f.fr, .int .i64 x.1.f.to, .int .i64 x.1.f.seq, .slice av x.1.f.nums.length cv, .int .i64 x.2] 97) = W2 at *
      generalize hBN : wr.heap.size = BN at *
      have HBN := hid hBN
      clear c0 c1 c2 c3 c4 c5 hB2 hx2 hBN
      have g3 := (HpB.out.ext Hx2.out).kc (X := fun _ => False) (fun e => e) 3 rfl
      have g5 := HB2.out.kc (X := fun _ => False) (fun e => e) 5 rfl
      simp only [List.getElem_toArray, List.getElem_cons_zero, List.getElem_cons_succ] at g3 g5
      cases hl : lateK s x with
      | false =>
        have hne : (s.now + 1 - x.2 == 3) = false := by
          unfold lateK Snd.late at hl
          exact beq_eq_false_iff_ne.2 (of_decide_eq_false hl)
        have hne2 : (s.now + 1 - x.2 = 3) = False := by simpa using hne
        have Hl := hid hl
        clear hl
        refine wp_flowT (fun _ => False) (by kernel_rfl) (by kernel_rfl) ?_
        repeat (apply FlowT.d; (intro w1 hk; unfold does; go_simp; (try go_ints); (first | exact DetR.mk | (simp only [↓IntWalk.iteOmega, Oper.doesUpon_value]; exact DetR.mk) | (simp only [↓IntWalk.iteOmega]; go_simp; (try go_ints); exact DetR.mk))); simp only [Act.put, List.setIfInBounds_toArray, List.set_cons_zero, List.set_cons_succ])
        refine FlowT.fin fun w3 hx3 hk3 => ?_
        have Hx3 := hid (Hx2.out.trans hx3)
        clear hne hne2 g3 g5 hx3 hk3
        go_wp2
        go_roundw
        case rel => exact ⟨i + 1, outs, by go_num, by omega, by rw [midK_no s ks i x Hxk.out Hl.out]; exact row_keep Hrow.out (Hx3.out.keep fun _ => False) (fun _ _ h => h), HF.out.ext Hx3.out, by rw [late_snoc s ks i x Hxk.out, Hl.out, HO.out]; simp, Hk.out.ext_r Hx3.out⟩
        case measure => simp [intOf]; omega
      | true =>
        have hne : (s.now + 1 - x.2 == 3) = true := by
          unfold lateK Snd.late at hl
          exact beq_iff_eq.2 (of_decide_eq_true hl)
        have hne2 : s.now + 1 - x.2 = 3 := by simpa using hne
        have Hne2 := hid hne2
        have Hl := hid hl
        clear hl hne2
        refine wp_flowT (fun _ => False) (by kernel_rfl) (by kernel_rfl) ?_
        repeat (apply FlowT.d; (intro w1 hk; unfold does; go_simp; (try go_ints); (first | exact DetR.mk | (simp only [↓IntWalk.iteOmega, Oper.doesUpon_value]; exact DetR.mk) | (simp only [↓IntWalk.iteOmega]; go_simp; (try go_ints); exact DetR.mk))); simp only [Act.put, List.setIfInBounds_toArray, List.set_cons_zero, List.set_cons_succ])
        refine FlowT.fin fun w3 hx3 hk3 => ?_
        have hx3' := Hx2.out.trans hx3
        have hp3 := HpB.out.ext hx3'
        have hB3 := HB2.out.ext hx3
        have hr3 := row_keep Hrow.out (hx3'.keep fun _ => False) (fun _ _ h => h)
        have r3 := hp3.kc (X := fun _ => False) (fun e => e) 3 rfl
        have r4 := hp3.kc (X := fun _ => False) (fun e => e) 4 rfl
        simp only [List.getElem_toArray, List.getElem_cons_zero, List.getElem_cons_succ] at r3 r4
        have Hx3 := hid hx3'
        have HB3 := hid hB3
        have Hr3 := hid hr3
        clear hne g3 g5 hx3 hk3 hx3' hp3 hB3 hr3
        go_wp2
        refine wp_flowT (fun _ => False) (by kernel_rfl) (by kernel_rfl) ?_
        repeat (apply FlowT.d; (intro w1 hk; unfold does; go_simp; (try go_ints); (first | exact DetR.mk | (simp only [↓IntWalk.iteOmega, Oper.doesUpon_value]; exact DetR.mk) | (simp only [↓IntWalk.iteOmega]; go_simp; (try go_ints); exact DetR.mk))); simp only [Act.put, List.setIfInBounds_toArray, List.set_cons_zero, List.set_cons_succ])
        refine FlowT.last (fun _ w' => ∃ w1, Ext w3 w1 ∧ w' = w1.setCell ⟨gb, i * 6 + 5, none⟩ (.int .i64 (s.now + 1))) 11 rfl (by kernel_rfl) (by kernel_rfl) (fun w1 hC hk => ?_) (fun _ w4 hR => ?_)
        · have hr1 := row_keep Hr3.out (hC.keep fun _ => False) (fun _ _ h => h)
          have z1 := (own_k hr1 Hrx.out).2.2.2.2.2
          have f1 := own_free hr1
          unfold does
          go_simp
          exact ⟨w1, hC, rfl⟩
        obtain ⟨w1, hx1, rfl⟩ := hR
        simp only [Act.put]
        have hr1 := row_keep Hr3.out (hx1.keep fun _ => False) (fun _ _ h => h)
        have hr4 := own_set hr1 (i * 6 + 5) (by rw [fm_len kcells 6 kcells_len, midK_len s ks i hi]; omega) (.int .i64 (s.now + 1))
        rw [kset5 _ _ _ _ Hrx.out, ← midK_yes s ks i x Hxk.out Hl.out] at hr4
        have hks : Keep (fun b => b = gb) w1 (w1.setCell ⟨gb, i * 6 + 5, none⟩ (.int .i64 (s.now + 1))) := Keep.set (X := fun b => b = gb) (Keep.refl _ _) rfl _
        have hxw := Hx3.out.trans hx1
        have hB4 := (HB3.out.ext hx1).keep hks (by have := Hgb.out; have := HBN.out; omega)
        have hwr : Wr w1 n0 t fun b => b = gb := Wr.sub (Wr.row hr1 (by decide)) fun b e _ => by subst e; rfl
        have hF4 := (HF.out.ext hxw).keep hks hwr fun b hb e => by
          subst e
          obtain ⟨c, hc⟩ := own_ty (HF.out.ext hxw).row hb
          obtain ⟨c', hc'⟩ := own_ty hr1 (k := b) rfl
          exact hc.ty_ne hc' (by decide) rfl
        have hAt4 : x.1.At (w1.setCell ⟨gb, i * 6 + 5, none⟩ (.int .i64 (s.now + 1))) n0 t := NumsAt.keep (NumsAt.ext HAt.out hxw) hks hwr
        have hk4 := ((Hk.out.ext_r hxw).trans (hks.mono (Y := fun b => (Value.slice (some ⟨gb, 0, none⟩) ks.length cl).ownBlock = some b) fun b _ e => by rw [e]; rfl))
        have hs4 : Hid (w.heap.size ≤ (w1.setCell ⟨gb, i * 6 + 5, none⟩ (.int .i64 (s.now + 1))).heap.size) := hid (by have := hk4.size; have := Hsz.out; omega)
        have Hr4 := hid hr4
        have HF4 := hid hF4
        have HAt4 := hid hAt4
        have Hk4 := hid hk4
        clear hr1 hr4 hks hxw hwr hF4 hAt4 hk4 hx1 r3 r4
        generalize w1.setCell ⟨gb, i * 6 + 5, none⟩ (.int .i64 (s.now + 1)) = W4 at *
        have d0 := hB4.av 0 rfl
        have d1 := hB4.av 1 rfl
        have d2 := hB4.av 2 rfl
        have d3 := hB4.av 3 rfl
        have d4 := hB4.av 4 rfl
        clear hB4
        go_wp2_with fail
        refine (copied_any x.1.f av cv W4 (HAt4.out.ints Hv.out) Hxl.out).mono ?_
        intro e w5 hx
        obtain ⟨v5, rfl, hx5, hI5⟩ := hx
        obtain ⟨a5, c5, rfl⟩ := hI5.form
        have Hx5 := hid hx5
        have HI5 := hid hI5
        have hbs : w.heap.size ≤ (w5.alloc (.cells #[.int .u8 (x.1.f.kind.toNat : Int), .int .i64 x.1.f.fr, .int .i64 x.1.f.to, .int .i64 x.1.f.seq, .slice a5 x.1.f.nums.length c5] 48)).heap.size := by
          have := hs4.out
          have := hx5.size
          simp
          omega
        have Hbs := hid hbs
        have hol : outs.length ≤ 1000000 := by
          have h1 := congrArg List.length HO.out
          have h2 := List.length_filter_le (lateK s) (ks.take i)
          simp only [List.length_map] at h1
          rw [List.length_take] at h2
          omega
        have Hol := hid hol
        have hF5 := hid (HF4.out.ext (hx5.alloc (.cells #[.int .u8 (x.1.f.kind.toNat : Int), .int .i64 x.1.f.fr, .int .i64 x.1.f.to, .int .i64 x.1.f.seq, .slice a5 x.1.f.nums.length c5] 48)))
        clear d0 d1 d2 d3 d4 hx5 hI5 hbs hol
        simp only [FV.val]
        go_wp2_with (at_builtin; refine wpList_append_el w.heap.size Hbs.out 58 48 (.agg #[.int .u8 0, .int .i64 0, .int .i64 0, .int .i64 0, .slice none 0 0]) 5 56 Tryd.underlying58 frame_info rfl (by omega) (by omega) rfl _ _ rfl (.slice ao outs.length co) outs.length (outs.flatMap FV.cells) rfl hF5.out.row w5.heap.size (FV.cells ⟨x.1.f, .slice a5 x.1.f.nums.length c5⟩) rfl (by simp [FV.cells, Value.oneCell']) rfl (Blk.new _ _ _) Hol.out ?_; intro v6 w6 ho6 hk6 hl6; obtain ⟨a6, c6, rfl⟩ := row_form ho6)
        go_roundw
        case rel =>
          have hx6 := Hx5.out.alloc (.cells #[.int .u8 (x.1.f.kind.toNat : Int), .int .i64 x.1.f.fr, .int .i64 x.1.f.to, .int .i64 x.1.f.seq, .slice a5 x.1.f.nums.length c5] 48)
          have hwr6 : Wr (w5.alloc (.cells #[.int .u8 (x.1.f.kind.toNat : Int), .int .i64 x.1.f.fr, .int .i64 x.1.f.to, .int .i64 x.1.f.seq, .slice a5 x.1.f.nums.length c5] 48)) n0 t fun k => (Value.slice ao outs.length co).ownBlock = some k :=
            Wr.row (own_base hF5.out.row Hn0.out) (by decide)
          refine ⟨i + 1, outs ++ [⟨x.1.f, .slice a5 x.1.f.nums.length c5⟩], by go_num, by omega, ?_, ⟨?_, fun y hy => ?_⟩, ?_, ?_⟩
          · refine row_keep (row_keep Hr4.out (hx6.keep fun _ => False) (fun _ _ h => h)) hk6 fun b hb e => ?_
            obtain ⟨c, hc⟩ := own_ty hF5.out.row e
            obtain ⟨c', hc'⟩ := own_ty (row_keep Hr4.out (hx6.keep fun _ => False) (fun _ _ h => h)) hb
            exact hc.ty_ne hc' (by decide) rfl
          · simpa using ho6
          · rcases List.mem_append.1 hy with hy | hy
            · exact NumsAt.keep (hF5.out.nums y hy) hk6 hwr6
            · obtain rfl := List.mem_singleton.1 hy
              refine NumsAt.keep (NumsAt.ext (NumsAt.of_row HI5.out (NumsAt.hi HAt4.out) fun b hb e => ?_) ((Ext.refl w5).alloc _)) hk6 hwr6
              have h1 := (HI5.out.lt hb).1
              have h2 := Ht.out b e
              have h3 := hs4.out
              omega
          · rw [late_snoc s ks i x Hxk.out, Hl.out, List.map_append, HO.out]
            simp
          · refine Keep.tr (Hk4.out.ext_r hx6) hk6 fun b hb => .inl ?_
            have := (World.ownsRow.lt hF5.out.row b hb).1
            have := Hsz.out
            omega
        case measure => simp [intOf]; omega
    · obtain rfl : i = ks.length := by omega
      have hfin : SndAt wr n0 t p s.tick (.slice al ks.length cl) (ks.map (stampK s)) := by
        refine ⟨hpB, ?_, fun x hx => ?_, Snd.tick_eq Heq.out, Hlo.out⟩
        · have : midK s ks ks.length = ks.map (stampK s) := by simp [midK]
          rw [this] at hrow
          simpa using hrow
        · obtain ⟨y, hy, rfl⟩ := List.mem_map.1 hx
          have h1 := NumsAt.keep (Hn1.out y hy) hk (Wr.row Hl1.out (by decide))
          unfold stampK
          split <;> exact h1
      have Hfin := hid hfin
      have HF := hid hF
      have HO2 : Hid (outs.map FV.f = s.again) := hid (by rw [HO.out, List.take_length, Snd.again_eq Heq.out])
      have HK := hid ((Hk1.out.mono (Y := fun b => b = p ∨ (Value.slice al ks.length cl).ownBlock = some b) (fun b _ h => .inl h)).trans (hk.mono fun b _ h => .inr h))
      obtain ⟨ao, co, rfl⟩ := hF.form
      clear hfin hF hrow hrowb hpB hk hlt
      go_wp2
      go_ret
      exact ⟨_, outs, _, rfl, Hfin.out, HF.out, HO2.out, HK.out⟩
end Go.Proofs.YtkabgmohgjljkaaDoor
