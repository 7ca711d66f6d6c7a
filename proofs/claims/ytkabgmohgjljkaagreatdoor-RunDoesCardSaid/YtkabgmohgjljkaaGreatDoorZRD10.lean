/- Texts of one proof, put together: V2 W4 W7 W8. -/
import Derived.Test.YtkabgmohgjljkaaGreatDoorZRD07
import Derived.Test.YtkabgmohgjljkaaGreatDoorZRD08
import Derived.Test.YtkabgmohgjljkaaGreatDoorZRD09

/- Runs: run.Do: a script that is done. -/
namespace Go.Proofs.YtkabgmohgjljkaaGreatDoor
set_option linter.unusedSimpArgs false
set_option linter.unusedVariables false
open Go Go.RowKit

theorem Rn.run_snoc (P : PP) (l : List Nat) (k : Nat) : Rn.run P (l ++ [k]) = (Rn.run P l).step P k := by simp [Rn.run, List.foldl_append]
theorem Rn.Ok.step {P : PP} {s : Rn} (h : s.Ok P) (hw : P.allWell) (k : Nat) : (s.step P k).Ok P := by
  unfold Rn.step
  cases hx : P.stmts[k]? with
  | none => exact h
  | some x =>
    have hk : k < P.stmts.length := by
      rcases Nat.lt_or_ge k P.stmts.length with h | h
      · exact h
      · rw [List.getElem?_eq_none h] at hx; cases hx
    exact h.stmt k (PP.good (hw k x hk hx))
theorem Rn.Ok.foldl {P : PP} (hw : P.allWell) : ∀ (l : List Nat) {s : Rn}, s.Ok P → (l.foldl (Rn.step P) s).Ok P
  | [], _, h => h
  | k :: l, _, h => Rn.Ok.foldl hw l (h.step hw k)
theorem Rn.Ok.run {P : PP} (hw : P.allWell) (l : List Nat) : (Rn.run P l).Ok P := Rn.Ok.foldl hw l (Rn.Ok.begin P)
theorem Rn.step_len (P : PP) (s : Rn) (k : Nat) : (s.step P k).places.length ≤ s.places.length + 1 := by
  unfold Rn.step
  cases hx : P.stmts[k]? with
  | none => exact Nat.le_succ _
  | some x =>
    simp only [Rn.stmt_places]
    split <;> simp
theorem Rn.foldl_len (P : PP) : ∀ (l : List Nat) (s : Rn), (l.foldl (Rn.step P) s).places.length ≤ s.places.length + l.length
  | [], s => Nat.le_refl _
  | k :: l, s => by
    have h1 := Rn.foldl_len P l (s.step P k)
    have h2 := Rn.step_len P s k
    simp only [List.foldl_cons, List.length_cons]
    omega
theorem Rn.run_len {P : PP} (hw : P.allWell) (l : List Nat) : (Rn.run P l).things.length ≤ l.length := by
  rw [← (Rn.Ok.run hw l).lp]
  have := Rn.foldl_len P l (Rn.begin P)
  simpa [Rn.run, Rn.begin] using this

theorem ElR.lift {n0 n1 n : Nat} {v : Value} {E : Nat → Addr → Prop} (h : ElR n0 v n E) (hn : n0 ≤ n1) : ElR n1 v n E := h.mono hn fun _ _ _ _ h => h
theorem ProgR.lift {w : World} {n0 n1 : Nat} {v1 v2 v3 : Value} {P : PP} (h : ProgR w n0 v1 v2 v3 P) (hn : n0 ≤ n1) : ProgR w n1 v1 v2 v3 P :=
  ⟨ElR.lift h.vars hn, ElR.mono h.funs hn fun i y _ _ hE f hf => by
    obtain ⟨pv, h1, h2, h3, h4⟩ := hE f hf
    exact ⟨pv, h1, h2, h3, ElR.lift h4 hn⟩, ElR.mono h.stmts hn fun i y _ _ hE f hf => by
    obtain ⟨pv, h1, h2, h3, h4, h5⟩ := hE f hf
    exact ⟨pv, h1, h2, h3, h4, ElR.lift h5 hn⟩⟩
/-- The rows of a state. -/
structure RnRows (w : World) (n0 : Nat) (vv tv pv : Value) (s : Rn) : Prop where
  vars : w.ownsRow n0 50 2 vv s.vars.length (s.vars.flatMap Vl.cells)
  things : w.ownsRow n0 50 2 tv s.things.length (s.things.flatMap Vl.cells)
  places : w.ownsRow n0 3 1 pv s.places.length (icells s.pl)
theorem RnRows.ext {w w' : World} {n0 : Nat} {vv tv pv : Value} {s : Rn} (h : RnRows w n0 vv tv pv s) (x : Ext w w') : RnRows w' n0 vv tv pv s := ⟨own_ext h.vars x, own_ext h.things x, own_ext h.places x⟩
theorem fm_rep (k : Nat) : (List.replicate (k + 1) Vl.none).flatMap Vl.cells = (List.replicate k Vl.none).flatMap Vl.cells ++ Vl.cells .none := by
  rw [List.replicate_succ', List.flatMap_append]
  simp

theorem IntsR.at {w : World} {n0 : Nat} {a : Option Addr} {n cap : Nat} {l : List Int} (h : IntsR w n0 (.slice a n cap) l) {k : Nat} (hk : k < l.length) : ∃ y q, a = some y ∧ l[k]? = some q ∧ w.cell? (y.add k) = some (.int .i64 q) := by
  obtain ⟨a', cap', h1, h2, h3, h4, h5⟩ := h
  obtain ⟨rfl, rfl, rfl⟩ : a = a' ∧ n = l.length ∧ cap = cap' := by simpa using h1
  obtain ⟨y, rfl⟩ := h4 (by omega)
  have hx : l[k]? = some (l[k]'hk) := List.getElem?_eq_getElem hk
  exact ⟨y, _, rfl, hx, (h5 y rfl (by omega)).2 k hk _ hx⟩
theorem PP.funs_ok {P : PP} (h : P.err1 = 0) : P.funsErr = 0 := by
  unfold PP.err1 at h
  cases hb : P.big with
  | true => rw [hb] at h; simp at h
  | false =>
    rw [hb] at h
    simp only [cond_false] at h
    split at h
    · omega
    · split at h
      · omega
      · exact h
set_option maxRecDepth 100000 in
set_option maxHeartbeats 6400000 in
theorem rundo_ok (a1 a2 a3 : Option Addr) (c1 c2 c3 : Nat) (P : PP) (va : Value) (l : List Int) (w : World) (ad : Nat → Addr) (hE : ErrsP w ad) (hP : ProgR w w.heap.size (.slice a1 P.vars.length c1) (.slice a2 P.funs.length c2) (.slice a3 P.stmts.length c3) P) (hI : IntsR w w.heap.size va l)
    (hz1 : ∀ s ∈ P.vars, s.size ≤ 1000000) (hz2 : ∀ s ∈ P.names, s.size ≤ 1000000) (hr : P.Runs l) :
    Calls Tryz.prog 7 #[pval a1 a2 a3 c1 c2 c3 P, va] w fun e w' => Ext w w' ∧ ∃ vv tv pv, e = .returned (.tuple #[.agg #[vv, tv, pv], .nilIface]) ∧ RnRows w' w.heap.size vv tv pv (Rn.run P (l.map Int.toNat)) := by
  have HE := hid hE
  have HP := hid hP
  have hpl : (P.vars.length : Int) ≤ 9223372036854775807 := by
    obtain ⟨_, _, _, h2, h3, _⟩ := hP.vars
    omega
  have HI := hid hI
  have hll : (l.length : Int) ≤ 9223372036854775807 := by
    obtain ⟨_, _, _, h2, h3, _⟩ := hI
    omega
  obtain ⟨W1, hW1⟩ : ∃ W1, W1 = w.alloc (.cells (pcells a1 a2 a3 c1 c2 c3 P) 26) := ⟨_, rfl⟩
  have hx1 : Ext w W1 := by rw [hW1]; exact (Ext.refl _).alloc _
  obtain ⟨W2, hW2⟩ : ∃ W2, W2 = W1.alloc (.cells zcells 33) := ⟨_, rfl⟩
  have hx2 : Ext W1 W2 := by rw [hW2]; exact (Ext.refl _).alloc _
  have HW2 := hid (hx1.trans hx2)
  have HB1 : Hid (Blk W2 w.heap.size (pcells a1 a2 a3 c1 c2 c3 P) 26) := hid (by
    have : Blk W1 w.heap.size (pcells a1 a2 a3 c1 c2 c3 P) 26 := by rw [hW1]; exact Blk.new _ _ _
    exact this.ext hx2)
  have hs1 : W1.heap.size = w.heap.size + 1 := by rw [hW1, heap_size_alloc]
  have HB2 : Hid (Blk W2 (w.heap.size + 1) zcells 33) := hid (by
    rw [← hs1, hW2]; exact Blk.new _ _ _)
  have HC := hid (pcheck_any a1 a2 a3 c1 c2 c3 P W2 w.heap.size ad (hE.ext HW2.out) (hP.ext HW2.out) hz1 hz2 hpl)
  have HW2e : Hid (W2 = (w.alloc (.cells #[.slice a1 P.vars.length c1, .slice a2 P.funs.length c2, .slice a3 P.stmts.length c3] 26)).alloc (.cells #[.slice none 0 0, .slice none 0 0, .slice none 0 0] 33)) := hid (by rw [hW2, hW1]; rfl)
  obtain ⟨aa, ca, hva⟩ : ∃ aa ca, va = .slice aa l.length ca := by
    obtain ⟨aa, ca, h, _⟩ := hI
    exact ⟨aa, ca, h⟩
  subst hva
  unfold pval at HC ⊢
  clear hE hP hI hW1 hW2 hx1 hx2 hs1 hz1 hz2
  go_enter Tryz.func7, Tryz.ntmps7
  go_wp2_with fail
  rw [← HW2e.out]
  refine HC.out.mono ?_
  intro e w3 hx
  obtain ⟨v, rfl, hE3, hx3⟩ := hx
  have HB3 := hid (HB2.out.ext hx3)
  have HBp := hid (HB1.out.ext hx3)
  have HW3 := hid (HW2.out.trans hx3)
  have HE3 := hid hE3
  clear HC hE3 hx3
  obtain ⟨hr1, hr2, hr3, hr4⟩ := hr
  have hok : P.err1 = 0 ∧ P.allWell := ⟨hr1, hr2⟩
  have Hok := hid hok
  obtain rfl : v = .nilIface := by
    rcases HE3.out.form with ⟨h, _⟩ | ⟨_, h⟩
    · exact h
    · exact absurd hok h
  clear hok
  have hlen := hr3
  have HX := hid (indexfi_rd (.pointer (some ⟨w.heap.size, 0, none⟩)) P.badk (.slice aa l.length ca) l w3 w.heap.size (HI.out.old (HW3.out.old _)) (fun n w1 x => rundoc_any _ a1 a2 a3 c1 c2 c3 P n w1 (HBp.out.ext x)))
  have hl2 : ¬ 2000 < l.length := by omega
  go_wp2_with fail
  refine HX.out.mono ?_
  intro e w4 hx
  obtain ⟨r, rfl, hF, hx4⟩ := hx
  obtain rfl : r = -1 := by
    rcases hF with ⟨h, _⟩ | ⟨i, y, _, hi, hy, hb, _⟩
    · exact h
    · rw [hr4 y (List.mem_of_getElem? hy)] at hb; cases hb
  have HBad := hid hr4
  have HW4 := hid (HW3.out.trans hx4)
  have HB4 := hid (HB3.out.ext hx4)
  have HP4 := hid (HBp.out.ext hx4)
  have hvl : P.vars.length ≤ 40 := by
    have h := hr1
    unfold PP.err1 at h
    cases hb : P.big with
    | true => rw [hb] at h; simp at h
    | false => unfold PP.big at hb; simp at hb; omega
  obtain ⟨W9, hW9⟩ : ∃ W9, W9 = w4.alloc (.cells zcells 33) := ⟨_, rfl⟩
  have hx9 : Ext w4 W9 := by rw [hW9]; exact (Ext.refl _).alloc _
  have HR9 : Hid (RnAt W9 w4.heap.size w4.heap.size (.slice none 0 0) (.slice none 0 0) (.slice none 0 0) ⟨List.replicate 0 .none, [], []⟩) := hid
    ⟨by rw [hW9]; exact Blk.new _ _ _, Nat.le_refl _, World.ownsRow_nil _ _ _ _, World.ownsRow_nil _ _ _ _, World.ownsRow_nil _ _ _ _, fun b h => by cases h⟩
  have HW9 := hid (HW4.out.trans hx9)
  have HB9 := hid (HB4.out.ext hx9)
  have HP9 := hid (HP4.out.ext hx9)
  have p0 : (w4.alloc (.cells #[.slice none 0 0, .slice none 0 0, .slice none 0 0] 33)).cell? ⟨w.heap.size, 0, none⟩ = some (.slice a1 P.vars.length c1) := ((HP4.out.ext ((Ext.refl _).alloc _)).av 0 rfl)
  have HW9e : Hid (W9 = w4.alloc (.cells #[.slice none 0 0, .slice none 0 0, .slice none 0 0] 33)) := hid hW9
  have Hlt : Hid (w.heap.size + 1 < w4.heap.size) := hid HB4.out.lt
  have HNo : ∀ w1, Hid (Calls Tryz.prog 20 #[] w1 fun e w' => e = .returned (.agg #[.string ⟨#[110, 111, 110, 101]⟩, .int .i64 0]) ∧ Ext w1 w') := fun w1 => hid (runnone_any w1)
  clear hx4 HX hr1 hr2 hr3 hr4 hW9 hx9
  go_wp2
  rw [← HW9e.out]
  generalize hsb : w4.heap.size = sb at *
  clear p0 hsb HW9e
  go_loopw [37] (fun t37 wr => ∃ (k : Nat) (vv : Value), t37 = .int .i64 (k : Int) ∧ k ≤ P.vars.length ∧ RnAt wr sb sb vv (.slice none 0 0) (.slice none 0 0) ⟨List.replicate k .none, [], []⟩ ∧ Old sb W9 wr) (fun t37 _ => P.vars.length - (intOf t37).toNat)
  case atStart => exact ⟨0, _, rfl, Nat.zero_le _, HR9.out, Old.refl _ _⟩
  case round =>
    obtain ⟨k, vv, rfl, hk, hR, hO⟩ := hrel
    obtain ⟨av, cv, hvv⟩ := row_form hR.vars
    rw [List.length_replicate] at hvv
    subst hvv
    have HR := hid hR
    have HO := hid hO
    clear hR hO
    by_cases hlt : k < P.vars.length
    · have hsX : ¬ (Value.slice av k cv).ownBlock = some sb := fun e => HR.out.vb e rfl
      have d0 := HR.out.blk.kc (X := fun q => (Value.slice av k cv).ownBlock = some q) hsX 0 rfl
      simp only [List.getElem_toArray, List.getElem_cons_zero, List.getElem_cons_succ] at d0
      have Hsl : Hid (sb ≤ wr.heap.size) := hid (Nat.le_of_lt HR.out.blk.lt)
      have Hkl : Hid (k ≤ 1000000) := hid (by omega)
      have Hrow : Hid (wr.ownsRow sb 50 2 (.slice av k cv) k ((List.replicate k Vl.none).flatMap Vl.cells)) := hid (by have := HR.out.vars; simpa only [List.length_replicate] using this)
      clear hsX
      go_wp2
      refine wp_flowT (fun q => (Value.slice av k cv).ownBlock = some q) (by kernel_rfl) (by kernel_rfl) ?_
      repeat (apply FlowT.d; (intro w1 hk; unfold does; go_simp; (try go_ints); (first | exact DetR.mk | (simp only [↓IntWalk.iteOmega, Oper.doesUpon_value]; exact DetR.mk) | (simp only [↓IntWalk.iteOmega]; go_simp; (try go_ints); exact DetR.mk))); simp only [Act.put, List.setIfInBounds_toArray, List.set_cons_zero, List.set_cons_succ])
      apply FlowT.d
      · intro w1 hk
        unfold does
        go_simp
        exact CallR.det ((HNo w1).out)
      simp only [Act.put, List.setIfInBounds_toArray, List.set_cons_zero, List.set_cons_succ]
      refine FlowT.s (fun u w' => NoneOne u w' ∧ Ext wr w') 3 rfl (by kernel_rfl) (fun _ _ _ h y => ⟨h.1.ext y, h.2.trans y⟩) (fun w1 hC hk => ?_) ?_
      · unfold does
        go_simp
        exact ⟨hk.alloc _, NoneOne.mk _, hC.alloc _⟩
      rintro _ ⟨_, ⟨b, rfl, _⟩, _⟩
      simp only [Act.put, List.setIfInBounds_toArray, List.set_cons_zero, List.set_cons_succ]
      refine FlowT.s (fun u w' => (∃ a c, u = .slice a (k + 1) c) ∧ w'.ownsRow sb 50 2 u (k + 1) ((List.replicate (k + 1) Vl.none).flatMap Vl.cells) ∧ Keep (fun q => (Value.slice av k cv).ownBlock = some q) wr w') 4 rfl (by kernel_rfl) (fun _ _ _ h y => ⟨h.1, own_ext h.2.1 y, h.2.2.ext_r y⟩) (fun w1 hC hk => ?_) ?_
      · obtain ⟨⟨b', eb, hb⟩, hx1⟩ := hC
        obtain rfl : b = b' := by simpa using eb
        refine does_append_el sb (Nat.le_trans Hsl.out hx1.size) 31 50 (.agg #[.string ⟨#[]⟩, .int .i64 0]) 2 24 Tryz.underlying31 rval_info rfl (by omega) (by omega) rfl _ _ rfl (.slice av k cv) k ((List.replicate k Vl.none).flatMap Vl.cells) rfl (own_ext Hrow.out hx1) b (Vl.cells .none) rfl (by simp [Vl.cells, Value.oneCell']) rfl hb Hkl.out ?_
        intro v' w' ho hk' hl
        rw [← fm_rep] at ho
        have hk2 := hk.trans hk'
        exact ⟨hk2, row_form ho, ho, hk2⟩
      rintro _ ⟨_, ⟨a8, c8, rfl⟩, _, _⟩
      simp only [Act.put, List.setIfInBounds_toArray, List.set_cons_zero, List.set_cons_succ]
      repeat (apply FlowT.d; (intro w1 hk; unfold does; go_simp; (try go_ints); (first | exact DetR.mk | (simp only [↓IntWalk.iteOmega, Oper.doesUpon_value]; exact DetR.mk) | (simp only [↓IntWalk.iteOmega]; go_simp; (try go_ints); exact DetR.mk))); simp only [Act.put, List.setIfInBounds_toArray, List.set_cons_zero, List.set_cons_succ])
      refine FlowT.last (fun _ w' => RnAt w' sb sb (.slice a8 (k + 1) c8) (.slice none 0 0) (.slice none 0 0) ⟨List.replicate (k + 1) .none, [], []⟩ ∧ Old sb wr w') 6 rfl (by kernel_rfl) (by kernel_rfl) (fun w2 hC hk => ?_) (fun _ w4 hR4 => ?_)
      · obtain ⟨_, hrow, hk2⟩ := hC
        have hB := HR.out.blk.keep hk2 (fun e => HR.out.vb e rfl)
        have z0 := hB.av 0 rfl
        have f0 := hB.free 0
        have hB2 := hB.set 0 (.slice a8 (k + 1) c8)
        simp only [List.setIfInBounds_toArray, List.set_cons_zero] at hB2
        have hk3 : Keep (fun q => q = sb) w2 (w2.setCell ⟨sb, 0, none⟩ (.slice a8 (k + 1) c8)) := Keep.set (X := fun q => q = sb) (Keep.refl _ _) rfl _
        have hR2 : RnAt (w2.setCell ⟨sb, 0, none⟩ (.slice a8 (k + 1) c8)) sb sb (.slice a8 (k + 1) c8) (.slice none 0 0) (.slice none 0 0) ⟨List.replicate (k + 1) .none, [], []⟩ :=
          ⟨hB2, Nat.le_refl _, row_keep (by simpa only [List.length_replicate] using hrow) hk3 (fun i hi e => by
            subst e
            obtain ⟨c, hc⟩ := own_ty hrow hi
            exact Blk.ty_ne hc hB (by decide) rfl), World.ownsRow_nil _ _ _ _, World.ownsRow_nil _ _ _ _, fun b _ e => by cases e⟩
        have hO2 : Old sb wr (w2.setCell ⟨sb, 0, none⟩ (.slice a8 (k + 1) c8)) := (hk2.mono fun q _ e => (World.ownsRow.lt Hrow.out q e).1).trans (hk3.mono fun q _ e => by rw [e]; exact Nat.le_refl _)
        clear hk hk2 hB hB2 hk3 hrow
        unfold does
        go_simp
      obtain ⟨hR5, hO5⟩ := hR4
      simp only [Act.put]
      have HR5 := hid hR5
      have HO5 := hid (HO.out.trans hO5)
      clear hR5 hO5 d0
      go_wp2
      go_roundw
      case rel => exact ⟨k + 1, _, by go_num, by omega, HR5.out, HO5.out⟩
      case measure => simp [intOf]; omega
    · obtain rfl : k = P.vars.length := by omega
      have HR5 : Hid (RnAt wr sb sb (.slice av P.vars.length cv) (.slice none 0 0) (.slice none 0 0) (Rn.begin P)) := HR
      clear HR
      go_wp2
      rename World => w7
      go_loopw [48] (fun t48 wr => ∃ (k : Nat) (vv tv pv : Value), t48 = .int .i64 (k : Int) ∧ k ≤ l.length ∧ RnAt wr sb sb vv tv pv (Rn.run P ((l.map Int.toNat).take k)) ∧ Old sb W9 wr) (fun t48 _ => l.length - (intOf t48).toNat)
      case atStart => exact ⟨0, _, _, _, rfl, Nat.zero_le _, HR5.out, HO.out⟩
      case round =>
        obtain ⟨k, vv, tv, pv, rfl, hk, hR, hO⟩ := hrel
        have HR := hid hR
        have HO := hid hO
        clear hR hO
        have HPr : Hid (Blk wr w.heap.size (pcells a1 a2 a3 c1 c2 c3 P) 26) := hid (HP9.out.keep HO.out (fun e => by have := Hlt.out; omega))
        have HBr : Hid (Blk wr (w.heap.size + 1) zcells 33) := hid (HB9.out.keep HO.out (fun e => by have := Hlt.out; omega))
        have HWo : Hid (Old w.heap.size w wr) := hid ((HW9.out.old _).trans (HO.out.mono fun q _ e => by have := Hlt.out; omega))
        by_cases hlt : k < l.length
        · obtain ⟨ya, q, rfl, hqk, hc⟩ := (HI.out.old HWo.out).at hlt
          have hqb := HBad.out q (List.mem_of_getElem? hqk)
          have hqi : 0 ≤ q ∧ q < P.stmts.length := by
            unfold PP.badk at hqb
            simp at hqb
            omega
          obtain ⟨K, rfl⟩ := Int.eq_ofNat_of_zero_le hqi.1
          have hK : K < P.stmts.length := by omega
          have hxk : P.stmts[K]? = some (P.stmts[K]'hK) := List.getElem?_eq_getElem hK
          have HD := hid (stdo_any a1 a2 a3 c1 c2 c3 P K _ hxk (Hok.out.2 K _ hK hxk) (fun f hf => PP.goodF (PP.funs_ok Hok.out.1) hf) _ (Rn.Ok.run Hok.out.2 _) wr sb sb vv tv pv HR.out ((HP.out.old HWo.out).lift (Nat.le_of_lt (Nat.lt_of_le_of_lt (Nat.le_succ _) Hlt.out))) (Nat.le_of_lt HR.out.blk.lt) (by
            have h1 := Rn.run_len Hok.out.2 ((l.map Int.toNat).take k)
            rw [List.length_take, List.length_map] at h1
            omega))
          have Hnext : Hid (Rn.run P ((l.map Int.toNat).take (k + 1)) = (Rn.run P ((l.map Int.toNat).take k)).stmt P K (P.stmts[K]'hK)) := hid (by
            rw [List.take_add_one, List.getElem?_map, hqk]
            simp only [Option.map_some, Option.toList, Int.toNat_natCast]
            rw [Rn.run_snoc]
            unfold Rn.step
            rw [hxk])
          have p0 := HPr.out.av 0 rfl
          have p1 := HPr.out.av 1 rfl
          have p2 := HPr.out.av 2 rfl
          simp only [pcells, List.getElem_toArray, List.getElem_cons_zero, List.getElem_cons_succ] at p0 p1 p2
          unfold pval at HD
          clear hqk hqb hqi hxk
          go_wp2_with fail
          refine HD.out.mono ?_
          intro e w6 hx
          obtain ⟨rfl, ⟨v1, v2, v3, hR6⟩, hO6⟩ := hx
          have HR6 := hid hR6
          have HO6 := hid (HO.out.trans hO6)
          clear HD hR6 hO6 p0 p1 p2
          go_wp2
          go_roundw
          case rel => exact ⟨k + 1, v1, v2, v3, by go_num, by omega, by rw [Hnext.out]; exact HR6.out, HO6.out⟩
          case measure => simp [intOf]; omega
        · obtain rfl : k = l.length := by omega
          rw [List.take_of_length_le (by simp)] at HR
          obtain ⟨s, hs⟩ : ∃ s, s = Rn.run P (l.map Int.toNat) := ⟨_, rfl⟩
          rw [← hs] at HR
          have Hs := hid hs
          obtain ⟨b1, e1, rfl⟩ := row_form HR.out.vars
          obtain ⟨b2, e2, rfl⟩ := row_form HR.out.things
          obtain ⟨b3, e3, rfl⟩ := row_form HR.out.places
          have d0 := HR.out.blk.av 0 rfl
          have d1 := HR.out.blk.av 1 rfl
          have d2 := HR.out.blk.av 2 rfl
          have z0 := HBr.out.av 0 rfl
          have z1 := HBr.out.av 1 rfl
          have z2 := HBr.out.av 2 rfl
          have f0 := HBr.out.free 0
          have f1 := HBr.out.free 1
          have f2 := HBr.out.free 2
          simp only [zcells, List.getElem_toArray, List.getElem_cons_zero, List.getElem_cons_succ] at d0 d1 d2 z0 z1 z2
          have HBz := hid (store3 (v0 := .slice b1 s.vars.length e1) (v1 := .slice b2 s.things.length e2) (v2 := .slice b3 s.places.length e3) HBr.out)
          have HKz := hid (store3_keep wr (w.heap.size + 1) (.slice b1 s.vars.length e1) (.slice b2 s.things.length e2) (.slice b3 s.places.length e3))
          clear hs
          go_wp2
          have c0 := HBz.out.av 0 rfl
          have c1' := HBz.out.av 1 rfl
          have c2' := HBz.out.av 2 rfl
          have hX := Keep.new (Ext.refl w) (HWo.out.trans (HKz.out.mono fun b _ e => by omega)) fun b hb => hb
          have hw : w.heap.size ≤ sb := by have := Hlt.out; omega
          have hbx : ∀ i, sb ≤ i → ¬ i = w.heap.size + 1 := fun i h e => by have := Hlt.out; omega
          have hrows : RnRows _ w.heap.size (.slice b1 s.vars.length e1) (.slice b2 s.things.length e2) (.slice b3 s.places.length e3) s :=
            ⟨own_low (row_keep HR.out.vars HKz.out fun i hi => hbx i (World.ownsRow.lt HR.out.vars i hi).1) hw, own_low (row_keep HR.out.things HKz.out fun i hi => hbx i (World.ownsRow.lt HR.out.things i hi).1) hw, own_low (row_keep HR.out.places HKz.out fun i hi => hbx i (World.ownsRow.lt HR.out.places i hi).1) hw⟩
          generalize (((wr.setCell ⟨w.heap.size + 1, 0, none⟩ (.slice b1 s.vars.length e1)).setCell ⟨w.heap.size + 1, 1, none⟩ (.slice b2 s.things.length e2)).setCell ⟨w.heap.size + 1, 2, none⟩ (.slice b3 s.places.length e3)) = W10 at *
          exact bodyPost_ret (v := .tuple #[.agg #[.slice b1 s.vars.length e1, .slice b2 s.things.length e2, .slice b3 s.places.length e3], .nilIface]) (by simp [results, Tryz.results7, go_sem, c0, c1', c2']) rfl ⟨hX, _, _, _, rfl, by rw [← Hs.out]; exact hrows⟩
end Go.Proofs.YtkabgmohgjljkaaGreatDoor


/- The reference's fault of a program. -/
namespace Go.Proofs.YtkabgmohgjljkaaGreatDoor
set_option linter.unusedSimpArgs false
set_option linter.unusedVariables false
open Go Go.RowKit

/-- The reference's fault: a number, and where. -/
def FaultIs (P : PP) (c : Nat) (p : Int) : Prop :=
  (P.err1 ≠ 0 ∧ c = P.err1 ∧ p = -1) ∨ (P.err1 = 0 ∧ P.allWell ∧ c = 0 ∧ p = -1) ∨ (P.err1 = 0 ∧ ∃ i s, P.FirstBad i s ∧ c = P.stmtErr s ∧ p = (i : Int))
theorem two_keep (w : World) (g : Nat) (v0 v1 : Value) : Keep (fun b => b = g) w ((w.setCell ⟨g, 0, none⟩ v0).setCell ⟨g, 1, none⟩ v1) :=
  have k : ∀ (u : World) j v, Keep (fun b => b = g) w u → Keep (fun b => b = g) w (u.setCell ⟨g, j, none⟩ v) := fun _ _ v h => h.set rfl v
  k _ _ _ (k _ _ _ (Keep.refl _ w))
theorem two {w : World} {g : Nat} {x0 x1 v0 v1 : Value} {t : TypeId} (h : Blk w g #[x0, x1] t) : Blk ((w.setCell ⟨g, 0, none⟩ v0).setCell ⟨g, 1, none⟩ v1) g #[v0, v1] t := by
  have := (h.set 0 v0).set 1 v1
  simpa using this
set_option maxRecDepth 100000 in
theorem rbare_any (n : Int) (w : World) : Calls Tryz.prog 10 #[.int .i64 n] w fun e w' => e = .returned (.agg #[.int .i64 n, .int .i64 (-1)]) ∧ Ext w w' := by
  have hB := Blk.new w #[.int .i64 0, .int .i64 0] 40
  have c0 := (two (v0 := .int .i64 n) (v1 := .int .i64 (-1)) hB).av 0 rfl
  have c1 := (two (v0 := .int .i64 n) (v1 := .int .i64 (-1)) hB).av 1 rfl
  have z0 := hB.av 0 rfl
  have z1 := hB.av 1 rfl
  have f0 := hB.free 0
  have f1 := hB.free 1
  go_enter Tryz.func10, Tryz.ntmps10
  go_wp2
  refine bodyPost_ret (v := .agg #[.int .i64 n, .int .i64 (-1)]) ?_ rfl ?_
  · simp [results, Tryz.results10, go_sem, c0, c1]
  exact ⟨rfl, (Ext.refl w).alloc _⟩
set_option maxRecDepth 100000 in
theorem rfine_any (w : World) : Calls Tryz.prog 27 #[] w fun e w' => e = .returned (.agg #[.int .i64 0, .int .i64 (-1)]) ∧ Ext w w' := by
  have hB := Blk.new w #[.int .i64 0, .int .i64 0] 40
  have c0 := (two (v0 := .int .i64 0) (v1 := .int .i64 (-1)) hB).av 0 rfl
  have c1 := (two (v0 := .int .i64 0) (v1 := .int .i64 (-1)) hB).av 1 rfl
  have z0 := hB.av 0 rfl
  have z1 := hB.av 1 rfl
  have f0 := hB.free 0
  have f1 := hB.free 1
  go_enter Tryz.func27, Tryz.ntmps27
  go_wp2
  refine bodyPost_ret (v := .agg #[.int .i64 0, .int .i64 (-1)]) ?_ rfl ?_
  · simp [results, Tryz.results27, go_sem, c0, c1]
  exact ⟨rfl, (Ext.refl w).alloc _⟩

/-! What the lists' laws give. -/
theorem anyBad_of {l : List ByteArray} {k : Nat} {s : ByteArray} (h : l[k]? = some s) (hn : nameOk s = false) : anyBad l = true := List.any_eq_true.2 ⟨s, List.mem_of_getElem? h, by rw [hn]; rfl⟩
theorem anyBad_no {l : List ByteArray} (h : ∀ j s, j < l.length → l[j]? = some s → nameOk s = true) : anyBad l = false := List.any_eq_false.2 fun s hs => by
  obtain ⟨j, hj, e⟩ := List.mem_iff_getElem.1 hs
  rw [h j s hj (by rw [List.getElem?_eq_getElem hj, e])]
  decide
theorem dupS_of {l : List ByteArray} {i k : Nat} {s t : ByteArray} (hk : k < i) (h : l[i]? = some s) (h2 : l[k]? = some t) (he : eqB s t = true) : dupS l = true := by
  have hi : i < l.length := by
    rcases Nat.lt_or_ge i l.length with h' | h'
    · exact h'
    · rw [List.getElem?_eq_none h'] at h; cases h
  refine List.any_eq_true.2 ⟨i, List.mem_range.2 hi, List.any_eq_true.2 ⟨t, ?_, ?_⟩⟩
  · exact List.mem_of_getElem? (i := k) (by rw [List.getElem?_take, if_pos hk]; exact h2)
  · rw [List.getD_eq_getElem?_getD, h]; exact he
theorem dupS_no {l : List ByteArray} (h : ∀ (i k : Nat) (s t : ByteArray), i < l.length → k < i → l[i]? = some s → l[k]? = some t → eqB s t = false) : dupS l = false := by
  refine List.any_eq_false.2 fun i hi => ?_
  have hi' := List.mem_range.1 hi
  rw [Bool.not_eq_true]
  refine List.any_eq_false.2 fun t ht => ?_
  obtain ⟨k, hk, e⟩ := List.mem_iff_getElem.1 ht
  have hki : k < i := by rw [List.length_take] at hk; omega
  have e2 : l[k]? = some t := by
    have : (l.take i)[k]? = some t := by rw [List.getElem?_eq_getElem hk, e]
    rwa [List.getElem?_take, if_pos hki] at this
  have e1 : l[i]? = some (l.getD i ⟨#[]⟩) := by simp [List.getD_eq_getElem?_getD, hi']
  rw [h i k _ t hi' hki e1 e2]
  decide
end Go.Proofs.YtkabgmohgjljkaaGreatDoor


/- The reference's runs: load and store. -/
namespace Go.Proofs.YtkabgmohgjljkaaGreatDoor
set_option linter.unusedSimpArgs false
set_option linter.unusedVariables false
open Go Go.RowKit

/-- What a value is the address of, for the reference. -/
def rgv (s : Rn) : Vl → Value
  | .var n => .tuple #[.agg #[.string (s.vars.getD n .none).kind, .int .i64 ((s.vars.getD n .none).num : Int)], .bool true]
  | .thing n => .tuple #[.agg #[.string (s.things.getD n .none).kind, .int .i64 ((s.things.getD n .none).num : Int)], .bool true]
  | _ => .tuple #[.agg #[.string ⟨#[]⟩, .int .i64 0], .bool false]
set_option maxRecDepth 100000 in
set_option maxHeartbeats 3200000 in
theorem rget_any (v : Vl) (s : Rn) (nf : Nat) (w : World) (n0 sb : Nat) (vv tv pv : Value) (h : RfAt w n0 sb vv tv pv s) (hv : v.In s.vars.length s.things.length nf) :
    Calls Tryz.prog 29 #[.pointer (some ⟨sb, 0, none⟩), .agg #[.string v.kind, .int .i64 (v.num : Int)]] w fun e w' => e = .returned (rgv s v) ∧ Ext w w' := by
  have hlt := h.blk.lt
  cases v with
  | none =>
    simp only [Vl.kind, Vl.num, rgv]
    go_enter Tryz.func29, Tryz.ntmps29
    go_wp2
    refine bodyPost_ret (v := .tuple #[.agg #[.string ⟨#[]⟩, .int .i64 0], .bool false]) ?_ rfl ?_
    · simp [results, Tryz.results29, go_sem]
    exact ⟨rfl, ((Ext.refl w).alloc _).alloc _⟩
  | fn n =>
    simp only [Vl.kind, Vl.num, rgv]
    go_enter Tryz.func29, Tryz.ntmps29
    go_wp2
    refine bodyPost_ret (v := .tuple #[.agg #[.string ⟨#[]⟩, .int .i64 0], .bool false]) ?_ rfl ?_
    · simp [results, Tryz.results29, go_sem]
    exact ⟨rfl, ((Ext.refl w).alloc _).alloc _⟩
  | var n =>
    simp only [Vl.In] at hv
    simp only [rgv]
    obtain ⟨g, cap, hvv⟩ := own_some h.vars (by omega)
    obtain ⟨u, hu⟩ : ∃ u, u = s.vars.getD n .none := ⟨_, rfl⟩
    have HU := hid (at_some hv)
    rw [← hu] at HU ⊢
    rw [show (Vl.var n).kind = ⟨#[118, 97, 114]⟩ from rfl, show (Vl.var n).num = n from rfl]
    obtain ⟨W1, hW1⟩ : ∃ W1, W1 = (w.alloc (.cells #[.string ⟨#[118, 97, 114]⟩, .int .i64 (n : Int)] 52)).alloc (.cells #[.string ⟨#[]⟩, .int .i64 0] 52) := ⟨_, rfl⟩
    have hx1 : Ext w W1 := by rw [hW1]; exact ((Ext.refl _).alloc _).alloc _
    have hB1 : Blk W1 w.heap.size #[.string ⟨#[118, 97, 114]⟩, .int .i64 (n : Int)] 52 := by rw [hW1]; exact (Blk.new _ _ _).alloc _
    have hB2 : Blk W1 (w.heap.size + 1) #[.string ⟨#[]⟩, .int .i64 0] 52 := by
      rw [hW1]
      have := Blk.new (w.alloc (.cells #[.string ⟨#[118, 97, 114]⟩, .int .i64 (n : Int)] 52)) #[.string ⟨#[]⟩, .int .i64 0] 52
      rwa [heap_size_alloc] at this
    have HW1 := hid hW1
    have HX1 := hid hx1
    have HB1 := hid hB1
    have HB2 := hid hB2
    clear hW1 hx1 hB1 hB2
    have hgne : ¬ g = w.heap.size + 1 := fun e => by
      have := (World.ownsRow.lt h.vars g (by rw [hvv]; rfl)).2
      omega
    have hs1 : ¬ sb = w.heap.size + 1 := by omega
    have hs2 : ¬ w.heap.size = w.heap.size + 1 := by omega
    have d0 := (h.blk.ext HX1.out).kc (X := fun b => b = w.heap.size + 1) hs1 0 rfl
    have m1 := HB1.out.kc (X := fun b => b = w.heap.size + 1) hs2 1 rfl
    have hrow := own_ext h.vars HX1.out
    rw [hvv] at hrow d0
    obtain ⟨r0, r1⟩ := own_v hrow HU.out
    have u0 : ∀ w1, Keep (fun b => b = w.heap.size + 1) W1 w1 → w1.cell? ⟨g, n * 2, none⟩ = some (.string u.kind) := fun w1 k => k.cellx r0 hgne
    have u1 : ∀ w1, Keep (fun b => b = w.heap.size + 1) W1 w1 → w1.cell? ⟨g, n * 2 + 1, none⟩ = some (.int .i64 (u.num : Int)) := fun w1 k => k.cellx r1 hgne
    simp only [List.getElem_toArray, List.getElem_cons_zero, List.getElem_cons_succ] at d0 m1
    generalize s.vars.length = m at *
    clear h hvv hu hrow r0 r1 HU
    generalize u.kind = uk at *
    generalize u.num = un at *
    go_enter Tryz.func29, Tryz.ntmps29
    go_wp2
    rw [← HW1.out]
    refine wp_flowT (fun b => b = w.heap.size + 1) (by kernel_rfl) (by kernel_rfl) ?_
    repeat (apply FlowT.d; (intro w1 hk; unfold does; go_simp; (try go_ints); (first | exact DetR.mk | (simp only [↓IntWalk.iteOmega, Oper.doesUpon_value]; exact DetR.mk) | (simp only [↓IntWalk.iteOmega]; go_simp; (try go_ints); exact DetR.mk))); simp only [Act.put, List.setIfInBounds_toArray, List.set_cons_zero, List.set_cons_succ])
    refine FlowT.v undef (fun w' => Blk w' (w.heap.size + 1) #[.string uk, .int .i64 (un : Int)] 52 ∧ Keep (fun b => b = w.heap.size + 1) W1 w') 8 rfl (by kernel_rfl) (fun w1 w2 h x => ⟨h.1.ext x, h.2.ext_r x⟩) (fun wa hx hk => ?_) ?_
    · have hB := HB2.out.ext hx
      have z0 := hB.av 0 rfl
      have z1 := hB.av 1 rfl
      have f0 := hB.free 0
      have f1 := hB.free 1
      have hB3 := two (v0 := .string uk) (v1 := .int .i64 (un : Int)) hB
      have hk3 := hk.trans (two_keep wa (w.heap.size + 1) (.string uk) (.int .i64 (un : Int)))
      clear hk
      unfold does
      go_simp
      exact ⟨hk3, rfl, hB3, hk3⟩
    repeat (apply FlowT.d; (intro w1 hk; unfold does; go_simp; (try go_ints); (first | exact DetR.mk | (simp only [↓IntWalk.iteOmega, Oper.doesUpon_value]; exact DetR.mk) | (simp only [↓IntWalk.iteOmega]; go_simp; (try go_ints); exact DetR.mk))); simp only [Act.put, List.setIfInBounds_toArray, List.set_cons_zero, List.set_cons_succ])
    refine FlowT.fin fun wb hC hk => ?_
    obtain ⟨hB, hK⟩ := hC
    have c0 := hB.av 0 rfl
    have c1 := hB.av 1 rfl
    have hE := hid (Keep.new HX1.out hK (fun n hn => by omega))
    clear hk hK hB
    go_wp2
    refine bodyPost_ret (v := .tuple #[.agg #[.string uk, .int .i64 (un : Int)], .bool true]) ?_ rfl ?_
    · simp [results, Tryz.results29, go_sem, c0, c1]
    exact ⟨rfl, hE.out⟩
  | thing n =>
    simp only [Vl.In] at hv
    simp only [rgv]
    obtain ⟨g, cap, hvv⟩ := own_some h.things (by omega)
    obtain ⟨u, hu⟩ : ∃ u, u = s.things.getD n .none := ⟨_, rfl⟩
    have HU := hid (at_some hv)
    rw [← hu] at HU ⊢
    rw [show (Vl.thing n).kind = ⟨#[116, 104, 105, 110, 103]⟩ from rfl, show (Vl.thing n).num = n from rfl]
    obtain ⟨W1, hW1⟩ : ∃ W1, W1 = (w.alloc (.cells #[.string ⟨#[116, 104, 105, 110, 103]⟩, .int .i64 (n : Int)] 52)).alloc (.cells #[.string ⟨#[]⟩, .int .i64 0] 52) := ⟨_, rfl⟩
    have hx1 : Ext w W1 := by rw [hW1]; exact ((Ext.refl _).alloc _).alloc _
    have hB1 : Blk W1 w.heap.size #[.string ⟨#[116, 104, 105, 110, 103]⟩, .int .i64 (n : Int)] 52 := by rw [hW1]; exact (Blk.new _ _ _).alloc _
    have hB2 : Blk W1 (w.heap.size + 1) #[.string ⟨#[]⟩, .int .i64 0] 52 := by
      rw [hW1]
      have := Blk.new (w.alloc (.cells #[.string ⟨#[116, 104, 105, 110, 103]⟩, .int .i64 (n : Int)] 52)) #[.string ⟨#[]⟩, .int .i64 0] 52
      rwa [heap_size_alloc] at this
    have HW1 := hid hW1
    have HX1 := hid hx1
    have HB1 := hid hB1
    have HB2 := hid hB2
    clear hW1 hx1 hB1 hB2
    have hgne : ¬ g = w.heap.size + 1 := fun e => by
      have := (World.ownsRow.lt h.things g (by rw [hvv]; rfl)).2
      omega
    have hs1 : ¬ sb = w.heap.size + 1 := by omega
    have hs2 : ¬ w.heap.size = w.heap.size + 1 := by omega
    have d0 := (h.blk.ext HX1.out).kc (X := fun b => b = w.heap.size + 1) hs1 1 rfl
    have m1 := HB1.out.kc (X := fun b => b = w.heap.size + 1) hs2 1 rfl
    have hrow := own_ext h.things HX1.out
    rw [hvv] at hrow d0
    obtain ⟨r0, r1⟩ := own_v hrow HU.out
    have u0 : ∀ w1, Keep (fun b => b = w.heap.size + 1) W1 w1 → w1.cell? ⟨g, n * 2, none⟩ = some (.string u.kind) := fun w1 k => k.cellx r0 hgne
    have u1 : ∀ w1, Keep (fun b => b = w.heap.size + 1) W1 w1 → w1.cell? ⟨g, n * 2 + 1, none⟩ = some (.int .i64 (u.num : Int)) := fun w1 k => k.cellx r1 hgne
    simp only [List.getElem_toArray, List.getElem_cons_zero, List.getElem_cons_succ] at d0 m1
    generalize s.things.length = m at *
    clear h hvv hu hrow r0 r1 HU
    generalize u.kind = uk at *
    generalize u.num = un at *
    go_enter Tryz.func29, Tryz.ntmps29
    go_wp2
    rw [← HW1.out]
    refine wp_flowT (fun b => b = w.heap.size + 1) (by kernel_rfl) (by kernel_rfl) ?_
    repeat (apply FlowT.d; (intro w1 hk; unfold does; go_simp; (try go_ints); (first | exact DetR.mk | (simp only [↓IntWalk.iteOmega, Oper.doesUpon_value]; exact DetR.mk) | (simp only [↓IntWalk.iteOmega]; go_simp; (try go_ints); exact DetR.mk))); simp only [Act.put, List.setIfInBounds_toArray, List.set_cons_zero, List.set_cons_succ])
    refine FlowT.v undef (fun w' => Blk w' (w.heap.size + 1) #[.string uk, .int .i64 (un : Int)] 52 ∧ Keep (fun b => b = w.heap.size + 1) W1 w') 8 rfl (by kernel_rfl) (fun w1 w2 h x => ⟨h.1.ext x, h.2.ext_r x⟩) (fun wa hx hk => ?_) ?_
    · have hB := HB2.out.ext hx
      have z0 := hB.av 0 rfl
      have z1 := hB.av 1 rfl
      have f0 := hB.free 0
      have f1 := hB.free 1
      have hB3 := two (v0 := .string uk) (v1 := .int .i64 (un : Int)) hB
      have hk3 := hk.trans (two_keep wa (w.heap.size + 1) (.string uk) (.int .i64 (un : Int)))
      clear hk
      unfold does
      go_simp
      exact ⟨hk3, rfl, hB3, hk3⟩
    repeat (apply FlowT.d; (intro w1 hk; unfold does; go_simp; (try go_ints); (first | exact DetR.mk | (simp only [↓IntWalk.iteOmega, Oper.doesUpon_value]; exact DetR.mk) | (simp only [↓IntWalk.iteOmega]; go_simp; (try go_ints); exact DetR.mk))); simp only [Act.put, List.setIfInBounds_toArray, List.set_cons_zero, List.set_cons_succ])
    refine FlowT.fin fun wb hC hk => ?_
    obtain ⟨hB, hK⟩ := hC
    have c0 := hB.av 0 rfl
    have c1 := hB.av 1 rfl
    have hE := hid (Keep.new HX1.out hK (fun n hn => by omega))
    clear hk hK hB
    go_wp2
    refine bodyPost_ret (v := .tuple #[.agg #[.string uk, .int .i64 (un : Int)], .bool true]) ?_ rfl ?_
    · simp [results, Tryz.results29, go_sem, c0, c1]
    exact ⟨rfl, hE.out⟩
end Go.Proofs.YtkabgmohgjljkaaGreatDoor


/- The reference's runs: load and store. -/
namespace Go.Proofs.YtkabgmohgjljkaaGreatDoor
set_option linter.unusedSimpArgs false
set_option linter.unusedVariables false
open Go Go.RowKit

set_option maxRecDepth 100000 in
set_option maxHeartbeats 12800000 in
theorem rstdo_load (a1 a2 a3 : Option Addr) (c1 c2 c3 : Nat) (P : PP) (k : Nat) (x : PS) (hxk : P.stmts[k]? = some x) (hg : P.Good x) (hkx : x.isK kLoad = true)  (s : Rn) (hs : s.Ok P) (w : World) (n0 sb : Nat) (vv tv pv : Value) (hR : RfAt w n0 sb vv tv pv s) (hP : ProgR w n0 (.slice a1 P.vars.length c1) (.slice a2 P.funs.length c2) (.slice a3 P.stmts.length c3) P) (hn0 : n0 ≤ w.heap.size) (hsm : s.things.length ≤ 100000) :
    Calls Tryz.prog 13 #[.pointer (some ⟨sb, 0, none⟩), pval a1 a2 a3 c1 c2 c3 P, .int .i64 (k : Int)] w fun e w' => e = .returned (.tuple #[]) ∧ (∃ vv' tv' pv', RfAt w' n0 sb vv' tv' pv' (s.stmt P k x)) ∧ Old n0 w w' := by
  have hk : k < P.stmts.length := by
    rcases Nat.lt_or_ge k P.stmts.length with h | h
    · exact h
    · rw [List.getElem?_eq_none h] at hxk; cases hxk
  have hml := hP.stmts.len
  obtain ⟨W1, hW1⟩ : ∃ W1, W1 = w.alloc (.cells (pcells a1 a2 a3 c1 c2 c3 P) 26) := ⟨_, rfl⟩
  have hx1 : Ext w W1 := by rw [hW1]; exact (Ext.refl _).alloc _
  obtain ⟨y, x', av, cv, rfl, hxk', e0, e1, e2, e3, hI⟩ := (hP.ext hx1).stmts.at hk
  obtain rfl := Option.some.inj (hxk.symm.trans hxk')
  obtain ⟨W2, hW2⟩ : ∃ W2, W2 = W1.alloc (.cells (scells x av cv) 58) := ⟨_, rfl⟩
  have hx2 : Ext W1 W2 := by rw [hW2]; exact (Ext.refl _).alloc _
  have HW2 := hid (hx1.trans hx2)
  have HB1 : Hid (Blk W2 w.heap.size (pcells a1 a2 (some y) c1 c2 c3 P) 26) := hid (by
    have : Blk W1 w.heap.size (pcells a1 a2 (some y) c1 c2 c3 P) 26 := by rw [hW1]; exact Blk.new _ _ _
    exact this.ext hx2)
  have hs1 : W1.heap.size = w.heap.size + 1 := by rw [hW1, heap_size_alloc]
  have HB2 : Hid (Blk W2 (w.heap.size + 1) (scells x av cv) 58) := hid (by
    rw [← hs1, hW2]; exact Blk.new _ _ _)
  have HR2 := hid (hR.ext HW2.out)
  have HP2 := hid (hP.ext HW2.out)
  have HI := hid (hI.old (hx2.old n0))
  have Hs := hid hs
  have Hg := hid hg
  have Hn0 := hid hn0
  have hgx := hg.gx
  rw [hW1] at e0 e1 e2 e3
  have HW2e : Hid (W2 = (w.alloc (.cells #[.slice a1 P.vars.length c1, .slice a2 P.funs.length c2, .slice (some y) P.stmts.length c3] 26)).alloc (.cells #[.string x.kind, .int .i64 x.x, .int .i64 x.y, .slice av x.args.length cv] 58)) := hid (by rw [hW2, hW1]; rfl)
  unfold pcells at e0 e1 e2 e3
  obtain ⟨X, hX⟩ := Int.eq_ofNat_of_zero_le hgx.1
  have HX : Hid (X < s.vars.length) := hid (by rw [hs.lv]; omega)
  have HXe := hid hX
  have hXl := HX.out
  obtain ⟨g, cap, hvv⟩ := own_some hR.vars (by have := HX.out; omega)
  subst hvv
  have hnv : s.vars.length = P.vars.length := hs.lv
  have d0 := HR2.out.blk.kc (X := fun _ => False) (fun e => e) 0 rfl
  have d1 := HR2.out.blk.kc (X := fun _ => False) (fun e => e) 1 rfl
  have d2 := HR2.out.blk.kc (X := fun _ => False) (fun e => e) 2 rfl
  have m1 := HB2.out.kc (X := fun _ => False) (fun e => e) 1 rfl
  have m2 := HB2.out.kc (X := fun _ => False) (fun e => e) 2 rfl
  have m3 := HB2.out.kc (X := fun _ => False) (fun e => e) 3 rfl
  simp only [scells, List.getElem_toArray, List.getElem_cons_zero, List.getElem_cons_succ] at d0 d1 d2 m1 m2 m3
  rw [hX] at m1
  have hsbl := hR.blk.lt
  have Hkx := hid hkx
  have hkk := hkx
  unfold PS.isK kLoad at hkk
  clear hxk hxk' hW1 hW2 hx1 hx2 hs1 hR hP hI hs hg hX hgx hkx hn0
  unfold pval
  have hf : x.isK kFun = false := isK_ne Hkx.out rfl
  have hn : x.isK kNew = false := isK_ne Hkx.out rfl
  have h1 : (x.kind.toList == [97, 100, 100, 114]) = false := isK_ne Hkx.out (k' := kAddr) rfl
  have h2 : (x.kind.toList == [99, 111, 112, 121]) = false := isK_ne Hkx.out (k' := kCopy) rfl
  have hyv := Hg.out.yv hf hn
  obtain ⟨Y, hY⟩ := Int.eq_ofNat_of_zero_le hyv.1
  have HYl : Hid (Y < s.vars.length) := hid (by rw [hnv]; omega)
  have HY := hid hY
  rw [hY] at m2
  obtain ⟨v, hv⟩ : ∃ v, v = s.vars.getD Y .none := ⟨_, rfl⟩
  have HVy := hid (at_some HYl.out)
  rw [← hv] at HVy
  have HVat : Hid (s.at x.y = v) := hid (by unfold Rn.at; rw [hY, hv]; rfl)
  clear hY hyv hv
  have v0 : ∀ w1, Keep (fun _ => False) W2 w1 → w1.cell? ⟨g, Y * 2, none⟩ = some (.string v.kind) := fun w1 k => (own_v (HR2.out.ext k.ext).vars HVy.out).1
  have v1 : ∀ w1, Keep (fun _ => False) W2 w1 → w1.cell? ⟨g, Y * 2 + 1, none⟩ = some (.int .i64 (v.num : Int)) := fun w1 k => (own_v (HR2.out.ext k.ext).vars HVy.out).2
  have hYl := HYl.out
  clear hf hn
  have HIn : Hid (v.In s.vars.length s.things.length P.funs.length) := hid (by rw [hnv, ← HVat.out]; exact Hs.out.at _)
  have HC := fun w1 (k : Keep (fun _ => False) W2 w1) => hid (rget_any v s P.funs.length w1 n0 sb _ _ _ (HR2.out.ext k.ext) HIn.out)
  cases v with
  | none =>
    simp only [Vl.kind, Vl.num, rgv] at v0 v1 HC
    go_enter Tryz.func13, Tryz.ntmps13
    go_wp2
    rw [← HW2e.out]
    refine wp_flowT (fun _ => False) (by kernel_rfl) (by kernel_rfl) ?_
    repeat (apply FlowT.d; (intro w1 hk; unfold does; go_simp; (try go_ints); (first | exact DetR.mk | (simp only [↓IntWalk.iteOmega, Oper.doesUpon_value]; exact DetR.mk) | (simp only [↓IntWalk.iteOmega]; go_simp; (try go_ints); exact DetR.mk))); simp only [Act.put, List.setIfInBounds_toArray, List.set_cons_zero, List.set_cons_succ])
    apply FlowT.d
    · intro w1 hk
      unfold does
      go_simp
      exact CallR.det ((HC w1 hk).out)
    simp only [Act.put, List.setIfInBounds_toArray, List.set_cons_zero, List.set_cons_succ]
    repeat (apply FlowT.d; (intro w1 hk; unfold does; go_simp; (try go_ints); (first | exact DetR.mk | (simp only [↓IntWalk.iteOmega, Oper.doesUpon_value]; exact DetR.mk) | (simp only [↓IntWalk.iteOmega]; go_simp; (try go_ints); exact DetR.mk))); simp only [Act.put, List.setIfInBounds_toArray, List.set_cons_zero, List.set_cons_succ])
    refine FlowT.s (fun t w' => ∃ b, t = .pointer (some ⟨b, 0, none⟩) ∧ Blk w' b #[.string ⟨#[]⟩, .int .i64 0] 52 ∧ Ext W2 w' ∧ W2.heap.size ≤ b) 13 rfl (by kernel_rfl) (fun _ _ _ ⟨b, e, h1, h2, h3⟩ y => ⟨b, e, h1.ext y, h2.trans y, h3⟩) (fun w1 hC hk => ?_) (fun _ ⟨_, hb⟩ => ?_)
    · unfold does
      go_simp
      exact ⟨hk.alloc _, _, rfl, Blk.new _ _ _, hC.alloc _, hC.size⟩
    obtain ⟨b, rfl, _, _, hbs⟩ := hb
    simp only [Act.put, List.setIfInBounds_toArray, List.set_cons_zero, List.set_cons_succ]
    have Hbs := hid hbs
    clear hbs
    refine FlowT.v undef (fun w' => Blk w' b #[.string (⟨#[]⟩ : ByteArray), .int .i64 0] 52 ∧ Ext W2 w') 14 rfl (by kernel_rfl) (fun _ _ h y => ⟨h.1.ext y, h.2.trans y⟩) (fun w1 hC hk => ?_) ?_
    · obtain ⟨b', eb, hB, hx, _⟩ := hC
      obtain rfl : b = b' := by simpa using eb
      have z0 := hB.av 0 rfl
      have z1 := hB.av 1 rfl
      have f0 := hB.free 0
      have f1 := hB.free 1
      have hB3 := two (v0 := .string (⟨#[]⟩ : ByteArray)) (v1 := .int .i64 0) hB
      have hx3 := Keep.new hx (two_keep w1 b (.string (⟨#[]⟩ : ByteArray)) (.int .i64 0)) fun q e => by subst e; exact Hbs.out
      clear hk eb
      unfold does
      go_simp
      exact ⟨hx3.keep _, rfl, hB3, hx3⟩
    repeat (apply FlowT.d; (intro w1 hk; unfold does; go_simp; (try go_ints); (first | exact DetR.mk | (simp only [↓IntWalk.iteOmega, Oper.doesUpon_value]; exact DetR.mk) | (simp only [↓IntWalk.iteOmega]; go_simp; (try go_ints); exact DetR.mk))); simp only [Act.put, List.setIfInBounds_toArray, List.set_cons_zero, List.set_cons_succ])
    refine FlowT.fin fun w3 hC hk3 => ?_
    obtain ⟨hB3, hx3⟩ := hC
    have HR3 := hid (HR2.out.ext hx3)
    have HW3 := hid (HW2.out.trans hx3)
    have b0 := hB3.kc (X := fun _ => False) (fun e => e) 0 rfl
    have b1 := hB3.kc (X := fun _ => False) (fun e => e) 1 rfl
    simp only [List.getElem_toArray, List.getElem_cons_zero, List.getElem_cons_succ] at b0 b1
    replace d0 := fun w1 (k : Keep (fun _ => False) w3 w1) => d0 w1 ((hx3.keep _).trans k)
    replace m1 := fun w1 (k : Keep (fun _ => False) w3 w1) => m1 w1 ((hx3.keep _).trans k)
    replace m2 := fun w1 (k : Keep (fun _ => False) w3 w1) => m2 w1 ((hx3.keep _).trans k)
    clear HC hk3 hB3 hx3 v0 v1
    have HS : Hid (s.stmt P k x = s) := hid (by
      unfold Rn.stmt; rw [isK_ne Hkx.out (k' := kAddr) rfl, isK_ne Hkx.out (k' := kCopy) rfl, Hkx.out]; simp only [cond_true, cond_false, HVat.out, Vl.isAddr]
      )
    go_wp2
    go_end0
    exact ⟨rfl, ⟨_, _, _, by rw [HS.out]; exact HR3.out⟩, HW3.out.old n0⟩
  | fn n =>
    simp only [Vl.kind, Vl.num, rgv] at v0 v1 HC
    go_enter Tryz.func13, Tryz.ntmps13
    go_wp2
    rw [← HW2e.out]
    refine wp_flowT (fun _ => False) (by kernel_rfl) (by kernel_rfl) ?_
    repeat (apply FlowT.d; (intro w1 hk; unfold does; go_simp; (try go_ints); (first | exact DetR.mk | (simp only [↓IntWalk.iteOmega, Oper.doesUpon_value]; exact DetR.mk) | (simp only [↓IntWalk.iteOmega]; go_simp; (try go_ints); exact DetR.mk))); simp only [Act.put, List.setIfInBounds_toArray, List.set_cons_zero, List.set_cons_succ])
    apply FlowT.d
    · intro w1 hk
      unfold does
      go_simp
      exact CallR.det ((HC w1 hk).out)
    simp only [Act.put, List.setIfInBounds_toArray, List.set_cons_zero, List.set_cons_succ]
    repeat (apply FlowT.d; (intro w1 hk; unfold does; go_simp; (try go_ints); (first | exact DetR.mk | (simp only [↓IntWalk.iteOmega, Oper.doesUpon_value]; exact DetR.mk) | (simp only [↓IntWalk.iteOmega]; go_simp; (try go_ints); exact DetR.mk))); simp only [Act.put, List.setIfInBounds_toArray, List.set_cons_zero, List.set_cons_succ])
    refine FlowT.s (fun t w' => ∃ b, t = .pointer (some ⟨b, 0, none⟩) ∧ Blk w' b #[.string ⟨#[]⟩, .int .i64 0] 52 ∧ Ext W2 w' ∧ W2.heap.size ≤ b) 13 rfl (by kernel_rfl) (fun _ _ _ ⟨b, e, h1, h2, h3⟩ y => ⟨b, e, h1.ext y, h2.trans y, h3⟩) (fun w1 hC hk => ?_) (fun _ ⟨_, hb⟩ => ?_)
    · unfold does
      go_simp
      exact ⟨hk.alloc _, _, rfl, Blk.new _ _ _, hC.alloc _, hC.size⟩
    obtain ⟨b, rfl, _, _, hbs⟩ := hb
    simp only [Act.put, List.setIfInBounds_toArray, List.set_cons_zero, List.set_cons_succ]
    have Hbs := hid hbs
    clear hbs
    refine FlowT.v undef (fun w' => Blk w' b #[.string (⟨#[]⟩ : ByteArray), .int .i64 0] 52 ∧ Ext W2 w') 14 rfl (by kernel_rfl) (fun _ _ h y => ⟨h.1.ext y, h.2.trans y⟩) (fun w1 hC hk => ?_) ?_
    · obtain ⟨b', eb, hB, hx, _⟩ := hC
      obtain rfl : b = b' := by simpa using eb
      have z0 := hB.av 0 rfl
      have z1 := hB.av 1 rfl
      have f0 := hB.free 0
      have f1 := hB.free 1
      have hB3 := two (v0 := .string (⟨#[]⟩ : ByteArray)) (v1 := .int .i64 0) hB
      have hx3 := Keep.new hx (two_keep w1 b (.string (⟨#[]⟩ : ByteArray)) (.int .i64 0)) fun q e => by subst e; exact Hbs.out
      clear hk eb
      unfold does
      go_simp
      exact ⟨hx3.keep _, rfl, hB3, hx3⟩
    repeat (apply FlowT.d; (intro w1 hk; unfold does; go_simp; (try go_ints); (first | exact DetR.mk | (simp only [↓IntWalk.iteOmega, Oper.doesUpon_value]; exact DetR.mk) | (simp only [↓IntWalk.iteOmega]; go_simp; (try go_ints); exact DetR.mk))); simp only [Act.put, List.setIfInBounds_toArray, List.set_cons_zero, List.set_cons_succ])
    refine FlowT.fin fun w3 hC hk3 => ?_
    obtain ⟨hB3, hx3⟩ := hC
    have HR3 := hid (HR2.out.ext hx3)
    have HW3 := hid (HW2.out.trans hx3)
    have b0 := hB3.kc (X := fun _ => False) (fun e => e) 0 rfl
    have b1 := hB3.kc (X := fun _ => False) (fun e => e) 1 rfl
    simp only [List.getElem_toArray, List.getElem_cons_zero, List.getElem_cons_succ] at b0 b1
    replace d0 := fun w1 (k : Keep (fun _ => False) w3 w1) => d0 w1 ((hx3.keep _).trans k)
    replace m1 := fun w1 (k : Keep (fun _ => False) w3 w1) => m1 w1 ((hx3.keep _).trans k)
    replace m2 := fun w1 (k : Keep (fun _ => False) w3 w1) => m2 w1 ((hx3.keep _).trans k)
    clear HC hk3 hB3 hx3 v0 v1
    have HS : Hid (s.stmt P k x = s) := hid (by
      unfold Rn.stmt; rw [isK_ne Hkx.out (k' := kAddr) rfl, isK_ne Hkx.out (k' := kCopy) rfl, Hkx.out]; simp only [cond_true, cond_false, HVat.out, Vl.isAddr]
      )
    go_wp2
    go_end0
    exact ⟨rfl, ⟨_, _, _, by rw [HS.out]; exact HR3.out⟩, HW3.out.old n0⟩
  | var n =>
    have hn : n < s.vars.length := HIn.out
    simp only [rgv] at HC
    rw [show (Vl.var n).kind = ⟨#[118, 97, 114]⟩ from rfl] at v0
    rw [show (Vl.var n).num = n from rfl] at v1
    obtain ⟨u, hu⟩ : ∃ u, u = s.vars.getD n .none := ⟨_, rfl⟩
    have HU := hid hu
    rw [← hu] at HC
    have HE : Hid (s.stmt P k x = { s with vars := s.vars.set X u }) := hid (by
      unfold Rn.stmt; rw [isK_ne Hkx.out (k' := kAddr) rfl, isK_ne Hkx.out (k' := kCopy) rfl, Hkx.out]; simp only [cond_true, cond_false, HVat.out, Vl.isAddr, Rn.get, Rn.set, HXe.out, Int.toNat_natCast, ← HU.out]
      )
    clear hu
    go_enter Tryz.func13, Tryz.ntmps13
    go_wp2
    rw [← HW2e.out]
    refine wp_flowT (fun _ => False) (by kernel_rfl) (by kernel_rfl) ?_
    repeat (apply FlowT.d; (intro w1 hk; unfold does; go_simp; (try go_ints); (first | exact DetR.mk | (simp only [↓IntWalk.iteOmega, Oper.doesUpon_value]; exact DetR.mk) | (simp only [↓IntWalk.iteOmega]; go_simp; (try go_ints); exact DetR.mk))); simp only [Act.put, List.setIfInBounds_toArray, List.set_cons_zero, List.set_cons_succ])
    apply FlowT.d
    · intro w1 hk
      unfold does
      go_simp
      exact CallR.det ((HC w1 hk).out)
    simp only [Act.put, List.setIfInBounds_toArray, List.set_cons_zero, List.set_cons_succ]
    repeat (apply FlowT.d; (intro w1 hk; unfold does; go_simp; (try go_ints); (first | exact DetR.mk | (simp only [↓IntWalk.iteOmega, Oper.doesUpon_value]; exact DetR.mk) | (simp only [↓IntWalk.iteOmega]; go_simp; (try go_ints); exact DetR.mk))); simp only [Act.put, List.setIfInBounds_toArray, List.set_cons_zero, List.set_cons_succ])
    refine FlowT.s (fun t w' => ∃ b, t = .pointer (some ⟨b, 0, none⟩) ∧ Blk w' b #[.string ⟨#[]⟩, .int .i64 0] 52 ∧ Ext W2 w' ∧ W2.heap.size ≤ b) 13 rfl (by kernel_rfl) (fun _ _ _ ⟨b, e, h1, h2, h3⟩ y => ⟨b, e, h1.ext y, h2.trans y, h3⟩) (fun w1 hC hk => ?_) (fun _ ⟨_, hb⟩ => ?_)
    · unfold does
      go_simp
      exact ⟨hk.alloc _, _, rfl, Blk.new _ _ _, hC.alloc _, hC.size⟩
    obtain ⟨b, rfl, _, _, hbs⟩ := hb
    simp only [Act.put, List.setIfInBounds_toArray, List.set_cons_zero, List.set_cons_succ]
    have Hbs := hid hbs
    clear hbs
    refine FlowT.v undef (fun w' => Blk w' b #[.string u.kind, .int .i64 (u.num : Int)] 52 ∧ Ext W2 w') 14 rfl (by kernel_rfl) (fun _ _ h y => ⟨h.1.ext y, h.2.trans y⟩) (fun w1 hC hk => ?_) ?_
    · obtain ⟨b', eb, hB, hx, _⟩ := hC
      obtain rfl : b = b' := by simpa using eb
      have z0 := hB.av 0 rfl
      have z1 := hB.av 1 rfl
      have f0 := hB.free 0
      have f1 := hB.free 1
      have hB3 := two (v0 := .string u.kind) (v1 := .int .i64 (u.num : Int)) hB
      have hx3 := Keep.new hx (two_keep w1 b (.string u.kind) (.int .i64 (u.num : Int))) fun q e => by subst e; exact Hbs.out
      clear hk eb
      unfold does
      go_simp
      exact ⟨hx3.keep _, rfl, hB3, hx3⟩
    repeat (apply FlowT.d; (intro w1 hk; unfold does; go_simp; (try go_ints); (first | exact DetR.mk | (simp only [↓IntWalk.iteOmega, Oper.doesUpon_value]; exact DetR.mk) | (simp only [↓IntWalk.iteOmega]; go_simp; (try go_ints); exact DetR.mk))); simp only [Act.put, List.setIfInBounds_toArray, List.set_cons_zero, List.set_cons_succ])
    refine FlowT.fin fun w3 hC hk3 => ?_
    obtain ⟨hB3, hx3⟩ := hC
    have HR3 := hid (HR2.out.ext hx3)
    have HW3 := hid (HW2.out.trans hx3)
    have b0 := hB3.kc (X := fun _ => False) (fun e => e) 0 rfl
    have b1 := hB3.kc (X := fun _ => False) (fun e => e) 1 rfl
    simp only [List.getElem_toArray, List.getElem_cons_zero, List.getElem_cons_succ] at b0 b1
    replace d0 := fun w1 (k : Keep (fun _ => False) w3 w1) => d0 w1 ((hx3.keep _).trans k)
    replace m1 := fun w1 (k : Keep (fun _ => False) w3 w1) => m1 w1 ((hx3.keep _).trans k)
    replace m2 := fun w1 (k : Keep (fun _ => False) w3 w1) => m2 w1 ((hx3.keep _).trans k)
    clear HC hk3 hB3 hx3 v0 v1
    go_wp2
    refine wp_flowT (fun _ => False) (by kernel_rfl) (by kernel_rfl) ?_
    repeat (apply FlowT.d; (intro w1 hk; unfold does; go_simp; (try go_ints); (first | exact DetR.mk | (simp only [↓IntWalk.iteOmega, Oper.doesUpon_value]; exact DetR.mk) | (simp only [↓IntWalk.iteOmega]; go_simp; (try go_ints); exact DetR.mk))); simp only [Act.put, List.setIfInBounds_toArray, List.set_cons_zero, List.set_cons_succ])
    refine FlowT.last (fun _ w' => ∃ w2, Ext w3 w2 ∧ w' = store2 w2 g (X * 2) u) 8 rfl (by kernel_rfl) (by kernel_rfl) (fun w2 hx hk => ?_) (fun _ w4 hR4 => ?_)
    · have hV := ((HR3).out.ext hx).vars
      obtain ⟨q0, q1⟩ := own_v hV (at_some HX.out)
      have f0 := own_free hV (X * 2)
      have f1 := own_free hV (X * 2 + 1)
      unfold does
      go_simp
      exact ⟨w2, hx, rfl⟩
    obtain ⟨w2, hx2, rfl⟩ := hR4
    simp only [Act.put]
    have HS := hid (show s.stmt P k x = { s with vars := s.vars.set X u } by exact HE.out)
    have HR5 := hid (((HR3).out.ext hx2).putV X HX.out u)
    have HO := hid ((((HW3).out.trans hx2).old n0).trans (store2_old (y := u) (i := X * 2) (HR3.out.vlo (b := g) rfl)))
    clear hx2
    go_wp2
    go_end0
    exact ⟨rfl, ⟨_, _, _, by rw [HS.out]; exact HR5.out⟩, HO.out⟩
  | thing n =>
    have hn : n < s.things.length := HIn.out
    simp only [rgv] at HC
    rw [show (Vl.thing n).kind = ⟨#[116, 104, 105, 110, 103]⟩ from rfl] at v0
    rw [show (Vl.thing n).num = n from rfl] at v1
    obtain ⟨u, hu⟩ : ∃ u, u = s.things.getD n .none := ⟨_, rfl⟩
    have HU := hid hu
    rw [← hu] at HC
    have HE : Hid (s.stmt P k x = { s with vars := s.vars.set X u }) := hid (by
      unfold Rn.stmt; rw [isK_ne Hkx.out (k' := kAddr) rfl, isK_ne Hkx.out (k' := kCopy) rfl, Hkx.out]; simp only [cond_true, cond_false, HVat.out, Vl.isAddr, Rn.get, Rn.set, HXe.out, Int.toNat_natCast, ← HU.out]
      )
    clear hu
    go_enter Tryz.func13, Tryz.ntmps13
    go_wp2
    rw [← HW2e.out]
    refine wp_flowT (fun _ => False) (by kernel_rfl) (by kernel_rfl) ?_
    repeat (apply FlowT.d; (intro w1 hk; unfold does; go_simp; (try go_ints); (first | exact DetR.mk | (simp only [↓IntWalk.iteOmega, Oper.doesUpon_value]; exact DetR.mk) | (simp only [↓IntWalk.iteOmega]; go_simp; (try go_ints); exact DetR.mk))); simp only [Act.put, List.setIfInBounds_toArray, List.set_cons_zero, List.set_cons_succ])
    apply FlowT.d
    · intro w1 hk
      unfold does
      go_simp
      exact CallR.det ((HC w1 hk).out)
    simp only [Act.put, List.setIfInBounds_toArray, List.set_cons_zero, List.set_cons_succ]
    repeat (apply FlowT.d; (intro w1 hk; unfold does; go_simp; (try go_ints); (first | exact DetR.mk | (simp only [↓IntWalk.iteOmega, Oper.doesUpon_value]; exact DetR.mk) | (simp only [↓IntWalk.iteOmega]; go_simp; (try go_ints); exact DetR.mk))); simp only [Act.put, List.setIfInBounds_toArray, List.set_cons_zero, List.set_cons_succ])
    refine FlowT.s (fun t w' => ∃ b, t = .pointer (some ⟨b, 0, none⟩) ∧ Blk w' b #[.string ⟨#[]⟩, .int .i64 0] 52 ∧ Ext W2 w' ∧ W2.heap.size ≤ b) 13 rfl (by kernel_rfl) (fun _ _ _ ⟨b, e, h1, h2, h3⟩ y => ⟨b, e, h1.ext y, h2.trans y, h3⟩) (fun w1 hC hk => ?_) (fun _ ⟨_, hb⟩ => ?_)
    · unfold does
      go_simp
      exact ⟨hk.alloc _, _, rfl, Blk.new _ _ _, hC.alloc _, hC.size⟩
    obtain ⟨b, rfl, _, _, hbs⟩ := hb
    simp only [Act.put, List.setIfInBounds_toArray, List.set_cons_zero, List.set_cons_succ]
    have Hbs := hid hbs
    clear hbs
    refine FlowT.v undef (fun w' => Blk w' b #[.string u.kind, .int .i64 (u.num : Int)] 52 ∧ Ext W2 w') 14 rfl (by kernel_rfl) (fun _ _ h y => ⟨h.1.ext y, h.2.trans y⟩) (fun w1 hC hk => ?_) ?_
    · obtain ⟨b', eb, hB, hx, _⟩ := hC
      obtain rfl : b = b' := by simpa using eb
      have z0 := hB.av 0 rfl
      have z1 := hB.av 1 rfl
      have f0 := hB.free 0
      have f1 := hB.free 1
      have hB3 := two (v0 := .string u.kind) (v1 := .int .i64 (u.num : Int)) hB
      have hx3 := Keep.new hx (two_keep w1 b (.string u.kind) (.int .i64 (u.num : Int))) fun q e => by subst e; exact Hbs.out
      clear hk eb
      unfold does
      go_simp
      exact ⟨hx3.keep _, rfl, hB3, hx3⟩
    repeat (apply FlowT.d; (intro w1 hk; unfold does; go_simp; (try go_ints); (first | exact DetR.mk | (simp only [↓IntWalk.iteOmega, Oper.doesUpon_value]; exact DetR.mk) | (simp only [↓IntWalk.iteOmega]; go_simp; (try go_ints); exact DetR.mk))); simp only [Act.put, List.setIfInBounds_toArray, List.set_cons_zero, List.set_cons_succ])
    refine FlowT.fin fun w3 hC hk3 => ?_
    obtain ⟨hB3, hx3⟩ := hC
    have HR3 := hid (HR2.out.ext hx3)
    have HW3 := hid (HW2.out.trans hx3)
    have b0 := hB3.kc (X := fun _ => False) (fun e => e) 0 rfl
    have b1 := hB3.kc (X := fun _ => False) (fun e => e) 1 rfl
    simp only [List.getElem_toArray, List.getElem_cons_zero, List.getElem_cons_succ] at b0 b1
    replace d0 := fun w1 (k : Keep (fun _ => False) w3 w1) => d0 w1 ((hx3.keep _).trans k)
    replace m1 := fun w1 (k : Keep (fun _ => False) w3 w1) => m1 w1 ((hx3.keep _).trans k)
    replace m2 := fun w1 (k : Keep (fun _ => False) w3 w1) => m2 w1 ((hx3.keep _).trans k)
    clear HC hk3 hB3 hx3 v0 v1
    go_wp2
    refine wp_flowT (fun _ => False) (by kernel_rfl) (by kernel_rfl) ?_
    repeat (apply FlowT.d; (intro w1 hk; unfold does; go_simp; (try go_ints); (first | exact DetR.mk | (simp only [↓IntWalk.iteOmega, Oper.doesUpon_value]; exact DetR.mk) | (simp only [↓IntWalk.iteOmega]; go_simp; (try go_ints); exact DetR.mk))); simp only [Act.put, List.setIfInBounds_toArray, List.set_cons_zero, List.set_cons_succ])
    refine FlowT.last (fun _ w' => ∃ w2, Ext w3 w2 ∧ w' = store2 w2 g (X * 2) u) 8 rfl (by kernel_rfl) (by kernel_rfl) (fun w2 hx hk => ?_) (fun _ w4 hR4 => ?_)
    · have hV := ((HR3).out.ext hx).vars
      obtain ⟨q0, q1⟩ := own_v hV (at_some HX.out)
      have f0 := own_free hV (X * 2)
      have f1 := own_free hV (X * 2 + 1)
      unfold does
      go_simp
      exact ⟨w2, hx, rfl⟩
    obtain ⟨w2, hx2, rfl⟩ := hR4
    simp only [Act.put]
    have HS := hid (show s.stmt P k x = { s with vars := s.vars.set X u } by exact HE.out)
    have HR5 := hid (((HR3).out.ext hx2).putV X HX.out u)
    have HO := hid ((((HW3).out.trans hx2).old n0).trans (store2_old (y := u) (i := X * 2) (HR3.out.vlo (b := g) rfl)))
    clear hx2
    go_wp2
    go_end0
    exact ⟨rfl, ⟨_, _, _, by rw [HS.out]; exact HR5.out⟩, HO.out⟩
end Go.Proofs.YtkabgmohgjljkaaGreatDoor
