/- Texts of one proof, put together: ZY ZZ ZZ1. -/
import Derived.Test.YtdppgcbekhabnaaGreatDoorSD20

/- The solver: what is there already is let go; is it done? -/
namespace Go.Proofs.YtdppgcbekhabnaaGreatDoor
set_option linter.unusedSimpArgs false
set_option linter.unusedVariables false
open Go Go.RowKit

theorem wait_in {P : PP} {S : List (List Int)} {s : SV} (hg : P.GoodS S) (h : Core P S s) : ∀ f ∈ s.wait, (0 ≤ f.1 ∧ f.1 < P.nodesV) ∧ (0 ≤ f.2 ∧ f.2 < P.objectsV) := fun f hf => by
  have hfw := h.wait f hf
  have hlen := hg.2.1
  have hin : f.2 ∈ S.getD f.1.toNat [] := hfw.2
  rw [List.getD_eq_getElem?_getD, List.getElem?_eq_getElem (show f.1.toNat < S.length by omega)] at hin
  have hk := hg.ok.ok _ (List.getElem_mem (show f.1.toNat < S.length by omega))
  exact ⟨hfw.1, ((chkE_zero.1 hk.1).1 _ hin).1, hk.2 _ hin⟩
/-- How much is to come, out of memory. -/
def lenAt (w : World) (g : Nat) : Nat := match w.cell? ⟨g, 8, none⟩ with
  | some (.slice _ n _) => n
  | _ => 0
theorem lenAt_of {w : World} {G F : Nat → Prop} {g : Nat} {ad : Nat → Addr} {a1 a2 a3 : Option Addr} {c1 c2 c3 : Nat} {P : PP} {vr : Value} {rs : List R2} {vh : Value} {hs : List Value} {m1 m2 : Nat} {f1 : Int → Option Value} {vw : Value} {s : SV}
    (h : SolvB w G F g ad a1 a2 a3 c1 c2 c3 P vr rs vh hs m1 m2 f1 vw s) : lenAt w g = s.wait.length := by
  obtain ⟨a, c, rfl⟩ := h.wrow.form
  have := h.blk.av 8 rfl
  simp only [solvCells, List.getElem_toArray, List.getElem_cons_zero, List.getElem_cons_succ] at this
  unfold lenAt
  rw [this]
set_option maxRecDepth 100000 in
set_option maxHeartbeats 3200000 in
theorem solveclean_any (P : PP) (S : List (List Int)) (s : SV) (w : World) (G F : Nat → Prop) (g : Nat) (ad : Nat → Addr) {vr : Value} {rs : List R2} {vh : Value} {hs : List Value} (hS : SolvAt w G F g ad P vr rs vh hs s) (hC : Core P S s) (hg : P.GoodS S) :
    Calls Tryz.prog 51 #[.pointer (some ⟨g, 0, none⟩)] w fun x w' => x = .returned (.tuple #[]) ∧ SolvAt w' G F g ad P vr rs vh hs s.clean ∧ Keep (fun b => ¬ F b) w w' := by
  obtain ⟨a1, a2, a3, c1, c2, c3, m1, m2, f1, vw, h⟩ := hS
  have hw := h.pw.well
  obtain ⟨hn1, hn2⟩ := hw.nodes
  have HW := hid (wait_in hg hC)
  have HC := hid hC
  have Hlen := hid hC.len
  by_cases hno : P.nodesV = 0
  · -- no nodes: nothing is to come
    have hwe : s.wait = [] := by
      cases hq : s.wait with
      | nil => rfl
      | cons f r =>
        have := (HW.out f (by rw [hq]; exact List.mem_cons_self)).1
        rw [hno] at this
        omega
    have Hcl : Hid (s.clean = s) := hid (by unfold SV.clean; rw [hwe]; cases s; simp only at hwe; subst hwe; rfl)
    obtain ⟨aw, cw, rfl⟩ := h.wrow.form
    have HS := hid h
    have b8 := h.blk.kc (X := fun _ => False) (fun e => e) 8 rfl
    simp only [solvCells, List.getElem_toArray, List.getElem_cons_zero, List.getElem_cons_succ, hwe, List.length_nil] at b8
    clear h hC hg hno hwe
    generalize P.nodesV = NN at *
    generalize P.objectsV = OO at *
    go_enter Tryz.func51, Tryz.ntmps51
    go_wp2
    go_loopw [2] (fun _ wr => Ext w wr) (fun _ _ => 0)
    case atStart => exact Ext.refl _
    case round =>
      have Hx := hid hrel
      have b8' : ∀ w1, Keep (fun _ => False) wr w1 → w1.cell? ⟨g, 8, none⟩ = some (.slice aw 0 cw) := fun w1 k => b8 w1 ((Hx.out.trans k.ext).keep _)
      clear hrel b8
      go_wp2
      refine wp_flowT (fun _ => False) (by kernel_rfl) (by kernel_rfl) ?_
      repeat (apply FlowT.d; (intro w1 hk; unfold does; go_simp; (try go_ints); (first | exact DetR.mk | (simp only [↓IntWalk.iteOmega, Oper.doesUpon_value]; exact DetR.mk) | (simp only [↓IntWalk.iteOmega]; go_simp; (try go_ints); exact DetR.mk))); simp only [Act.put, List.setIfInBounds_toArray, List.set_cons_zero, List.set_cons_succ])
      refine FlowT.fin fun w4 hC4 hk4 => ?_
      have Hx4 := hid (Hx.out.trans hC4)
      clear hC4 hk4 b8'
      go_wp2
      go_end0
      exact ⟨rfl, by rw [Hcl.out]; exact ⟨_, _, _, _, _, _, _, _, _, _, HS.out.ext Hx4.out⟩, Hx4.out.keep _⟩
  obtain ⟨gh, ch, rfl⟩ := own_some h.hrow (by rw [hC.len]; omega)
  have HS := hid h
  have hsl : s.has.length ≤ 120 := by rw [hC.len]; exact hn1
  clear h hC hg
  go_enter Tryz.func51, Tryz.ntmps51
  go_wp2
  go_loopw [2] (fun _ wr => ∃ (vw : Value) (L : List (Int × Int)), L.dropWhile s.bit = s.wait.dropWhile s.bit ∧ (∀ f ∈ L, f ∈ s.wait) ∧ SolvB wr G F g ad a1 a2 a3 c1 c2 c3 P vr rs (.slice (some ⟨gh, 0, none⟩) s.has.length ch) hs m1 m2 f1 vw { s with wait := L } ∧ Keep (fun b => ¬ F b) w wr) (fun _ wr => lenAt wr g)
  case atStart => exact ⟨vw, s.wait, rfl, fun _ h => h, HS.out, Keep.refl _ _⟩
  case round =>
    obtain ⟨vw', L, hD, hM, hS8, hK8⟩ := hrel
    have HS8 := hid hS8
    have HK8 := hid hK8
    have HD := hid hD
    have HM := hid hM
    have Hm := hid (lenAt_of hS8)
    simp only at Hm
    clear hD hM hS8 hK8
    cases L with
    | nil =>
      obtain ⟨aw, cw, rfl⟩ := HS8.out.wrow.form
      have b8 := HS8.out.blk.kc (X := fun _ => False) (fun e => e) 8 rfl
      simp only [solvCells, List.getElem_toArray, List.getElem_cons_zero, List.getElem_cons_succ, List.length_nil] at b8
      have Hcl : Hid (s.clean = { s with wait := [] }) := hid (by unfold SV.clean; rw [← HD.out]; rfl)
      generalize P.nodesV = NN at *
      generalize P.objectsV = OO at *
      go_wp2
      refine wp_flowT (fun _ => False) (by kernel_rfl) (by kernel_rfl) ?_
      repeat (apply FlowT.d; (intro w1 hk; unfold does; go_simp; (try go_ints); (first | exact DetR.mk | (simp only [↓IntWalk.iteOmega, Oper.doesUpon_value]; exact DetR.mk) | (simp only [↓IntWalk.iteOmega]; go_simp; (try go_ints); exact DetR.mk))); simp only [Act.put, List.setIfInBounds_toArray, List.set_cons_zero, List.set_cons_succ])
      refine FlowT.fin fun w4 hC4 hk4 => ?_
      have Hx4 := hid hC4
      clear hC4 hk4 b8
      go_wp2
      go_end0
      exact ⟨rfl, by rw [Hcl.out]; exact ⟨_, _, _, _, _, _, _, _, _, _, HS8.out.ext Hx4.out⟩, HK8.out.ext_r Hx4.out⟩
    | cons f r =>
      have hIn := HW.out f (HM.out f List.mem_cons_self)
      obtain ⟨f1', f2'⟩ := f
      simp only at hIn
      have hk1 := hIn.1
      have hk2 := hIn.2
      obtain ⟨i, rfl⟩ := Int.eq_ofNat_of_zero_le hk1.1
      obtain ⟨j, rfl⟩ := Int.eq_ofNat_of_zero_le hk2.1
      have hin : i < P.nodesV := by omega
      have hjn : j < P.objectsV := by omega
      obtain ⟨vb, lb, hvb, hlb, hrb⟩ := HS8.out.hbag.at (i := i) (by simp only; rw [Hlen.out]; exact hin)
      have hll : lb.length = P.objectsV := HC.out.row lb (List.mem_of_getElem? hlb)
      unfold TrRow at hrb
      rw [hll] at hrb
      obtain ⟨gb, cb, rfl⟩ := own_some hrb (by omega)
      have hbit : s.bit ((i : Int), (j : Int)) = lb.getD j false := by
        unfold SV.bit
        simp only [Int.toNat_natCast]
        rw [show s.has.getD i [] = lb by rw [List.getD_eq_getElem?_getD]; simp only at hlb; rw [hlb]; rfl]
      obtain ⟨gq, off, cap, rfl, hcap⟩ := HS8.out.wrow.pos (by simp)
      have hq0 := HS8.out.wrow.get 0 (u := .int .i64 (i : Int)) rfl
      have hq1 := HS8.out.wrow.get 1 (u := .int .i64 (j : Int)) rfl
      simp only [Nat.add_zero] at hq0
      have q0 : ∀ w1, Keep (fun _ => False) wr w1 → w1.cell? ⟨gq, off, none⟩ = some (.int .i64 (i : Int)) := fun w1 k => k.ext.cellx hq0
      have q1 : ∀ w1, Keep (fun _ => False) wr w1 → w1.cell? ⟨gq, off + 1, none⟩ = some (.int .i64 (j : Int)) := fun w1 k => k.ext.cellx hq1
      have b8 := HS8.out.blk.kc (X := fun _ => False) (fun e => e) 8 rfl
      have b4 := HS8.out.blk.kc (X := fun _ => False) (fun e => e) 4 rfl
      simp only [solvCells, List.getElem_toArray, List.getElem_cons_zero, List.getElem_cons_succ, List.length_cons] at b8 b4
      have h4 : ∀ w1, Keep (fun _ => False) wr w1 → w1.cell? ⟨gh, i, none⟩ = some (.slice (some ⟨gb, 0, none⟩) P.objectsV cb) := fun w1 x => own_get (own_ext HS8.out.hrow x.ext) i hvb
      have h5 : ∀ w1, Keep (fun _ => False) wr w1 → w1.cell? ⟨gb, j, none⟩ = some (.bool (lb.getD j false)) := fun w1 x => own_get (own_ext hrb x.ext) j (trCells_at (by rw [hll]; exact hjn))
      have hcr : r.length + 1 ≤ cap := by
        rcases HS8.out.wrow.2 with ⟨hx, _⟩ | ⟨g', off', cap', cur, hx, _, _, hx4, _⟩
        · cases hx
        · simp only [Value.slice.injEq] at hx
          rw [hx.2.2]; exact hx4
      have hil : i < s.has.length := by rw [Hlen.out]; exact hin
      have Hcut := hid (HS8.out.cutWait (f := ((i : Int), (j : Int))) (l := r) rfl)
      have Hbit := hid hbit
      simp only [List.length_cons] at HS8 Hcut Hm
      clear hq0 hq1 hvb hlb hrb hll hbit hIn
      generalize lb.getD j false = bt at h5 Hbit
      generalize P.nodesV = NN at *
      generalize P.objectsV = OO at *
      cases bt with
      | false =>
        have Hcl : Hid (s.clean = { s with wait := ((i : Int), (j : Int)) :: r }) := hid (by unfold SV.clean; rw [← HD.out, List.dropWhile_cons, Hbit.out]; rfl)
        go_wp2
        refine wp_flowT (fun _ => False) (by kernel_rfl) (by kernel_rfl) ?_
        repeat (apply FlowT.d; (intro w1 hk; unfold does; go_simp; (try go_ints); (first | exact DetR.mk | (simp only [↓IntWalk.iteOmega, Oper.doesUpon_value]; exact DetR.mk) | (simp only [↓IntWalk.iteOmega]; go_simp; (try go_ints); exact DetR.mk))); simp only [Act.put, List.setIfInBounds_toArray, List.set_cons_zero, List.set_cons_succ])
        refine FlowT.fin fun w4 hC4 hk4 => ?_
        have Hx4 := hid hC4
        clear hC4 hk4 b8 b4 h4 h5 q0 q1
        go_wp2
        go_end0
        exact ⟨rfl, by rw [Hcl.out]; exact ⟨_, _, _, _, _, _, _, _, _, _, HS8.out.ext Hx4.out⟩, HK8.out.ext_r Hx4.out⟩
      | true =>
        have HD2 : Hid (r.dropWhile s.bit = s.wait.dropWhile s.bit) := hid (by rw [← HD.out, List.dropWhile_cons, Hbit.out]; rfl)
        have HM2 : Hid (∀ f ∈ r, f ∈ s.wait) := hid fun f hf => HM.out f (List.mem_cons_of_mem _ hf)
        by_cases hc1 : cap = 1
        · subst hc1
          obtain rfl : r = [] := List.eq_nil_of_length_eq_zero (by omega)
          go_wp2
          refine wp_flowT (fun _ => False) (by kernel_rfl) (by kernel_rfl) ?_
          repeat (apply FlowT.d; (intro w1 hk; unfold does; go_simp; (try go_ints); (first | exact DetR.mk | (simp only [↓IntWalk.iteOmega, Oper.doesUpon_value]; exact DetR.mk) | (simp only [↓IntWalk.iteOmega]; go_simp; (try go_ints); exact DetR.mk))); simp only [Act.put, List.setIfInBounds_toArray, List.set_cons_zero, List.set_cons_succ])
          refine FlowT.fin fun w4 hC4 hk4 => ?_
          have Hx4 := hid hC4
          have Hcut4 := hid (((HS8.out.ext hC4).cutWait (f := ((i : Int), (j : Int))) (l := []) rfl))
          have b8 := (HS8.out.blk.ext hC4).av 8 rfl
          have f8 := (HS8.out.blk.ext hC4).free 8
          simp only [solvCells, List.getElem_toArray, List.getElem_cons_zero, List.getElem_cons_succ, List.length_nil] at b8 Hcut4
          clear hC4 hk4 b4 h4 h5 q0 q1
          go_wp2
          go_roundw
          case rel => exact ⟨_, _, HD2.out, HM2.out, Hcut4.out, (HK8.out.ext_r Hx4.out).set HS8.out.fg _⟩
          case measure => exact Nat.lt_of_le_of_lt (Nat.le_of_eq (lenAt_of Hcut4.out)) (by rw [Hm.out]; simp)
        · go_wp2
          refine wp_flowT (fun _ => False) (by kernel_rfl) (by kernel_rfl) ?_
          repeat (apply FlowT.d; (intro w1 hk; unfold does; go_simp; (try go_ints); (first | exact DetR.mk | (simp only [↓IntWalk.iteOmega, Oper.doesUpon_value]; exact DetR.mk) | (simp only [↓IntWalk.iteOmega]; go_simp; (try go_ints); exact DetR.mk))); simp only [Act.put, List.setIfInBounds_toArray, List.set_cons_zero, List.set_cons_succ])
          refine FlowT.fin fun w4 hC4 hk4 => ?_
          have Hx4 := hid hC4
          have Hcut4 := hid (((HS8.out.ext hC4).cutWait (f := ((i : Int), (j : Int))) (l := r) rfl))
          have b8 := (HS8.out.blk.ext hC4).av 8 rfl
          have f8 := (HS8.out.blk.ext hC4).free 8
          simp only [solvCells, List.getElem_toArray, List.getElem_cons_zero, List.getElem_cons_succ, List.length_cons] at b8 Hcut4
          rw [if_neg hc1] at Hcut4
          simp only [Nat.add_sub_cancel] at Hcut4
          clear hC4 hk4 b4 h4 h5 q0 q1
          go_wp2
          go_roundw
          case rel => exact ⟨_, _, HD2.out, HM2.out, Hcut4.out, (HK8.out.ext_r Hx4.out).set HS8.out.fg _⟩
          case measure => exact Nat.lt_of_le_of_lt (Nat.le_of_eq (lenAt_of Hcut4.out)) (by rw [Hm.out]; simp)
end Go.Proofs.YtdppgcbekhabnaaGreatDoor



/- The solver: a fact comes. -/
namespace Go.Proofs.YtdppgcbekhabnaaGreatDoor
set_option linter.unusedSimpArgs false
set_option linter.unusedVariables false
open Go Go.RowKit

/-- A rule is asked by a fact. -/
def SV.ask (P : PP) (f : Int × Int) (s : SV) (r : RV) : SV := bif r.fired && decide (r.pivot = f.1) then s.fire P r f.2 else s
def SV.told1 (s : SV) (f : Int × Int) : SV := { s with wait := s.wait ++ (s.succ f.1).map fun t => (t, f.2) }
theorem came_ask (P : PP) (s : SV) (f : Int × Int) : s.came P f = s.rules.foldl (SV.ask P f) (s.told1 f) := rfl
theorem ask_step {P : PP} {S : List (List Int)} (hg : P.GoodS S) (hc : ClosedP P S) {f : Int × Int} (hf : f.2 ∈ S.getD f.1.toNat []) {s : SV} (h : Core P S s) (hb : s.Bnd P) {r : RV} (hr : r ∈ P.rulesV) :
    Core P S (s.ask P f r) ∧ (s.ask P f r).Bnd P ∧ (s.ask P f r).rules = s.rules := by
  unfold SV.ask
  cases h1 : (r.fired && decide (r.pivot = f.1)) with
  | false => exact ⟨h, hb, rfl⟩
  | true =>
    rw [Bool.and_eq_true] at h1
    have hp := of_decide_eq_true h1.2
    have ho : f.2 ∈ S.getD r.pivot.toNat [] := by rw [hp]; exact hf
    obtain ⟨k1, _, k3, _⟩ := h.fire hg hc hr h1.1 ho
    exact ⟨k1, bnd_fire hg hc h hb hr h1.1 ho, k3⟩
set_option maxRecDepth 100000 in
set_option maxHeartbeats 6400000 in
theorem solvecame_any (P : PP) (S : List (List Int)) (s : SV) (f : Int × Int) (w : World) (G F : Nat → Prop) (g : Nat) (ad : Nat → Addr) {vr : Value} {rs : List R2} {vh : Value} {hs : List Value} (hS : SolvAt w G F g ad P vr rs vh hs s) (hT : Core P S (s.told1 f)) (hTb : (s.told1 f).Bnd P) (hg : P.GoodS S) (hc : ClosedP P S) (hru : ∀ r ∈ s.rules, r ∈ P.rulesV) (hf1 : 0 ≤ f.1 ∧ f.1 < P.nodesV) (hf2 : 0 ≤ f.2 ∧ f.2 < P.objectsV) (ho : f.2 ∈ S.getD f.1.toNat []) :
    Calls Tryz.prog 52 #[.pointer (some ⟨g, 0, none⟩), .agg #[.int .i64 f.1, .int .i64 f.2]] w fun x w' => x = .returned (.tuple #[]) ∧ SolvAt w' G F g ad P vr rs vh hs (s.came P f) ∧ Keep (fun b => ¬ F b) w w' := by
  obtain ⟨a1, a2, a3, c1, c2, c3, m1, m2, f1, vw, h⟩ := hS
  have hw := h.pw.well
  obtain ⟨hn1, hn2⟩ := hw.nodes
  have hwl := hTb.wait_few hw hT
  have hrl : s.rules.length ≤ 80 := hTb.ru
  have hel0 := hT.edges_few hw hTb.nd
  have hel : s.edges.length ≤ 14400 := hel0
  have hsl : (s.succ f.1).length ≤ 14400 := Nat.le_trans (succ_few s f.1) hel
  have hwl2 : s.wait.length + (s.succ f.1).length ≤ 500000000 := by
    unfold SV.told1 at hwl
    simp only [List.length_append, List.length_map] at hwl
    exact hwl
  obtain ⟨fi, o⟩ := f
  simp only at hf1 hf2 ho hsl hwl2
  obtain ⟨i, rfl⟩ := Int.eq_ofNat_of_zero_le hf1.1
  obtain ⟨ar, cr, hro⟩ := row_form (h.row1 (i : Int))
  obtain ⟨av, cv, rfl⟩ := row_form h.rrow
  have hS0 := hid h.req
  have hrsl80 := hrl
  obtain ⟨W, hW⟩ : ∃ W, W = w.alloc (.cells #[.int .i64 (i : Int), .int .i64 o] 97) := ⟨_, rfl⟩
  have HX : Hid (Ext w W) := hid (by rw [hW]; exact (Ext.refl _).alloc _)
  have HBx : Hid (Blk W w.heap.size #[.int .i64 (i : Int), .int .i64 o] 97) := hid (by rw [hW]; exact Blk.new _ _ _)
  have HWe : Hid (W = w.alloc (.cells #[.int .i64 (i : Int), .int .i64 o] 97)) := hid hW
  have hFz := h.frz HX.out
  obtain ⟨F', hF'⟩ : ∃ F' : Nat → Prop, F' = fun b => F b ∨ (w.heap.size ≤ b ∧ b < W.heap.size) := ⟨_, rfl⟩
  rw [← hF'] at hFz
  have HF1 : Hid (∀ b, F b → F' b) := hid fun b hb => by rw [hF']; exact .inl hb
  have HFb : Hid (F' w.heap.size) := hid (by rw [hF']; exact .inr ⟨Nat.le_refl _, HBx.out.lt⟩)
  have HGF := hid h.gf
  have HS := hid hFz
  have HLu : Hid (∀ w1, Keep (fun _ => False) W w1 → (Instr.lookup 78 (.map (some m1)) (.int .i64 (i : Int)) false).run Tryz.prog w1 = .ok (.slice ar (s.succ (i : Int)).length cr) w1) := hid fun w1 k => by
    rw [look_succ (HS.out.map1.ext k.ext) (by omega), hro]
  have Hro := hid hro
  have HT := hid hT
  have HTb := hid hTb
  have Hg := hid hg
  have Hc := hid hc
  have Hru := hid hru
  have Ho := hid ho
  have Hf2 := hid hf2
  have b5 := HS.out.blk.kc (X := fun _ => False) (fun e => e) 5 rfl
  have d0 := HBx.out.kc (X := fun _ => False) (fun e => e) 0 rfl
  simp only [solvCells, List.getElem_toArray, List.getElem_cons_zero, List.getElem_cons_succ] at b5 d0
  clear h hFz hF' hT hTb hg hc hru ho hW hro hwl hw hf2 hel hel0 hf1
  go_enter Tryz.func52, Tryz.ntmps52
  go_wp2
  rw [← HWe.out]
  refine wp_flowT (fun _ => False) (by kernel_rfl) (by kernel_rfl) ?_
  repeat (apply FlowT.d; (intro w1 hk; unfold does; go_simp; (try go_ints); (first | exact DetR.mk | (simp only [↓IntWalk.iteOmega, Oper.doesUpon_value]; exact DetR.mk) | (simp only [↓IntWalk.iteOmega]; go_simp; (try go_ints); exact DetR.mk))); simp only [Act.put, List.setIfInBounds_toArray, List.set_cons_zero, List.set_cons_succ])
  apply FlowT.d
  · intro w1 hk
    unfold does
    go_simp
    rw [HLu.out w1 hk]
    go_simp
    exact DetR.mk
  simp only [Act.put, List.setIfInBounds_toArray, List.set_cons_zero, List.set_cons_succ]
  repeat (apply FlowT.d; (intro w1 hk; unfold does; go_simp; (try go_ints); (first | exact DetR.mk | (simp only [↓IntWalk.iteOmega, Oper.doesUpon_value]; exact DetR.mk) | (simp only [↓IntWalk.iteOmega]; go_simp; (try go_ints); exact DetR.mk))); simp only [Act.put, List.setIfInBounds_toArray, List.set_cons_zero, List.set_cons_succ])
  refine FlowT.fin fun w2 hx2 hk2 => ?_
  have HS2 := hid (HS.out.ext hx2)
  have HBx2 := hid (HBx.out.ext hx2)
  have HK2 := hid ((HX.out.trans hx2).keep (fun b => ¬ F b))
  clear hx2 hk2 b5 d0 HLu
  go_wp2
  go_loopw [16] (fun t16 wr => ∃ (k : Nat) (vw : Value) (L : List (Int × Int)), t16 = .int .i64 (k : Int) ∧ k ≤ (s.succ (i : Int)).length ∧ L = s.wait ++ ((s.succ (i : Int)).take k).map (fun t => (t, o)) ∧ SolvB wr G F' g ad a1 a2 a3 c1 c2 c3 P (.slice av s.rules.length cv) rs vh hs m1 m2 f1 vw { s with wait := L } ∧ Blk wr w.heap.size #[.int .i64 (i : Int), .int .i64 o] 97 ∧ Keep (fun b => ¬ F b) w wr) (fun t16 _ => (s.succ (i : Int)).length - (intOf t16).toNat)
  case atStart => exact ⟨0, vw, s.wait, rfl, Nat.zero_le _, by simp, HS2.out, HBx2.out, HK2.out⟩
  case round =>
    obtain ⟨k, vw', L, rfl, hk, hL, hS8, hBx8, hK8⟩ := hrel
    have HS8 := hid hS8
    have HBx8 := hid hBx8
    have HK8 := hid hK8
    have HLe := hid hL
    have hLl : L.length ≤ 600000000 := by
      rw [hL, List.length_append, List.length_map, List.length_take]
      omega
    clear hS8 hBx8 hK8 hL
    by_cases hlt : k < (s.succ (i : Int)).length
    · obtain ⟨aw, cw, rfl⟩ := HS8.out.wrow.form
      simp only at HS8
      obtain ⟨tj, htj⟩ : ∃ tj, (s.succ (i : Int))[k]? = some tj := ⟨_, List.getElem?_eq_getElem hlt⟩
      have hrw := HS8.out.row1 (i : Int)
      rw [Hro.out] at hrw
      change IRow 0 wr (.slice ar (s.succ (i : Int)).length cr) (s.succ (i : Int)) at hrw
      obtain ⟨ga, ca, hge⟩ := own_some hrw (by omega)
      simp only [Value.slice.injEq] at hge
      obtain ⟨rfl, -, rfl⟩ := hge
      have r0 := own_i hrw htj
      have Htk : Hid ((s.succ (i : Int)).take (k + 1) = (s.succ (i : Int)).take k ++ [tj]) := hid (by rw [List.take_add_one, htj]; rfl)
      have hXq : ∀ (b : Nat) (e : TypeId), (Value.slice aw L.length cw).ownBlock = some b → 97 ≠ e → ∀ c, ¬ Blk wr b c e := fun _ _ hb he c hc => by
        obtain ⟨_, c', hc'⟩ := HS8.out.wrow.ty hb
        exact off_of hc' he ⟨_, hc⟩
      have hXw : ¬ (Value.slice aw L.length cw).ownBlock = some w.heap.size := fun hb => HS8.out.wf _ hb HFb.out
      have b8 := HS8.out.blk.kc (X := fun q => (Value.slice aw L.length cw).ownBlock = some q) (fun hb => hXq _ _ hb (by decide) _ HS8.out.blk) 8 rfl
      have d1 := HBx8.out.kc (X := fun q => (Value.slice aw L.length cw).ownBlock = some q) hXw 1 rfl
      simp only [solvCells, List.getElem_toArray, List.getElem_cons_zero, List.getElem_cons_succ] at b8 d1
      have HXq := hid hXq
      have HXw := hid hXw
      clear hXq hXw hrw htj
      go_wp2
      refine wp_flowT (fun q => (Value.slice aw L.length cw).ownBlock = some q) (by kernel_rfl) (by kernel_rfl) ?_
      repeat (apply FlowT.d; (intro w1 hk; unfold does; go_simp; (try go_ints); (first | exact DetR.mk | (simp only [↓IntWalk.iteOmega, Oper.doesUpon_value]; exact DetR.mk) | (simp only [↓IntWalk.iteOmega]; go_simp; (try go_ints); exact DetR.mk))); simp only [Act.put, List.setIfInBounds_toArray, List.set_cons_zero, List.set_cons_succ])
      refine FlowT.s (fun v' w' => ∃ q, v' = .slice (some ⟨q, 0, none⟩) 1 1 ∧ Blk w' q #[.int .i64 tj, .int .i64 o] 97 ∧ Ext wr w') 9 rfl (by kernel_rfl) (fun _ _ _ ⟨q, h1, h2, h3⟩ he => ⟨q, h1, h2.ext he, h3.trans he⟩) (fun w4 hC hk => ?_) ?_
      · unfold does
        go_simp
        exact ⟨hk.alloc _, _, rfl, Blk.new _ _ _, hC.alloc _⟩
      rintro _ ⟨_, q3, rfl, _, _⟩
      simp only [Act.put, List.setIfInBounds_toArray, List.set_cons_zero, List.set_cons_succ]
      refine FlowT.s (fun v' w' => (∃ a c, v' = .slice a (L.length + 1) c) ∧ OwnsQ w' 0 97 2 v' (L.length + 1) (L.flatMap fCells ++ fCells (tj, o)) ∧ ∀ b, v'.ownBlock = some b → (Value.slice aw L.length cw).ownBlock = some b ∨ wr.heap.size ≤ b) 10 rfl (by kernel_rfl) (fun _ _ _ ⟨h1, h2, h3⟩ he => ⟨h1, h2.ext he, h3⟩) (fun w4 hC hk => ?_) ?_
      · obtain ⟨q', e, hg, hE⟩ := hC
        obtain rfl : q3 = q' := by simpa using e
        exact does_append_q 0 (Nat.zero_le _) 81 97 (.agg #[.int .i64 0, .int .i64 0]) 2 16 Tryz.underlying81 fact_info rfl (by omega) (by omega) rfl _ _ rfl _ _ _ rfl (HS8.out.wrow.ext hE) q3 (fCells (tj, o)) rfl (by simp [fCells, Value.oneCell']) rfl hg (by simp only; omega) fun v' w' h1 h2 h3 => ⟨hk.trans h2, h1.form, h1, fun b hb => (h3 b hb).imp id fun h => Nat.le_trans hE.size h⟩
      rintro _ ⟨_, ⟨a9, c9, rfl⟩, _, _⟩
      simp only [Act.put, List.setIfInBounds_toArray, List.set_cons_zero, List.set_cons_succ]
      repeat (apply FlowT.d; (intro w1 hk; unfold does; go_simp; (try go_ints); (first | exact DetR.mk | (simp only [↓IntWalk.iteOmega, Oper.doesUpon_value]; exact DetR.mk) | (simp only [↓IntWalk.iteOmega]; go_simp; (try go_ints); exact DetR.mk))); simp only [Act.put, List.setIfInBounds_toArray, List.set_cons_zero, List.set_cons_succ])
      refine FlowT.last (fun _ w' => SolvB w' G F' g ad a1 a2 a3 c1 c2 c3 P (.slice av s.rules.length cv) rs vh hs m1 m2 f1 (.slice a9 (L.length + 1) c9) { s with wait := L ++ [(tj, o)] } ∧ Blk w' w.heap.size #[.int .i64 (i : Int), .int .i64 o] 97 ∧ Keep (fun b => ¬ F b) w w') 13 rfl (by kernel_rfl) (by kernel_rfl) (fun w5 hC hk => ?_) (fun _ w6 hR => ?_)
      · obtain ⟨_, hq, hob⟩ := hC
        have q8 := b8 w5 hk
        have f8 := (HS8.out.blk.keep hk fun hb => HXq.out _ _ hb (by decide) _ HS8.out.blk).free 8
        unfold does
        go_simp
        refine ⟨?_, ?_, ?_⟩
        · refine HS8.out.setWait hk (l := L ++ [(tj, o)]) ?_ hob
          rw [List.length_append, List.flatMap_append]
          simpa using hq
        · exact (HBx8.out.keep hk HXw.out).set_ne (fun e => HS8.out.blk.ty_ne HBx8.out (by decide) e) _
        · exact HK8.out.trans ((hk.mono fun b _ e hF => HS8.out.wf b e (HF1.out b hF)).set (fun hF => HS8.out.fg (HF1.out _ hF)) _)
      simp only [Act.put]
      obtain ⟨hS9, hBx9, hK9⟩ := hR
      have HS9 := hid hS9
      have HBx9 := hid hBx9
      have HK9 := hid hK9
      clear hS9 hBx9 hK9 b8 d1 HXq HXw r0
      go_wp2
      go_roundw
      case rel =>
        refine ⟨k + 1, _, _, by go_num, by omega, ?_, HS9.out, HBx9.out, HK9.out⟩
        rw [Htk.out, HLe.out]; simp
      case measure => simp [intOf]; omega
    · obtain rfl : k = (s.succ (i : Int)).length := by omega
      rw [List.take_length] at HLe
      have Hst : Hid ({ s with wait := L } = s.told1 ((i : Int), o)) := hid (by unfold SV.told1; rw [HLe.out])
      rw [Hst.out] at HS8
      have b3 := HS8.out.blk.av 3 rfl
      simp only [solvCells, List.getElem_toArray, List.getElem_cons_zero, List.getElem_cons_succ] at b3
      obtain ⟨T1, hT1⟩ : ∃ T1, T1 = s.told1 ((i : Int), o) := ⟨_, rfl⟩
      have HTe := hid hT1
      rw [← hT1] at HT HTb
      have HS8b : Hid (SolvAt wr G F' g ad P (.slice av s.rules.length cv) rs vh hs T1) := hid (by rw [hT1]; exact ⟨_, _, _, _, _, _, _, _, _, _, HS8.out⟩)
      have HGF2 := HGF
      have Hrl : Hid (T1.rules = s.rules) := hid (by rw [hT1]; rfl)
      clear HLe hLl hT1
      go_wp2
      go_loopw [39] (fun t39 wr => ∃ k : Nat, t39 = .int .i64 (k : Int) ∧ k ≤ s.rules.length ∧ SolvAt wr G F' g ad P (.slice av s.rules.length cv) rs vh hs ((s.rules.take k).foldl (SV.ask P ((i : Int), o)) T1) ∧ Core P S ((s.rules.take k).foldl (SV.ask P ((i : Int), o)) T1) ∧ ((s.rules.take k).foldl (SV.ask P ((i : Int), o)) T1).Bnd P ∧ Blk wr w.heap.size #[.int .i64 (i : Int), .int .i64 o] 97 ∧ Keep (fun b => ¬ F b) w wr) (fun t39 _ => s.rules.length - (intOf t39).toNat)
      case atStart => exact ⟨0, rfl, Nat.zero_le _, HS8b.out, HT.out, HTb.out, HBx8.out, HK8.out⟩
      case round =>
        clear HS8 HBx8 HK8 HS8b b3
        obtain ⟨k, rfl, hk, hS9, hC9, hB9, hBx9, hK9⟩ := hrel
        have HBx8 := hid hBx9
        have HK9 := hid hK9
        have HS9 := hid hS9
        have HC9 := hid hC9
        have HB9 := hid hB9
        clear hS9 hC9 hB9 hBx9 hK9
        by_cases hlt : k < s.rules.length
        · obtain ⟨T0, hT0⟩ : ∃ T0, T0 = (s.rules.take k).foldl (SV.ask P ((i : Int), o)) T1 := ⟨_, rfl⟩
          rw [← hT0] at HS9 HC9 HB9
          obtain ⟨a1', a2', a3', c1', c2', c3', m1', m2', f1', vw', hh⟩ := HS9.out
          have Hreq := hid hh.req
          have hT0r : T0.rules = s.rules := by
            have := hh.req
            have h2 := hS0.out
            rw [← this, h2]
          have hrr := hh.rrow
          rw [hT0r] at hrr
          obtain ⟨gr, cr, hge⟩ := own_some hrr (by omega)
          simp only [Value.slice.injEq] at hge
          obtain ⟨rfl, -, rfl⟩ := hge
          have hrsl : rs.length = s.rules.length := by rw [← hS0.out, List.length_map]
          obtain ⟨x, hxk⟩ : ∃ x, rs[k]? = some x := ⟨_, List.getElem?_eq_getElem (by omega)⟩
          obtain ⟨q0, q1, q2, q3, q4⟩ := own_r hrr hxk
          have hI := hh.rargs x (List.mem_of_getElem? hxk)
          obtain ⟨aa, ca, hav, -⟩ := hI.form
          obtain ⟨r, xv⟩ := x
          simp only at hav q0 q1 q2 q3 q4 hI
          subst hav
          have hsk : s.rules[k]? = some r := by rw [← hS0.out, List.getElem?_map, hxk]; rfl
          have Hrv : Hid (r ∈ P.rulesV) := hid (Hru.out r (List.mem_of_getElem? hsk))
          have Hn : Hid ((s.rules.take (k + 1)).foldl (SV.ask P ((i : Int), o)) T1 = T0.ask P ((i : Int), o) r) := hid (by rw [List.take_add_one, hsk, List.foldl_append, hT0]; rfl)
          have HCn := hid (ask_step Hg.out Hc.out (f := ((i : Int), o)) Ho.out HC9.out HB9.out Hrv.out)
          have HA9 := hid (hI.keep (Keep.refl (fun _ => False) wr) (fun _ _ h => h) fun b hb => HF1.out b (HGF.out b hb))
          obtain ⟨V, hV⟩ : ∃ V, V = wr.alloc (.cells #[.string r.kind, .int .i64 r.a, .int .i64 r.b, .int .i64 r.k, .slice aa r.args.length ca] 86) := ⟨_, rfl⟩
          have HVe := hid hV
          have HVx : Hid (Ext wr V) := hid (by rw [hV]; exact (Ext.refl _).alloc _)
          have HBr : Hid (Blk V wr.heap.size #[.string r.kind, .int .i64 r.a, .int .i64 r.b, .int .i64 r.k, .slice aa r.args.length ca] 86) := hid (by rw [hV]; exact Blk.new _ _ _)
          have HBx9 := hid (HBx8.out.ext HVx.out)
          have hal : (r.args.length : Int) ≤ 9223372036854775807 := by obtain ⟨_, cap, h1, h2, h3, _⟩ := hI.form; omega
          have hks80 := hrsl80
          clear hh hrr hxk hI hsk hV hT0 hT0r hrsl
          cases hkl : (r.kind.toList == [108, 111, 97, 100]) with
          | true =>
            have Hfd : Hid (r.fired = true) := hid (by unfold RV.fired kLoad; rw [hkl]; rfl)
            by_cases hp : r.pivot = (i : Int)
            · have hpb : (r.pivot == (i : Int)) = true := by simpa using hp
              have Hsk : Hid (T0.ask P ((i : Int), o) r = T0.fire P r o) := hid (by unfold SV.ask; rw [Hfd.out, decide_eq_true hp]; rfl)
              have Hop : Hid (o ∈ S.getD r.pivot.toNat []) := hid (by rw [hp]; exact Ho.out)
              clear hp
              have HPv := fun w1 (x : Ext V w1) => hid (solvepivot_any r aa r.args.length ca w1)
              unfold RV.val at HPv
              have m0 := HBr.out.kc (X := fun _ => False) (fun e => e) 0 rfl
              have m1' := HBr.out.kc (X := fun _ => False) (fun e => e) 1 rfl
              have m2' := HBr.out.kc (X := fun _ => False) (fun e => e) 2 rfl
              have m3 := HBr.out.kc (X := fun _ => False) (fun e => e) 3 rfl
              have m4 := HBr.out.kc (X := fun _ => False) (fun e => e) 4 rfl
              have d0 := HBx9.out.kc (X := fun _ => False) (fun e => e) 0 rfl
              simp only [List.getElem_toArray, List.getElem_cons_zero, List.getElem_cons_succ] at m0 m1' m2' m3 m4 d0
              go_wp2
              rw [← HVe.out]
              refine wp_flowT (fun _ => False) (by kernel_rfl) (by kernel_rfl) ?_
              repeat (apply FlowT.d; (intro w1 hk; unfold does; go_simp; (try go_ints); (first | exact DetR.mk | (simp only [↓IntWalk.iteOmega, Oper.doesUpon_value]; exact DetR.mk) | (simp only [↓IntWalk.iteOmega]; go_simp; (try go_ints); exact DetR.mk))); simp only [Act.put, List.setIfInBounds_toArray, List.set_cons_zero, List.set_cons_succ])
              apply FlowT.d
              · intro w1 hk
                unfold does
                go_simp
                exact CallR.det ((HPv w1 hk.ext).out)
              simp only [Act.put, List.setIfInBounds_toArray, List.set_cons_zero, List.set_cons_succ]
              repeat (apply FlowT.d; (intro w1 hk; unfold does; go_simp; (try go_ints); (first | exact DetR.mk | (simp only [↓IntWalk.iteOmega, Oper.doesUpon_value]; exact DetR.mk) | (simp only [↓IntWalk.iteOmega]; go_simp; (try go_ints); exact DetR.mk))); simp only [Act.put, List.setIfInBounds_toArray, List.set_cons_zero, List.set_cons_succ])
              refine FlowT.fin fun w4 hC4 hk4 => ?_
              have Hx4 := hid (HVx.out.trans hC4)
              have HBr4 := hid (HBr.out.ext hC4)
              have HBx4 := hid (HBx9.out.ext hC4)
              have HS4 := hid (HS9.out.ext (HVx.out.trans hC4))
              have HF4 := hid (solvefire_any P S T0 r aa ca o w4 G F' g ad HS4.out HC9.out HB9.out Hg.out Hc.out Hrv.out Hfd.out Hop.out Hf2.out (HA9.out.keep ((HVx.out.trans hC4).keep fun _ => False) (fun _ _ h => h) fun _ h => h))
              unfold RV.val at HF4
              have n0 := HBr4.out.av 0 rfl
              have n1 := HBr4.out.av 1 rfl
              have n2 := HBr4.out.av 2 rfl
              have n3 := HBr4.out.av 3 rfl
              have n4 := HBr4.out.av 4 rfl
              have e1 := HBx4.out.av 1 rfl
              simp only [List.getElem_toArray, List.getElem_cons_zero, List.getElem_cons_succ] at n0 n1 n2 n3 n4 e1
              clear hC4 hk4 m0 m1' m2' m3 m4 d0 q0 q1 q2 q3 q4 HPv
              go_wp2_with fail
              refine HF4.out.mono ?_
              intro z w5 hx
              obtain ⟨rfl, hS5, hK5⟩ := hx
              have HS5 := hid hS5
              have HK5 := hid hK5
              clear hS5 hK5 HF4 n0 n1 n2 n3 n4 e1
              go_wp2
              go_roundw
              case rel =>
                refine ⟨k + 1, by go_num, by omega, ?_, ?_, ?_, ?_, ?_⟩
                · rw [Hn.out, Hsk.out]; exact HS5.out
                · rw [Hn.out]; exact HCn.out.1
                · rw [Hn.out]; exact HCn.out.2.1
                · exact HBx4.out.keep HK5.out fun hx => hx HFb.out
                · exact (HK9.out.ext_r Hx4.out).trans (HK5.out.mono fun b _ hx hF => hx (HF1.out b hF))
              case measure => simp [intOf]; omega
            · have hpb : (r.pivot == (i : Int)) = false := by simpa using hp
              have Hsk : Hid (T0.ask P ((i : Int), o) r = T0) := hid (by unfold SV.ask; rw [Hfd.out, decide_eq_false hp]; rfl)
              clear hp
              have HPv := fun w1 (x : Ext V w1) => hid (solvepivot_any r aa r.args.length ca w1)
              unfold RV.val at HPv
              have m0 := HBr.out.kc (X := fun _ => False) (fun e => e) 0 rfl
              have m1' := HBr.out.kc (X := fun _ => False) (fun e => e) 1 rfl
              have m2' := HBr.out.kc (X := fun _ => False) (fun e => e) 2 rfl
              have m3 := HBr.out.kc (X := fun _ => False) (fun e => e) 3 rfl
              have m4 := HBr.out.kc (X := fun _ => False) (fun e => e) 4 rfl
              have d0 := HBx9.out.kc (X := fun _ => False) (fun e => e) 0 rfl
              simp only [List.getElem_toArray, List.getElem_cons_zero, List.getElem_cons_succ] at m0 m1' m2' m3 m4 d0
              go_wp2
              rw [← HVe.out]
              refine wp_flowT (fun _ => False) (by kernel_rfl) (by kernel_rfl) ?_
              repeat (apply FlowT.d; (intro w1 hk; unfold does; go_simp; (try go_ints); (first | exact DetR.mk | (simp only [↓IntWalk.iteOmega, Oper.doesUpon_value]; exact DetR.mk) | (simp only [↓IntWalk.iteOmega]; go_simp; (try go_ints); exact DetR.mk))); simp only [Act.put, List.setIfInBounds_toArray, List.set_cons_zero, List.set_cons_succ])
              apply FlowT.d
              · intro w1 hk
                unfold does
                go_simp
                exact CallR.det ((HPv w1 hk.ext).out)
              simp only [Act.put, List.setIfInBounds_toArray, List.set_cons_zero, List.set_cons_succ]
              repeat (apply FlowT.d; (intro w1 hk; unfold does; go_simp; (try go_ints); (first | exact DetR.mk | (simp only [↓IntWalk.iteOmega, Oper.doesUpon_value]; exact DetR.mk) | (simp only [↓IntWalk.iteOmega]; go_simp; (try go_ints); exact DetR.mk))); simp only [Act.put, List.setIfInBounds_toArray, List.set_cons_zero, List.set_cons_succ])
              refine FlowT.fin fun w4 hC4 hk4 => ?_
              have Hx4 := hid (HVx.out.trans hC4)
              clear hC4 hk4 m0 m1' m2' m3 m4 d0 q0 q1 q2 q3 q4 HPv
              go_wp2
              go_roundw
              case rel =>
                refine ⟨k + 1, by go_num, by omega, ?_, ?_, ?_, ?_, ?_⟩
                · rw [Hn.out, Hsk.out]; exact HS9.out.ext Hx4.out
                · rw [Hn.out, Hsk.out]; exact HC9.out
                · rw [Hn.out, Hsk.out]; exact HB9.out
                · exact HBx8.out.ext Hx4.out
                · exact HK9.out.ext_r Hx4.out
              case measure => simp [intOf]; omega
          | false =>
          cases hks : (r.kind.toList == [115, 116, 111, 114, 101]) with
          | true =>
            have Hfd : Hid (r.fired = true) := hid (by unfold RV.fired kStore; rw [hks, Bool.or_true]; rfl)
            by_cases hp : r.pivot = (i : Int)
            · have hpb : (r.pivot == (i : Int)) = true := by simpa using hp
              have Hsk : Hid (T0.ask P ((i : Int), o) r = T0.fire P r o) := hid (by unfold SV.ask; rw [Hfd.out, decide_eq_true hp]; rfl)
              have Hop : Hid (o ∈ S.getD r.pivot.toNat []) := hid (by rw [hp]; exact Ho.out)
              clear hp
              have HPv := fun w1 (x : Ext V w1) => hid (solvepivot_any r aa r.args.length ca w1)
              unfold RV.val at HPv
              have m0 := HBr.out.kc (X := fun _ => False) (fun e => e) 0 rfl
              have m1' := HBr.out.kc (X := fun _ => False) (fun e => e) 1 rfl
              have m2' := HBr.out.kc (X := fun _ => False) (fun e => e) 2 rfl
              have m3 := HBr.out.kc (X := fun _ => False) (fun e => e) 3 rfl
              have m4 := HBr.out.kc (X := fun _ => False) (fun e => e) 4 rfl
              have d0 := HBx9.out.kc (X := fun _ => False) (fun e => e) 0 rfl
              simp only [List.getElem_toArray, List.getElem_cons_zero, List.getElem_cons_succ] at m0 m1' m2' m3 m4 d0
              go_wp2
              rw [← HVe.out]
              refine wp_flowT (fun _ => False) (by kernel_rfl) (by kernel_rfl) ?_
              repeat (apply FlowT.d; (intro w1 hk; unfold does; go_simp; (try go_ints); (first | exact DetR.mk | (simp only [↓IntWalk.iteOmega, Oper.doesUpon_value]; exact DetR.mk) | (simp only [↓IntWalk.iteOmega]; go_simp; (try go_ints); exact DetR.mk))); simp only [Act.put, List.setIfInBounds_toArray, List.set_cons_zero, List.set_cons_succ])
              apply FlowT.d
              · intro w1 hk
                unfold does
                go_simp
                exact CallR.det ((HPv w1 hk.ext).out)
              simp only [Act.put, List.setIfInBounds_toArray, List.set_cons_zero, List.set_cons_succ]
              repeat (apply FlowT.d; (intro w1 hk; unfold does; go_simp; (try go_ints); (first | exact DetR.mk | (simp only [↓IntWalk.iteOmega, Oper.doesUpon_value]; exact DetR.mk) | (simp only [↓IntWalk.iteOmega]; go_simp; (try go_ints); exact DetR.mk))); simp only [Act.put, List.setIfInBounds_toArray, List.set_cons_zero, List.set_cons_succ])
              refine FlowT.fin fun w4 hC4 hk4 => ?_
              have Hx4 := hid (HVx.out.trans hC4)
              have HBr4 := hid (HBr.out.ext hC4)
              have HBx4 := hid (HBx9.out.ext hC4)
              have HS4 := hid (HS9.out.ext (HVx.out.trans hC4))
              have HF4 := hid (solvefire_any P S T0 r aa ca o w4 G F' g ad HS4.out HC9.out HB9.out Hg.out Hc.out Hrv.out Hfd.out Hop.out Hf2.out (HA9.out.keep ((HVx.out.trans hC4).keep fun _ => False) (fun _ _ h => h) fun _ h => h))
              unfold RV.val at HF4
              have n0 := HBr4.out.av 0 rfl
              have n1 := HBr4.out.av 1 rfl
              have n2 := HBr4.out.av 2 rfl
              have n3 := HBr4.out.av 3 rfl
              have n4 := HBr4.out.av 4 rfl
              have e1 := HBx4.out.av 1 rfl
              simp only [List.getElem_toArray, List.getElem_cons_zero, List.getElem_cons_succ] at n0 n1 n2 n3 n4 e1
              clear hC4 hk4 m0 m1' m2' m3 m4 d0 q0 q1 q2 q3 q4 HPv
              go_wp2_with fail
              refine HF4.out.mono ?_
              intro z w5 hx
              obtain ⟨rfl, hS5, hK5⟩ := hx
              have HS5 := hid hS5
              have HK5 := hid hK5
              clear hS5 hK5 HF4 n0 n1 n2 n3 n4 e1
              go_wp2
              go_roundw
              case rel =>
                refine ⟨k + 1, by go_num, by omega, ?_, ?_, ?_, ?_, ?_⟩
                · rw [Hn.out, Hsk.out]; exact HS5.out
                · rw [Hn.out]; exact HCn.out.1
                · rw [Hn.out]; exact HCn.out.2.1
                · exact HBx4.out.keep HK5.out fun hx => hx HFb.out
                · exact (HK9.out.ext_r Hx4.out).trans (HK5.out.mono fun b _ hx hF => hx (HF1.out b hF))
              case measure => simp [intOf]; omega
            · have hpb : (r.pivot == (i : Int)) = false := by simpa using hp
              have Hsk : Hid (T0.ask P ((i : Int), o) r = T0) := hid (by unfold SV.ask; rw [Hfd.out, decide_eq_false hp]; rfl)
              clear hp
              have HPv := fun w1 (x : Ext V w1) => hid (solvepivot_any r aa r.args.length ca w1)
              unfold RV.val at HPv
              have m0 := HBr.out.kc (X := fun _ => False) (fun e => e) 0 rfl
              have m1' := HBr.out.kc (X := fun _ => False) (fun e => e) 1 rfl
              have m2' := HBr.out.kc (X := fun _ => False) (fun e => e) 2 rfl
              have m3 := HBr.out.kc (X := fun _ => False) (fun e => e) 3 rfl
              have m4 := HBr.out.kc (X := fun _ => False) (fun e => e) 4 rfl
              have d0 := HBx9.out.kc (X := fun _ => False) (fun e => e) 0 rfl
              simp only [List.getElem_toArray, List.getElem_cons_zero, List.getElem_cons_succ] at m0 m1' m2' m3 m4 d0
              go_wp2
              rw [← HVe.out]
              refine wp_flowT (fun _ => False) (by kernel_rfl) (by kernel_rfl) ?_
              repeat (apply FlowT.d; (intro w1 hk; unfold does; go_simp; (try go_ints); (first | exact DetR.mk | (simp only [↓IntWalk.iteOmega, Oper.doesUpon_value]; exact DetR.mk) | (simp only [↓IntWalk.iteOmega]; go_simp; (try go_ints); exact DetR.mk))); simp only [Act.put, List.setIfInBounds_toArray, List.set_cons_zero, List.set_cons_succ])
              apply FlowT.d
              · intro w1 hk
                unfold does
                go_simp
                exact CallR.det ((HPv w1 hk.ext).out)
              simp only [Act.put, List.setIfInBounds_toArray, List.set_cons_zero, List.set_cons_succ]
              repeat (apply FlowT.d; (intro w1 hk; unfold does; go_simp; (try go_ints); (first | exact DetR.mk | (simp only [↓IntWalk.iteOmega, Oper.doesUpon_value]; exact DetR.mk) | (simp only [↓IntWalk.iteOmega]; go_simp; (try go_ints); exact DetR.mk))); simp only [Act.put, List.setIfInBounds_toArray, List.set_cons_zero, List.set_cons_succ])
              refine FlowT.fin fun w4 hC4 hk4 => ?_
              have Hx4 := hid (HVx.out.trans hC4)
              clear hC4 hk4 m0 m1' m2' m3 m4 d0 q0 q1 q2 q3 q4 HPv
              go_wp2
              go_roundw
              case rel =>
                refine ⟨k + 1, by go_num, by omega, ?_, ?_, ?_, ?_, ?_⟩
                · rw [Hn.out, Hsk.out]; exact HS9.out.ext Hx4.out
                · rw [Hn.out, Hsk.out]; exact HC9.out
                · rw [Hn.out, Hsk.out]; exact HB9.out
                · exact HBx8.out.ext Hx4.out
                · exact HK9.out.ext_r Hx4.out
              case measure => simp [intOf]; omega
          | false =>
          cases hkc : (r.kind.toList == [99, 97, 108, 108]) with
          | true =>
            have Hfd : Hid (r.fired = true) := hid (by unfold RV.fired kCall; rw [hkc, Bool.or_true])
            by_cases hp : r.pivot = (i : Int)
            · have hpb : (r.pivot == (i : Int)) = true := by simpa using hp
              have Hsk : Hid (T0.ask P ((i : Int), o) r = T0.fire P r o) := hid (by unfold SV.ask; rw [Hfd.out, decide_eq_true hp]; rfl)
              have Hop : Hid (o ∈ S.getD r.pivot.toNat []) := hid (by rw [hp]; exact Ho.out)
              clear hp
              have HPv := fun w1 (x : Ext V w1) => hid (solvepivot_any r aa r.args.length ca w1)
              unfold RV.val at HPv
              have m0 := HBr.out.kc (X := fun _ => False) (fun e => e) 0 rfl
              have m1' := HBr.out.kc (X := fun _ => False) (fun e => e) 1 rfl
              have m2' := HBr.out.kc (X := fun _ => False) (fun e => e) 2 rfl
              have m3 := HBr.out.kc (X := fun _ => False) (fun e => e) 3 rfl
              have m4 := HBr.out.kc (X := fun _ => False) (fun e => e) 4 rfl
              have d0 := HBx9.out.kc (X := fun _ => False) (fun e => e) 0 rfl
              simp only [List.getElem_toArray, List.getElem_cons_zero, List.getElem_cons_succ] at m0 m1' m2' m3 m4 d0
              go_wp2
              rw [← HVe.out]
              refine wp_flowT (fun _ => False) (by kernel_rfl) (by kernel_rfl) ?_
              repeat (apply FlowT.d; (intro w1 hk; unfold does; go_simp; (try go_ints); (first | exact DetR.mk | (simp only [↓IntWalk.iteOmega, Oper.doesUpon_value]; exact DetR.mk) | (simp only [↓IntWalk.iteOmega]; go_simp; (try go_ints); exact DetR.mk))); simp only [Act.put, List.setIfInBounds_toArray, List.set_cons_zero, List.set_cons_succ])
              apply FlowT.d
              · intro w1 hk
                unfold does
                go_simp
                exact CallR.det ((HPv w1 hk.ext).out)
              simp only [Act.put, List.setIfInBounds_toArray, List.set_cons_zero, List.set_cons_succ]
              repeat (apply FlowT.d; (intro w1 hk; unfold does; go_simp; (try go_ints); (first | exact DetR.mk | (simp only [↓IntWalk.iteOmega, Oper.doesUpon_value]; exact DetR.mk) | (simp only [↓IntWalk.iteOmega]; go_simp; (try go_ints); exact DetR.mk))); simp only [Act.put, List.setIfInBounds_toArray, List.set_cons_zero, List.set_cons_succ])
              refine FlowT.fin fun w4 hC4 hk4 => ?_
              have Hx4 := hid (HVx.out.trans hC4)
              have HBr4 := hid (HBr.out.ext hC4)
              have HBx4 := hid (HBx9.out.ext hC4)
              have HS4 := hid (HS9.out.ext (HVx.out.trans hC4))
              have HF4 := hid (solvefire_any P S T0 r aa ca o w4 G F' g ad HS4.out HC9.out HB9.out Hg.out Hc.out Hrv.out Hfd.out Hop.out Hf2.out (HA9.out.keep ((HVx.out.trans hC4).keep fun _ => False) (fun _ _ h => h) fun _ h => h))
              unfold RV.val at HF4
              have n0 := HBr4.out.av 0 rfl
              have n1 := HBr4.out.av 1 rfl
              have n2 := HBr4.out.av 2 rfl
              have n3 := HBr4.out.av 3 rfl
              have n4 := HBr4.out.av 4 rfl
              have e1 := HBx4.out.av 1 rfl
              simp only [List.getElem_toArray, List.getElem_cons_zero, List.getElem_cons_succ] at n0 n1 n2 n3 n4 e1
              clear hC4 hk4 m0 m1' m2' m3 m4 d0 q0 q1 q2 q3 q4 HPv
              go_wp2_with fail
              refine HF4.out.mono ?_
              intro z w5 hx
              obtain ⟨rfl, hS5, hK5⟩ := hx
              have HS5 := hid hS5
              have HK5 := hid hK5
              clear hS5 hK5 HF4 n0 n1 n2 n3 n4 e1
              go_wp2
              go_roundw
              case rel =>
                refine ⟨k + 1, by go_num, by omega, ?_, ?_, ?_, ?_, ?_⟩
                · rw [Hn.out, Hsk.out]; exact HS5.out
                · rw [Hn.out]; exact HCn.out.1
                · rw [Hn.out]; exact HCn.out.2.1
                · exact HBx4.out.keep HK5.out fun hx => hx HFb.out
                · exact (HK9.out.ext_r Hx4.out).trans (HK5.out.mono fun b _ hx hF => hx (HF1.out b hF))
              case measure => simp [intOf]; omega
            · have hpb : (r.pivot == (i : Int)) = false := by simpa using hp
              have Hsk : Hid (T0.ask P ((i : Int), o) r = T0) := hid (by unfold SV.ask; rw [Hfd.out, decide_eq_false hp]; rfl)
              clear hp
              have HPv := fun w1 (x : Ext V w1) => hid (solvepivot_any r aa r.args.length ca w1)
              unfold RV.val at HPv
              have m0 := HBr.out.kc (X := fun _ => False) (fun e => e) 0 rfl
              have m1' := HBr.out.kc (X := fun _ => False) (fun e => e) 1 rfl
              have m2' := HBr.out.kc (X := fun _ => False) (fun e => e) 2 rfl
              have m3 := HBr.out.kc (X := fun _ => False) (fun e => e) 3 rfl
              have m4 := HBr.out.kc (X := fun _ => False) (fun e => e) 4 rfl
              have d0 := HBx9.out.kc (X := fun _ => False) (fun e => e) 0 rfl
              simp only [List.getElem_toArray, List.getElem_cons_zero, List.getElem_cons_succ] at m0 m1' m2' m3 m4 d0
              go_wp2
              rw [← HVe.out]
              refine wp_flowT (fun _ => False) (by kernel_rfl) (by kernel_rfl) ?_
              repeat (apply FlowT.d; (intro w1 hk; unfold does; go_simp; (try go_ints); (first | exact DetR.mk | (simp only [↓IntWalk.iteOmega, Oper.doesUpon_value]; exact DetR.mk) | (simp only [↓IntWalk.iteOmega]; go_simp; (try go_ints); exact DetR.mk))); simp only [Act.put, List.setIfInBounds_toArray, List.set_cons_zero, List.set_cons_succ])
              apply FlowT.d
              · intro w1 hk
                unfold does
                go_simp
                exact CallR.det ((HPv w1 hk.ext).out)
              simp only [Act.put, List.setIfInBounds_toArray, List.set_cons_zero, List.set_cons_succ]
              repeat (apply FlowT.d; (intro w1 hk; unfold does; go_simp; (try go_ints); (first | exact DetR.mk | (simp only [↓IntWalk.iteOmega, Oper.doesUpon_value]; exact DetR.mk) | (simp only [↓IntWalk.iteOmega]; go_simp; (try go_ints); exact DetR.mk))); simp only [Act.put, List.setIfInBounds_toArray, List.set_cons_zero, List.set_cons_succ])
              refine FlowT.fin fun w4 hC4 hk4 => ?_
              have Hx4 := hid (HVx.out.trans hC4)
              clear hC4 hk4 m0 m1' m2' m3 m4 d0 q0 q1 q2 q3 q4 HPv
              go_wp2
              go_roundw
              case rel =>
                refine ⟨k + 1, by go_num, by omega, ?_, ?_, ?_, ?_, ?_⟩
                · rw [Hn.out, Hsk.out]; exact HS9.out.ext Hx4.out
                · rw [Hn.out, Hsk.out]; exact HC9.out
                · rw [Hn.out, Hsk.out]; exact HB9.out
                · exact HBx8.out.ext Hx4.out
                · exact HK9.out.ext_r Hx4.out
              case measure => simp [intOf]; omega
          | false =>
            have Hfd : Hid (r.fired = false) := hid (by unfold RV.fired kLoad kStore kCall; rw [hkl, hks, hkc]; rfl)
            have Hsk : Hid (T0.ask P ((i : Int), o) r = T0) := hid (by unfold SV.ask; rw [Hfd.out]; rfl)
            have HPv := fun w1 (x : Ext V w1) => hid (solvepivot_any r aa r.args.length ca w1)
            unfold RV.val at HPv
            have m0 := HBr.out.kc (X := fun _ => False) (fun e => e) 0 rfl
            have m1' := HBr.out.kc (X := fun _ => False) (fun e => e) 1 rfl
            have m2' := HBr.out.kc (X := fun _ => False) (fun e => e) 2 rfl
            have m3 := HBr.out.kc (X := fun _ => False) (fun e => e) 3 rfl
            have m4 := HBr.out.kc (X := fun _ => False) (fun e => e) 4 rfl
            have d0 := HBx9.out.kc (X := fun _ => False) (fun e => e) 0 rfl
            simp only [List.getElem_toArray, List.getElem_cons_zero, List.getElem_cons_succ] at m0 m1' m2' m3 m4 d0
            go_wp2
            rw [← HVe.out]
            refine wp_flowT (fun _ => False) (by kernel_rfl) (by kernel_rfl) ?_
            repeat (apply FlowT.d; (intro w1 hk; unfold does; go_simp; (try go_ints); (first | exact DetR.mk | (simp only [↓IntWalk.iteOmega, Oper.doesUpon_value]; exact DetR.mk) | (simp only [↓IntWalk.iteOmega]; go_simp; (try go_ints); exact DetR.mk))); simp only [Act.put, List.setIfInBounds_toArray, List.set_cons_zero, List.set_cons_succ])
            refine FlowT.fin fun w4 hC4 hk4 => ?_
            have Hx4 := hid (HVx.out.trans hC4)
            clear hC4 hk4 m0 m1' m2' m3 m4 d0 q0 q1 q2 q3 q4 HPv
            go_wp2
            go_roundw
            case rel =>
              refine ⟨k + 1, by go_num, by omega, ?_, ?_, ?_, ?_, ?_⟩
              · rw [Hn.out, Hsk.out]; exact HS9.out.ext Hx4.out
              · rw [Hn.out, Hsk.out]; exact HC9.out
              · rw [Hn.out, Hsk.out]; exact HB9.out
              · exact HBx8.out.ext Hx4.out
              · exact HK9.out.ext_r Hx4.out
            case measure => simp [intOf]; omega
        · obtain rfl : k = s.rules.length := by omega
          rw [List.take_length] at HS9
          have Hce : Hid (s.came P ((i : Int), o) = s.rules.foldl (SV.ask P ((i : Int), o)) T1) := hid (by rw [came_ask, HTe.out])
          go_wp2
          go_end0
          exact ⟨rfl, by rw [Hce.out]; exact HS9.out.less HGF2.out HF1.out, HK9.out⟩
end Go.Proofs.YtdppgcbekhabnaaGreatDoor



/- The solver, plainly: how much is to come stays little. -/
namespace Go.Proofs.YtdppgcbekhabnaaGreatDoor
set_option linter.unusedSimpArgs false
set_option linter.unusedVariables false
open Go Go.RowKit

section
variable {P : PP} {S : List (List Int)} {s : SV}
/-- Rules are asked, one after another. -/
theorem asks_fold (hg : P.GoodS S) (hc : ClosedP P S) {f : Int × Int} (hf : f.2 ∈ S.getD f.1.toNat []) : ∀ (l : List RV) {s : SV}, Core P S s → s.Bnd P → (∀ r ∈ l, r ∈ P.rulesV) → Core P S (l.foldl (SV.ask P f) s) ∧ (l.foldl (SV.ask P f) s).Bnd P ∧ (l.foldl (SV.ask P f) s).rules = s.rules
  | [], _, h, b, _ => ⟨h, b, rfl⟩
  | r :: l, _, h, b, hr => by
    obtain ⟨k1, k2, k3⟩ := ask_step hg hc hf h b (hr r List.mem_cons_self)
    obtain ⟨j1, j2, j3⟩ := asks_fold hg hc hf l k1 k2 fun q hq => hr q (List.mem_cons_of_mem _ hq)
    exact ⟨j1, j2, j3.trans k3⟩
theorem wait_fact (hg : P.GoodS S) (h : Full P S s) {f : Int × Int} {r : List (Int × Int)} (hw : s.wait = f :: r) : ((0 ≤ f.1 ∧ f.1 < P.nodesV) ∧ f.2 ∈ S.getD f.1.toNat []) ∧ 0 ≤ f.2 ∧ f.2 < P.objectsV := by
  have hm : f ∈ s.wait := by rw [hw]; exact List.mem_cons_self
  exact ⟨h.core.wait f hm, (wait_in hg h.core f hm).2⟩
theorem mark_tot (hg : P.GoodS S) (h : Full P S s) (hr : s.ready) {f : Int × Int} {r : List (Int × Int)} (hw : s.wait = f :: r) : (s.mark f).tot P = s.tot P + 1 := by
  obtain ⟨hf, h2⟩ := wait_fact hg h hw
  have hl1 : f.1.toNat < s.has.length := by rw [h.core.len]; omega
  refine tot_mark h.core.len hf.1 ⟨h2.1, ?_⟩ (hr f r hw)
  rw [List.getD_eq_getElem?_getD, List.getElem?_eq_getElem hl1]
  have := h.core.row _ (List.getElem_mem hl1)
  show f.2.toNat < (s.has[f.1.toNat]).length
  omega
theorem told1_bnd (hg : P.GoodS S) (h : Full P S s) (b : s.Bnd P) (hr : s.ready) {f : Int × Int} {r : List (Int × Int)} (hw : s.wait = f :: r) : ((s.mark f).told1 f).Bnd P := by
  have e : ((s.mark f).told1 f).tot P = s.tot P + 1 := by rw [← mark_tot hg h hr hw]; exact tot_has rfl
  refine ⟨b.nd, b.ru, ?_⟩
  rw [e]
  have h1 : (s.succ f.1).length ≤ 14400 := Nat.le_trans (succ_few s f.1) (h.core.edges_few hg.1 b.nd)
  have h2 := b.le
  show (s.wait ++ (s.succ f.1).map fun t => (t, f.2)).length ≤ s.rules.length + s.edges.length * P.objectsV + _
  rw [List.length_append, List.length_map]
  omega
theorem bnd_came (hg : P.GoodS S) (hc : ClosedP P S) (h : Full P S s) (b : s.Bnd P) (hr : s.ready) {f : Int × Int} {r : List (Int × Int)} (hw : s.wait = f :: r) : ((s.mark f).came P f).Bnd P := by
  obtain ⟨hf, h2⟩ := wait_fact hg h hw
  rw [came_ask]
  exact (asks_fold hg hc hf.2 _ (h.marked hg hf h2) (told1_bnd hg h b hr hw) fun q hq => h.of q hq).2.1
theorem bnd_clean (b : s.Bnd P) : s.clean.Bnd P := by
  refine ⟨b.nd, b.ru, ?_⟩
  rw [tot_has (clean_has s)]
  refine Nat.le_trans ?_ b.le
  exact (List.dropWhile_suffix s.bit).length_le
theorem bnd_one (hg : P.GoodS S) (hc : ClosedP P S) (h : Full P S s) (b : s.Bnd P) (hr : s.ready) : (s.one P).Bnd P := by
  cases hw : s.wait with
  | nil =>
    have e : s.one P = s := by unfold SV.one; rw [hw]
    rw [e]; exact b
  | cons f r =>
    have e : s.one P = ((s.mark f).came P f).clean := by unfold SV.one; rw [hw]
    rw [e]
    exact bnd_clean (bnd_came hg hc h b hr hw)
theorem one_at {f : Int × Int} {r : List (Int × Int)} (hw : s.wait = f :: r) : s.one P = ((s.mark f).came P f).clean := by unfold SV.one; rw [hw]
/-- So many facts, out of a number: from what is let go on. -/
def SV.step (P : PP) (s : SV) (n : Int) : SV × Nat := s.clean.steps P n.toNat
theorem steps_nil (P : PP) : ∀ (k : Nat) {s : SV}, s.wait = [] → s.steps P k = (s, 0)
  | 0, _, _ => rfl
  | k + 1, _, h => by unfold SV.steps; rw [h]
theorem steps_cons (P : PP) (k : Nat) {s : SV} {f : Int × Int} {r : List (Int × Int)} (h : s.wait = f :: r) : s.steps P (k + 1) = (((s.one P).steps P k).1, ((s.one P).steps P k).2 + 1) := by
  conv => lhs; unfold SV.steps
  rw [h]
theorem steps_bnd (hg : P.GoodS S) (hc : ClosedP P S) : ∀ (k : Nat) {s : SV}, Full P S s → s.Bnd P → s.ready → (s.steps P k).1.Bnd P
  | 0, _, _, b, _ => b
  | k + 1, s, h, b, hr => by
    cases hw : s.wait with
    | nil => rw [steps_nil P _ hw]; exact b
    | cons f r =>
      rw [steps_cons P k hw]
      obtain ⟨k1, k2, _⟩ := h.one hg hc hr hw
      exact steps_bnd hg hc k k1 (bnd_one hg hc h b hr) k2
/-- A solver that is as it should be. -/
structure SolvOk (P : PP) (S : List (List Int)) (s : SV) : Prop where
  full : Full P S s
  bnd : s.Bnd P
theorem SolvOk.clean (h : SolvOk P S s) : SolvOk P S s.clean := ⟨h.full.cleaned, bnd_clean h.bnd⟩
theorem SolvOk.step (hg : P.GoodS S) (hc : ClosedP P S) (h : SolvOk P S s) (n : Int) :
    SolvOk P S (s.step P n).1 ∧ (s.step P n).1.ready ∧ (s.step P n).1.rules = s.rules ∧ (s.step P n).1.tot P = s.tot P + (s.step P n).2 ∧ (s.step P n).2 ≤ n.toNat ∧ ((s.step P n).2 < n.toNat → (s.step P n).1.wait = []) := by
  obtain ⟨k1, k2, k3, k4, k5, k6⟩ := steps_keep hg hc n.toNat h.full.cleaned (clean_ready s)
  exact ⟨⟨k1, steps_bnd hg hc _ h.full.cleaned (bnd_clean h.bnd) (clean_ready s)⟩, k2, k3, by rw [← tot_has (clean_has s)]; exact k4, k5, k6⟩
/-- What is ready stands as it is. -/
theorem clean_idem (h : s.ready) : s.clean = s := by
  unfold SV.clean
  cases hw : s.wait with
  | nil => cases s; simp only at hw; subst hw; rfl
  | cons f r =>
    have e := h f r hw
    rw [List.dropWhile_cons, e]
    cases s; simp only at hw; subst hw; rfl
theorem tot_all (hg : P.GoodS S) (h : Core P S s) : s.tot P ≤ 15120 := tot_few hg.1 h
end
end Go.Proofs.YtdppgcbekhabnaaGreatDoor

