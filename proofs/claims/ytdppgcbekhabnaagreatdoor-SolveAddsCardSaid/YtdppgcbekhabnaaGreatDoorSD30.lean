/- Texts of one proof, put together: WM M2 T9 X9 ZZC ZZD ZZ8 Z8 Z9 ZA ZC. -/
import Derived.Test.YtdppgcbekhabnaaGreatDoorSD13
import Derived.Test.YtdppgcbekhabnaaGreatDoorSD15
import Derived.Test.YtdppgcbekhabnaaGreatDoorSD16
import Derived.Test.YtdppgcbekhabnaaGreatDoorSD17
import Derived.Test.YtdppgcbekhabnaaGreatDoorSD20
import Derived.Test.YtdppgcbekhabnaaGreatDoorSD23
import Derived.Test.YtdppgcbekhabnaaGreatDoorSD25
import Derived.Test.YtdppgcbekhabnaaGreatDoorSD28
import Derived.Test.YtdppgcbekhabnaaGreatDoorSD29

namespace Go.Proofs.YtdppgcbekhabnaaGreatDoor
set_option linter.unusedSimpArgs false
set_option linter.unusedVariables false
open Go Go.RowKit

theorem rfprog_all (a1 a2 a3 : Option Addr) (c1 c2 c3 : Nat) (P : PP) (w : World) (h : ProgR w w.heap.size (.slice a1 P.vars.length c1) (.slice a2 P.funs.length c2) (.slice a3 P.stmts.length c3) P)
    (hz1 : ∀ s ∈ P.vars, s.size ≤ 1000000) (hz2 : ∀ s ∈ P.names, s.size ≤ 1000000) :
    Calls Tryz.prog 13 #[pval a1 a2 a3 c1 c2 c3 P] w fun e w' => Ext w w' ∧ ∃ (c : Nat) (p : Int), e = .returned (.agg #[.int .i64 (c : Int), .int .i64 p]) ∧ FaultIs P c p := by
  cases hb : P.big with
  | true => exact rfprog_big a1 a2 a3 c1 c2 c3 P w h hz1 hz2 hb
  | false => exact rfprog_no a1 a2 a3 c1 c2 c3 P w h hz1 hz2 hb
end Go.Proofs.YtdppgcbekhabnaaGreatDoor



namespace Go.Proofs.YtdppgcbekhabnaaGreatDoor
set_option linter.unusedSimpArgs false
set_option linter.unusedVariables false
open Go Go.RowKit

end Go.Proofs.YtdppgcbekhabnaaGreatDoor



namespace Go.Proofs.YtdppgcbekhabnaaGreatDoor
set_option linter.unusedSimpArgs false
set_option linter.unusedVariables false
open Go Go.RowKit

theorem SFaultIs.uniq {P : PP} {has : List (List Int)} {c d : Nat} {p q : Int} (h : SFaultIs P has c p) (g : SFaultIs P has d q) : c = d ∧ p = q := by
  rcases h with ⟨h1, h2, h3⟩ | ⟨h1, h2, h3, h4⟩ | ⟨h1, i, l, h2, h3, h4, h5, h6⟩ <;> rcases g with ⟨g1, g2, g3⟩ | ⟨g1, g2, g3, g4⟩ | ⟨g1, j, m, g2, g3, g4, g5, g6⟩
  · exact ⟨h2.trans g2.symm, h3.trans g3.symm⟩
  · exact absurd g1 h1
  · exact absurd g1 h1
  · exact absurd h1 g1
  · exact ⟨h3.trans g3.symm, h4.trans g4.symm⟩
  · exact absurd (h2 m (List.mem_of_getElem? g2)) g3
  · exact absurd h1 g1
  · exact absurd (g2 l (List.mem_of_getElem? h2)) h3
  · have hij : i = j := by
      rcases Nat.lt_trichotomy i j with k | k | k
      · exact absurd (g4 i l k h2) h3
      · exact k
      · exact absurd (h4 j m k g2) g3
    subst hij
    obtain rfl := Option.some.inj (h2.symm.trans g2)
    exact ⟨h5.trans g5.symm, h6.trans g6.symm⟩
end Go.Proofs.YtdppgcbekhabnaaGreatDoor



namespace Go.Proofs.YtdppgcbekhabnaaGreatDoor
set_option linter.unusedSimpArgs false
set_option linter.unusedVariables false
open Go Go.RowKit

theorem SetsIs.ext {ad : Nat → Addr} {P : PP} {has : List (List Int)} {w w' : World} {v : Value} (h : SetsIs ad P has w v) (x : Ext w w') : SetsIs ad P has w' v := by
  rcases h with h | h | ⟨h1, i, l, b, h2, h3, h4, h5, h6⟩
  · exact .inl h
  · exact .inr (.inl h)
  · exact .inr (.inr ⟨h1, i, l, b, h2, h3, h4, h5, h6.ext x⟩)
end Go.Proofs.YtdppgcbekhabnaaGreatDoor



namespace Go.Proofs.YtdppgcbekhabnaaGreatDoor
set_option linter.unusedSimpArgs false
set_option linter.unusedVariables false
open Go Go.RowKit

set_option maxRecDepth 100000 in
theorem bare_at {w : World} {b : Nat} {v0 : Value} {ad : Nat → Addr} {c : Nat} (hb : Blk w b #[v0, evOf ad c] 120) : Calls Tryz.prog 65 #[.iface 118 (.pointer (some ⟨b, 0, none⟩))] w fun e w' => e = .returned (evOf ad c) ∧ Ext w w' := by
  have c1 := hb.av 1 rfl
  simp only [List.getElem_toArray, List.getElem_cons_zero, List.getElem_cons_succ] at c1
  have hta : ∀ v w1, (Instr.typeAssert (.iface 118 v) 32 118 true).run Tryz.prog w1 = .ok (.tuple #[v, .bool true]) w1 := fun v w1 => by kernel_rfl
  unfold evOf at c1 ⊢
  go_enter Tryz.func65, Tryz.ntmps65
  go_wp2
  go_ret
  exact ⟨rfl, Ext.refl _⟩
theorem plus_err1 {P : PP} {x : PS} (hw : P.Well) (h80 : P.stmts.length + 1 ≤ 80) : (P.plus x).err1 = 0 := by
  obtain ⟨f1, f2, f3⟩ := hw.few
  have h1 := hw.1
  have e1 : P.big = false := by
    unfold PP.big
    rw [decide_eq_false (by omega), decide_eq_false (by omega), decide_eq_false (by omega)]
    rfl
  have e2 : (P.plus x).big = false := by
    unfold PP.big
    rw [plus_len]
    unfold PP.plus
    dsimp only
    rw [decide_eq_false (by omega), decide_eq_false (by omega), decide_eq_false (by omega)]
    rfl
  unfold PP.err1 at h1 ⊢
  rw [e2]
  rw [e1] at h1
  exact h1
theorem plus_bad {P : PP} {x y : PS} {i : Nat} (hw : P.Well) (hf : (P.plus x).FirstBad i y) : y = x := by
  obtain ⟨h1, h2, _⟩ := hf
  have h1 : (P.stmts ++ [x])[i]? = some y := h1
  rcases Nat.lt_trichotomy i P.stmts.length with g | g | g
  · rw [List.getElem?_append_left g] at h1
    exact absurd (hw.2 i y g h1) h2
  · subst g
    rw [List.getElem?_concat_length] at h1
    exact (Option.some.inj h1).symm
  · rw [List.getElem?_eq_none (by rw [List.length_append, List.length_singleton]; omega)] at h1; cases h1
theorem plus_not {P : PP} {x : PS} (hc : P.stmtErr x ≠ 0) : ¬ (P.plus x).Well := fun h => by
  have := h.2 P.stmts.length x (by rw [plus_len]; omega) (by show (P.stmts ++ [x])[P.stmts.length]? = some x; rw [List.getElem?_concat_length])
  exact hc this
theorem plus_errIs {P : PP} {x : PS} {ad : Nat → Addr} {w : World} {v : Value} (hw : P.Well) (h80 : P.stmts.length + 1 ≤ 80) (hc : P.stmtErr x ≠ 0) (h : ErrIs ad (P.plus x) w v) : ∃ b i, v = .iface 118 (.pointer (some ⟨b, 0, none⟩)) ∧ Blk w b #[i, evOf ad (P.stmtErr x)] 120 := by
  rcases h with ⟨h1, _⟩ | ⟨h1, h2, _⟩ | ⟨h1, i, y, b, h2, h3, h4⟩
  · exact absurd (plus_err1 hw h80) h1
  · exact absurd ⟨h1, h2⟩ (plus_not hc)
  · obtain rfl := plus_bad hw h2
    exact ⟨b, _, h3, h4⟩
theorem plus_faultIs {P : PP} {x : PS} {c : Nat} {p : Int} (hw : P.Well) (h80 : P.stmts.length + 1 ≤ 80) (hc : P.stmtErr x ≠ 0) (h : FaultIs (P.plus x) c p) : c = P.stmtErr x := by
  rcases h with ⟨h1, _⟩ | ⟨h1, h2, _⟩ | ⟨h1, i, y, h2, h3, _⟩
  · exact absurd (plus_err1 hw h80) h1
  · exact absurd ⟨h1, h2⟩ (plus_not hc)
  · obtain rfl := plus_bad hw h2
    exact h3
set_option maxRecDepth 100000 in
theorem solveadd_new (x : PS) (aa : Option Addr) (ca : Nat) (w : World) (g : Nat) (ad : Nat → Addr) (hm : x.isK kNew = true) (hE : ErrsP w ad) : Calls Tryz.prog 30 #[.pointer (some ⟨g, 0, none⟩), sval x aa ca] w fun e w' => e = .returned (evOf ad 4) ∧ Ext w w' := by
  obtain ⟨W0, hW0⟩ : ∃ W0, W0 = w.alloc (.cells (scells x aa ca) 65) := ⟨_, rfl⟩
  have HX0 : Hid (Ext w W0) := hid (by rw [hW0]; exact (Ext.refl _).alloc _)
  have hBs : Blk W0 w.heap.size (scells x aa ca) 65 := by rw [hW0]; exact Blk.new _ _ _
  have HW0 : Hid (W0 = w.alloc (.cells #[.string x.kind, .int .i64 x.x, .int .i64 x.y, .slice aa x.args.length ca] 65)) := hid (by rw [hW0]; rfl)
  have m0 := hBs.av 0 rfl
  have e4 := (hE.ext HX0.out).at4
  have hkb : (x.kind.toList == [110, 101, 119]) = true := hm
  simp only [scells, List.getElem_toArray, List.getElem_cons_zero, List.getElem_cons_succ] at m0
  rw [HW0.out] at m0 e4
  unfold sval evOf
  clear hW0 hBs hE hm
  go_enter Tryz.func30, Tryz.ntmps30
  go_wp2
  rw [← HW0.out]
  go_ret
  exact ⟨rfl, HX0.out⟩
set_option maxRecDepth 100000 in
set_option maxHeartbeats 12800000 in
theorem solveadd_no (P : PP) (s : SV) (x : PS) (aa : Option Addr) (ca : Nat) (w : World) (G F : Nat → Prop) (g : Nat) (ad : Nat → Addr) {vr : Value} {rs : List R2} {vh : Value} {hs : List Value} (hS : SolvAt w G F g ad P vr rs vh hs s) (hm : x.isK kNew = false) (hc : P.stmtErr x ≠ 0) (h80 : P.stmts.length + 1 ≤ 80) (hsm : P.Small) (hal : x.args.length ≤ 8) (ha : IntsR w w.heap.size (.slice aa x.args.length ca) x.args) :
    Calls Tryz.prog 30 #[.pointer (some ⟨g, 0, none⟩), sval x aa ca] w fun e w' => e = .returned (evOf ad (P.stmtErr x)) ∧ Ext w w' := by
  have hkb : (x.kind.toList == [110, 101, 119]) = false := hm
  have Hc := hid hc
  clear hm hc
  obtain ⟨a1, a2, a3, c1, c2, c3, m1, m2, f1, vw, h⟩ := hS
  obtain ⟨W0, hW0⟩ : ∃ W0, W0 = w.alloc (.cells (scells x aa ca) 65) := ⟨_, rfl⟩
  have HX0 : Hid (Ext w W0) := hid (by rw [hW0]; exact (Ext.refl _).alloc _)
  have HBs : Hid (Blk W0 w.heap.size (scells x aa ca) 65) := hid (by rw [hW0]; exact Blk.new _ _ _)
  have HW0 : Hid (W0 = w.alloc (.cells #[.string x.kind, .int .i64 x.x, .int .i64 x.y, .slice aa x.args.length ca] 65)) := hid (by rw [hW0]; rfl)
  have Hs0 : Hid (W0.heap.size = w.heap.size + 1) := hid (by rw [hW0, heap_size_alloc])
  have Hh := hid h
  have HS0 := hid (h.ext HX0.out)
  have HA := hid ha
  have Hsm := hid hsm
  have m0 := HBs.out.av 0 rfl
  have m1' := HBs.out.av 1 rfl
  have m2' := HBs.out.av 2 rfl
  have m3 := HBs.out.av 3 rfl
  simp only [scells, List.getElem_toArray, List.getElem_cons_zero, List.getElem_cons_succ] at m0 m1' m2' m3
  unfold sval
  have HCp := hid (solvecopied_new a1 a2 a3 c1 c2 c3 P W0 HS0.out.pw.pw.prog Hsm.out)
  have b0 := HS0.out.blk.av 0 rfl
  have b1 := HS0.out.blk.av 1 rfl
  have b2 := HS0.out.blk.av 2 rfl
  simp only [solvCells, List.getElem_toArray, List.getElem_cons_zero, List.getElem_cons_succ] at b0 b1 b2
  rw [HW0.out] at m0 m1' m2' m3 b0 b1 b2
  unfold pval at HCp
  clear hW0 h ha hsm
  go_enter Tryz.func30, Tryz.ntmps30
  go_wp2_with fail
  rw [← HW0.out]
  refine HCp.out.mono ?_
  intro e w2 hx
  obtain ⟨hx2, q1, q2, q3, e1, e2, e3, fs, ss, rfl, hcp⟩ := hx
  obtain ⟨W3, hW3⟩ : ∃ W3, W3 = w2.alloc (.cells #[.slice q1 P.vars.length e1, .slice q2 P.funs.length e2, .slice q3 P.stmts.length e3] 26) := ⟨_, rfl⟩
  have hx3 : Ext w2 W3 := by rw [hW3]; exact (Ext.refl _).alloc _
  have HW3 := hid hW3
  have HX3 := hid (HX0.out.trans (hx2.trans hx3))
  have HBt : Hid (Blk W3 w2.heap.size #[.slice q1 P.vars.length e1, .slice q2 P.funs.length e2, .slice q3 P.stmts.length e3] 26) := hid (by rw [hW3]; exact Blk.new _ _ _)
  have Hc3 := hid (hcp.ext hx3)
  have HCl := hid (clone_big (.slice aa x.args.length ca) x.args W3 w.heap.size (HA.out.old (HX3.out.old _)) (by omega))
  have Hs2 : Hid (W0.heap.size ≤ w2.heap.size) := hid hx2.size
  have n0 := (HBs.out.ext (hx2.trans hx3)).av 0 rfl
  have n1 := (HBs.out.ext (hx2.trans hx3)).av 1 rfl
  have n2 := (HBs.out.ext (hx2.trans hx3)).av 2 rfl
  have n3 := (HBs.out.ext (hx2.trans hx3)).av 3 rfl
  simp only [scells, List.getElem_toArray, List.getElem_cons_zero, List.getElem_cons_succ] at n0 n1 n2 n3
  rw [HW3.out] at n0 n1 n2 n3
  have HBs3 := hid (HBs.out.ext (hx2.trans hx3))
  clear HCp hx2 hx3 hcp hW3 m0 m1' m2' m3 b0 b1 b2
  go_wp2_with fail
  rw [← HW3.out]
  refine HCl.out.mono ?_
  intro e w4 hx
  obtain ⟨v4, rfl, hx4, hr4⟩ := hx
  obtain ⟨a4, c4, rfl⟩ := hr4.form
  have hB4 := HBs3.out.ext hx4
  unfold scells at hB4
  have z0 := hB4.av 0 rfl
  have z1 := hB4.av 1 rfl
  have z2 := hB4.av 2 rfl
  have z3 := hB4.av 3 rfl
  have g3 := hB4.free 3
  have hB5 := hB4.set 3 (.slice a4 x.args.length c4)
  have k5 : Keep (fun q => q = w.heap.size) w4 (w4.setCell ⟨w.heap.size, 3, none⟩ (.slice a4 x.args.length c4)) := Keep.set (X := fun q => q = w.heap.size) (Keep.refl _ _) rfl _
  have hni5 : ∀ q, q = w.heap.size → ¬ IsInt w4 q := fun q e => by subst e; exact notInt hB4 (by decide)
  have Hc5 := hid ((Hc3.out.ext hx4).keep k5 fun b e => ⟨hni5 b e, .inl (by have := Hs0.out; have e' : b = w.heap.size := e; omega)⟩)
  have HT5 := hid (((IntsT.of_row hr4)).keep k5 hni5)
  have HTn : Hid (∀ b, (Value.slice a4 x.args.length c4).ownBlock = some b → W0.heap.size ≤ b) := hid fun b hb => by
    have h1 := (World.ownsRow.lt hr4 b hb).1
    have h2 := Hs2.out
    have h3 : w2.heap.size ≤ W3.heap.size := by rw [HW3.out, heap_size_alloc]; omega
    omega
  have HX5 : Hid (Ext w (w4.setCell ⟨w.heap.size, 3, none⟩ (.slice a4 x.args.length c4))) := hid (Keep.new (HX3.out.trans hx4) k5 fun b e => Nat.le_of_eq e.symm)
  have HBt5 := hid ((HBt.out.ext hx4).keep k5 fun e => by have := Hs0.out; have := Hs2.out; omega)
  simp only [List.setIfInBounds_toArray, List.set_cons_zero, List.set_cons_succ, List.getElem_toArray, List.getElem_cons_zero, List.getElem_cons_succ] at z0 z1 z2 z3 hB5
  have y0 := hB5.av 0 rfl
  have y1 := hB5.av 1 rfl
  have y2 := hB5.av 2 rfl
  have y3 := hB5.av 3 rfl
  have t2 := HBt5.out.av 2 rfl
  simp only [List.getElem_toArray, List.getElem_cons_zero, List.getElem_cons_succ] at y0 y1 y2 y3 t2
  have HRo := hid Hc5.out.stmts
  have Hbs : Hid (W0.heap.size ≤ ((w4.setCell ⟨w.heap.size, 3, none⟩ (.slice a4 x.args.length c4)).alloc (.cells #[.string x.kind, .int .i64 x.x, .int .i64 x.y, .slice a4 x.args.length c4] 65)).heap.size) := hid (by
    have h1 := HBt5.out.lt
    have h2 := Hs2.out
    have h3 := (((Ext.refl (w4.setCell ⟨w.heap.size, 3, none⟩ (.slice a4 x.args.length c4))).alloc (.cells #[.string x.kind, .int .i64 x.x, .int .i64 x.y, .slice a4 x.args.length c4] 65))).size
    omega)
  have hsl80 : P.stmts.length ≤ 80 := Hh.out.pw.well.few.2.2
  clear HCl hx4 hr4 hB4 hB5 k5 hni5 n0 n1 n2 n3
  go_wp2_with (at_builtin; refine wpList_append_el W0.heap.size Hbs.out 24 65 (.agg #[.string ⟨#[]⟩, .int .i64 0, .int .i64 0, .slice none 0 0]) 4 56 Tryz.underlying24 stmt_info rfl (by omega) (by omega) rfl _ _ rfl (.slice q3 P.stmts.length e3) P.stmts.length (ss.flatMap S2.cells) rfl (own_ext HRo.out ((Ext.refl _).alloc _)) w4.heap.size (S2.cells ⟨x, .slice a4 x.args.length c4⟩) rfl (by simp [S2.cells, Value.oneCell']) rfl (Blk.new_setU _ _ _ _ _) (by omega) ?_; intro v9 w9 ho9 hk9 hl9; obtain ⟨a9, c9, rfl⟩ := row_form ho9; have hx6 := (Ext.refl (w4.setCell ⟨w.heap.size, 3, none⟩ (.slice a4 x.args.length c4))).alloc (.cells #[.string x.kind, .int .i64 x.x, .int .i64 x.y, .slice a4 x.args.length c4] 65); have HBt6 := HBt5.out.ext hx6; have hb9 := HBt6.keep hk9 (fun e => by obtain ⟨c, hc⟩ := own_ty (own_ext HRo.out hx6) e; exact Blk.ty_ne hc HBt6 (by decide) rfl); have Hcp9 := hid ((Hc5.out.ext hx6).plus ⟨x, .slice a4 x.args.length c4⟩ hk9 ho9 ⟨HT5.out.ext hx6, HTn.out⟩); have HX9 := hid (Keep.new (HX5.out.trans hx6) hk9 (fun b e => by have h1 := (World.ownsRow.lt HRo.out b e).1; have h2 := Hs0.out; omega)); have HBt9 := hid hb9; have s1 := hb9.av 2 rfl; have s0 := hb9.av 0 rfl; have s0b := hb9.av 1 rfl; have t1 := hb9.free 2; clear ho9 hk9 hl9 hx6 HBt6 hb9)
  obtain ⟨W10, hW10⟩ : ∃ W10, W10 = w9.setCell ⟨w2.heap.size, 2, none⟩ (.slice a9 (P.stmts.length + 1) c9) := ⟨_, rfl⟩
  have k10 : Keep (fun q => q = w2.heap.size) w9 W10 := by rw [hW10]; exact Keep.set (X := fun q => q = w2.heap.size) (Keep.refl _ _) rfl _
  have Hcp := hid (Hcp9.out.keep k10 fun b e => ⟨by have e' : b = w2.heap.size := e; subst e'; exact notInt HBt9.out (by decide), .inr (by have e' : b = w2.heap.size := e; subst e'; exact ⟨_, HBt9.out⟩)⟩)
  have HX10 : Hid (Ext w W10) := hid (Keep.new HX9.out k10 fun b e => by have e' : b = w2.heap.size := e; subst e'; have h1 := Hs2.out; have h2 := Hs0.out; omega)
  have HBt10 : Hid (Blk W10 w2.heap.size #[.slice q1 P.vars.length e1, .slice q2 P.funs.length e2, .slice a9 (P.stmts.length + 1) c9] 26) := hid (by rw [hW10]; exact HBt9.out.set 2 _)
  have HW10 := hid hW10
  have HE10 := hid (Hh.out.pw.errs.ext HX10.out)
  have hPr : ProgR W10 W10.heap.size (.slice q1 (P.plus x).vars.length e1) (.slice q2 (P.plus x).funs.length e2) (.slice a9 (P.plus x).stmts.length c9) (P.plus x) := by rw [plus_len]; exact Hcp.out.prog
  have HPr := hid hPr
  clear k10 hW10 hPr
  have HOf := hid (consof_no q1 q2 a9 e1 e2 c9 (P.plus x) W10 W10.heap.size ad HE10.out HPr.out Hh.out.pw.z1 Hh.out.pw.z2 (plus_not Hc.out))
  unfold pval at HOf
  rw [plus_len, show (P.plus x).vars.length = P.vars.length from rfl, show (P.plus x).funs.length = P.funs.length from rfl] at HOf
  rw [← HW10.out]
  refine HOf.out.mono ?_
  intro e w11 hx
  obtain ⟨t, z, rfl, hi, hx11⟩ := hx
  obtain ⟨b, i, hv, hb⟩ := plus_errIs Hh.out.pw.well h80 Hc.out hi
  simp only [Value.iface.injEq, Value.pointer.injEq, Option.some.injEq] at hv
  obtain ⟨rfl, rfl⟩ := hv
  have HBa := hid (bare_at hb)
  have HX11 := hid (HX10.out.trans hx11)
  clear HOf hi hx11 hb
  go_wp2_with fail
  refine HBa.out.mono ?_
  intro e w12 hx
  obtain ⟨rfl, hx12⟩ := hx
  have HX12 := hid (HX11.out.trans hx12)
  clear HBa hx12
  go_wp2
  go_ret
  exact ⟨rfl, HX12.out⟩
set_option maxRecDepth 100000 in
set_option maxHeartbeats 12800000 in
theorem adderror_any (a1 a2 a3 : Option Addr) (c1 c2 c3 : Nat) (P : PP) (x : PS) (aa : Option Addr) (ca : Nat) (w : World) (ad : Nat → Addr) (h : PW w w.heap.size ad a1 a2 a3 c1 c2 c3 P) (hsm : P.Small) (hc : P.stmtErr x ≠ 0) (h80 : P.stmts.length + 1 ≤ 80) (ha : IntsR w w.heap.size (.slice aa x.args.length ca) x.args) :
    Calls Tryz.prog 31 #[pval a1 a2 a3 c1 c2 c3 P, sval x aa ca] w fun e w' => e = .returned (.int .i64 (P.stmtErr x : Int)) ∧ Ext w w' := by
  obtain ⟨V1, hV1⟩ : ∃ V1, V1 = w.alloc (.cells (pcells a1 a2 a3 c1 c2 c3 P) 26) := ⟨_, rfl⟩
  obtain ⟨V2, hV2⟩ : ∃ V2, V2 = V1.alloc (.cells (scells x aa ca) 65) := ⟨_, rfl⟩
  have x1 : Ext w V1 := by rw [hV1]; exact (Ext.refl _).alloc _
  have x2 : Ext V1 V2 := by rw [hV2]; exact (Ext.refl _).alloc _
  have s1 : V1.heap.size = w.heap.size + 1 := by rw [hV1, heap_size_alloc]
  have HX2 := hid (x1.trans x2)
  have HBp : Hid (Blk V2 w.heap.size (pcells a1 a2 a3 c1 c2 c3 P) 26) := hid ((show Blk V1 w.heap.size (pcells a1 a2 a3 c1 c2 c3 P) 26 by rw [hV1]; exact Blk.new _ _ _).ext x2)
  have HBm : Hid (Blk V2 (w.heap.size + 1) (scells x aa ca) 65) := hid (by rw [← s1, hV2]; exact Blk.new _ _ _)
  have HV2 : Hid (V2 = (w.alloc (.cells #[.slice a1 P.vars.length c1, .slice a2 P.funs.length c2, .slice a3 P.stmts.length c3] 26)).alloc (.cells #[.string x.kind, .int .i64 x.x, .int .i64 x.y, .slice aa x.args.length ca] 65)) := hid (by rw [hV2, hV1]; rfl)
  have HPW := hid (h.ext HX2.out)
  have HA := hid ha
  have Hc := hid hc
  have HQ := hid (ownprogram_own a1 a2 a3 c1 c2 c3 P V2 ((HPW.out.prog.old (((Ext.refl V2)).old _)).lift HX2.out.size) hsm)
  have hsl := h.well.few
  have p0 := HBp.out.av 0 rfl
  have p1 := HBp.out.av 1 rfl
  have p2 := HBp.out.av 2 rfl
  simp only [pcells, List.getElem_toArray, List.getElem_cons_zero, List.getElem_cons_succ] at p0 p1 p2
  rw [HV2.out] at p0 p1 p2
  unfold pval sval
  unfold pval at HQ
  clear hV1 hV2 x1 x2 s1 h ha hc hsm
  go_enter Tryz.func31, Tryz.ntmps31
  go_wp2_with fail
  rw [← HV2.out]
  refine HQ.out.mono ?_
  intro e w3 hx
  obtain ⟨hx3, n1, o1, o2, o3, q1, q2, q3, fs, so, rfl, hn1, hn2, hO⟩ := hx
  obtain ⟨W4, hW4⟩ : ∃ W4, W4 = w3.alloc (.cells #[.slice o1 P.vars.length q1, .slice o2 P.funs.length q2, .slice o3 P.stmts.length q3] 26) := ⟨_, rfl⟩
  have hx4 : Ext w3 W4 := by rw [hW4]; exact (Ext.refl _).alloc _
  have HW4 := hid hW4
  have hs4 : W4.heap.size = w3.heap.size + 1 := by rw [hW4, heap_size_alloc]
  have hx5 : Ext w3 (W4.alloc (.cells #[.string x.kind, .int .i64 x.x, .int .i64 x.y, .slice aa x.args.length ca] 65)) := hx4.trans ((Ext.refl _).alloc _)
  have Hx5 := hid (hx3.trans hx5)
  have Hn1 := hid hn1
  have Hn3 := hid (Nat.le_refl w3.heap.size)
  have Hsz3 := hid hx3.size
  have Hn2 : Hid (n1 ≤ (W4.alloc (.cells #[.string x.kind, .int .i64 x.x, .int .i64 x.y, .slice aa x.args.length ca] 65)).heap.size) := hid (Nat.le_trans hn2 hx5.size)
  have HB4 : Hid (Blk W4 w3.heap.size (pcells o1 o2 o3 q1 q2 q3 P) 26) := hid (by rw [hW4]; exact Blk.new _ _ _)
  have HB5 := hid (HB4.out.ext ((Ext.refl _).alloc (.cells #[.string x.kind, .int .i64 x.x, .int .i64 x.y, .slice aa x.args.length ca] 65)))
  have HBs : Hid (Blk (W4.alloc (.cells #[.string x.kind, .int .i64 x.x, .int .i64 x.y, .slice aa x.args.length ca] 65)) (w3.heap.size + 1) #[.string x.kind, .int .i64 x.x, .int .i64 x.y, .slice aa x.args.length ca] 65) := hid (by rw [← hs4]; exact Blk.new _ _ _)
  have HR5 := hid (hO.ext hx5)
  have h2 := HB4.out.av 2 rfl
  have m0 := (HBm.out.ext (hx3.trans hx4)).av 0 rfl
  have m1 := (HBm.out.ext (hx3.trans hx4)).av 1 rfl
  have m2 := (HBm.out.ext (hx3.trans hx4)).av 2 rfl
  have m3 := (HBm.out.ext (hx3.trans hx4)).av 3 rfl
  simp only [pcells, scells, List.getElem_toArray, List.getElem_cons_zero, List.getElem_cons_succ] at h2 m0 m1 m2 m3
  rw [HW4.out] at h2 m0 m1 m2 m3
  clear HQ hx3 hO hn1 hn2 hx4 hx5 hs4 hW4 p0 p1 p2
  go_wp2_with (at_builtin; rw [← HW4.out]; refine wpList_append_el n1 Hn2.out 24 65 (.agg #[.string ⟨#[]⟩, .int .i64 0, .int .i64 0, .slice none 0 0]) 4 56 Tryz.underlying24 stmt_info rfl (by omega) (by omega) rfl _ _ rfl (.slice o3 P.stmts.length q3) P.stmts.length (so.flatMap S2.cells) rfl HR5.out.stmts (w3.heap.size + 1) (S2.cells ⟨x, .slice aa x.args.length ca⟩) rfl (by simp [S2.cells, Value.oneCell']) rfl HBs.out (by omega) ?_; intro v9 w9 ho9 hk9 hl9; obtain ⟨o9, q9, rfl⟩ := row_form ho9; obtain ⟨hb9, hb10, hx13, hpr⟩ := foapp HR5.out HB5.out ho9 hk9 Hx5.out Hn1.out Hsz3.out; have s1 := hb9.av 2 rfl; have s0 := hb9.av 0 rfl; have s0b := hb9.av 1 rfl; have t1 := hb9.free 2; simp only [List.getElem_toArray, List.getElem_cons_zero, List.getElem_cons_succ] at s1 s0 s0b; have Hx13 := hid (HX2.out.trans hx13); have HPr := hid (hpr (ElR.lift (HA.out.old ((HX2.out.trans hx13).old _)) (HX2.out.trans hx13).size)); clear hb9 hb10 hx13 hpr ho9 hk9 hl9)
  obtain ⟨W13, hW13⟩ : ∃ W13, W13 = w9.setCell ⟨w3.heap.size, 2, none⟩ (.slice o9 (P.stmts.length + 1) q9) := ⟨_, rfl⟩
  rw [← hW13] at HPr Hx13 ⊢
  have HF := hid (rfprog_all o1 o2 o9 q1 q2 q9 (P.plus x) W13 ⟨HPr.out.vars, HPr.out.funs, by rw [plus_len]; exact HPr.out.stmts⟩ HPW.out.z1 HPW.out.z2)
  unfold pval at HF
  rw [plus_len, show (P.plus x).vars.length = P.vars.length from rfl, show (P.plus x).funs.length = P.funs.length from rfl] at HF
  refine HF.out.mono ?_
  intro e w14 hx
  obtain ⟨hx14, c, p, rfl, hfi⟩ := hx
  obtain rfl := plus_faultIs HPW.out.well h80 Hc.out hfi
  have HX14 := hid (Hx13.out.trans hx14)
  clear HF hx14 hfi
  have hfd : ∀ (c p : Int) w1, (Instr.field 37 (.agg #[.int .i64 c, .int .i64 p]) 0).run Tryz.prog w1 = .ok (.int .i64 c) w1 := fun c p w1 => by kernel_rfl
  go_wp2
  go_ret
  exact ⟨rfl, HX14.out⟩
end Go.Proofs.YtdppgcbekhabnaaGreatDoor



namespace Go.Proofs.YtdppgcbekhabnaaGreatDoor
set_option linter.unusedSimpArgs false
set_option linter.unusedVariables false
open Go Go.RowKit

def PP.isFirst (P : PP) (cut : Int) (k : Nat) : Bool := (P.stAt k).isK kNew || decide ((k : Int) < cut)
def PP.firstUp (P : PP) (cut : Int) (n : Nat) : List PS := ((List.range n).filter (P.isFirst cut)).map P.stAt
def PP.laterUp (P : PP) (cut : Int) (n : Nat) : List PS := ((List.range n).filter fun k => !P.isFirst cut k).map P.stAt
section
variable {P : PP} {cut : Int} {S : List (List Int)}
theorem firstUp_succ (P : PP) (cut : Int) (n : Nat) : P.firstUp cut (n + 1) = P.firstUp cut n ++ (if P.isFirst cut n = true then [P.stAt n] else []) := by
  unfold PP.firstUp
  rw [List.range_succ, List.filter_append, List.map_append]
  congr 1
  cases h : P.isFirst cut n with
  | true => rw [List.filter_cons, h]; rfl
  | false => rw [List.filter_cons, h]; rfl
theorem laterUp_succ (P : PP) (cut : Int) (n : Nat) : P.laterUp cut (n + 1) = P.laterUp cut n ++ (if P.isFirst cut n = true then [] else [P.stAt n]) := by
  unfold PP.laterUp
  rw [List.range_succ, List.filter_append, List.map_append]
  congr 1
  cases h : P.isFirst cut n with
  | true => rw [List.filter_cons, h]; rfl
  | false => rw [List.filter_cons, h]; rfl
theorem up_len (P : PP) (cut : Int) : ∀ n, (P.firstUp cut n).length + (P.laterUp cut n).length = n
  | 0 => rfl
  | n + 1 => by
    have ih := up_len P cut n
    rw [firstUp_succ, laterUp_succ, List.length_append, List.length_append]
    split <;> simp <;> omega
theorem firstUp_mem {n : Nat} (hn : n ≤ P.stmts.length) : ∀ x ∈ P.firstUp cut n, x ∈ P.stmts := fun x hx => by
  obtain ⟨k, hk, rfl⟩ := List.mem_map.1 hx
  have := List.mem_range.1 (List.mem_filter.1 hk).1
  exact List.mem_of_getElem? (stAt_some (by omega))
theorem laterUp_mem {n : Nat} (hn : n ≤ P.stmts.length) : ∀ x ∈ P.laterUp cut n, x ∈ P.stmts ∧ x.isK kNew = false := fun x hx => by
  obtain ⟨k, hk, rfl⟩ := List.mem_map.1 hx
  obtain ⟨h1, h2⟩ := List.mem_filter.1 hk
  have := List.mem_range.1 h1
  refine ⟨List.mem_of_getElem? (stAt_some (by omega)), ?_⟩
  cases h : (P.stAt k).isK kNew with
  | false => rfl
  | true =>
    unfold PP.isFirst at h2
    rw [h] at h2
    cases h2
theorem well_sub {l : List PS} (hl : ∀ x ∈ l, x ∈ P.stmts) (hb : l.length ≤ 80) (hw : P.Well) : (P.withS l).Well := by
  obtain ⟨f1, f2, f3⟩ := hw.few
  obtain ⟨h1, h2⟩ := hw
  refine ⟨?_, (allWell_iff _).2 fun x hx => (allWell_iff P).1 h2 x (hl x hx)⟩
  have e1 : P.big = false := by
    unfold PP.big
    rw [decide_eq_false (by omega), decide_eq_false (by omega), decide_eq_false (by omega)]
    rfl
  have e2 : (P.withS l).big = false := by
    unfold PP.big PP.withS
    dsimp only
    rw [decide_eq_false (by omega), decide_eq_false (by omega), decide_eq_false (by omega)]
    rfl
  unfold PP.err1 at h1 ⊢
  rw [e2]
  rw [e1] at h1
  exact h1
theorem small_sub {l : List PS} (hl : ∀ x ∈ l, x ∈ P.stmts) (hb : l.length ≤ 81) (h : P.Small) : (P.withS l).Small := ⟨h.vl, h.fl, hb, h.vs, h.fs, fun s hs => h.ss s (hl s hs)⟩
def PP.atJ (P : PP) (fs ls : List PS) (j : Nat) : PP := P.withS (fs ++ ls.take j)
theorem atJ_zero (P : PP) (fs ls : List PS) : P.atJ fs ls 0 = P.withS fs := by unfold PP.atJ; rw [List.take_zero, List.append_nil]
theorem atJ_all (P : PP) (fs ls : List PS) : P.atJ fs ls ls.length = P.withS (fs ++ ls) := by unfold PP.atJ; rw [List.take_length]
theorem atJ_succ {fs ls : List PS} {j : Nat} {x : PS} (h : ls[j]? = some x) : P.atJ fs ls (j + 1) = (P.atJ fs ls j).plus x := by
  unfold PP.atJ
  rw [List.take_add_one, h]
  show P.withS (fs ++ (ls.take j ++ [x])) = P.withS ((fs ++ ls.take j) ++ [x])
  rw [List.append_assoc]
structure ChainP (P : PP) (fs ls : List PS) (S : List (List Int)) : Prop where
  well : ∀ j, j ≤ ls.length → (P.atJ fs ls j).Well
  good : ∀ j, j ≤ ls.length → (P.atJ fs ls j).GoodS S
  closed : ∀ j, j ≤ ls.length → ClosedP (P.atJ fs ls j) S
theorem chain_of {fs ls : List PS} (hnew : ∀ x ∈ ls, x.isK kNew = false) (hw : ∀ j, j ≤ ls.length → (P.atJ fs ls j).Well) {m : Nat} (hL : LeastAt (P.atJ fs ls ls.length) m S) : ChainP P fs ls S := by
  have key : ∀ d, d ≤ ls.length → (P.atJ fs ls (ls.length - d)).GoodS S ∧ ClosedP (P.atJ fs ls (ls.length - d)) S := fun d => by
    induction d with
    | zero => exact fun _ => ⟨hL.good (hw _ (Nat.le_refl _)), hL.closed (hw _ (Nat.le_refl _))⟩
    | succ d ih =>
      intro hd
      obtain ⟨k1, k2⟩ := ih (by omega)
      have hj : ls.length - (d + 1) < ls.length := by omega
      have hx : ls[ls.length - (d + 1)]? = some ls[ls.length - (d + 1)] := List.getElem?_eq_getElem hj
      have hm := hnew _ (List.getElem_mem hj)
      have e := atJ_succ (P := P) (fs := fs) hx
      rw [show ls.length - (d + 1) + 1 = ls.length - d by omega] at e
      rw [e] at k1 k2
      exact ⟨good_plus hm (hw _ (by omega)) k1, closed_plus hm k2⟩
  refine ⟨hw, fun j hj => ?_, fun j hj => ?_⟩
  · have := (key (ls.length - j) (by omega)).1
    rwa [show ls.length - (ls.length - j) = j by omega] at this
  · have := (key (ls.length - j) (by omega)).2
    rwa [show ls.length - (ls.length - j) = j by omega] at this
theorem stmtErr_kind (P : PP) : P.stmtErr ⟨⟨#[]⟩, 0, 0, []⟩ = 4 := by
  unfold PP.stmtErr
  rw [show memB (⟨#[]⟩ : ByteArray) kindsS = false from by decide +kernel]
  rfl
theorem stmtErr_low (P : PP) : P.stmtErr ⟨⟨#[99, 111, 112, 121]⟩, -1, 0, []⟩ = 2 := by
  have hb : P.bound ⟨⟨#[99, 111, 112, 121]⟩, -1, 0, []⟩ = false := by
    unfold PP.bound PP.inV
    simp
  unfold PP.stmtErr
  rw [show memB (⟨#[99, 111, 112, 121]⟩ : ByteArray) kindsS = true from by decide +kernel, hb]
  rfl
end
end Go.Proofs.YtdppgcbekhabnaaGreatDoor



namespace Go.Proofs.YtdppgcbekhabnaaGreatDoor
set_option linter.unusedSimpArgs false
set_option linter.unusedVariables false
open Go Go.RowKit

def sumObj (s : SV) (k : Nat) : Nat := ((List.range k).map fun n : Nat => (s.objs (n : Int)).length).sum
end Go.Proofs.YtdppgcbekhabnaaGreatDoor



namespace Go.Proofs.YtdppgcbekhabnaaGreatDoor
set_option linter.unusedSimpArgs false
set_option linter.unusedVariables false
open Go Go.RowKit

def aliasV (S : List (List Int)) (x y : Nat) : Bool := (S.getD x []).any fun o => decide (o ∈ S.getD y [])
end Go.Proofs.YtdppgcbekhabnaaGreatDoor



namespace Go.Proofs.YtdppgcbekhabnaaGreatDoor
set_option linter.unusedSimpArgs false
set_option linter.unusedVariables false
open Go Go.RowKit

def PP.fitsV (P : PP) (x : PS) (o : Int) : Bool := decide (0 ≤ P.funV o) && decide ((P.funs.getD (P.funV o).toNat ⟨⟨#[]⟩, [], 0⟩).params.length = x.args.length)
def calledL (P : PP) (S : List (List Int)) (x : PS) : List Int := bif x.isK kCall then ((S.getD x.y.toNat []).filter (P.fitsV x)).map P.funV else []
end Go.Proofs.YtdppgcbekhabnaaGreatDoor



namespace Go.Proofs.YtdppgcbekhabnaaGreatDoor
set_option linter.unusedSimpArgs false
set_option linter.unusedVariables false
open Go Go.RowKit

def calledP : PP := ⟨[⟨#[97]⟩, ⟨#[98]⟩], [⟨⟨#[102]⟩, [], 1⟩], [⟨⟨#[102, 117, 110]⟩, 0, 0, []⟩, ⟨⟨#[99, 97, 108, 108]⟩, 1, 0, []⟩]⟩
def calledS : Array Value := #[.string ⟨#[102, 117, 110]⟩, .int .i64 0, .int .i64 0, .slice none 0 0, .string ⟨#[99, 97, 108, 108]⟩, .int .i64 1, .int .i64 0, .slice none 0 0]
end Go.Proofs.YtdppgcbekhabnaaGreatDoor



namespace Go.Proofs.YtdppgcbekhabnaaGreatDoor
set_option linter.unusedSimpArgs false
set_option linter.unusedVariables false
open Go Go.RowKit

def nodesL (S : List (List Int)) (l : List Int) : List Int := l.filter fun o => !decide ((S.length : Int) ≤ o)
def idleV (P : PP) (S : List (List Int)) (x : PS) : Bool :=
  bif x.isK kLoad then decide ((nodesL S (S.getD x.y.toNat [])).length = 0) else
  bif x.isK kStore then decide ((nodesL S (S.getD x.x.toNat [])).length = 0) else
  bif x.isK kCall then decide ((calledL P S x).length = 0) else false
def idleUp (P : PP) (S : List (List Int)) (n : Nat) : List Int := ((List.range n).filter fun k => idleV P S (P.stAt k)).map fun k : Nat => (k : Int)
def idleL (P : PP) (S : List (List Int)) : List Int := idleUp P S P.stmts.length
end Go.Proofs.YtdppgcbekhabnaaGreatDoor

