/- Texts of one proof, put together: X1 ZZ7 ZZ9 X2 ZZA ZZB X4 S6 X7 X8 T8. -/
import Derived.Test.YtdppgcbekhabnaaGreatDoorSD01
import Derived.Test.YtdppgcbekhabnaaGreatDoorSD07
import Derived.Test.YtdppgcbekhabnaaGreatDoorSD08
import Derived.Test.YtdppgcbekhabnaaGreatDoorSD09
import Derived.Test.YtdppgcbekhabnaaGreatDoorSD10
import Derived.Test.YtdppgcbekhabnaaGreatDoorSD16
import Derived.Test.YtdppgcbekhabnaaGreatDoorSD17
import Derived.Test.YtdppgcbekhabnaaGreatDoorSD18
import Derived.Test.YtdppgcbekhabnaaGreatDoorSD20
import Derived.Test.YtdppgcbekhabnaaGreatDoorSD23
import Derived.Test.YtdppgcbekhabnaaGreatDoorSD24

/- FixClosed: the law walked. -/
namespace Go.Proofs.YtdppgcbekhabnaaGreatDoor
set_option linter.unusedSimpArgs false
set_option linter.unusedVariables false
open Go Go.RowKit

end Go.Proofs.YtdppgcbekhabnaaGreatDoor



/- SolveFix: the law walked. -/
namespace Go.Proofs.YtdppgcbekhabnaaGreatDoor
set_option linter.unusedSimpArgs false
set_option linter.unusedVariables false
open Go Go.RowKit

/-- How many objects the first nodes have. -/
def sumUp (S : List (List Int)) (k : Nat) : Nat := ((List.range k).map fun n : Nat => (S.getD n []).length).sum
theorem good_small {P : PP} {S : List (List Int)} (hg : P.GoodS S) (n : Nat) : ∀ x ∈ S.getD n [], x ≤ 126 := fun x hx => by
  have h2 := hg.1.nodes.2
  rw [List.getD_eq_getElem?_getD] at hx
  cases hl : S[n]? with
  | none => rw [hl] at hx; cases hx
  | some l =>
    rw [hl] at hx
    have := (hg.ok.ok l (List.mem_of_getElem? hl)).2 x hx
    omega
theorem getD_most {l : List Int} {m : Int} (h0 : 0 ≤ m) (h : ∀ x ∈ l, x ≤ m) (i : Nat) : l.getD i 0 ≤ m := by
  rw [List.getD_eq_getElem?_getD]
  cases hx : l[i]? with
  | none => exact h0
  | some x => exact h x (List.mem_of_getElem? hx)
end Go.Proofs.YtdppgcbekhabnaaGreatDoor



/- The solver: a program is copied, in blocks that are new. -/
namespace Go.Proofs.YtdppgcbekhabnaaGreatDoor
set_option linter.unusedSimpArgs false
set_option linter.unusedVariables false
open Go Go.RowKit

theorem own_high {w : World} {base b2 : Nat} {e : TypeId} {size n : Nat} {v : Value} {xs : List Value} (h : w.ownsRow base e size v n xs) (hb : ∀ b, v.ownBlock = some b → b2 ≤ b) : w.ownsRow b2 e size v n xs := by
  refine ⟨h.1, h.2.imp id ?_⟩
  rintro ⟨g, cap, cur, rfl, h2, h3⟩
  exact ⟨g, cap, cur, rfl, hb g rfl, h3⟩
/-- A program that is one's own, in new blocks. -/
structure CopyP (w : World) (base : Nat) (v1 v2 v3 : Value) (P : PP) (fs : List F2) (ss : List S2) : Prop where
  vars : w.ownsRow base 9 1 v1 P.vars.length (P.vars.map .string)
  funs : w.ownsRow base 74 3 v2 P.funs.length (fs.flatMap F2.cells)
  stmts : w.ownsRow base 65 4 v3 P.stmts.length (ss.flatMap S2.cells)
  fe : fs.map F2.f = P.funs
  se : ss.map S2.s = P.stmts
  fi : ∀ x ∈ fs, IntsT w x.v x.f.params ∧ ∀ b, x.v.ownBlock = some b → base ≤ b
  si : ∀ x ∈ ss, IntsT w x.v x.s.args ∧ ∀ b, x.v.ownBlock = some b → base ≤ b
theorem ElF.own {w : World} {base n size : Nat} {e : TypeId} {v : Value} {xs : List Value} {E : Nat → Addr → Prop} (h : w.ownsRow base e size v n xs) (hE : ∀ g, (∀ (i : Nat) u, xs[i]? = some u → w.cell? ((⟨g, 0, none⟩ : Addr).add i) = some u) → ∀ i, i < n → E i ⟨g, 0, none⟩) : ElF (fun b => base ≤ b ∧ b < w.heap.size) v n E := by
  have hl := fun b hb => World.ownsRow.lt h b hb
  obtain ⟨a, cap, h1, h2, h3, h4, h5⟩ := (ElR.own h (Nat.le_refl _) (E := fun i y => E i y) fun g hc i hi => hE g hc i hi).form
  subst h1
  refine ⟨a, cap, rfl, h2, h3, h4, fun y hy h0 => ?_⟩
  subst hy
  exact ⟨hl y.block rfl, (h5 y rfl h0).2⟩
theorem IntsT.toF {w : World} {base : Nat} {v : Value} {l : List Int} (h : IntsT w v l) (hb : ∀ b, v.ownBlock = some b → base ≤ b) : IntsF w (fun b => base ≤ b ∧ b < w.heap.size) v l := by
  obtain ⟨a, cap, h1, h2, h3, h4, h5⟩ := h.1
  subst h1
  refine ⟨a, cap, rfl, h2, h3, h4, fun y hy h0 => ?_⟩
  subst hy
  obtain ⟨q1, q2⟩ := h5 y rfl h0
  exact ⟨⟨hb y.block rfl, q1⟩, q2⟩
section
variable {w w' : World} {base : Nat} {v1 v2 v3 : Value} {P : PP} {fs : List F2} {ss : List S2}
theorem CopyP.ext (h : CopyP w base v1 v2 v3 P fs ss) (x : Ext w w') : CopyP w' base v1 v2 v3 P fs ss :=
  ⟨own_ext h.vars x, own_ext h.funs x, own_ext h.stmts x, h.fe, h.se, fun y hy => ⟨(h.fi y hy).1.ext x, (h.fi y hy).2⟩, fun y hy => ⟨(h.si y hy).1.ext x, (h.si y hy).2⟩⟩
theorem CopyP.progF (h : CopyP w base v1 v2 v3 P fs ss) : ProgF w (fun b => base ≤ b ∧ b < w.heap.size) v1 v2 v3 P := by
  have hfl : P.funs.length = fs.length := by rw [← h.fe, List.length_map]
  have hsl : P.stmts.length = ss.length := by rw [← h.se, List.length_map]
  refine ⟨?_, ?_, ?_⟩
  · refine ElF.own h.vars fun g hc i hi s hs => hc i _ ?_
    rw [List.getElem?_map, hs]; rfl
  · refine ElF.own h.funs fun g hc i hi f hf => ?_
    rw [← h.fe, List.getElem?_map] at hf
    obtain ⟨x, hx, rfl⟩ := Option.map_eq_some_iff.1 hf
    have c : ∀ j u, x.cells[j]? = some u → j < 3 → w.cell? (((⟨g, 0, none⟩ : Addr).add (i * 3)).add j) = some u := fun j u hu hj => by
      rw [add_add]
      exact hc _ _ ((fm_get F2.cells 3 F2.cells_len fs i j x hx hj).trans hu)
    have hk := h.fi x (List.mem_of_getElem? hx)
    exact ⟨x.v, by simpa [Addr.add] using c 0 _ rfl (by omega), c 1 _ rfl (by omega), c 2 _ rfl (by omega), hk.1.toF hk.2⟩
  · refine ElF.own h.stmts fun g hc i hi f hf => ?_
    rw [← h.se, List.getElem?_map] at hf
    obtain ⟨x, hx, rfl⟩ := Option.map_eq_some_iff.1 hf
    have c : ∀ j u, x.cells[j]? = some u → j < 4 → w.cell? (((⟨g, 0, none⟩ : Addr).add (i * 4)).add j) = some u := fun j u hu hj => by
      rw [add_add]
      exact hc _ _ ((fm_get S2.cells 4 S2.cells_len ss i j x hx hj).trans hu)
    have hk := h.si x (List.mem_of_getElem? hx)
    exact ⟨x.v, by simpa [Addr.add] using c 0 _ rfl (by omega), c 1 _ rfl (by omega), c 2 _ rfl (by omega), c 3 _ rfl (by omega), hk.1.toF hk.2⟩
theorem CopyP.prog (h : CopyP w base v1 v2 v3 P fs ss) : ProgR w w.heap.size v1 v2 v3 P := h.progF.toR fun _ hb => hb.2
/-- One statement more. -/
def PP.plus (P : PP) (x : PS) : PP := ⟨P.vars, P.funs, P.stmts ++ [x]⟩
theorem CopyP.plus (h : CopyP w base v1 v2 v3 P fs ss) {v3' : Value} (x : S2) (k : Keep (fun q => v3.ownBlock = some q) w w') (hr : w'.ownsRow base 65 4 v3' (P.stmts.length + 1) (ss.flatMap S2.cells ++ x.cells)) (hx : IntsT w x.v x.s.args ∧ ∀ b, x.v.ownBlock = some b → base ≤ b) : CopyP w' base v1 v2 v3' (P.plus x.s) fs (ss ++ [x]) := by
  have hX : ∀ {b : Nat}, v3.ownBlock = some b → ∃ c, Blk w b c 65 := fun hb => own_ty h.stmts hb
  have hne : ∀ {e : TypeId}, 65 ≠ e → ∀ b, v3.ownBlock = some b → ¬ ∃ c, Blk w b c e := fun he b hb => by
    obtain ⟨c, hc⟩ := hX hb
    exact off_of hc he
  have hni : ∀ b, v3.ownBlock = some b → ¬ IsInt w b := fun b hb => by
    obtain ⟨c, hc⟩ := hX hb
    exact notInt hc (by decide)
  refine ⟨own_off h.vars k (hne (by decide)), own_off h.funs k (hne (by decide)), ?_, h.fe, ?_, fun y hy => ⟨(h.fi y hy).1.keep k hni, (h.fi y hy).2⟩, fun y hy => ?_⟩
  · show w'.ownsRow base 65 4 v3' (P.stmts ++ [x.s]).length _
    rw [List.length_append, List.flatMap_append]
    simpa using hr
  · show _ = P.stmts ++ [x.s]
    rw [List.map_append, h.se]; rfl
  · rcases List.mem_append.1 hy with hy | hy
    · exact ⟨(h.si y hy).1.keep k hni, (h.si y hy).2⟩
    · rw [List.mem_singleton.1 hy]
      exact ⟨hx.1.keep k hni, hx.2⟩
end
set_option maxRecDepth 100000 in
set_option maxHeartbeats 12800000 in
theorem solvecopied_new (a1 a2 a3 : Option Addr) (c1 c2 c3 : Nat) (P : PP) (w : World) (h : ProgR w w.heap.size (.slice a1 P.vars.length c1) (.slice a2 P.funs.length c2) (.slice a3 P.stmts.length c3) P) (hs : P.Small) :
    Calls Tryz.prog 37 #[pval a1 a2 a3 c1 c2 c3 P] w fun e w' => Ext w w' ∧ ∃ b1 b2 b3 d1 d2 d3 fs ss, e = .returned (pval b1 b2 b3 d1 d2 d3 P) ∧ CopyP w' w.heap.size (.slice b1 P.vars.length d1) (.slice b2 P.funs.length d2) (.slice b3 P.stmts.length d3) P fs ss := by
  have HP := hid h
  have Hs := hid hs
  have hl1 := hs.vl
  have hl2 := hs.fl
  have hl3 := hs.sl
  obtain ⟨W1, hW1⟩ : ∃ W1, W1 = w.alloc (.cells (pcells a1 a2 a3 c1 c2 c3 P) 26) := ⟨_, rfl⟩
  have hx1 : Ext w W1 := by rw [hW1]; exact (Ext.refl _).alloc _
  obtain ⟨W2, hW2⟩ : ∃ W2, W2 = W1.alloc (.cells #[.slice none 0 0, .slice none 0 0, .slice none 0 0] 26) := ⟨_, rfl⟩
  have hx2 : Ext W1 W2 := by rw [hW2]; exact (Ext.refl _).alloc _
  have HW2 := hid (hx1.trans hx2)
  have HB1 : Hid (Blk W2 w.heap.size (pcells a1 a2 a3 c1 c2 c3 P) 26) := hid (by
    have : Blk W1 w.heap.size (pcells a1 a2 a3 c1 c2 c3 P) 26 := by rw [hW1]; exact Blk.new _ _ _
    exact this.ext hx2)
  have hs1 : W1.heap.size = w.heap.size + 1 := by rw [hW1, heap_size_alloc]
  have HB2 : Hid (Blk W2 (w.heap.size + 1) #[.slice none 0 0, .slice none 0 0, .slice none 0 0] 26) := hid (by
    rw [← hs1, hW2]; exact Blk.new _ _ _)
  have HW2e : Hid (W2 = (w.alloc (.cells #[.slice a1 P.vars.length c1, .slice a2 P.funs.length c2, .slice a3 P.stmts.length c3] 26)).alloc (.cells #[.slice none 0 0, .slice none 0 0, .slice none 0 0] 26)) := hid (by rw [hW2, hW1]; rfl)
  have HCl := hid (clonestr_any (.slice a1 P.vars.length c1) P.vars W2 w.heap.size ((h.ext HW2.out).vars) (by omega))
  have e0 := HB1.out.av 0 rfl
  simp only [pcells, List.getElem_toArray, List.getElem_cons_zero, List.getElem_cons_succ] at e0
  rw [HW2e.out] at e0
  unfold pval
  clear h hs hW1 hW2 hx1 hx2 hs1
  go_enter Tryz.func37, Tryz.ntmps37
  go_wp2_with fail
  rw [← HW2e.out]
  refine HCl.out.mono ?_
  intro e w3 hx
  obtain ⟨v3, rfl, hx3, hr3⟩ := hx
  obtain ⟨va, vc, rfl⟩ := row_form hr3
  have HX3 := hid hx3
  have HV3 := hid hr3
  have HVn : Hid (∀ b, (Value.slice va P.vars.length vc).ownBlock = some b → w.heap.size ≤ b) := hid fun b hb => by
    have h1 := (World.ownsRow.lt hr3 b hb).1
    have h2 := HW2.out.size
    omega
  clear HCl hx3 hr3 e0
  obtain ⟨W4, hW4⟩ : ∃ W4, W4 = w3.alloc (.cells #[.slice va P.vars.length vc, .slice none 0 0, .slice none 0 0] 26) := ⟨_, rfl⟩
  have hx4 : Ext w3 W4 := by rw [hW4]; exact (Ext.refl _).alloc _
  have HO4 : Hid (OwnP W4 w3.heap.size (.slice va P.vars.length vc) (.slice none 0 0) (.slice none 0 0) P [] []) := hid
    ⟨by rw [hW4]; exact Blk.new _ _ _, own_low (own_ext HV3.out hx4) (Nat.zero_le _), World.ownsRow_nil _ _ _ _, World.ownsRow_nil _ _ _ _, fun _ h => by (cases h), fun _ h => by (cases h)⟩
  have HW4 := hid ((HW2.out.trans HX3.out).trans hx4)
  have HB14 := hid (HB1.out.ext (HX3.out.trans hx4))
  have HB24 := hid (HB2.out.ext (HX3.out.trans hx4))
  have Hn1 : Hid (w.heap.size + 1 < w3.heap.size) := hid (Nat.lt_of_lt_of_le HB2.out.lt HX3.out.size)
  have HW4e := hid hW4
  have e1 := HB14.out.av 1 rfl
  simp only [pcells, List.getElem_toArray, List.getElem_cons_zero, List.getElem_cons_succ] at e1
  rw [HW4e.out] at e1
  clear hW4 hx4
  go_wp2
  rw [← HW4e.out]
  clear HW4e e1
  generalize w3.heap.size = n1 at *
  go_loopw [15] (fun t15 wr => ∃ (k : Nat) (fv : Value) (fs : List F2), t15 = .int .i64 (k : Int) ∧ k ≤ P.funs.length ∧ OwnP wr n1 (.slice va P.vars.length vc) fv (.slice none 0 0) P fs [] ∧ fs.map F2.f = P.funs.take k ∧ (∀ x ∈ fs, ∀ b, x.v.ownBlock = some b → w.heap.size ≤ b) ∧ Old n1 W4 wr) (fun t15 _ => P.funs.length - (intOf t15).toNat)
  case atStart => exact ⟨0, _, [], rfl, Nat.zero_le _, HO4.out, rfl, fun _ h => (by cases h), Old.refl _ _⟩
  case round =>
    clear HO4
    obtain ⟨k, fv, fs, rfl, hk, hO, hm, hnw, hw⟩ := hrel
    have HNw := hid hnw
    clear hnw
    have HO := hid hO
    have Hm := hid hm
    have Hw := hid hw
    have Hww : Hid (Old w.heap.size w wr) := hid ((HW4.out.old _).trans (hw.mono fun q _ e => by have := Hn1.out; omega))
    have HBp : Hid (Blk wr w.heap.size (pcells a1 a2 a3 c1 c2 c3 P) 26) := hid (HB14.out.keep hw fun e => by have := Hn1.out; omega)
    have HBr : Hid (Blk wr (w.heap.size + 1) #[.slice none 0 0, .slice none 0 0, .slice none 0 0] 26) := hid (HB24.out.keep hw fun e => by have := Hn1.out; omega)
    have p0 := HBp.out.av 0 rfl
    have p1 := HBp.out.av 1 rfl
    have p2 := HBp.out.av 2 rfl
    simp only [pcells, List.getElem_toArray, List.getElem_cons_zero, List.getElem_cons_succ] at p0 p1 p2
    clear hO hm hw
    by_cases hlt : k < P.funs.length
    · obtain ⟨y, f, av, cv, rfl, hq, e0, e1, e2, hI⟩ := (HP.out.old Hww.out).funs.at hlt
      have hfl : fs.length = k := by
        have := congrArg List.length Hm.out
        rw [List.length_map, List.length_take] at this
        omega
      obtain ⟨fa, fc, hfv⟩ := row_form HO.out.funs
      rw [hfl] at hfv
      subst hfv
      obtain ⟨W5, hW5⟩ : ∃ W5, W5 = wr.alloc (.cells #[.string f.name, .slice av f.params.length cv, .int .i64 f.ret] 74) := ⟨_, rfl⟩
      have hx5 : Ext wr W5 := by rw [hW5]; exact (Ext.refl _).alloc _
      have HB5 : Hid (Blk W5 wr.heap.size #[.string f.name, .slice av f.params.length cv, .int .i64 f.ret] 74) := hid (by rw [hW5]; exact Blk.new _ _ _)
      have hfs := Hs.out.fs f (List.mem_of_getElem? hq)
      have HN := hid (clone_big _ f.params W5 w.heap.size (hI.old (hx5.old _)) (by omega))
      have Hnx : Hid (∀ v, (fs ++ [(⟨f, v⟩ : F2)]).map F2.f = P.funs.take (k + 1)) := hid fun v => by
        rw [List.map_append, Hm.out, List.take_add_one, hq]; rfl
      have Hx5 := hid hx5
      have HW5 := hid hW5
      have Hfl := hid hfl
      clear hq hI hfl hx5 hW5 hfs
      go_wp2_with fail
      rw [← HW5.out]
      refine HN.out.mono ?_
      intro e w6 hx
      obtain ⟨v6, rfl, hx6, hr6⟩ := hx
      obtain ⟨b6, c6, rfl⟩ := row_form hr6
      have hB6 := HB5.out.ext hx6
      have z1 := hB6.av 1 rfl
      have f1 := hB6.free 1
      have hB7 := hB6.set 1 (.slice b6 f.params.length c6)
      have k7 : Keep (fun q => q = wr.heap.size) w6 (w6.setCell ⟨wr.heap.size, 1, none⟩ (.slice b6 f.params.length c6)) := Keep.set (X := fun q => q = wr.heap.size) (Keep.refl _ _) rfl _
      simp only [List.setIfInBounds_toArray, List.set_cons_zero, List.set_cons_succ, List.getElem_toArray, List.getElem_cons_zero, List.getElem_cons_succ] at z1 hB7
      have hx7 : Ext wr (w6.setCell ⟨wr.heap.size, 1, none⟩ (.slice b6 f.params.length c6)) := Keep.new (Hx5.out.trans hx6) k7 fun q e => Nat.le_of_eq e.symm
      have HO7 := hid (HO.out.ext hx7)
      have HT7 := hid ((IntsT.of_row hr6).keep k7 fun q e => by subst e; exact notInt hB6 (by decide))
      have y0 := hB7.av 0 rfl
      have y1 := hB7.av 1 rfl
      have y2 := hB7.av 2 rfl
      have q1 := HO7.out.blk.av 1 rfl
      simp only [List.getElem_toArray, List.getElem_cons_zero, List.getElem_cons_succ] at y0 y1 y2 q1
      have Hx7 := hid hx7
      have Hn8 : Hid (n1 ≤ ((w6.setCell ⟨wr.heap.size, 1, none⟩ (.slice b6 f.params.length c6)).alloc (.cells #[.string f.name, .slice b6 f.params.length c6, .int .i64 f.ret] 74)).heap.size) := hid (Nat.le_trans (Nat.le_of_lt HO7.out.blk.lt) ((Ext.refl _).alloc _).size)
      have Hkl : Hid (k ≤ 1000000) := hid (by omega)
      have HRo : Hid ((w6.setCell ⟨wr.heap.size, 1, none⟩ (.slice b6 f.params.length c6)).ownsRow n1 74 3 (.slice fa k fc) k (fs.flatMap F2.cells)) := hid (by have := HO7.out.funs; rwa [Hfl.out] at this)
      have HNn : Hid (∀ x ∈ fs ++ [(⟨f, .slice b6 f.params.length c6⟩ : F2)], ∀ b, x.v.ownBlock = some b → w.heap.size ≤ b) := hid fun x hx b hb => by
        rcases List.mem_append.1 hx with hx | hx
        · exact HNw.out x hx b hb
        · rw [List.mem_singleton.1 hx] at hb
          have h1 := (World.ownsRow.lt hr6 b hb).1
          have h2 := Hx5.out.size
          have h3 := Hww.out.size
          omega
      clear HN hx6 hr6 hB6 hB7 k7 hx7
      go_wp2_with (at_builtin; refine wpList_append_el n1 Hn8.out 23 74 (.agg #[.string ⟨#[]⟩, .slice none 0 0, .int .i64 0]) 3 48 Tryz.underlying23 fun_info rfl (by omega) (by omega) rfl _ _ rfl (.slice fa k fc) k (fs.flatMap F2.cells) rfl (own_ext HRo.out ((Ext.refl _).alloc _)) w6.heap.size (F2.cells ⟨f, .slice b6 f.params.length c6⟩) rfl (by simp [F2.cells, Value.oneCell']) rfl (Blk.new_setU _ _ _ _ _) Hkl.out ?_; intro v9 w9 ho9 hk9 hl9; obtain ⟨a9, c9, rfl⟩ := row_form ho9; have HO8 := hid (HO7.out.ext ((Ext.refl _).alloc (.cells #[.string f.name, .slice b6 f.params.length c6, .int .i64 f.ret] 74))); have HT8 := hid (HT7.out.ext ((Ext.refl _).alloc (.cells #[.string f.name, .slice b6 f.params.length c6, .int .i64 f.ret] 74))); have Hk9 := hid hk9; have Ho9 := hid ho9; have hb9 := HO8.out.blk.keep hk9 (fun e => by obtain ⟨c, hc⟩ := own_ty HO8.out.funs e; exact Blk.ty_ne hc HO8.out.blk (by decide) rfl); have s1 := hb9.av 1 rfl; have t1 := hb9.free 1; clear ho9 hk9 hb9)
      have HO10 := hid (HO8.out.fun ⟨f, .slice b6 f.params.length c6⟩ HT8.out (by rw [Hfl.out]; exact Ho9.out) Hk9.out rfl)
      have HO11 : Hid (Old n1 W4 (w9.setCell ⟨n1, 1, none⟩ (.slice a9 (k + 1) c9))) := hid (by
        refine Hw.out.trans (((Hx7.out.trans ((Ext.refl _).alloc _)).old n1).trans ((Hk9.out.mono fun q _ e => (World.ownsRow.lt HO8.out.funs q e).1).trans ?_))
        exact Keep.set (X := fun q => n1 ≤ q) (Keep.refl _ _) (Nat.le_refl _) _)
      go_roundw
      case rel => exact ⟨k + 1, _, _, by go_num, by omega, HO10.out, Hnx.out _, HNn.out, HO11.out⟩
      case measure => simp [intOf]; omega
    · obtain rfl : k = P.funs.length := by omega
      rw [List.take_of_length_le (Nat.le_refl _)] at Hm
      have Hmf := Hm
      have HOf := HO
      have Hwf := Hw
      clear Hm HO Hw HBr Hww HBp
      go_wp2
      clear p0 p1 p2
      rename World => w7
      go_loopw [33] (fun t33 wr => ∃ (k : Nat) (sv : Value) (ss : List S2), t33 = .int .i64 (k : Int) ∧ k ≤ P.stmts.length ∧ OwnP wr n1 (.slice va P.vars.length vc) fv sv P fs ss ∧ ss.map S2.s = P.stmts.take k ∧ (∀ x ∈ ss, ∀ b, x.v.ownBlock = some b → w.heap.size ≤ b) ∧ Old n1 W4 wr) (fun t33 _ => P.stmts.length - (intOf t33).toNat)
      case atStart => exact ⟨0, _, [], rfl, Nat.zero_le _, HOf.out, rfl, fun _ h => (by cases h), Hwf.out⟩
      case round =>
        clear HOf Hwf
        obtain ⟨k, sv, ss, rfl, hk, hO, hm, hnw, hw⟩ := hrel
        have HNv := hid hnw
        clear hnw
        have HO := hid hO
        have Hm := hid hm
        have Hw := hid hw
        have Hww : Hid (Old w.heap.size w wr) := hid ((HW4.out.old _).trans (hw.mono fun q _ e => by have := Hn1.out; omega))
        have HBp : Hid (Blk wr w.heap.size (pcells a1 a2 a3 c1 c2 c3 P) 26) := hid (HB14.out.keep hw fun e => by have := Hn1.out; omega)
        have HBr : Hid (Blk wr (w.heap.size + 1) #[.slice none 0 0, .slice none 0 0, .slice none 0 0] 26) := hid (HB24.out.keep hw fun e => by have := Hn1.out; omega)
        have p0 := HBp.out.av 0 rfl
        have p1 := HBp.out.av 1 rfl
        have p2 := HBp.out.av 2 rfl
        simp only [pcells, List.getElem_toArray, List.getElem_cons_zero, List.getElem_cons_succ] at p0 p1 p2
        clear hO hm hw
        by_cases hlt : k < P.stmts.length
        · obtain ⟨y, f, av, cv, rfl, hq, e0, e1, e2, e3, hI⟩ := (HP.out.old Hww.out).stmts.at hlt
          have hfl : ss.length = k := by
            have := congrArg List.length Hm.out
            rw [List.length_map, List.length_take] at this
            omega
          obtain ⟨fa, fc, hfv⟩ := row_form HO.out.stmts
          rw [hfl] at hfv
          subst hfv
          obtain ⟨W5, hW5⟩ : ∃ W5, W5 = wr.alloc (.cells #[.string f.kind, .int .i64 f.x, .int .i64 f.y, .slice av f.args.length cv] 65) := ⟨_, rfl⟩
          have hx5 : Ext wr W5 := by rw [hW5]; exact (Ext.refl _).alloc _
          have HB5 : Hid (Blk W5 wr.heap.size #[.string f.kind, .int .i64 f.x, .int .i64 f.y, .slice av f.args.length cv] 65) := hid (by rw [hW5]; exact Blk.new _ _ _)
          have hfs := Hs.out.ss f (List.mem_of_getElem? hq)
          have HN := hid (clone_big _ f.args W5 w.heap.size (hI.old (hx5.old _)) (by omega))
          have Hnx : Hid (∀ v, (ss ++ [(⟨f, v⟩ : S2)]).map S2.s = P.stmts.take (k + 1)) := hid fun v => by
            rw [List.map_append, Hm.out, List.take_add_one, hq]; rfl
          have Hx5 := hid hx5
          have HW5 := hid hW5
          have Hfl := hid hfl
          clear hq hI hfl hx5 hW5 hfs
          go_wp2_with fail
          rw [← HW5.out]
          refine HN.out.mono ?_
          intro e w6 hx
          obtain ⟨v6, rfl, hx6, hr6⟩ := hx
          obtain ⟨b6, c6, rfl⟩ := row_form hr6
          have hB6 := HB5.out.ext hx6
          have z1 := hB6.av 3 rfl
          have f1 := hB6.free 3
          have hB7 := hB6.set 3 (.slice b6 f.args.length c6)
          have k7 : Keep (fun q => q = wr.heap.size) w6 (w6.setCell ⟨wr.heap.size, 3, none⟩ (.slice b6 f.args.length c6)) := Keep.set (X := fun q => q = wr.heap.size) (Keep.refl _ _) rfl _
          simp only [List.setIfInBounds_toArray, List.set_cons_zero, List.set_cons_succ, List.getElem_toArray, List.getElem_cons_zero, List.getElem_cons_succ] at z1 hB7
          have hx7 : Ext wr (w6.setCell ⟨wr.heap.size, 3, none⟩ (.slice b6 f.args.length c6)) := Keep.new (Hx5.out.trans hx6) k7 fun q e => Nat.le_of_eq e.symm
          have HO7 := hid (HO.out.ext hx7)
          have HT7 := hid ((IntsT.of_row hr6).keep k7 fun q e => by subst e; exact notInt hB6 (by decide))
          have y0 := hB7.av 0 rfl
          have y1 := hB7.av 1 rfl
          have y2 := hB7.av 2 rfl
          have y3 := hB7.av 3 rfl
          have q1 := HO7.out.blk.av 2 rfl
          simp only [List.getElem_toArray, List.getElem_cons_zero, List.getElem_cons_succ] at y0 y1 y2 y3 q1
          have Hx7 := hid hx7
          have Hn8 : Hid (n1 ≤ ((w6.setCell ⟨wr.heap.size, 3, none⟩ (.slice b6 f.args.length c6)).alloc (.cells #[.string f.kind, .int .i64 f.x, .int .i64 f.y, .slice b6 f.args.length c6] 65)).heap.size) := hid (Nat.le_trans (Nat.le_of_lt HO7.out.blk.lt) ((Ext.refl _).alloc _).size)
          have Hkl : Hid (k ≤ 1000000) := hid (by omega)
          have HRo : Hid ((w6.setCell ⟨wr.heap.size, 3, none⟩ (.slice b6 f.args.length c6)).ownsRow n1 65 4 (.slice fa k fc) k (ss.flatMap S2.cells)) := hid (by have := HO7.out.stmts; rwa [Hfl.out] at this)
          have HNn : Hid (∀ x ∈ ss ++ [(⟨f, .slice b6 f.args.length c6⟩ : S2)], ∀ b, x.v.ownBlock = some b → w.heap.size ≤ b) := hid fun x hx b hb => by
            rcases List.mem_append.1 hx with hx | hx
            · exact HNv.out x hx b hb
            · rw [List.mem_singleton.1 hx] at hb
              have h1 := (World.ownsRow.lt hr6 b hb).1
              have h2 := Hx5.out.size
              have h3 := Hww.out.size
              omega
          clear HN hx6 hr6 hB6 hB7 k7 hx7
          go_wp2_with (at_builtin; refine wpList_append_el n1 Hn8.out 24 65 (.agg #[.string ⟨#[]⟩, .int .i64 0, .int .i64 0, .slice none 0 0]) 4 56 Tryz.underlying24 stmt_info rfl (by omega) (by omega) rfl _ _ rfl (.slice fa k fc) k (ss.flatMap S2.cells) rfl (own_ext HRo.out ((Ext.refl _).alloc _)) w6.heap.size (S2.cells ⟨f, .slice b6 f.args.length c6⟩) rfl (by simp [S2.cells, Value.oneCell']) rfl (Blk.new_setU _ _ _ _ _) Hkl.out ?_; intro v9 w9 ho9 hk9 hl9; obtain ⟨a9, c9, rfl⟩ := row_form ho9; have HO8 := hid (HO7.out.ext ((Ext.refl _).alloc (.cells #[.string f.kind, .int .i64 f.x, .int .i64 f.y, .slice b6 f.args.length c6] 65))); have HT8 := hid (HT7.out.ext ((Ext.refl _).alloc (.cells #[.string f.kind, .int .i64 f.x, .int .i64 f.y, .slice b6 f.args.length c6] 65))); have Hk9 := hid hk9; have Ho9 := hid ho9; have hb9 := HO8.out.blk.keep hk9 (fun e => by obtain ⟨c, hc⟩ := own_ty HO8.out.stmts e; exact Blk.ty_ne hc HO8.out.blk (by decide) rfl); have s1 := hb9.av 2 rfl; have t1 := hb9.free 2; clear ho9 hk9 hb9)
          have HO10 := hid (HO8.out.stmt ⟨f, .slice b6 f.args.length c6⟩ HT8.out (by rw [Hfl.out]; exact Ho9.out) Hk9.out rfl)
          have HO11 : Hid (Old n1 W4 (w9.setCell ⟨n1, 2, none⟩ (.slice a9 (k + 1) c9))) := hid (by
            refine Hw.out.trans (((Hx7.out.trans ((Ext.refl _).alloc _)).old n1).trans ((Hk9.out.mono fun q _ e => (World.ownsRow.lt HO8.out.stmts q e).1).trans ?_))
            exact Keep.set (X := fun q => n1 ≤ q) (Keep.refl _ _) (Nat.le_refl _) _)
          go_roundw
          case rel => exact ⟨k + 1, _, _, by go_num, by omega, HO10.out, Hnx.out _, HNn.out, HO11.out⟩
          case measure => simp [intOf]; omega
        · obtain rfl : k = P.stmts.length := by omega
          rw [List.take_of_length_le (Nat.le_refl _)] at Hm
          have hfl : fs.length = P.funs.length := by rw [← Hmf.out, List.length_map]
          have hsl : ss.length = P.stmts.length := by rw [← Hm.out, List.length_map]
          obtain ⟨fa, fc, hfv⟩ := row_form HO.out.funs
          obtain ⟨sa, sc, hsv⟩ := row_form HO.out.stmts
          rw [hfl] at hfv
          rw [hsl] at hsv
          subst hfv hsv
          have q0 := HO.out.blk.av 0 rfl
          have q1 := HO.out.blk.av 1 rfl
          have q2 := HO.out.blk.av 2 rfl
          have z0 := HBr.out.av 0 rfl
          have z1 := HBr.out.av 1 rfl
          have z2 := HBr.out.av 2 rfl
          have f0 := HBr.out.free 0
          have f1 := HBr.out.free 1
          have f2 := HBr.out.free 2
          simp only [List.getElem_toArray, List.getElem_cons_zero, List.getElem_cons_succ] at q0 q1 q2 z0 z1 z2
          have HBz := hid (store3 (v0 := .slice va P.vars.length vc) (v1 := .slice fa P.funs.length fc) (v2 := .slice sa P.stmts.length sc) HBr.out)
          have HKz := hid (store3_keep wr (w.heap.size + 1) (.slice va P.vars.length vc) (.slice fa P.funs.length fc) (.slice sa P.stmts.length sc))
          obtain ⟨W10, hW10⟩ : ∃ W10, W10 = (((wr.setCell ⟨w.heap.size + 1, 0, none⟩ (.slice va P.vars.length vc)).setCell ⟨w.heap.size + 1, 1, none⟩ (.slice fa P.funs.length fc)).setCell ⟨w.heap.size + 1, 2, none⟩ (.slice sa P.stmts.length sc)) := ⟨_, rfl⟩
          rw [← hW10] at HBz HKz
          have HW10 := hid hW10
          have Hfs := hid (And.intro hfl hsl)
          clear hfl hsl p0 p1 hW10
          go_wp2
          rw [← HW10.out]
          have c0 := HBz.out.av 0 rfl
          have c1' := HBz.out.av 1 rfl
          have c2' := HBz.out.av 2 rfl
          have hX := Keep.new (Ext.refl w) (Hww.out.trans (HKz.out.mono fun b _ e => by omega)) fun b hb => hb
          have hni : ∀ b, b = w.heap.size + 1 → ¬ IsInt wr b := fun b e => by subst e; exact notInt HBr.out (by decide)
          have hrk : ∀ {base : Nat} {e : TypeId} {size : Nat} {v : Value} {n : Nat} {xs : List Value}, wr.ownsRow base e size v n xs → e ≠ 26 → W10.ownsRow base e size v n xs := fun hr hne => row_keep hr HKz.out fun i hi e => by
            subst e
            obtain ⟨c, hc⟩ := own_ty hr hi
            exact Blk.ty_ne hc HBr.out hne rfl
          have hbn : w.heap.size ≤ n1 := by have := Hn1.out; omega
          have hP' : CopyP W10 w.heap.size (.slice va P.vars.length vc) (.slice fa P.funs.length fc) (.slice sa P.stmts.length sc) P fs ss :=
            ⟨own_high (hrk HO.out.vars (by decide)) HVn.out, own_low (by have := hrk HO.out.funs (by decide); rw [Hfs.out.1] at this; exact this) hbn, own_low (by have := hrk HO.out.stmts (by decide); rw [Hfs.out.2] at this; exact this) hbn, Hmf.out, Hm.out, fun x hx => ⟨(HO.out.fi x hx).keep HKz.out hni, HNw.out x hx⟩, fun x hx => ⟨(HO.out.si x hx).keep HKz.out hni, HNv.out x hx⟩⟩
          exact bodyPost_ret (v := pval va fa sa vc fc sc P) (by simp [results, pval, Tryz.results37, go_sem, c0, c1', c2']) rfl ⟨hX, _, _, _, _, _, _, _, _, rfl, hP'⟩
end Go.Proofs.YtdppgcbekhabnaaGreatDoor



/- FixOrder, plainly: statements twice and turned round; one statement more. -/
namespace Go.Proofs.YtdppgcbekhabnaaGreatDoor
set_option linter.unusedSimpArgs false
set_option linter.unusedVariables false
open Go Go.RowKit

/-- A program with other statements. -/
def PP.withS (P : PP) (l : List PS) : PP := ⟨P.vars, P.funs, l⟩
theorem goodS_to {P Q : PP} (hn : P.nodesV = Q.nodesV) (ho : P.objectsV = Q.objectsV) (hw : P.Well) {has : List (List Int)} (h : Q.GoodS has) : P.GoodS has :=
  ⟨hw, h.2.1.trans hn.symm, fun l hl => by
    have := h.2.2 l hl
    unfold PP.setE at this ⊢
    rw [ho]
    exact this⟩
/-- Statements from the last to the first, each twice. -/
def twice (l : List PS) : List PS := l.reverse.flatMap fun x => [x, x]
theorem isNew_more {P : PP} {m : PS} (hm : m.isK kNew = false) (k : Nat) : (P.withS (P.stmts ++ [m])).isNew k = P.isNew k := by
  unfold PP.isNew
  have e : (P.withS (P.stmts ++ [m])).stmts = P.stmts ++ [m] := rfl
  rw [e]
  by_cases hk : k < P.stmts.length
  · rw [List.getElem?_append_left hk]
  · rw [List.getElem?_eq_none (l := P.stmts) (by omega)]
    by_cases hk2 : k = P.stmts.length
    · subst hk2
      rw [List.getElem?_concat_length]
      exact hm
    · rw [List.getElem?_eq_none (by rw [List.length_append, List.length_singleton]; omega)]
theorem isNew_end (P : PP) {k : Nat} (h : P.stmts.length ≤ k) : P.isNew k = false := by
  unfold PP.isNew
  rw [List.getElem?_eq_none h]
theorem newsN_more {P : PP} {m : PS} (hm : m.isK kNew = false) (k : Nat) : (P.withS (P.stmts ++ [m])).newsN k = P.newsN k := by
  unfold PP.newsN
  rw [show (P.withS (P.stmts ++ [m])).isNew = P.isNew from funext (isNew_more hm)]
theorem nodes_more {P : PP} {m : PS} (hm : m.isK kNew = false) : (P.withS (P.stmts ++ [m])).nodesV = P.nodesV := by
  unfold PP.nodesV
  rw [newsN_more hm, show (P.withS (P.stmts ++ [m])).stmts.length = P.stmts.length + 1 from List.length_append, PP.newsN_succ, isNew_end P (Nat.le_refl _)]
  rfl
theorem objects_more {P : PP} {m : PS} (hm : m.isK kNew = false) : (P.withS (P.stmts ++ [m])).objectsV = P.objectsV := by
  unfold PP.objectsV
  rw [nodes_more hm]
  rfl
theorem place_more {P : PP} {m : PS} (hm : m.isK kNew = false) (k : Int) : (P.withS (P.stmts ++ [m])).placeV k = P.placeV k := by
  unfold PP.placeV
  rw [isNew_more hm, newsN_more hm, show (P.withS (P.stmts ++ [m])).stmts.length = P.stmts.length + 1 from List.length_append]
  have e : (0 ≤ k ∧ k < ((P.stmts.length + 1 : Nat) : Int) ∧ P.isNew k.toNat = true) ↔ (0 ≤ k ∧ k < (P.stmts.length : Int) ∧ P.isNew k.toNat = true) :=
    ⟨fun ⟨h1, _, h3⟩ => ⟨h1, (by
      rcases Nat.lt_or_ge k.toNat P.stmts.length with h | h
      · omega
      · rw [isNew_end P h] at h3
        exact absurd h3 (by decide)), h3⟩, fun ⟨h1, h2, h3⟩ => ⟨h1, by omega, h3⟩⟩
  by_cases h : 0 ≤ k ∧ k < (P.stmts.length : Int) ∧ P.isNew k.toNat = true
  · rw [if_pos h, if_pos (e.2 h)]
    rfl
  · rw [if_neg h, if_neg fun g => h (e.1 g)]
theorem rule_more {P : PP} {m : PS} (hm : m.isK kNew = false) (k : Nat) (x : PS) : (P.withS (P.stmts ++ [m])).ruleV k x = P.ruleV k x := by
  unfold PP.ruleV
  rw [place_more hm, nodes_more hm]
theorem stAt_more {P : PP} {m : PS} {k : Nat} (hk : k < P.stmts.length) : (P.withS (P.stmts ++ [m])).stAt k = P.stAt k := by
  unfold PP.stAt
  rw [show (P.withS (P.stmts ++ [m])).stmts = P.stmts ++ [m] from rfl, List.getD_eq_getElem?_getD, List.getD_eq_getElem?_getD, List.getElem?_append_left hk]
theorem closed_more {P : PP} {m : PS} (hm : m.isK kNew = false) {has : List (List Int)} (h : ClosedP (P.withS (P.stmts ++ [m])) has) : ClosedP P has := by
  refine ⟨fun k hk hb => ?_, fun e he hne => ?_⟩
  · have := h.base k (by rw [show (P.withS (P.stmts ++ [m])).stmts.length = P.stmts.length + 1 from List.length_append]; omega)
    rw [stAt_more hk, rule_more hm] at this
    exact this hb
  · obtain ⟨x, hx, hs⟩ := mem_edges0.1 he
    refine h.edge e (mem_edges0.2 ⟨x, List.mem_append_left _ hx, ?_⟩) hne
    rw [sedges_congr (nodes_more hm) rfl]
    exact hs
end Go.Proofs.YtdppgcbekhabnaaGreatDoor



/- Rules of a program whose numbers lie in new blocks; a program with a statement more. -/
namespace Go.Proofs.YtdppgcbekhabnaaGreatDoor
set_option linter.unusedSimpArgs false
set_option linter.unusedVariables false
open Go Go.RowKit

set_option maxRecDepth 100000 in
set_option maxHeartbeats 6400000 in
theorem consrule_calln (a1 a2 a3 : Option Addr) (c1 c2 c3 : Nat) (P : PP) (k : Nat) (x : PS) (hxk : P.stmts[k]? = some x) (w : World) (n0 : Nat) (ad : Nat → Addr) (h : PW w n0 ad a1 a2 a3 c1 c2 c3 P) (hkx : x.isK kCall = true) :
    Calls Tryz.prog 69 #[pval a1 a2 a3 c1 c2 c3 P, .int .i64 (k : Int)] w fun e w' => ∃ av, e = .returned ((P.ruleV k x).val av) ∧ IntsT w' av (P.ruleV k x).args ∧ (∀ b, av.ownBlock = some b → w.heap.size ≤ b) ∧ Ext w w' := by
  have hfew := call_few (h.well.2 k x (by
    rcases Nat.lt_or_ge k P.stmts.length with h | h
    · exact h
    · rw [List.getElem?_eq_none h] at hxk; cases hxk) hxk) hkx
  obtain ⟨W1, hW1⟩ : ∃ W1, W1 = w.alloc (.cells (pcells a1 a2 a3 c1 c2 c3 P) 26) := ⟨_, rfl⟩
  have hx1 : Ext w W1 := by rw [hW1]; exact (Ext.refl _).alloc _
  obtain ⟨W2, hW2⟩ : ∃ W2, W2 = W1.alloc (.cells #[.string ⟨#[]⟩, .int .i64 0, .int .i64 0, .int .i64 0, .slice none 0 0] 86) := ⟨_, rfl⟩
  have hx2 : Ext W1 W2 := by rw [hW2]; exact (Ext.refl _).alloc _
  have hk : k < P.stmts.length := by
    rcases Nat.lt_or_ge k P.stmts.length with h | h
    · exact h
    · rw [List.getElem?_eq_none h] at hxk; cases hxk
  have hml := h.prog.stmts.len
  obtain ⟨y, x', av, cv, rfl, hxk', e0, e1, e2, e3, hI⟩ := (h.prog.ext (hx1.trans hx2)).stmts.at hk
  obtain rfl := Option.some.inj (hxk.symm.trans hxk')
  obtain ⟨W3, hW3⟩ : ∃ W3, W3 = W2.alloc (.cells (scells x av cv) 65) := ⟨_, rfl⟩
  have hx3 : Ext W2 W3 := by rw [hW3]; exact (Ext.refl _).alloc _
  have s1 : W1.heap.size = w.heap.size + 1 := by rw [hW1, heap_size_alloc]
  have s2 : W2.heap.size = w.heap.size + 1 + 1 := by rw [hW2, heap_size_alloc, s1]
  have HX := hid ((hx1.trans hx2).trans hx3)
  have HB0 : Hid (Blk W3 w.heap.size (pcells a1 a2 (some y) c1 c2 c3 P) 26) := hid (by
    have : Blk W1 w.heap.size (pcells a1 a2 (some y) c1 c2 c3 P) 26 := by rw [hW1]; exact Blk.new _ _ _
    exact this.ext (hx2.trans hx3))
  have HB1 : Hid (Blk W3 (w.heap.size + 1) #[.string ⟨#[]⟩, .int .i64 0, .int .i64 0, .int .i64 0, .slice none 0 0] 86) := hid (by
    have : Blk W2 (w.heap.size + 1) #[.string ⟨#[]⟩, .int .i64 0, .int .i64 0, .int .i64 0, .slice none 0 0] 86 := by rw [← s1, hW2]; exact Blk.new _ _ _
    exact this.ext hx3)
  have HB2 : Hid (Blk W3 (w.heap.size + 1 + 1) (scells x av cv) 65) := hid (by rw [← s2, hW3]; exact Blk.new _ _ _)
  have HI := hid (hI.old (hx3.old n0))
  have HPW := hid h
  have Hxk := hid hxk
  rw [hW2, hW1] at e0 e1 e2 e3
  unfold pcells at e0 e1 e2 e3
  have HWe : Hid (W3 = ((w.alloc (.cells #[.slice a1 P.vars.length c1, .slice a2 P.funs.length c2, .slice (some y) P.stmts.length c3] 26)).alloc (.cells #[.string ⟨#[]⟩, .int .i64 0, .int .i64 0, .int .i64 0, .slice none 0 0] 86)).alloc (.cells #[.string x.kind, .int .i64 x.x, .int .i64 x.y, .slice av x.args.length cv] 65)) := hid (by rw [hW3, hW2, hW1]; rfl)
  obtain ⟨hf1, hf2, hf3⟩ := h.well.few
  clear hW1 hW2 hW3 hx1 hx2 hx3 s1 s2 hxk hxk' hI h
  unfold pval
  have HCl := fun w1 (y : Ext W3 w1) => hid (clone_big (.slice av x.args.length cv) x.args w1 n0 (HI.out.old (y.old n0)) (by omega))
  have h1 : (x.kind.toList == [97, 100, 100, 114]) = false := isK_ne hkx (k' := kAddr) rfl
  have h5 : (x.kind.toList == [110, 101, 119]) = false := isK_ne hkx (k' := kNew) rfl
  have h6 : (x.kind.toList == [102, 117, 110]) = false := isK_ne hkx (k' := kFun) rfl
  have hkk := hkx
  unfold PS.isK kCall at hkk
  have Hr : Hid (P.ruleV k x = ⟨bCall, x.y, x.x, k, x.args⟩) := hid (by unfold PP.ruleV; rw [isK_ne hkx (k' := kAddr) rfl, isK_ne hkx (k' := kNew) rfl, isK_ne hkx (k' := kFun) rfl, hkx]; rfl)
  clear hkx
  have x0 := Ext.refl W3
  have m0 := (HB2.out.ext x0).kc (X := fun _ => False) (fun e => e) 0 rfl
  have m1 := (HB2.out.ext x0).kc (X := fun _ => False) (fun e => e) 1 rfl
  have m2 := (HB2.out.ext x0).kc (X := fun _ => False) (fun e => e) 2 rfl
  have m3 := (HB2.out.ext x0).kc (X := fun _ => False) (fun e => e) 3 rfl
  have d0 := (HB0.out.ext x0).kc (X := fun _ => False) (fun e => e) 0 rfl
  have d1 := (HB0.out.ext x0).kc (X := fun _ => False) (fun e => e) 1 rfl
  have d2 := (HB0.out.ext x0).kc (X := fun _ => False) (fun e => e) 2 rfl
  simp only [pcells, scells, List.getElem_toArray, List.getElem_cons_zero, List.getElem_cons_succ] at m0 m1 m2 m3 d0 d1 d2
  clear x0
  go_enter Tryz.func69, Tryz.ntmps69
  go_wp2
  rw [← HWe.out]
  refine wp_flowT (fun _ => False) (by kernel_rfl) (by kernel_rfl) ?_
  repeat (apply FlowT.d; (intro w1 hk; unfold does; go_simp; (try go_ints); (first | exact DetR.mk | (simp only [↓IntWalk.iteOmega, Oper.doesUpon_value]; exact DetR.mk) | (simp only [↓IntWalk.iteOmega]; go_simp; (try go_ints); exact DetR.mk))); simp only [Act.put, List.setIfInBounds_toArray, List.set_cons_zero, List.set_cons_succ])
  refine FlowT.s (fun v w' => (∃ a c, v = .slice a x.args.length c) ∧ IntsT w' v x.args ∧ (∀ b, v.ownBlock = some b → w.heap.size ≤ b) ∧ Ext W3 w') 7 rfl (by kernel_rfl) (fun _ _ _ ⟨h1, h2, h0, h3⟩ y => ⟨h1, h2.ext y, h0, h3.trans y⟩) (fun w1 hC hk => ?_) ?_
  · unfold does
    go_simp
    refine CallR.act ((HCl w1 hC).out.mono ?_)
    rintro e w2 ⟨v, rfl, hx, hr⟩
    exact ⟨v, rfl, (hC.trans hx).keep _, hr.form, IntsT.of_row hr, fun b hb => Nat.le_trans (Nat.le_trans HX.out.size hC.size) (hr.lt hb).1, hC.trans hx⟩
  rintro _ ⟨_, ⟨a9, c9, rfl⟩, _, hnew, _⟩
  have HNew := hid hnew
  clear hnew
  simp only [Act.put, List.setIfInBounds_toArray, List.set_cons_zero, List.set_cons_succ]
  repeat (apply FlowT.d; (intro w1 hk; unfold does; go_simp; (try go_ints); (first | exact DetR.mk | (simp only [↓IntWalk.iteOmega, Oper.doesUpon_value]; exact DetR.mk) | (simp only [↓IntWalk.iteOmega]; go_simp; (try go_ints); exact DetR.mk))); simp only [Act.put, List.setIfInBounds_toArray, List.set_cons_zero, List.set_cons_succ])
  refine FlowT.last (fun _ w' => Blk w' (w.heap.size + 1) #[.string ⟨#[99, 97, 108, 108]⟩, .int .i64 x.y, .int .i64 x.x, .int .i64 (k : Int), .slice a9 x.args.length c9] 86 ∧ IntsT w' (.slice a9 x.args.length c9) (P.ruleV k x).args ∧ Ext w w') 9 rfl (by kernel_rfl) (by kernel_rfl) (fun w1 hC hk => ?_) (fun _ w2 hR => ?_)
  · obtain ⟨_, hT, _, hC⟩ := hC
    have hB := HB1.out.ext hC
    have c0 := hB.av 0 rfl
    have c1 := hB.av 1 rfl
    have c2 := hB.av 2 rfl
    have c3 := hB.av 3 rfl
    have c4 := hB.av 4 rfl
    have f0 := hB.free
    unfold does
    go_simp
    exact ⟨store5 hB, by rw [Hr.out]; exact store5_old hT hB _ _ _ _ _, Keep.new (HX.out.trans hC) (store5_keep _ _ _ _ _ _ _) (fun b hb => by omega)⟩
  obtain ⟨hB, hT, hxw⟩ := hR
  simp only [Act.put]
  have HT := hid hT
  have HBw := hid hB
  clear hT
  go_wp2
  exact bodyPost_ret (v := .agg #[.string ⟨#[99, 97, 108, 108]⟩, .int .i64 x.y, .int .i64 x.x, .int .i64 (k : Int), .slice a9 x.args.length c9]) (by simp [results, Tryz.results69, go_sem, hB.av 0 rfl, hB.av 1 rfl, hB.av 2 rfl, hB.av 3 rfl, hB.av 4 rfl]) rfl ⟨_, by rw [Hr.out]; rfl, HT.out, HNew.out, hxw⟩
theorem rule_noargs {P : PP} {k : Nat} {x : PS} (h : x.isK kCall = false) : (P.ruleV k x).args = [] := by
  unfold PP.ruleV
  cases x.isK kAddr with
  | true => rfl
  | false =>
  cases x.isK kNew with
  | true => rfl
  | false =>
  cases x.isK kFun with
  | true => rfl
  | false => rw [h]; rfl
theorem consrule_ruled (a1 a2 a3 : Option Addr) (c1 c2 c3 : Nat) (P : PP) (k : Nat) (x : PS) (hxk : P.stmts[k]? = some x) (w : World) (n0 : Nat) (ad : Nat → Addr) (h : PW w n0 ad a1 a2 a3 c1 c2 c3 P) :
    Calls Tryz.prog 69 #[pval a1 a2 a3 c1 c2 c3 P, .int .i64 (k : Int)] w fun e w' => ∃ av, e = .returned ((P.ruleV k x).val av) ∧ IntsT w' av (P.ruleV k x).args ∧ (0 < (P.ruleV k x).args.length → ∀ b, av.ownBlock = some b → w.heap.size ≤ b) ∧ Ext w w' := by
  cases hk : x.isK kCall with
  | true => exact (consrule_calln a1 a2 a3 c1 c2 c3 P k x hxk w n0 ad h hk).mono fun _ _ ⟨av, h1, h2, h3, h4⟩ => ⟨av, h1, h2, fun _ => h3, h4⟩
  | false => exact (consrule_any a1 a2 a3 c1 c2 c3 P k x hxk w n0 ad h).mono fun _ _ ⟨av, h1, h2, h4⟩ => ⟨av, h1, h2, fun h0 => absurd h0 (by rw [rule_noargs hk]; decide), h4⟩
set_option maxRecDepth 100000 in
set_option maxHeartbeats 3200000 in
theorem consof_new (a1 a2 a3 : Option Addr) (c1 c2 c3 : Nat) (P : PP) (w : World) (n0 : Nat) (ad : Nat → Addr) (h : PW w n0 ad a1 a2 a3 c1 c2 c3 P) :
    Calls Tryz.prog 36 #[pval a1 a2 a3 c1 c2 c3 P] w fun e w' => ∃ v rs, e = .returned (.tuple #[v, .nilIface]) ∧ RulesT w' w.heap.size v P.rulesV rs ∧ (∀ x ∈ rs, 0 < x.r.args.length → ∀ b, x.v.ownBlock = some b → w.heap.size ≤ b) ∧ Ext w w' := by
  have HRu := fun k (hk : k < P.stmts.length) w1 (x : Ext w w1) => hid (consrule_ruled a1 a2 a3 c1 c2 c3 P k _ (stAt_some hk) w1 n0 ad (h.ext x))
  obtain ⟨W, hW⟩ : ∃ W, W = w.alloc (.cells (pcells a1 a2 a3 c1 c2 c3 P) 26) := ⟨_, rfl⟩
  have HX : Hid (Ext w W) := hid (by rw [hW]; exact (Ext.refl _).alloc _)
  have HBx : Hid (Blk W w.heap.size (pcells a1 a2 a3 c1 c2 c3 P) 26) := hid (by rw [hW]; exact Blk.new _ _ _)
  have HWe : Hid (W = w.alloc (.cells #[.slice a1 P.vars.length c1, .slice a2 P.funs.length c2, .slice a3 P.stmts.length c3] 26)) := hid (by rw [hW]; rfl)
  have HK := hid (check_well (h.errs.ext HX.out) (h.prog.ext HX.out) h.z1 h.z2 h.well)
  obtain ⟨hf1, hf2, hf3⟩ := h.well.few
  have d0 := HBx.out.av 0 rfl
  have d1 := HBx.out.av 1 rfl
  have d2 := HBx.out.av 2 rfl
  simp only [pcells, List.getElem_toArray, List.getElem_cons_zero, List.getElem_cons_succ] at d0 d1 d2
  unfold pval at HK HRu ⊢
  clear hW h
  go_enter Tryz.func36, Tryz.ntmps36
  go_wp2_with fail
  rw [← HWe.out]
  refine HK.out.mono ?_
  intro e w1 hx
  obtain ⟨rfl, hx1⟩ := hx
  have Hx1 := hid hx1
  clear HK hx1 d0 d1 d2
  have d2 := (HBx.out.ext Hx1.out).av 2 rfl
  simp only [pcells, List.getElem_toArray, List.getElem_cons_zero, List.getElem_cons_succ] at d2
  go_wp2
  go_loopw [5, 15] (fun t5 t15 wr => ∃ (k : Nat) (rs : List R2), t15 = .int .i64 (k : Int) ∧ k ≤ P.stmts.length ∧ rs.map R2.r = P.rulesUp k ∧ wr.ownsRow W.heap.size 86 5 t5 k (rs.flatMap R2.cells) ∧ (∀ x ∈ rs, IntsT wr x.v x.r.args) ∧ (∀ x ∈ rs, 0 < x.r.args.length → ∀ b, x.v.ownBlock = some b → w.heap.size ≤ b) ∧ Ext W wr) (fun _ t15 _ => P.stmts.length - (intOf t15).toNat)
  case atStart => exact ⟨0, [], rfl, Nat.zero_le _, rfl, World.ownsRow_nil _ _ _ _, (fun x h => by cases h), (fun x h => by cases h), Hx1.out⟩
  case round =>
    obtain ⟨k, rs, rfl, hk, he, hr, ha, hnw, hx⟩ := hrel
    have HNw := hid hnw
    clear hnw
    obtain ⟨a5, c5, rfl⟩ := row_form hr
    have He := hid he
    have Hr := hid hr
    have Ha := hid ha
    have Hx := hid hx
    clear he hr ha hx d2
    by_cases hlt : k < P.stmts.length
    · have HC := HRu k hlt wr (HX.out.trans Hx.out)
      obtain ⟨r, hr⟩ : ∃ r, r = P.ruleV k (P.stAt k) := ⟨_, rfl⟩
      rw [← hr] at HC
      have Hrr := hid hr
      have d0 := (HBx.out.ext Hx.out).av 0 rfl
      have d1 := (HBx.out.ext Hx.out).av 1 rfl
      have d2 := (HBx.out.ext Hx.out).av 2 rfl
      simp only [pcells, List.getElem_toArray, List.getElem_cons_zero, List.getElem_cons_succ] at d0 d1 d2
      clear HRu hr
      go_wp2_with fail
      refine HC.out.mono ?_
      intro e w2 hx
      obtain ⟨av, rfl, hT, hn2, hx2⟩ := hx
      obtain ⟨aa, ca, rfl⟩ := hT.form
      unfold RV.val
      have hxa : Hid (Ext w (w2.alloc (.cells #[.string r.kind, .int .i64 r.a, .int .i64 r.b, .int .i64 r.k, .slice aa r.args.length ca] 86))) := hid (((HX.out.trans Hx.out).trans hx2).alloc _)
      have hra : Ext wr (w2.alloc (.cells #[.string r.kind, .int .i64 r.a, .int .i64 r.b, .int .i64 r.k, .slice aa r.args.length ca] 86)) := hx2.alloc _
      have Hra := hid (own_ext Hr.out hra)
      have Hxr := hid ((Hx.out.trans hra))
      have Haa : Hid (∀ x ∈ rs ++ [⟨r, .slice aa r.args.length ca⟩], IntsT (w2.alloc (.cells #[.string r.kind, .int .i64 r.a, .int .i64 r.b, .int .i64 r.k, .slice aa r.args.length ca] 86)) x.v x.r.args) := hid fun x hx => by
        rcases List.mem_append.1 hx with hx | hx
        · exact (Ha.out x hx).ext hra
        · obtain rfl := List.mem_singleton.1 hx
          exact hT.ext ((Ext.refl _).alloc _)
      have HNn : Hid (∀ x ∈ rs ++ [(⟨r, .slice aa r.args.length ca⟩ : R2)], 0 < x.r.args.length → ∀ b, x.v.ownBlock = some b → w.heap.size ≤ b) := hid fun x hx h0 b hb => by
        rcases List.mem_append.1 hx with hx | hx
        · exact HNw.out x hx h0 b hb
        · obtain rfl := List.mem_singleton.1 hx
          exact Nat.le_trans (HX.out.trans Hx.out).size (hn2 h0 b hb)
      clear HC hT hx2 hra d0 d1 d2 hn2
      go_wp2_with (at_builtin; refine wpList_append_el W.heap.size Hxr.out.size 75 86 (.agg #[.string ⟨#[]⟩, .int .i64 0, .int .i64 0, .int .i64 0, .slice none 0 0]) 5 64 Tryz.underlying75 rule_info rfl (by omega) (by omega) rfl _ _ rfl (.slice a5 k c5) k (rs.flatMap R2.cells) rfl Hra.out w2.heap.size [.string r.kind, .int .i64 r.a, .int .i64 r.b, .int .i64 r.k, .slice aa r.args.length ca] rfl (by simp [Value.oneCell']) rfl (Blk.new _ _ _) (by omega) ?_; intro v' w' h1 h2 h4; obtain ⟨a', c', rfl⟩ := row_form h1; have h3 := hid (Keep.new Hxr.out h2 (fun k hk => (World.ownsRow.lt Hra.out k hk).1)); have ha5 := hid (fun x hx => (Haa.out x hx).keep h2 (fun b e => by obtain ⟨c, hc⟩ := own_ty Hra.out e; exact IsInt.not hc (by decide))); have h1 := hid h1; clear h2 h4)
      go_roundw
      case rel =>
        refine ⟨k + 1, rs ++ [⟨r, .slice aa r.args.length ca⟩], by go_num, by omega, ?_, ?_, ha5.out, HNn.out, h3.out⟩
        · rw [List.map_append, He.out, PP.rulesUp_succ, ← Hrr.out]; rfl
        · rw [List.flatMap_append]; simpa [R2.cells] using h1.out
      case measure => simp [intOf]; omega
    · obtain rfl : k = P.stmts.length := by omega
      clear HRu
      go_wp2
      go_ret2
      exact ⟨_, rs, rfl, ⟨He.out, by rw [show P.rulesV.length = P.stmts.length from P.rulesUp_len _]; exact own_low Hr.out HX.out.size, Ha.out⟩, HNw.out, HX.out.trans Hx.out⟩
theorem plus_eq (P : PP) (x : PS) : P.plus x = P.withS (P.stmts ++ [x]) := rfl
theorem fires_congr {P Q : PP} (hn : P.nodesV = Q.nodesV) (hf : P.funs = Q.funs) (r : RV) (o : Int) : P.fires r o = Q.fires r o := by
  unfold PP.fires
  have hc : P.callsOf r o = Q.callsOf r o := by
    unfold PP.callsOf PP.funV
    rw [hn, hf]
  rw [hc, hn]
section
variable {P : PP} {S : List (List Int)} {s : SV} {x : PS}
theorem rulesV_plus (hm : x.isK kNew = false) : (P.plus x).rulesV = P.rulesV ++ [(P.plus x).ruleV P.stmts.length x] := by
  have hl : (P.plus x).stmts.length = P.stmts.length + 1 := List.length_append
  unfold PP.rulesV
  rw [hl, PP.rulesUp_succ]
  congr 1
  · unfold PP.rulesUp
    refine List.map_congr_left fun k hk => ?_
    have hk := List.mem_range.1 hk
    rw [plus_eq, stAt_more hk, rule_more hm]
  · have : (P.plus x).stAt P.stmts.length = x := by
      unfold PP.stAt
      rw [List.getD_eq_getElem?_getD, show (P.plus x).stmts = P.stmts ++ [x] from rfl, List.getElem?_concat_length]; rfl
    rw [this]
theorem plus_nodes (hm : x.isK kNew = false) : (P.plus x).nodesV = P.nodesV := nodes_more hm
theorem plus_objects (hm : x.isK kNew = false) : (P.plus x).objectsV = P.objectsV := objects_more hm
theorem core_plus (hm : x.isK kNew = false) (h : Core P S s) : Core (P.plus x) S s := by
  have hn := plus_nodes (P := P) hm
  have ho := plus_objects (P := P) hm
  exact ⟨by rw [hn]; exact h.len, by rw [ho]; exact h.row, by rw [hn]; exact h.wait, h.bit, by rw [hn]; exact h.edge, h.along, h.base, h.copy⟩
theorem ok_plus (hm : x.isK kNew = false) (h : SolvOk P S s) : SolvOk (P.plus x) S s := by
  have hn := plus_nodes (P := P) hm
  have ho := plus_objects (P := P) hm
  have ht : s.tot (P.plus x) = s.tot P := by unfold SV.tot; rw [hn]
  refine ⟨⟨core_plus hm h.full.core, fun r hr => ?_, fun r hr hf o h0 hb e he => ?_⟩, ⟨h.bnd.nd, h.bnd.ru, ?_⟩⟩
  · rw [rulesV_plus hm]
    exact List.mem_append_left _ (h.full.of r hr)
  · rw [fires_congr hn rfl] at he
    exact h.full.told r hr hf o h0 hb e he
  · rw [ht, ho]; exact h.bnd.le
theorem good_plus (hm : x.isK kNew = false) (hw : P.Well) (h : (P.plus x).GoodS S) : P.GoodS S := goodS_to (nodes_more hm).symm (objects_more hm).symm hw h
theorem closed_plus (hm : x.isK kNew = false) (h : ClosedP (P.plus x) S) : ClosedP P S := closed_more hm h
end
end Go.Proofs.YtdppgcbekhabnaaGreatDoor



/- The solver: a statement is added. -/
namespace Go.Proofs.YtdppgcbekhabnaaGreatDoor
set_option linter.unusedSimpArgs false
set_option linter.unusedVariables false
open Go Go.RowKit

section
variable {w w' : World} {base : Nat} {v1 v2 v3 : Value} {P Q : PP} {fs : List F2} {ss : List S2}
theorem CopyP.keep {X : Nat → Prop} (h : CopyP w base v1 v2 v3 P fs ss) (k : Keep X w w') (hX : ∀ b, X b → ¬ IsInt w b ∧ (b < base ∨ ∃ c, Blk w b c 26)) : CopyP w' base v1 v2 v3 P fs ss := by
  have hr : ∀ {e : TypeId} {size n : Nat} {v : Value} {xs : List Value}, e ≠ 26 → w.ownsRow base e size v n xs → w'.ownsRow base e size v n xs := fun he h => row_keep h k fun b hb hx => by
    rcases (hX b hx).2 with g | ⟨c, hc⟩
    · have := (World.ownsRow.lt h b hb).1
      omega
    · obtain ⟨c', hc'⟩ := own_ty h hb
      exact Blk.ty_ne hc' hc he rfl
  exact ⟨hr (by decide) h.vars, hr (by decide) h.funs, hr (by decide) h.stmts, h.fe, h.se, fun y hy => ⟨(h.fi y hy).1.keep k fun b hb => (hX b hb).1, (h.fi y hy).2⟩, fun y hy => ⟨(h.si y hy).1.keep k fun b hb => (hX b hb).1, (h.si y hy).2⟩⟩
theorem IntsT.toF0 {v : Value} {l : List Int} (h : IntsT w v l) (hb : 0 < l.length → ∀ b, v.ownBlock = some b → base ≤ b) : IntsF w (fun b => base ≤ b ∧ b < w.heap.size) v l := by
  obtain ⟨a, cap, h1, h2, h3, h4, h5⟩ := h.1
  subst h1
  refine ⟨a, cap, rfl, h2, h3, h4, fun y hy h0 => ?_⟩
  subst hy
  obtain ⟨q1, q2⟩ := h5 y rfl h0
  exact ⟨⟨hb h0 y.block rfl, q1⟩, q2⟩
variable {G G2 F : Nat → Prop} {g : Nat} {ad : Nat → Addr} {a1 a2 a3 b1 b2 b3 : Option Addr} {c1 c2 c3 e1 e2 e3 : Nat} {vr : Value} {rs : List R2} {vh : Value} {hs : List Value} {m1 m2 : Nat} {f1 : Int → Option Value} {vw : Value} {s : SV}
/-- Another program is put. -/
theorem SolvB.setProg (h : SolvB w G F g ad a1 a2 a3 c1 c2 c3 P vr rs vh hs m1 m2 f1 vw s) (hq : PWF w G2 ad b1 b2 b3 e1 e2 e3 Q) (hG : ∀ b, G b → G2 b) (hG2 : ∀ b, G2 b → F b) :
    SolvB (((w.setCell ⟨g, 0, none⟩ (.slice b1 Q.vars.length e1)).setCell ⟨g, 1, none⟩ (.slice b2 Q.funs.length e2)).setCell ⟨g, 2, none⟩ (.slice b3 Q.stmts.length e3)) G2 F g ad b1 b2 b3 e1 e2 e3 Q vr rs vh hs m1 m2 f1 vw s := by
  have kk : Keep (fun q => q = g) w (((w.setCell ⟨g, 0, none⟩ (.slice b1 Q.vars.length e1)).setCell ⟨g, 1, none⟩ (.slice b2 Q.funs.length e2)).setCell ⟨g, 2, none⟩ (.slice b3 Q.stmts.length e3)) := ((((Keep.refl (fun q => q = g) w).set rfl _).set rfl _).set rfl _)
  have hoff : ∀ {e : TypeId}, 83 ≠ e → ∀ b, b = g → ¬ ∃ c, Blk w b c e := fun he b e => by rw [e]; exact off_of h.blk he
  have hF : ∀ b, G2 b → ¬ b = g := fun b hb e => h.fg (e ▸ hG2 b hb)
  refine ⟨?_, h.fg, hG2, fun b hb => Nat.lt_of_lt_of_le (h.flt b hb) kk.size, hq.keep kk hF, h.req, own_off h.rrow kk (hoff (by decide)), fun x hx => ((h.rargs x hx).keep kk (fun b hb e => h.fg (e ▸ h.gf b hb)) hG), h.rf, own_off h.hrow kk (hoff (by decide)), h.hf, h.hbag.keep kk (hoff (by decide)), h.hbf, h.map1.keep kk fun e => h.map1.ne h.blk e.symm, h.mf1, fun n => own_off (h.row1 n) kk (hoff (by decide)), h.apart1, h.rf1, h.map2.keep kk fun e => h.map2.ne h.blk e.symm, h.mf2, h.m12, h.wrow.off kk (hoff (by decide)), h.wf⟩
  have := ((h.blk.set 0 (.slice b1 Q.vars.length e1)).set 1 (.slice b2 Q.funs.length e2)).set 2 (.slice b3 Q.stmts.length e3)
  exact this
end
theorem plus_len (P : PP) (x : PS) : (P.plus x).stmts.length = P.stmts.length + 1 := List.length_append
theorem plus_stAt (P : PP) (x : PS) : (P.plus x).stAt P.stmts.length = x := by
  unfold PP.stAt
  rw [List.getD_eq_getElem?_getD, show (P.plus x).stmts = P.stmts ++ [x] from rfl, List.getElem?_concat_length]; rfl
set_option maxRecDepth 100000 in
set_option maxHeartbeats 12800000 in
theorem solveadd_yes (P : PP) (S : List (List Int)) (s : SV) (x : PS) (aa : Option Addr) (ca : Nat) (w : World) (G F : Nat → Prop) (g : Nat) (ad : Nat → Addr) {vr : Value} {rs : List R2} {vh : Value} {hs : List Value} (hS : SolvAt w G F g ad P vr rs vh hs s) (hO : SolvOk P S s) (hm : x.isK kNew = false) (hw' : (P.plus x).Well) (hg' : (P.plus x).GoodS S) (hc' : ClosedP (P.plus x) S) (hsm : P.Small) (hal : x.args.length ≤ 8) (hrl : s.rules = P.rulesV) (ha : IntsR w w.heap.size (.slice aa x.args.length ca) x.args) :
    Calls Tryz.prog 30 #[.pointer (some ⟨g, 0, none⟩), sval x aa ca] w fun e w' => e = .returned .nilIface ∧ (∃ (G' F' : Nat → Prop) (vr' : Value) (rs' : List R2), (∀ b, F b → F' b) ∧ SolvAt w' G' F' g ad (P.plus x) vr' rs' vh hs (s.add (P.plus x) ((P.plus x).ruleV P.stmts.length x))) ∧ Keep (fun b => ¬ F b) w w' := by
  have Hw' := hid hw'
  have Hg' := hid hg'
  have Hc' := hid hc'
  have Hrl := hid hrl
  have HO := hid (ok_plus hm hO)
  have HRv := hid (rulesV_plus (P := P) hm)
  have hkb : (x.kind.toList == [110, 101, 119]) = false := hm
  clear hO hw' hg' hc' hrl hm
  obtain ⟨a1, a2, a3, c1, c2, c3, m1, m2, f1, vw, h⟩ := hS
  obtain ⟨W0, hW0⟩ : ∃ W0, W0 = w.alloc (.cells (scells x aa ca) 65) := ⟨_, rfl⟩
  have HX0 : Hid (Ext w W0) := hid (by rw [hW0]; exact (Ext.refl _).alloc _)
  have HBs : Hid (Blk W0 w.heap.size (scells x aa ca) 65) := hid (by rw [hW0]; exact Blk.new _ _ _)
  have HW0 : Hid (W0 = w.alloc (.cells #[.string x.kind, .int .i64 x.x, .int .i64 x.y, .slice aa x.args.length ca] 65)) := hid (by rw [hW0]; rfl)
  have Hs0 : Hid (W0.heap.size = w.heap.size + 1) := hid (by rw [hW0, heap_size_alloc])
  have Hh := hid h
  have HS0 := hid (h.ext HX0.out)
  have HA := hid ha
  have Hsm := hid hsm
  have m0 := HBs.out.av 0 rfl
  have m1' := HBs.out.av 1 rfl
  have m2' := HBs.out.av 2 rfl
  have m3 := HBs.out.av 3 rfl
  simp only [scells, List.getElem_toArray, List.getElem_cons_zero, List.getElem_cons_succ] at m0 m1' m2' m3
  unfold sval
  have HCp := hid (solvecopied_new a1 a2 a3 c1 c2 c3 P W0 HS0.out.pw.pw.prog Hsm.out)
  have b0 := HS0.out.blk.av 0 rfl
  have b1 := HS0.out.blk.av 1 rfl
  have b2 := HS0.out.blk.av 2 rfl
  simp only [solvCells, List.getElem_toArray, List.getElem_cons_zero, List.getElem_cons_succ] at b0 b1 b2
  rw [HW0.out] at m0 m1' m2' m3 b0 b1 b2
  unfold pval at HCp
  clear hW0 h ha hsm
  go_enter Tryz.func30, Tryz.ntmps30
  go_wp2_with fail
  rw [← HW0.out]
  refine HCp.out.mono ?_
  intro e w2 hx
  obtain ⟨hx2, q1, q2, q3, e1, e2, e3, fs, ss, rfl, hcp⟩ := hx
  obtain ⟨W3, hW3⟩ : ∃ W3, W3 = w2.alloc (.cells #[.slice q1 P.vars.length e1, .slice q2 P.funs.length e2, .slice q3 P.stmts.length e3] 26) := ⟨_, rfl⟩
  have hx3 : Ext w2 W3 := by rw [hW3]; exact (Ext.refl _).alloc _
  have HW3 := hid hW3
  have HX3 := hid (HX0.out.trans (hx2.trans hx3))
  have HBt : Hid (Blk W3 w2.heap.size #[.slice q1 P.vars.length e1, .slice q2 P.funs.length e2, .slice q3 P.stmts.length e3] 26) := hid (by rw [hW3]; exact Blk.new _ _ _)
  have Hc3 := hid (hcp.ext hx3)
  have HCl := hid (clone_big (.slice aa x.args.length ca) x.args W3 w.heap.size (HA.out.old (HX3.out.old _)) (by omega))
  have Hs2 : Hid (W0.heap.size ≤ w2.heap.size) := hid hx2.size
  have n0 := (HBs.out.ext (hx2.trans hx3)).av 0 rfl
  have n1 := (HBs.out.ext (hx2.trans hx3)).av 1 rfl
  have n2 := (HBs.out.ext (hx2.trans hx3)).av 2 rfl
  have n3 := (HBs.out.ext (hx2.trans hx3)).av 3 rfl
  simp only [scells, List.getElem_toArray, List.getElem_cons_zero, List.getElem_cons_succ] at n0 n1 n2 n3
  rw [HW3.out] at n0 n1 n2 n3
  have HBs3 := hid (HBs.out.ext (hx2.trans hx3))
  clear HCp hx2 hx3 hcp hW3 m0 m1' m2' m3 b0 b1 b2
  go_wp2_with fail
  rw [← HW3.out]
  refine HCl.out.mono ?_
  intro e w4 hx
  obtain ⟨v4, rfl, hx4, hr4⟩ := hx
  obtain ⟨a4, c4, rfl⟩ := hr4.form
  have hB4 := HBs3.out.ext hx4
  unfold scells at hB4
  have z0 := hB4.av 0 rfl
  have z1 := hB4.av 1 rfl
  have z2 := hB4.av 2 rfl
  have z3 := hB4.av 3 rfl
  have g3 := hB4.free 3
  have hB5 := hB4.set 3 (.slice a4 x.args.length c4)
  have k5 : Keep (fun q => q = w.heap.size) w4 (w4.setCell ⟨w.heap.size, 3, none⟩ (.slice a4 x.args.length c4)) := Keep.set (X := fun q => q = w.heap.size) (Keep.refl _ _) rfl _
  have hni5 : ∀ q, q = w.heap.size → ¬ IsInt w4 q := fun q e => by subst e; exact notInt hB4 (by decide)
  have Hc5 := hid ((Hc3.out.ext hx4).keep k5 fun b e => ⟨hni5 b e, .inl (by have := Hs0.out; have e' : b = w.heap.size := e; omega)⟩)
  have HT5 := hid (((IntsT.of_row hr4)).keep k5 hni5)
  have HTn : Hid (∀ b, (Value.slice a4 x.args.length c4).ownBlock = some b → W0.heap.size ≤ b) := hid fun b hb => by
    have h1 := (World.ownsRow.lt hr4 b hb).1
    have h2 := Hs2.out
    have h3 : w2.heap.size ≤ W3.heap.size := by rw [HW3.out, heap_size_alloc]; omega
    omega
  have HX5 : Hid (Ext w (w4.setCell ⟨w.heap.size, 3, none⟩ (.slice a4 x.args.length c4))) := hid (Keep.new (HX3.out.trans hx4) k5 fun b e => Nat.le_of_eq e.symm)
  have HBt5 := hid ((HBt.out.ext hx4).keep k5 fun e => by have := Hs0.out; have := Hs2.out; omega)
  simp only [List.setIfInBounds_toArray, List.set_cons_zero, List.set_cons_succ, List.getElem_toArray, List.getElem_cons_zero, List.getElem_cons_succ] at z0 z1 z2 z3 hB5
  have y0 := hB5.av 0 rfl
  have y1 := hB5.av 1 rfl
  have y2 := hB5.av 2 rfl
  have y3 := hB5.av 3 rfl
  have t2 := HBt5.out.av 2 rfl
  simp only [List.getElem_toArray, List.getElem_cons_zero, List.getElem_cons_succ] at y0 y1 y2 y3 t2
  have HRo := hid Hc5.out.stmts
  have Hbs : Hid (W0.heap.size ≤ ((w4.setCell ⟨w.heap.size, 3, none⟩ (.slice a4 x.args.length c4)).alloc (.cells #[.string x.kind, .int .i64 x.x, .int .i64 x.y, .slice a4 x.args.length c4] 65)).heap.size) := hid (by
    have h1 := HBt5.out.lt
    have h2 := Hs2.out
    have h3 := (((Ext.refl (w4.setCell ⟨w.heap.size, 3, none⟩ (.slice a4 x.args.length c4))).alloc (.cells #[.string x.kind, .int .i64 x.x, .int .i64 x.y, .slice a4 x.args.length c4] 65))).size
    omega)
  have hsl80 : P.stmts.length ≤ 80 := Hh.out.pw.well.few.2.2
  clear HCl hx4 hr4 hB4 hB5 k5 hni5 n0 n1 n2 n3
  go_wp2_with (at_builtin; refine wpList_append_el W0.heap.size Hbs.out 24 65 (.agg #[.string ⟨#[]⟩, .int .i64 0, .int .i64 0, .slice none 0 0]) 4 56 Tryz.underlying24 stmt_info rfl (by omega) (by omega) rfl _ _ rfl (.slice q3 P.stmts.length e3) P.stmts.length (ss.flatMap S2.cells) rfl (own_ext HRo.out ((Ext.refl _).alloc _)) w4.heap.size (S2.cells ⟨x, .slice a4 x.args.length c4⟩) rfl (by simp [S2.cells, Value.oneCell']) rfl (Blk.new_setU _ _ _ _ _) (by omega) ?_; intro v9 w9 ho9 hk9 hl9; obtain ⟨a9, c9, rfl⟩ := row_form ho9; have hx6 := (Ext.refl (w4.setCell ⟨w.heap.size, 3, none⟩ (.slice a4 x.args.length c4))).alloc (.cells #[.string x.kind, .int .i64 x.x, .int .i64 x.y, .slice a4 x.args.length c4] 65); have HBt6 := HBt5.out.ext hx6; have hb9 := HBt6.keep hk9 (fun e => by obtain ⟨c, hc⟩ := own_ty (own_ext HRo.out hx6) e; exact Blk.ty_ne hc HBt6 (by decide) rfl); have Hcp9 := hid ((Hc5.out.ext hx6).plus ⟨x, .slice a4 x.args.length c4⟩ hk9 ho9 ⟨HT5.out.ext hx6, HTn.out⟩); have HX9 := hid (Keep.new (HX5.out.trans hx6) hk9 (fun b e => by have h1 := (World.ownsRow.lt HRo.out b e).1; have h2 := Hs0.out; omega)); have HBt9 := hid hb9; have s1 := hb9.av 2 rfl; have s0 := hb9.av 0 rfl; have s0b := hb9.av 1 rfl; have t1 := hb9.free 2; clear ho9 hk9 hl9 hx6 HBt6 hb9)
  obtain ⟨W10, hW10⟩ : ∃ W10, W10 = w9.setCell ⟨w2.heap.size, 2, none⟩ (.slice a9 (P.stmts.length + 1) c9) := ⟨_, rfl⟩
  have k10 : Keep (fun q => q = w2.heap.size) w9 W10 := by rw [hW10]; exact Keep.set (X := fun q => q = w2.heap.size) (Keep.refl _ _) rfl _
  have Hcp := hid (Hcp9.out.keep k10 fun b e => ⟨by have e' : b = w2.heap.size := e; subst e'; exact notInt HBt9.out (by decide), .inr (by have e' : b = w2.heap.size := e; subst e'; exact ⟨_, HBt9.out⟩)⟩)
  have HX10 : Hid (Ext w W10) := hid (Keep.new HX9.out k10 fun b e => by have e' : b = w2.heap.size := e; subst e'; have h1 := Hs2.out; have h2 := Hs0.out; omega)
  have HBt10 : Hid (Blk W10 w2.heap.size #[.slice q1 P.vars.length e1, .slice q2 P.funs.length e2, .slice a9 (P.stmts.length + 1) c9] 26) := hid (by rw [hW10]; exact HBt9.out.set 2 _)
  have HW10 := hid hW10
  have HE10 := hid (Hh.out.pw.errs.ext HX10.out)
  have hPr : ProgR W10 W10.heap.size (.slice q1 (P.plus x).vars.length e1) (.slice q2 (P.plus x).funs.length e2) (.slice a9 (P.plus x).stmts.length c9) (P.plus x) := by rw [plus_len]; exact Hcp.out.prog
  have HPr := hid hPr
  clear k10 hW10 hPr
  have HOf := hid (consof_new q1 q2 a9 e1 e2 c9 (P.plus x) W10 W10.heap.size ad ⟨HE10.out, HPr.out, Hh.out.pw.z1, Hh.out.pw.z2, Hw'.out⟩)
  unfold pval at HOf
  rw [plus_len, show (P.plus x).vars.length = P.vars.length from rfl, show (P.plus x).funs.length = P.funs.length from rfl] at HOf
  rw [← HW10.out]
  refine HOf.out.mono ?_
  intro e w11 hx
  obtain ⟨v11, rs11, rfl, hi, hnw, hx11⟩ := hx
  have hrlen : (P.plus x).rulesV.length = P.stmts.length + 1 := by rw [← plus_len P x]; exact (P.plus x).rulesUp_len _
  have hrow := hi.row
  rw [hrlen] at hrow
  obtain ⟨gr, cr, rfl⟩ := own_some hrow (by omega)
  have HX11 := hid (HX10.out.trans hx11)
  have Hx11 := hid hx11
  have hk : P.stmts.length < (P.plus x).stmts.length := by rw [plus_len]; omega
  obtain ⟨y, hyk, hyr⟩ := rules_at hi.eq hk
  rw [plus_stAt] at hyr
  have hT := hi.args y (List.mem_of_getElem? hyk)
  obtain ⟨ar, car, hav⟩ := hT.form
  have hnwy := hnw y (List.mem_of_getElem? hyk)
  obtain ⟨r, yv⟩ := y
  simp only at hav hyr hT hnwy
  subst hav
  -- the solver ahead of the store
  have hF9 := Hh.out.frz HX11.out
  obtain ⟨F9, hF9e⟩ : ∃ F9 : Nat → Prop, F9 = fun b => F b ∨ (w.heap.size ≤ b ∧ b < w11.heap.size) := ⟨_, rfl⟩
  rw [← hF9e] at hF9
  have HF9 : Hid (∀ b, F b → F9 b) := hid fun b hb => by rw [hF9e]; exact .inl hb
  obtain ⟨G9, hG9e⟩ : ∃ G9 : Nat → Prop, G9 = fun b => G b ∨ (w.heap.size ≤ b ∧ b < w11.heap.size) := ⟨_, rfl⟩
  have HG9 : Hid (∀ b, G b → G9 b) := hid fun b hb => by rw [hG9e]; exact .inl hb
  have HG9n : Hid (∀ b, w.heap.size ≤ b → b < w11.heap.size → G9 b) := hid fun b h1 h2 => by rw [hG9e]; exact .inr ⟨h1, h2⟩
  have HGF9 : Hid (∀ b, G9 b → F9 b) := hid fun b hb => by rw [hG9e] at hb; rw [hF9e]; exact hb.imp (Hh.out.gf b) id
  have hpw : PWF w11 G9 ad q1 q2 a9 e1 e2 c9 (P.plus x) := by
    refine ⟨fun b hb => ?_, fun b hb => HG9.out b (Hh.out.pw.ef b hb), Hh.out.pw.errs.ext HX11.out, ?_, Hh.out.pw.z1, Hh.out.pw.z2, Hw'.out⟩
    · rw [hG9e] at hb
      rcases hb with hb | hb
      · exact Nat.lt_of_lt_of_le (Hh.out.pw.lt b hb) HX11.out.size
      · exact hb.2
    · rw [plus_len]
      exact (Hcp.out.ext hx11).progF.keep (Keep.refl (fun _ => False) _) (fun _ _ h => h) fun b hb => HG9n.out b (by have h1 := Hs0.out; omega) hb.2
  have hnew := hF9.setProg hpw HG9.out HGF9.out
  rw [plus_len] at hnew
  have HSn := hid hnew
  have hblk := Hh.out.blk.ext HX11.out
  have z0 := hblk.av 0 rfl
  have z1 := hblk.av 1 rfl
  have z2 := hblk.av 2 rfl
  have f0 := hblk.free 0
  have f1' := hblk.free 1
  have f2' := hblk.free 2
  simp only [solvCells, List.getElem_toArray, List.getElem_cons_zero, List.getElem_cons_succ] at z0 z1 z2
  have HBt11 := HBt10.out.ext hx11
  have t0 := HBt11.av 0 rfl
  have t1' := HBt11.av 1 rfl
  have t2' := HBt11.av 2 rfl
  simp only [List.getElem_toArray, List.getElem_cons_zero, List.getElem_cons_succ] at t0 t1' t2'
  obtain ⟨W12, hW12⟩ : ∃ W12, W12 = ((w11.setCell ⟨g, 0, none⟩ (.slice q1 P.vars.length e1)).setCell ⟨g, 1, none⟩ (.slice q2 P.funs.length e2)).setCell ⟨g, 2, none⟩ (.slice a9 (P.stmts.length + 1) c9) := ⟨_, rfl⟩
  have hSW : SolvAt W12 G9 F9 g ad (P.plus x) vr rs vh hs s := by rw [hW12]; exact ⟨_, _, _, _, _, _, _, _, _, _, hnew⟩
  have kW : Keep (fun q => q = g) w11 W12 := by rw [hW12]; exact ((((Keep.refl (fun q => q = g) w11).set rfl _).set rfl _).set rfl _)
  have HKW := hid kW
  have hrm : r ∈ (P.plus x).rulesV := by
    rw [← hi.eq]
    exact List.mem_map.2 ⟨_, List.mem_of_getElem? hyk, rfl⟩
  have h80 : s.rules.length < 80 := by
    have h1 := Hw'.out.few.2.2
    rw [plus_len] at h1
    rw [Hrl.out, show P.rulesV.length = P.stmts.length from P.rulesUp_len _]
    omega
  have hgW : ¬ F9 g := hF9.fg
  have hIF : IntsF W12 G9 (.slice ar r.args.length car) r.args :=
    (hT.toF0 hnwy).keep kW (fun b hb e => hgW (by
      have e' : b = g := e
      subst e'
      exact HGF9.out b (HG9n.out b (Nat.le_trans HX10.out.size hb.1) hb.2))) fun b hb => HG9n.out b (Nat.le_trans HX10.out.size hb.1) hb.2
  have HU := hid (solverule_any (P.plus x) S s r ar car W12 G9 F9 g ad hSW HO.out Hg'.out Hc'.out hrm h80 hIF)
  have hrow12 : W12.ownsRow W10.heap.size 86 5 (.slice (some ⟨gr, 0, none⟩) (P.stmts.length + 1) cr) (P.stmts.length + 1) (rs11.flatMap R2.cells) := row_keep hrow kW fun b hb e => by
    have e' : b = g := e
    subst e'
    obtain ⟨c, hc⟩ := own_ty hrow hb
    exact Blk.ty_ne hc hblk (by decide) rfl
  obtain ⟨r0, r1, r2, r3, r4⟩ := own_r hrow12 hyk
  simp only at r0 r1 r2 r3 r4
  rw [hW12] at r0 r1 r2 r3 r4
  have HW12 := hid hW12
  have Hyr := hid hyr
  have hal2 : (r.args.length : Int) ≤ 9223372036854775807 := hT.1.len
  have hix : ((P.stmts.length : Int) + 1 - 1) = (P.stmts.length : Int) := by omega
  unfold RV.val at HU
  clear HOf hi hnw hx11 hrlen hrow hk hyk hyr hT hnwy hF9 hF9e hG9e hpw hnew hblk HBt11 hW12 hSW kW hrm h80 hgW hIF hrow12
  go_wp2_with fail
  rw [← HW12.out]
  refine HU.out.mono ?_
  intro z w13 hx
  obtain ⟨rfl, ⟨vr', hS13⟩, hK13⟩ := hx
  have HS13 := hid hS13
  have HK13 : Hid (Keep (fun b => ¬ F b) w w13) := hid (((HX11.out.keep _).trans (HKW.out.mono fun b _ e => by have e' : b = g := e; subst e'; exact Hh.out.fg)).trans (hK13.mono fun b _ hx hF => hx (HF9.out b hF)))
  clear HU hS13 hK13 r0 r1 r2 r3 r4
  go_wp2
  go_ret
  exact ⟨rfl, ⟨G9, F9, vr', _, HF9.out, by rw [← Hyr.out]; exact HS13.out⟩, HK13.out⟩
end Go.Proofs.YtdppgcbekhabnaaGreatDoor



/- FixOrder: the law walked. -/
namespace Go.Proofs.YtdppgcbekhabnaaGreatDoor
set_option linter.unusedSimpArgs false
set_option linter.unusedVariables false
open Go Go.RowKit

theorem own_lo {w : World} {base : Nat} {e : TypeId} {size : Nat} {v : Value} {n : Nat} {xs : List Value} (h : w.ownsRow base e size v n xs) {B : Nat} {c : Array Value} {t : TypeId} (hB : Blk w B c t) (hne : e ≠ t) : ¬ v.ownBlock = some B := fun e => by
  obtain ⟨c', hc'⟩ := own_ty h e
  exact Blk.ty_ne hc' hB hne rfl
/-- What a statement list has that makes a thing. -/
def anyNew (l : List PS) : Bool := l.any fun x => x.isK kNew
/-- What the append of one statement leaves. -/
theorem foapp {WW Wc w9 : World} {n1 g : Nat} {o1 o2 o3 o9 : Option Addr} {q1 q2 q3 q9 : Nat} {P : PP} {fs : List F2} {so : List S2} {m : PS} {mv : Value}
    (hO : OwnR Wc n1 (.slice o1 P.vars.length q1) (.slice o2 P.funs.length q2) (.slice o3 P.stmts.length q3) P fs so) (hB : Blk Wc g (pcells o1 o2 o3 q1 q2 q3 P) 26)
    (ho9 : w9.ownsRow n1 65 4 (.slice o9 (P.stmts.length + 1) q9) (P.stmts.length + 1) (so.flatMap S2.cells ++ S2.cells ⟨m, mv⟩)) (hk9 : Keep (fun k => (Value.slice o3 P.stmts.length q3).ownBlock = some k) Wc w9) (hx : Ext WW Wc) (hn1 : WW.heap.size ≤ n1) (hg : WW.heap.size ≤ g) :
    Blk w9 g #[.slice o1 P.vars.length q1, .slice o2 P.funs.length q2, .slice o3 P.stmts.length q3] 26 ∧ Blk (w9.setCell ⟨g, 2, none⟩ (.slice o9 (P.stmts.length + 1) q9)) g #[.slice o1 P.vars.length q1, .slice o2 P.funs.length q2, .slice o9 (P.stmts.length + 1) q9] 26 ∧ Ext WW (w9.setCell ⟨g, 2, none⟩ (.slice o9 (P.stmts.length + 1) q9)) ∧
    (IntsR (w9.setCell ⟨g, 2, none⟩ (.slice o9 (P.stmts.length + 1) q9)) (w9.setCell ⟨g, 2, none⟩ (.slice o9 (P.stmts.length + 1) q9)).heap.size mv m.args → ProgR (w9.setCell ⟨g, 2, none⟩ (.slice o9 (P.stmts.length + 1) q9)) (w9.setCell ⟨g, 2, none⟩ (.slice o9 (P.stmts.length + 1) q9)).heap.size (.slice o1 P.vars.length q1) (.slice o2 P.funs.length q2) (.slice o9 (P.stmts.length + 1) q9) (P.withS (P.stmts ++ [m]))) := by
  have hb9 := hB.keep hk9 (fun e => own_lo hO.stmts hB (by decide) e)
  have hb10 := hb9.set 2 (.slice o9 (P.stmts.length + 1) q9)
  have hk : Keep (fun q => q = g ∨ (Value.slice o3 P.stmts.length q3).ownBlock = some q) Wc (w9.setCell ⟨g, 2, none⟩ (.slice o9 (P.stmts.length + 1) q9)) := (hk9.mono fun _ _ h => .inr h).set (.inl rfl) _
  refine ⟨hb9, by simpa [pcells] using hb10, Keep.new hx hk (fun q h => ?_), fun hI => ?_⟩
  · rcases h with h | h
    · rw [h]; exact hg
    · exact Nat.le_trans hn1 (World.ownsRow.lt hO.stmts q h).1
  · exact OwnR.more hO ⟨m, mv⟩ hI (row_keep ho9 (Keep.set (X := fun q => q = g) (Keep.refl _ _) rfl _) (fun i hi e => own_lo ho9 hb9 (by decide) (by rw [hi, e]))) hk (fun q h => by
      rcases h with rfl | h
      · exact ⟨_, _, hB, by decide, by decide, by decide⟩
      · obtain ⟨c, hc⟩ := own_ty hO.stmts h
        exact ⟨c, _, hc, by decide, by decide, by decide⟩)
end Go.Proofs.YtdppgcbekhabnaaGreatDoor



/- Sets: the reference's set of any numbers. -/
namespace Go.Proofs.YtdppgcbekhabnaaGreatDoor
set_option linter.unusedSimpArgs false
set_option linter.unusedVariables false
open Go Go.RowKit

/-- Which numbers were seen. -/
def seen (l : List Int) : List Value := (List.range 1000).map fun n : Nat => Value.bool (decide ((n : Int) ∈ l))
/-- The set's numbers below n. -/
def setUp (l : List Int) (n : Nat) : List Int := ((List.range n).filter fun k : Nat => decide ((k : Int) ∈ l)).map fun k : Nat => (k : Int)
end Go.Proofs.YtdppgcbekhabnaaGreatDoor



/- The reference's round, walked. -/
namespace Go.Proofs.YtdppgcbekhabnaaGreatDoor
set_option linter.unusedSimpArgs false
set_option linter.unusedVariables false
open Go Go.RowKit

theorem BagAt.inr {P : PP} {has : List (List Int)} {EL : List (Int × Int)} {k m : Nat} {B : List (List Int)} (h : BagAt P has EL k m B) {l : List Int} (hl : l ∈ B) : InR l := fun x hx => by
  obtain ⟨S, h1, h2, h3⟩ := h.set
  obtain ⟨i, hi, rfl⟩ := List.getElem_of_mem hl
  have hx' : x ∈ B.getD i [] := by rw [List.getD_eq_getElem?_getD, List.getElem?_eq_getElem hi]; exact hx
  exact (chkE_zero.1 (h1.ok _ (getD_mem (by rw [← h2]; exact hi)))).1 x ((h3 i x).1 hx')
/-- Rows of rows in blocks that are new. -/
def NewS (w : World) (base : Nat) (v : Value) : Prop := ∀ y n c, v = .slice (some y) n c → 0 < n → base ≤ y.block ∧ ∀ i u, i < n → w.cell? (y.add i) = some u → ∀ b, u.ownBlock = some b → base ≤ b
theorem NewS.ext {w w' : World} {base n0 : Nat} {v : Value} {L : List (List Int)} (h : NewS w base v) (hs : SetsR w n0 v L) (x : Ext w w') : NewS w' base v := by
  intro y n c e h0
  obtain ⟨k1, k2⟩ := h y n c e h0
  refine ⟨k1, fun i u hi hu b hb => ?_⟩
  obtain ⟨a, cap, g1, g2, g3, g4, g5⟩ := hs
  subst e
  obtain ⟨rfl, rfl, rfl⟩ : some y = a ∧ n = L.length ∧ c = cap := by simpa using g1
  obtain ⟨u0, hu0, _⟩ := (g5 y rfl h0).2 i hi _ (List.getElem?_eq_getElem hi)
  have := x.cellx hu0
  rw [hu] at this
  obtain rfl := Option.some.inj this
  exact k2 i _ hi hu0 b hb
theorem NewS.low {w : World} {base b2 : Nat} {v : Value} (h : NewS w base v) (hb : b2 ≤ base) : NewS w b2 v := fun y n c e h0 => ⟨Nat.le_trans hb (h y n c e h0).1, fun i u hi hu b hb' => Nat.le_trans hb ((h y n c e h0).2 i u hi hu b hb')⟩
theorem NewS.made {w : World} {base n : Nat} {v : Value} {vs : List Value} (h : w.ownsRow base 27 1 v n vs) (hn : ∀ u ∈ vs, ∀ b, u.ownBlock = some b → base ≤ b) : NewS w base v := by
  intro y m c e h0
  rcases h.2 with ⟨rfl, h0⟩ | ⟨g, cap, cur, rfl, hb, hg, hn', hc, hcs, ht⟩
  · cases e
  · obtain ⟨rfl, rfl, rfl⟩ : (⟨g, 0, none⟩ : Addr) = y ∧ n = m ∧ cap = c := by simpa using e
    refine ⟨hb, fun i u hi hu b hub => ?_⟩
    have hl : vs.length = n := by have := h.1; omega
    have h2 := own_get h i (List.getElem?_eq_getElem (show i < vs.length by omega))
    rw [show (⟨g, 0, none⟩ : Addr).add i = ⟨g, i, none⟩ from by by_cases h0 : i = 0 <;> simp [Addr.add, h0], h2] at hu
    obtain rfl := Option.some.inj hu
    exact hn _ (List.getElem_mem _) b hub
end Go.Proofs.YtdppgcbekhabnaaGreatDoor



/- The reference's least answer, walked. -/
namespace Go.Proofs.YtdppgcbekhabnaaGreatDoor
set_option linter.unusedSimpArgs false
set_option linter.unusedVariables false
open Go Go.RowKit

end Go.Proofs.YtdppgcbekhabnaaGreatDoor



/- The reference: what sets are wrong in (SetsFault). -/
namespace Go.Proofs.YtdppgcbekhabnaaGreatDoor
set_option linter.unusedSimpArgs false
set_option linter.unusedVariables false
open Go Go.RowKit

/-- What sets are wrong in, in numbers. -/
def SFaultIs (P : PP) (has : List (List Int)) (c : Nat) (p : Int) : Prop :=
  (has.length ≠ P.nodesV ∧ c = 3 ∧ p = -1) ∨ (has.length = P.nodesV ∧ (∀ l ∈ has, P.setE l = 0) ∧ c = 0 ∧ p = -1) ∨
  (has.length = P.nodesV ∧ ∃ (i : Nat) (l : List Int), has[i]? = some l ∧ P.setE l ≠ 0 ∧ (∀ j m, j < i → has[j]? = some m → P.setE m = 0) ∧ c = P.setE l ∧ p = (i : Int))
theorem setE_two {P : PP} {l : List Int} (h : chkE l = 0) {x : Int} (hx : x ∈ l) (hm : (P.objectsV : Int) ≤ x) : P.setE l = 2 := by
  have h0 : P.setE l ≠ 0 := fun e => by have := (setE_zero e).2 x hx; omega
  unfold PP.setE at h0 ⊢
  rw [if_pos h] at h0 ⊢
  by_cases hb : 0 < l.length ∧ (P.objectsV : Int) ≤ l.getD (l.length - 1) 0
  · rw [if_pos hb]
  · rw [if_neg hb] at h0; exact absurd rfl h0
theorem setE_chk {P : PP} {l : List Int} (h : chkE l ≠ 0) : P.setE l = chkE l := by unfold PP.setE; rw [if_neg h]
/-- How far the reference is with one set. -/
def SStep (P : PP) (l : List Int) (k e : Nat) : Prop := (e = chkE l ∧ chkE l ≠ 0 ∧ k = 0) ∨ (chkE l = 0 ∧ ((e = 0 ∧ ∀ x ∈ l.take k, x < (P.objectsV : Int)) ∨ (e = 2 ∧ ∃ x ∈ l, (P.objectsV : Int) ≤ x)))
theorem SStep.end {P : PP} {l : List Int} {k e : Nat} (h : SStep P l k e) (hk : e ≠ 0 ∨ k = l.length) : P.setE l = e := by
  rcases h with ⟨rfl, h2, _⟩ | ⟨h1, ⟨rfl, h3⟩ | ⟨rfl, x, hx, hm⟩⟩
  · exact setE_chk h2
  · rcases hk with hk | hk
    · exact absurd rfl hk
    · refine setE_of h1 fun x hx => h3 x ?_
      rw [hk, List.take_length]; exact hx
  · exact setE_two h1 hx hm
end Go.Proofs.YtdppgcbekhabnaaGreatDoor

