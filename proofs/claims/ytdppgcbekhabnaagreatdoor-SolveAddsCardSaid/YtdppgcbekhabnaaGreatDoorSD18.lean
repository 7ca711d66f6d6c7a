/- Texts of one proof, put together: Z5 X3 X6 ZS E2 ZL. -/
import Derived.Test.YtdppgcbekhabnaaGreatDoorSD10
import Derived.Test.YtdppgcbekhabnaaGreatDoorSD13
import Derived.Test.YtdppgcbekhabnaaGreatDoorSD17

/- ConsOrder: the law walked. -/
namespace Go.Proofs.YtdppgcbekhabnaaGreatDoor
set_option linter.unusedSimpArgs false
set_option linter.unusedVariables false
open Go Go.RowKit

theorem StmtsR.own2 {w : World} {base : Nat} {v : Value} {ss : List S2} {l : List PS} (h : w.ownsRow base 65 4 v ss.length (ss.flatMap S2.cells)) (hl : ss.map S2.s = l) (hn : ∀ x ∈ ss, IntsR w w.heap.size x.v x.s.args) : StmtsR w w.heap.size v l := by
  have hll : l.length = ss.length := by rw [← hl, List.length_map]
  unfold StmtsR
  rw [hll]
  refine ElR.own h (Nat.le_refl _) fun g hc i hi f hf => ?_
  rw [← hl, List.getElem?_map] at hf
  obtain ⟨x, hx, rfl⟩ := Option.map_eq_some_iff.1 hf
  have c : ∀ j u, x.cells[j]? = some u → j < 4 → w.cell? (((⟨g, 0, none⟩ : Addr).add (i * 4)).add j) = some u := fun j u hu hj => by
    rw [add_add]
    exact hc _ _ ((fm_get S2.cells 4 S2.cells_len ss i j x hx hj).trans hu)
  exact ⟨x.v, by simpa [Addr.add] using c 0 _ rfl (by omega), c 1 _ rfl (by omega), c 2 _ rfl (by omega), c 3 _ rfl (by omega), hn x (List.mem_of_getElem? hx)⟩
end Go.Proofs.YtdppgcbekhabnaaGreatDoor



/- A program that was copied: its rows are one's own. -/
namespace Go.Proofs.YtdppgcbekhabnaaGreatDoor
set_option linter.unusedSimpArgs false
set_option linter.unusedVariables false
open Go Go.RowKit

/-- A program in rows of one's own. -/
structure OwnR (w : World) (n1 : Nat) (vv fv sv : Value) (P : PP) (fs : List F2) (ss : List S2) : Prop where
  vars : w.ownsRow 0 9 1 vv P.vars.length (P.vars.map .string)
  funs : w.ownsRow n1 74 3 fv P.funs.length (fs.flatMap F2.cells)
  stmts : w.ownsRow n1 65 4 sv P.stmts.length (ss.flatMap S2.cells)
  fm : fs.map F2.f = P.funs
  sm : ss.map S2.s = P.stmts
  fi : ∀ x ∈ fs, IntsT w x.v x.f.params
  si : ∀ x ∈ ss, IntsT w x.v x.s.args
theorem OwnR.ext {w w' : World} {n1 : Nat} {vv fv sv : Value} {P : PP} {fs : List F2} {ss : List S2} (h : OwnR w n1 vv fv sv P fs ss) (x : Ext w w') : OwnR w' n1 vv fv sv P fs ss :=
  ⟨own_ext h.vars x, own_ext h.funs x, own_ext h.stmts x, h.fm, h.sm, fun y hy => (h.fi y hy).ext x, fun y hy => (h.si y hy).ext x⟩
theorem OwnR.prog {w : World} {n1 : Nat} {vv fv sv : Value} {P : PP} {fs : List F2} {ss : List S2} (h : OwnR w n1 vv fv sv P fs ss) : ProgR w w.heap.size vv fv sv P := by
  have hfl : fs.length = P.funs.length := by rw [← h.fm, List.length_map]
  have hsl : ss.length = P.stmts.length := by rw [← h.sm, List.length_map]
  exact ⟨StrsR.own h.vars (Nat.le_refl _), FunsR.own (by rw [hfl]; exact h.funs) h.fm h.fi, StmtsR.own (by rw [hsl]; exact h.stmts) h.sm h.si⟩
/-- One statement more, its numbers wherever. -/
theorem OwnR.more {w w' : World} {n1 : Nat} {vv fv sv sv' : Value} {P : PP} {fs : List F2} {ss : List S2} (h : OwnR w n1 vv fv sv P fs ss) (x : S2) (hx : IntsR w' w'.heap.size x.v x.s.args)
    (ho : w'.ownsRow n1 65 4 sv' (P.stmts.length + 1) (ss.flatMap S2.cells ++ S2.cells x)) {X : Nat → Prop} (k : Keep X w w') (hX : ∀ q, X q → ∃ c t, Blk w q c t ∧ t ≠ 9 ∧ t ≠ 74 ∧ t ≠ 3) :
    ProgR w' w'.heap.size vv fv sv' ⟨P.vars, P.funs, P.stmts ++ [x.s]⟩ := by
  have hfl : fs.length = P.funs.length := by rw [← h.fm, List.length_map]
  have hsl : ss.length = P.stmts.length := by rw [← h.sm, List.length_map]
  have hni : ∀ b, X b → ¬ IsInt w b := fun b e => by
    obtain ⟨c, t, hc, _, _, h3⟩ := hX b e
    exact notInt hc h3
  have hrk : ∀ {base : Nat} {e : TypeId} {size : Nat} {v : Value} {n : Nat} {xs : List Value}, w.ownsRow base e size v n xs → (e = 9 ∨ e = 74) → w'.ownsRow base e size v n xs := fun hr hne => row_keep hr k fun i hi e => by
    obtain ⟨c, hc⟩ := own_ty hr hi
    obtain ⟨c', t, hc', h1, h2, _⟩ := hX i e
    refine Blk.ty_ne hc hc' (fun e => ?_) rfl
    rcases hne with h | h
    · exact h1 (e.symm.trans h)
    · exact h2 (e.symm.trans h)
  refine ⟨StrsR.own (hrk h.vars (.inl rfl)) (Nat.le_refl _), FunsR.own (by rw [hfl]; exact hrk h.funs (.inr rfl)) h.fm fun x hx => (h.fi x hx).keep k hni, ?_⟩
  refine StmtsR.own2 (base := n1) (ss := ss ++ [x]) ?_ ?_ ?_
  · rw [List.flatMap_append, List.length_append, List.length_singleton, hsl]
    simpa using ho
  · rw [List.map_append, h.sm]; rfl
  · intro y hy
    rcases List.mem_append.1 hy with hy | hy
    · exact ((h.si y hy).keep k hni).1
    · obtain rfl := List.mem_singleton.1 hy
      exact hx
set_option maxRecDepth 100000 in
set_option maxHeartbeats 12800000 in
theorem ownprogram_own (a1 a2 a3 : Option Addr) (c1 c2 c3 : Nat) (P : PP) (w : World) (h : ProgR w w.heap.size (.slice a1 P.vars.length c1) (.slice a2 P.funs.length c2) (.slice a3 P.stmts.length c3) P) (hs : P.Small) :
    Calls Tryz.prog 12 #[pval a1 a2 a3 c1 c2 c3 P] w fun e w' => Ext w w' ∧ ∃ n1 b1 b2 b3 d1 d2 d3 fs ss, e = .returned (pval b1 b2 b3 d1 d2 d3 P) ∧ w.heap.size ≤ n1 ∧ n1 ≤ w'.heap.size ∧ OwnR w' n1 (.slice b1 P.vars.length d1) (.slice b2 P.funs.length d2) (.slice b3 P.stmts.length d3) P fs ss := by
  have HP := hid h
  have Hs := hid hs
  have hl1 := hs.vl
  have hl2 := hs.fl
  have hl3 := hs.sl
  obtain ⟨W1, hW1⟩ : ∃ W1, W1 = w.alloc (.cells (pcells a1 a2 a3 c1 c2 c3 P) 26) := ⟨_, rfl⟩
  have hx1 : Ext w W1 := by rw [hW1]; exact (Ext.refl _).alloc _
  obtain ⟨W2, hW2⟩ : ∃ W2, W2 = W1.alloc (.cells #[.slice none 0 0, .slice none 0 0, .slice none 0 0] 26) := ⟨_, rfl⟩
  have hx2 : Ext W1 W2 := by rw [hW2]; exact (Ext.refl _).alloc _
  have HW2 := hid (hx1.trans hx2)
  have HB1 : Hid (Blk W2 w.heap.size (pcells a1 a2 a3 c1 c2 c3 P) 26) := hid (by
    have : Blk W1 w.heap.size (pcells a1 a2 a3 c1 c2 c3 P) 26 := by rw [hW1]; exact Blk.new _ _ _
    exact this.ext hx2)
  have hs1 : W1.heap.size = w.heap.size + 1 := by rw [hW1, heap_size_alloc]
  have HB2 : Hid (Blk W2 (w.heap.size + 1) #[.slice none 0 0, .slice none 0 0, .slice none 0 0] 26) := hid (by
    rw [← hs1, hW2]; exact Blk.new _ _ _)
  have HW2e : Hid (W2 = (w.alloc (.cells #[.slice a1 P.vars.length c1, .slice a2 P.funs.length c2, .slice a3 P.stmts.length c3] 26)).alloc (.cells #[.slice none 0 0, .slice none 0 0, .slice none 0 0] 26)) := hid (by rw [hW2, hW1]; rfl)
  have Hsrc := hid ((h.ext HW2.out).vars.src)
  have hlv : 0 + P.vars.length ≤ 1000000 := by omega
  unfold pval
  clear h hs hW1 hW2 hx1 hx2 hs1
  go_enter Tryz.func12, Tryz.ntmps12
  go_wp2_with (at_builtin; rw [← HW2e.out]; refine wpList_append_src W2.heap.size (Nat.le_refl _) 22 9 (.string ⟨#[]⟩) 1 16 Tryz.underlying22 str_info rfl (by omega) (by omega) rfl _ _ rfl (.slice none 0 0) 0 [] rfl (World.ownsRow_nil _ _ _ _) a1 P.vars.length c1 (P.vars.map .string) rfl Hsrc.out hlv ?_; intro v3 w3 h1 h2 h4; have HX3 := hid (Keep.new (Ext.refl W2) h2 (fun k hk => by cases hk)); have HV3 := hid (show w3.ownsRow W2.heap.size 9 1 v3 P.vars.length (P.vars.map .string) by simpa using h1); clear h1 h2 h4; obtain ⟨va, vc, rfl⟩ := row_form HV3.out)
  obtain ⟨W4, hW4⟩ : ∃ W4, W4 = w3.alloc (.cells #[.slice va P.vars.length vc, .slice none 0 0, .slice none 0 0] 26) := ⟨_, rfl⟩
  rw [← hW4]
  have hx4 : Ext w3 W4 := by rw [hW4]; exact (Ext.refl _).alloc _
  have HO4 : Hid (OwnP W4 w3.heap.size (.slice va P.vars.length vc) (.slice none 0 0) (.slice none 0 0) P [] []) := hid
    ⟨by rw [hW4]; exact Blk.new _ _ _, own_low (own_ext HV3.out hx4) (Nat.zero_le _), World.ownsRow_nil _ _ _ _, World.ownsRow_nil _ _ _ _, fun _ h => by (cases h), fun _ h => by (cases h)⟩
  have HW4 := hid ((HW2.out.trans HX3.out).trans hx4)
  have HB14 := hid (HB1.out.ext (HX3.out.trans hx4))
  have HB24 := hid (HB2.out.ext (HX3.out.trans hx4))
  have Hn1 : Hid (w.heap.size + 1 < w3.heap.size) := hid (Nat.lt_of_lt_of_le HB2.out.lt HX3.out.size)
  clear hW4 hx4 Hsrc hlv
  generalize w3.heap.size = n1 at *
  go_loopw [5] (fun t5 wr => ∃ (k : Nat) (fv : Value) (fs : List F2), t5 = .int .i64 (k : Int) ∧ k ≤ P.funs.length ∧ OwnP wr n1 (.slice va P.vars.length vc) fv (.slice none 0 0) P fs [] ∧ fs.map F2.f = P.funs.take k ∧ Old n1 W4 wr) (fun t5 _ => P.funs.length - (intOf t5).toNat)
  case atStart => exact ⟨0, _, [], rfl, Nat.zero_le _, HO4.out, rfl, Old.refl _ _⟩
  case round =>
    clear HO4
    obtain ⟨k, fv, fs, rfl, hk, hO, hm, hw⟩ := hrel
    have HO := hid hO
    have Hm := hid hm
    have Hw := hid hw
    have Hww : Hid (Old w.heap.size w wr) := hid ((HW4.out.old _).trans (hw.mono fun q _ e => by have := Hn1.out; omega))
    have HBp : Hid (Blk wr w.heap.size (pcells a1 a2 a3 c1 c2 c3 P) 26) := hid (HB14.out.keep hw fun e => by have := Hn1.out; omega)
    have HBr : Hid (Blk wr (w.heap.size + 1) #[.slice none 0 0, .slice none 0 0, .slice none 0 0] 26) := hid (HB24.out.keep hw fun e => by have := Hn1.out; omega)
    have p0 := HBp.out.av 0 rfl
    have p1 := HBp.out.av 1 rfl
    have p2 := HBp.out.av 2 rfl
    simp only [pcells, List.getElem_toArray, List.getElem_cons_zero, List.getElem_cons_succ] at p0 p1 p2
    clear hO hm hw
    by_cases hlt : k < P.funs.length
    · obtain ⟨y, f, av, cv, rfl, hq, e0, e1, e2, hI⟩ := (HP.out.old Hww.out).funs.at hlt
      have hfl : fs.length = k := by
        have := congrArg List.length Hm.out
        rw [List.length_map, List.length_take] at this
        omega
      obtain ⟨fa, fc, hfv⟩ := row_form HO.out.funs
      rw [hfl] at hfv
      subst hfv
      obtain ⟨W5, hW5⟩ : ∃ W5, W5 = wr.alloc (.cells #[.string f.name, .slice av f.params.length cv, .int .i64 f.ret] 74) := ⟨_, rfl⟩
      have hx5 : Ext wr W5 := by rw [hW5]; exact (Ext.refl _).alloc _
      have HB5 : Hid (Blk W5 wr.heap.size #[.string f.name, .slice av f.params.length cv, .int .i64 f.ret] 74) := hid (by rw [hW5]; exact Blk.new _ _ _)
      have hfs := Hs.out.fs f (List.mem_of_getElem? hq)
      have HN := hid (ownintsR_any _ f.params W5 w.heap.size (hI.old (hx5.old _)) (by omega))
      have Hnx : Hid (∀ v, (fs ++ [(⟨f, v⟩ : F2)]).map F2.f = P.funs.take (k + 1)) := hid fun v => by
        rw [List.map_append, Hm.out, List.take_add_one, hq]; rfl
      have Hx5 := hid hx5
      have HW5 := hid hW5
      have Hfl := hid hfl
      clear hq hI hfl hx5 hW5 hfs
      go_wp2_with fail
      rw [← HW5.out]
      refine HN.out.mono ?_
      intro e w6 hx
      obtain ⟨v6, rfl, hx6, hr6⟩ := hx
      obtain ⟨b6, c6, rfl⟩ := row_form hr6
      have hB6 := HB5.out.ext hx6
      have z1 := hB6.av 1 rfl
      have f1 := hB6.free 1
      have hB7 := hB6.set 1 (.slice b6 f.params.length c6)
      have k7 : Keep (fun q => q = wr.heap.size) w6 (w6.setCell ⟨wr.heap.size, 1, none⟩ (.slice b6 f.params.length c6)) := Keep.set (X := fun q => q = wr.heap.size) (Keep.refl _ _) rfl _
      simp only [List.setIfInBounds_toArray, List.set_cons_zero, List.set_cons_succ, List.getElem_toArray, List.getElem_cons_zero, List.getElem_cons_succ] at z1 hB7
      have hx7 : Ext wr (w6.setCell ⟨wr.heap.size, 1, none⟩ (.slice b6 f.params.length c6)) := Keep.new (Hx5.out.trans hx6) k7 fun q e => Nat.le_of_eq e.symm
      have HO7 := hid (HO.out.ext hx7)
      have HT7 := hid ((IntsT.of_row hr6).keep k7 fun q e => by subst e; exact notInt hB6 (by decide))
      have y0 := hB7.av 0 rfl
      have y1 := hB7.av 1 rfl
      have y2 := hB7.av 2 rfl
      have q1 := HO7.out.blk.av 1 rfl
      simp only [List.getElem_toArray, List.getElem_cons_zero, List.getElem_cons_succ] at y0 y1 y2 q1
      have Hx7 := hid hx7
      have Hn8 : Hid (n1 ≤ ((w6.setCell ⟨wr.heap.size, 1, none⟩ (.slice b6 f.params.length c6)).alloc (.cells #[.string f.name, .slice b6 f.params.length c6, .int .i64 f.ret] 74)).heap.size) := hid (Nat.le_trans (Nat.le_of_lt HO7.out.blk.lt) ((Ext.refl _).alloc _).size)
      have Hkl : Hid (k ≤ 1000000) := hid (by omega)
      have HRo : Hid ((w6.setCell ⟨wr.heap.size, 1, none⟩ (.slice b6 f.params.length c6)).ownsRow n1 74 3 (.slice fa k fc) k (fs.flatMap F2.cells)) := hid (by have := HO7.out.funs; rwa [Hfl.out] at this)
      clear HN hx6 hr6 hB6 hB7 k7 hx7
      go_wp2_with (at_builtin; refine wpList_append_el n1 Hn8.out 23 74 (.agg #[.string ⟨#[]⟩, .slice none 0 0, .int .i64 0]) 3 48 Tryz.underlying23 fun_info rfl (by omega) (by omega) rfl _ _ rfl (.slice fa k fc) k (fs.flatMap F2.cells) rfl (own_ext HRo.out ((Ext.refl _).alloc _)) w6.heap.size (F2.cells ⟨f, .slice b6 f.params.length c6⟩) rfl (by simp [F2.cells, Value.oneCell']) rfl (Blk.new_setU _ _ _ _ _) Hkl.out ?_; intro v9 w9 ho9 hk9 hl9; obtain ⟨a9, c9, rfl⟩ := row_form ho9; have HO8 := hid (HO7.out.ext ((Ext.refl _).alloc (.cells #[.string f.name, .slice b6 f.params.length c6, .int .i64 f.ret] 74))); have HT8 := hid (HT7.out.ext ((Ext.refl _).alloc (.cells #[.string f.name, .slice b6 f.params.length c6, .int .i64 f.ret] 74))); have Hk9 := hid hk9; have Ho9 := hid ho9; have hb9 := HO8.out.blk.keep hk9 (fun e => by obtain ⟨c, hc⟩ := own_ty HO8.out.funs e; exact Blk.ty_ne hc HO8.out.blk (by decide) rfl); have s1 := hb9.av 1 rfl; have t1 := hb9.free 1; clear ho9 hk9 hb9)
      have HO10 := hid (HO8.out.fun ⟨f, .slice b6 f.params.length c6⟩ HT8.out (by rw [Hfl.out]; exact Ho9.out) Hk9.out rfl)
      have HO11 : Hid (Old n1 W4 (w9.setCell ⟨n1, 1, none⟩ (.slice a9 (k + 1) c9))) := hid (by
        refine Hw.out.trans (((Hx7.out.trans ((Ext.refl _).alloc _)).old n1).trans ((Hk9.out.mono fun q _ e => (World.ownsRow.lt HO8.out.funs q e).1).trans ?_))
        exact Keep.set (X := fun q => n1 ≤ q) (Keep.refl _ _) (Nat.le_refl _) _)
      go_roundw
      case rel => exact ⟨k + 1, _, _, by go_num, by omega, HO10.out, Hnx.out _, HO11.out⟩
      case measure => simp [intOf]; omega
    · obtain rfl : k = P.funs.length := by omega
      rw [List.take_of_length_le (Nat.le_refl _)] at Hm
      have Hmf := Hm
      have HOf := HO
      have Hwf := Hw
      clear Hm HO Hw HBr Hww HBp
      go_wp2
      clear p0 p1 p2
      rename World => w7
      go_loopw [7] (fun t7 wr => ∃ (k : Nat) (sv : Value) (ss : List S2), t7 = .int .i64 (k : Int) ∧ k ≤ P.stmts.length ∧ OwnP wr n1 (.slice va P.vars.length vc) fv sv P fs ss ∧ ss.map S2.s = P.stmts.take k ∧ Old n1 W4 wr) (fun t7 _ => P.stmts.length - (intOf t7).toNat)
      case atStart => exact ⟨0, _, [], rfl, Nat.zero_le _, HOf.out, rfl, Hwf.out⟩
      case round =>
        clear HOf Hwf
        obtain ⟨k, sv, ss, rfl, hk, hO, hm, hw⟩ := hrel
        have HO := hid hO
        have Hm := hid hm
        have Hw := hid hw
        have Hww : Hid (Old w.heap.size w wr) := hid ((HW4.out.old _).trans (hw.mono fun q _ e => by have := Hn1.out; omega))
        have HBp : Hid (Blk wr w.heap.size (pcells a1 a2 a3 c1 c2 c3 P) 26) := hid (HB14.out.keep hw fun e => by have := Hn1.out; omega)
        have HBr : Hid (Blk wr (w.heap.size + 1) #[.slice none 0 0, .slice none 0 0, .slice none 0 0] 26) := hid (HB24.out.keep hw fun e => by have := Hn1.out; omega)
        have p0 := HBp.out.av 0 rfl
        have p1 := HBp.out.av 1 rfl
        have p2 := HBp.out.av 2 rfl
        simp only [pcells, List.getElem_toArray, List.getElem_cons_zero, List.getElem_cons_succ] at p0 p1 p2
        clear hO hm hw
        by_cases hlt : k < P.stmts.length
        · obtain ⟨y, f, av, cv, rfl, hq, e0, e1, e2, e3, hI⟩ := (HP.out.old Hww.out).stmts.at hlt
          have hfl : ss.length = k := by
            have := congrArg List.length Hm.out
            rw [List.length_map, List.length_take] at this
            omega
          obtain ⟨fa, fc, hfv⟩ := row_form HO.out.stmts
          rw [hfl] at hfv
          subst hfv
          obtain ⟨W5, hW5⟩ : ∃ W5, W5 = wr.alloc (.cells #[.string f.kind, .int .i64 f.x, .int .i64 f.y, .slice av f.args.length cv] 65) := ⟨_, rfl⟩
          have hx5 : Ext wr W5 := by rw [hW5]; exact (Ext.refl _).alloc _
          have HB5 : Hid (Blk W5 wr.heap.size #[.string f.kind, .int .i64 f.x, .int .i64 f.y, .slice av f.args.length cv] 65) := hid (by rw [hW5]; exact Blk.new _ _ _)
          have hfs := Hs.out.ss f (List.mem_of_getElem? hq)
          have HN := hid (ownintsR_any _ f.args W5 w.heap.size (hI.old (hx5.old _)) (by omega))
          have Hnx : Hid (∀ v, (ss ++ [(⟨f, v⟩ : S2)]).map S2.s = P.stmts.take (k + 1)) := hid fun v => by
            rw [List.map_append, Hm.out, List.take_add_one, hq]; rfl
          have Hx5 := hid hx5
          have HW5 := hid hW5
          have Hfl := hid hfl
          clear hq hI hfl hx5 hW5 hfs
          go_wp2_with fail
          rw [← HW5.out]
          refine HN.out.mono ?_
          intro e w6 hx
          obtain ⟨v6, rfl, hx6, hr6⟩ := hx
          obtain ⟨b6, c6, rfl⟩ := row_form hr6
          have hB6 := HB5.out.ext hx6
          have z1 := hB6.av 3 rfl
          have f1 := hB6.free 3
          have hB7 := hB6.set 3 (.slice b6 f.args.length c6)
          have k7 : Keep (fun q => q = wr.heap.size) w6 (w6.setCell ⟨wr.heap.size, 3, none⟩ (.slice b6 f.args.length c6)) := Keep.set (X := fun q => q = wr.heap.size) (Keep.refl _ _) rfl _
          simp only [List.setIfInBounds_toArray, List.set_cons_zero, List.set_cons_succ, List.getElem_toArray, List.getElem_cons_zero, List.getElem_cons_succ] at z1 hB7
          have hx7 : Ext wr (w6.setCell ⟨wr.heap.size, 3, none⟩ (.slice b6 f.args.length c6)) := Keep.new (Hx5.out.trans hx6) k7 fun q e => Nat.le_of_eq e.symm
          have HO7 := hid (HO.out.ext hx7)
          have HT7 := hid ((IntsT.of_row hr6).keep k7 fun q e => by subst e; exact notInt hB6 (by decide))
          have y0 := hB7.av 0 rfl
          have y1 := hB7.av 1 rfl
          have y2 := hB7.av 2 rfl
          have y3 := hB7.av 3 rfl
          have q1 := HO7.out.blk.av 2 rfl
          simp only [List.getElem_toArray, List.getElem_cons_zero, List.getElem_cons_succ] at y0 y1 y2 y3 q1
          have Hx7 := hid hx7
          have Hn8 : Hid (n1 ≤ ((w6.setCell ⟨wr.heap.size, 3, none⟩ (.slice b6 f.args.length c6)).alloc (.cells #[.string f.kind, .int .i64 f.x, .int .i64 f.y, .slice b6 f.args.length c6] 65)).heap.size) := hid (Nat.le_trans (Nat.le_of_lt HO7.out.blk.lt) ((Ext.refl _).alloc _).size)
          have Hkl : Hid (k ≤ 1000000) := hid (by omega)
          have HRo : Hid ((w6.setCell ⟨wr.heap.size, 3, none⟩ (.slice b6 f.args.length c6)).ownsRow n1 65 4 (.slice fa k fc) k (ss.flatMap S2.cells)) := hid (by have := HO7.out.stmts; rwa [Hfl.out] at this)
          clear HN hx6 hr6 hB6 hB7 k7 hx7
          go_wp2_with (at_builtin; refine wpList_append_el n1 Hn8.out 24 65 (.agg #[.string ⟨#[]⟩, .int .i64 0, .int .i64 0, .slice none 0 0]) 4 56 Tryz.underlying24 stmt_info rfl (by omega) (by omega) rfl _ _ rfl (.slice fa k fc) k (ss.flatMap S2.cells) rfl (own_ext HRo.out ((Ext.refl _).alloc _)) w6.heap.size (S2.cells ⟨f, .slice b6 f.args.length c6⟩) rfl (by simp [S2.cells, Value.oneCell']) rfl (Blk.new_setU _ _ _ _ _) Hkl.out ?_; intro v9 w9 ho9 hk9 hl9; obtain ⟨a9, c9, rfl⟩ := row_form ho9; have HO8 := hid (HO7.out.ext ((Ext.refl _).alloc (.cells #[.string f.kind, .int .i64 f.x, .int .i64 f.y, .slice b6 f.args.length c6] 65))); have HT8 := hid (HT7.out.ext ((Ext.refl _).alloc (.cells #[.string f.kind, .int .i64 f.x, .int .i64 f.y, .slice b6 f.args.length c6] 65))); have Hk9 := hid hk9; have Ho9 := hid ho9; have hb9 := HO8.out.blk.keep hk9 (fun e => by obtain ⟨c, hc⟩ := own_ty HO8.out.stmts e; exact Blk.ty_ne hc HO8.out.blk (by decide) rfl); have s1 := hb9.av 2 rfl; have t1 := hb9.free 2; clear ho9 hk9 hb9)
          have HO10 := hid (HO8.out.stmt ⟨f, .slice b6 f.args.length c6⟩ HT8.out (by rw [Hfl.out]; exact Ho9.out) Hk9.out rfl)
          have HO11 : Hid (Old n1 W4 (w9.setCell ⟨n1, 2, none⟩ (.slice a9 (k + 1) c9))) := hid (by
            refine Hw.out.trans (((Hx7.out.trans ((Ext.refl _).alloc _)).old n1).trans ((Hk9.out.mono fun q _ e => (World.ownsRow.lt HO8.out.stmts q e).1).trans ?_))
            exact Keep.set (X := fun q => n1 ≤ q) (Keep.refl _ _) (Nat.le_refl _) _)
          go_roundw
          case rel => exact ⟨k + 1, _, _, by go_num, by omega, HO10.out, Hnx.out _, HO11.out⟩
          case measure => simp [intOf]; omega
        · obtain rfl : k = P.stmts.length := by omega
          rw [List.take_of_length_le (Nat.le_refl _)] at Hm
          have hfl : fs.length = P.funs.length := by rw [← Hmf.out, List.length_map]
          have hsl : ss.length = P.stmts.length := by rw [← Hm.out, List.length_map]
          obtain ⟨fa, fc, hfv⟩ := row_form HO.out.funs
          obtain ⟨sa, sc, hsv⟩ := row_form HO.out.stmts
          rw [hfl] at hfv
          rw [hsl] at hsv
          subst hfv hsv
          have q0 := HO.out.blk.av 0 rfl
          have q1 := HO.out.blk.av 1 rfl
          have q2 := HO.out.blk.av 2 rfl
          have z0 := HBr.out.av 0 rfl
          have z1 := HBr.out.av 1 rfl
          have z2 := HBr.out.av 2 rfl
          have f0 := HBr.out.free 0
          have f1 := HBr.out.free 1
          have f2 := HBr.out.free 2
          simp only [List.getElem_toArray, List.getElem_cons_zero, List.getElem_cons_succ] at q0 q1 q2 z0 z1 z2
          have HBz := hid (store3 (v0 := .slice va P.vars.length vc) (v1 := .slice fa P.funs.length fc) (v2 := .slice sa P.stmts.length sc) HBr.out)
          have HKz := hid (store3_keep wr (w.heap.size + 1) (.slice va P.vars.length vc) (.slice fa P.funs.length fc) (.slice sa P.stmts.length sc))
          obtain ⟨W10, hW10⟩ : ∃ W10, W10 = (((wr.setCell ⟨w.heap.size + 1, 0, none⟩ (.slice va P.vars.length vc)).setCell ⟨w.heap.size + 1, 1, none⟩ (.slice fa P.funs.length fc)).setCell ⟨w.heap.size + 1, 2, none⟩ (.slice sa P.stmts.length sc)) := ⟨_, rfl⟩
          rw [← hW10] at HBz HKz
          have HW10 := hid hW10
          have Hfs := hid (And.intro hfl hsl)
          clear hfl hsl p0 p1 hW10
          go_wp2
          rw [← HW10.out]
          have c0 := HBz.out.av 0 rfl
          have c1' := HBz.out.av 1 rfl
          have c2' := HBz.out.av 2 rfl
          have hX := Keep.new (Ext.refl w) (Hww.out.trans (HKz.out.mono fun b _ e => by omega)) fun b hb => hb
          have hni : ∀ b, b = w.heap.size + 1 → ¬ IsInt wr b := fun b e => by subst e; exact notInt HBr.out (by decide)
          have hrk : ∀ {base : Nat} {e : TypeId} {size : Nat} {v : Value} {n : Nat} {xs : List Value}, wr.ownsRow base e size v n xs → e ≠ 26 → W10.ownsRow base e size v n xs := fun hr hne => row_keep hr HKz.out fun i hi e => by
            subst e
            obtain ⟨c, hc⟩ := own_ty hr hi
            exact Blk.ty_ne hc HBr.out hne rfl
          have hP' : OwnR W10 n1 (.slice va P.vars.length vc) (.slice fa P.funs.length fc) (.slice sa P.stmts.length sc) P fs ss :=
            ⟨hrk HO.out.vars (by decide), by have := hrk HO.out.funs (by decide); rw [Hfs.out.1] at this; exact this, by have := hrk HO.out.stmts (by decide); rw [Hfs.out.2] at this; exact this, Hmf.out, Hm.out, fun x hx => (HO.out.fi x hx).keep HKz.out hni, fun x hx => (HO.out.si x hx).keep HKz.out hni⟩
          have hn1 : w.heap.size ≤ n1 := by have := Hn1.out; omega
          exact bodyPost_ret (v := pval va fa sa vc fc sc P) (by simp [results, pval, Tryz.results12, go_sem, c0, c1', c2']) rfl ⟨hX, _, _, _, _, _, _, _, _, _, rfl, hn1, Nat.le_trans (Nat.le_of_lt HO.out.blk.lt) HKz.out.size, hP'⟩
end Go.Proofs.YtdppgcbekhabnaaGreatDoor



/- Bags in memory: rows of numbers of one's own, their blocks apart. -/
namespace Go.Proofs.YtdppgcbekhabnaaGreatDoor
set_option linter.unusedSimpArgs false
set_option linter.unusedVariables false
open Go Go.RowKit

/-- Rows of one's own, each in a block of its own. -/
structure Bags (w : World) (base : Nat) (vs : List Value) (B : List (List Int)) : Prop where
  len : vs.length = B.length
  row : ∀ (i : Nat) v l, vs[i]? = some v → B[i]? = some l → IRow base w v l
  apart : ∀ (i j : Nat) v u b, i ≠ j → vs[i]? = some v → vs[j]? = some u → v.ownBlock = some b → ¬ u.ownBlock = some b
theorem Bags.nil (w : World) (base : Nat) : Bags w base [] [] := ⟨rfl, fun _ _ _ h => by simp at h, fun _ _ _ _ _ _ h => by simp at h⟩
theorem Bags.made {w : World} {base : Nat} {vs : List Value} {B : List (List Int)} (h : Bags w base vs B) : Made w vs B := ⟨h.len, fun i v l h1 h2 => IntsT.of_row (h.row i v l h1 h2)⟩
/-- Other blocks than of numbers are written. -/
theorem Bags.keep {X : Nat → Prop} {w w' : World} {base : Nat} {vs : List Value} {B : List (List Int)} (h : Bags w base vs B) (k : Keep X w w') (hX : ∀ b, X b → ¬ IsInt w b) : Bags w' base vs B :=
  ⟨h.len, fun i v l h1 h2 => row_keep (h.row i v l h1 h2) k fun b hb hx => hX b hx (by
    obtain ⟨c, hc⟩ := own_ty (h.row i v l h1 h2) hb
    exact ⟨c, _, hc⟩), h.apart⟩
theorem Bags.ext {w w' : World} {base : Nat} {vs : List Value} {B : List (List Int)} (h : Bags w base vs B) (x : Ext w w') : Bags w' base vs B := h.keep (x.keep fun _ => False) fun _ h => h.elim
/-- One bag more at the end, in a new block. -/
theorem Bags.push {w w' : World} {base : Nat} {vs : List Value} {B : List (List Int)} (h : Bags w base vs B) (x : Ext w w') {v : Value} {l : List Int} (hr : IRow base w' v l) (hn : ∀ b, v.ownBlock = some b → w.heap.size ≤ b) : Bags w' base (vs ++ [v]) (B ++ [l]) := by
  have hlt : ∀ (i : Nat) u b, vs[i]? = some u → u.ownBlock = some b → b < w.heap.size := fun i u b hu hb => by
    have hi : i < vs.length := by
      rcases Nat.lt_or_ge i vs.length with g | g
      · exact g
      · rw [List.getElem?_eq_none g] at hu; cases hu
    obtain ⟨m, hm⟩ : ∃ m, B[i]? = some m := ⟨_, List.getElem?_eq_getElem (by rw [← h.len]; exact hi)⟩
    exact (World.ownsRow.lt (h.row i u m hu hm) b hb).2
  have hat : ∀ (i : Nat) u, (vs ++ [v])[i]? = some u → (i < vs.length ∧ vs[i]? = some u) ∨ (i = vs.length ∧ u = v) := fun i u hu => by
    rcases Nat.lt_trichotomy i vs.length with g | g | g
    · rw [List.getElem?_append_left g] at hu
      exact .inl ⟨g, hu⟩
    · subst g
      rw [List.getElem?_concat_length] at hu
      exact .inr ⟨rfl, (Option.some.inj hu).symm⟩
    · rw [List.getElem?_eq_none (by rw [List.length_append, List.length_singleton]; omega)] at hu
      cases hu
  refine ⟨by rw [List.length_append, List.length_append, h.len]; rfl, fun i u m hu hm => ?_, fun i j u z b hij hu hz hb hz' => ?_⟩
  · rcases hat i u hu with ⟨hi, hu'⟩ | ⟨rfl, rfl⟩
    · rw [List.getElem?_append_left (by rw [← h.len]; exact hi)] at hm
      exact (h.ext x).row i u m hu' hm
    · rw [h.len, List.getElem?_concat_length] at hm
      obtain rfl := Option.some.inj hm
      exact hr
  · rcases hat i u hu with ⟨hi, hu'⟩ | ⟨hi, rfl⟩ <;> rcases hat j z hz with ⟨hj, hz''⟩ | ⟨hj, rfl⟩
    · exact h.apart i j u z b hij hu' hz'' hb hz'
    · have := hlt i u b hu' hb
      have := hn b hz'
      omega
    · have := hlt j z b hz'' hz'
      have := hn b hb
      omega
    · omega
/-- One bag is appended to. -/
theorem Bags.app {w w' : World} {base i : Nat} {vs : List Value} {B : List (List Int)} (h : Bags w base vs B) (hi : i < vs.length) {v v' : Value} {l' : List Int} (hv : vs[i]? = some v) (hr : IRow base w' v' l') (k : Keep (fun q => v.ownBlock = some q) w w') (hb : ∀ b, v'.ownBlock = some b → v.ownBlock = some b ∨ w.heap.size ≤ b) :
    Bags w' base (vs.set i v') (B.set i l') := by
  have hlt : ∀ (j : Nat) u b, vs[j]? = some u → u.ownBlock = some b → b < w.heap.size := fun j u b hu hb => by
    have hj : j < vs.length := by
      rcases Nat.lt_or_ge j vs.length with g | g
      · exact g
      · rw [List.getElem?_eq_none g] at hu; cases hu
    obtain ⟨m, hm⟩ : ∃ m, B[j]? = some m := ⟨_, List.getElem?_eq_getElem (by rw [← h.len]; exact hj)⟩
    exact (World.ownsRow.lt (h.row j u m hu hm) b hb).2
  have hoff : ∀ (j : Nat) u b, j ≠ i → vs[j]? = some u → v'.ownBlock = some b → ¬ u.ownBlock = some b := fun j u b hj hu hb' hu' => by
    rcases hb b hb' with g | g
    · exact h.apart i j v u b (fun e => hj e.symm) hv hu g hu'
    · have := hlt j u b hu hu'
      omega
  refine ⟨by rw [List.length_set, List.length_set, h.len], fun j u m hu hm => ?_, fun p q u z b hpq hu hz hb' hz' => ?_⟩
  · by_cases hj : i = j
    · subst hj
      rw [List.getElem?_set_self hi] at hu
      rw [List.getElem?_set_self (by rw [← h.len]; exact hi)] at hm
      obtain rfl := Option.some.inj hu
      obtain rfl := Option.some.inj hm
      exact hr
    · rw [List.getElem?_set_ne hj] at hu hm
      exact row_keep (h.row j u m hu hm) k fun b hb1 hb2 => h.apart i j v u b hj hv hu hb2 hb1
  · by_cases hp : i = p
    · subst hp
      rw [List.getElem?_set_self hi] at hu
      obtain rfl := Option.some.inj hu
      rw [List.getElem?_set_ne hpq] at hz
      exact hoff q z b (fun e => hpq e.symm) hz hb' hz'
    · rw [List.getElem?_set_ne hp] at hu
      by_cases hq : i = q
      · subst hq
        rw [List.getElem?_set_self hi] at hz
        obtain rfl := Option.some.inj hz
        exact hoff p u b hpq hu hz' hb'
      · rw [List.getElem?_set_ne hq] at hz
        exact h.apart p q u z b hpq hu hz hb' hz'
end Go.Proofs.YtdppgcbekhabnaaGreatDoor



/- Rows of truth values of one's own, each in a block of its own. -/
namespace Go.Proofs.YtdppgcbekhabnaaGreatDoor
set_option linter.unusedSimpArgs false
set_option linter.unusedVariables false
open Go Go.RowKit

def trCells (l : List Bool) : List Value := l.map Value.bool
theorem trCells_at {l : List Bool} {i : Nat} (h : i < l.length) : (trCells l)[i]? = some (.bool (l.getD i false)) := by
  unfold trCells
  rw [List.getElem?_map, List.getD_eq_getElem?_getD, List.getElem?_eq_getElem h]; rfl
def TrRow (base : Nat) (w : World) (v : Value) (l : List Bool) : Prop := w.ownsRow base 4 1 v l.length (trCells l)
def IsB (w : World) (b : Nat) : Prop := ∃ c, Blk w b c 4
structure BBags (w : World) (base : Nat) (vs : List Value) (B : List (List Bool)) : Prop where
  len : vs.length = B.length
  row : ∀ (i : Nat) v l, vs[i]? = some v → B[i]? = some l → TrRow base w v l
  apart : ∀ (i j : Nat) v u b, i ≠ j → vs[i]? = some v → vs[j]? = some u → v.ownBlock = some b → ¬ u.ownBlock = some b
section
variable {w w' : World} {base : Nat} {vs : List Value} {B : List (List Bool)}
theorem BBags.nil (w : World) (base : Nat) : BBags w base [] [] := ⟨rfl, fun _ _ _ h => by simp at h, fun _ _ _ _ _ _ h => by simp at h⟩
theorem BBags.keep {X : Nat → Prop} (h : BBags w base vs B) (k : Keep X w w') (hX : ∀ b, X b → ¬ IsB w b) : BBags w' base vs B :=
  ⟨h.len, fun i v l h1 h2 => row_keep (h.row i v l h1 h2) k fun b hb hx => hX b hx (own_ty (h.row i v l h1 h2) hb), h.apart⟩
theorem BBags.ext (h : BBags w base vs B) (x : Ext w w') : BBags w' base vs B := h.keep (x.keep fun _ => False) fun _ h => h.elim
theorem BBags.at (h : BBags w base vs B) {i : Nat} (hi : i < B.length) : ∃ v l, vs[i]? = some v ∧ B[i]? = some l ∧ TrRow base w v l :=
  ⟨vs[i]'(by rw [h.len]; exact hi), B[i], List.getElem?_eq_getElem _, List.getElem?_eq_getElem _, h.row i _ _ (List.getElem?_eq_getElem _) (List.getElem?_eq_getElem _)⟩
/-- One row more at the end, in a new block. -/
theorem BBags.push (h : BBags w base vs B) (x : Ext w w') {v : Value} {l : List Bool} (hr : TrRow base w' v l) (hn : ∀ b, v.ownBlock = some b → w.heap.size ≤ b) : BBags w' base (vs ++ [v]) (B ++ [l]) := by
  have hlt : ∀ (i : Nat) u b, vs[i]? = some u → u.ownBlock = some b → b < w.heap.size := fun i u b hu hb => by
    have hi : i < vs.length := by
      rcases Nat.lt_or_ge i vs.length with g | g
      · exact g
      · rw [List.getElem?_eq_none g] at hu; cases hu
    obtain ⟨m, hm⟩ : ∃ m, B[i]? = some m := ⟨_, List.getElem?_eq_getElem (by rw [← h.len]; exact hi)⟩
    exact (World.ownsRow.lt (h.row i u m hu hm) b hb).2
  have hat : ∀ (i : Nat) u, (vs ++ [v])[i]? = some u → (i < vs.length ∧ vs[i]? = some u) ∨ (i = vs.length ∧ u = v) := fun i u hu => by
    rcases Nat.lt_trichotomy i vs.length with g | g | g
    · rw [List.getElem?_append_left g] at hu
      exact .inl ⟨g, hu⟩
    · subst g
      rw [List.getElem?_concat_length] at hu
      exact .inr ⟨rfl, (Option.some.inj hu).symm⟩
    · rw [List.getElem?_eq_none (by rw [List.length_append, List.length_singleton]; omega)] at hu
      cases hu
  refine ⟨by rw [List.length_append, List.length_append, h.len]; rfl, fun i u m hu hm => ?_, fun i j u z b hij hu hz hb hz' => ?_⟩
  · rcases hat i u hu with ⟨hi, hu'⟩ | ⟨rfl, rfl⟩
    · rw [List.getElem?_append_left (by rw [← h.len]; exact hi)] at hm
      exact (h.ext x).row i u m hu' hm
    · rw [h.len, List.getElem?_concat_length] at hm
      obtain rfl := Option.some.inj hm
      exact hr
  · rcases hat i u hu with ⟨hi, hu'⟩ | ⟨hi, rfl⟩ <;> rcases hat j z hz with ⟨hj, hz''⟩ | ⟨hj, rfl⟩
    · exact h.apart i j u z b hij hu' hz'' hb hz'
    · have := hlt i u b hu' hb
      have := hn b hz'
      omega
    · have := hlt j z b hz'' hz'
      have := hn b hb
      omega
    · omega
/-- A value of a row is put. -/
theorem BBags.set {i j g cap n : Nat} {l : List Bool} (h : BBags w base vs B) (hv : vs[i]? = some (.slice (some ⟨g, 0, none⟩) n cap)) (hl : B[i]? = some l) (hj : j < l.length) (x : Bool) :
    BBags (w.setCell ⟨g, j, none⟩ (.bool x)) base vs (B.set i (l.set j x)) := by
  have hi : i < B.length := by
    rcases Nat.lt_or_ge i B.length with k | k
    · exact k
    · rw [List.getElem?_eq_none k] at hl; cases hl
  have hk : Keep (fun q => q = g) w (w.setCell ⟨g, j, none⟩ (.bool x)) := (Keep.refl (fun q => q = g) w).set rfl _
  refine ⟨by rw [List.length_set]; exact h.len, fun p u m hu hm => ?_, h.apart⟩
  by_cases hp : i = p
  · subst hp
    rw [List.getElem?_set_self hi] at hm
    obtain rfl := Option.some.inj hm
    obtain rfl := Option.some.inj (hv.symm.trans hu)
    have hr := h.row i _ l hv hl
    unfold TrRow at hr ⊢
    obtain ⟨a', c', e'⟩ := row_form hr
    simp only [Value.slice.injEq] at e'
    obtain ⟨rfl, rfl, rfl⟩ := e'
    rw [List.length_set, show trCells (l.set j x) = (trCells l).set j (.bool x) by unfold trCells; rw [List.map_set]]
    exact own_set hr j (by unfold trCells; rw [List.length_map]; exact hj) _
  · rw [List.getElem?_set_ne hp] at hm
    exact row_keep (h.row p u m hu hm) hk fun b hb1 hb2 => h.apart i p _ u b hp hv hu (by subst hb2; rfl) hb1
end
end Go.Proofs.YtdppgcbekhabnaaGreatDoor



/- The least answer, plainly: it is closed, and within each that is closed. -/
namespace Go.Proofs.YtdppgcbekhabnaaGreatDoor
set_option linter.unusedSimpArgs false
set_option linter.unusedVariables false
open Go Go.RowKit

/-- So many rounds, from nothing. -/
def PP.iterV (P : PP) : Nat → List (List Int)
  | 0 => List.replicate P.nodesV []
  | n + 1 => P.roundV (P.iterV n)
theorem iterV_good {P : PP} (hw : P.Well) : ∀ n, P.GoodS (P.iterV n)
  | 0 => ⟨hw, by simp [PP.iterV], fun l hl => by
    obtain rfl := List.eq_of_mem_replicate hl
    exact setE_of (by decide) fun x hx => by cases hx⟩
  | n + 1 => roundV_good (iterV_good hw n)
theorem roundV_sub {P : PP} {has : List (List Int)} (hg : P.GoodS has) : Sub has (P.roundV has) := fun i x hx => by
  by_cases hi : i < has.length
  · exact (mem_roundV hg hi).2 (.inl hx)
  · rw [List.getD_eq_getElem?_getD, List.getElem?_eq_none (by omega)] at hx
    cases hx
/-- What a round does not change is an answer. -/
theorem closed_of_round {P : PP} {has : List (List Int)} (hg : P.GoodS has) (h : P.roundV has = has) : ClosedP P has := by
  refine ⟨fun k hk hb => ?_, fun e he hne n hn => ?_⟩
  · have ha := rule_a_in hg.1 hk
    have hnv := nodes_vars P
    have hl := hg.2.1
    have hm : (P.ruleV k (P.stAt k)).b ∈ (P.roundV has).getD (P.ruleV k (P.stAt k)).a.toNat [] := (mem_roundV hg (by omega)).2 (.inr (.inl ⟨k, hk, hb, by omega, rfl⟩))
    rwa [h] at hm
  · obtain ⟨h1, h2, h3, h4⟩ := edges0_in hg.1 hg.ok e he
    have hl := hg.2.1
    obtain ⟨i, hi⟩ := List.mem_iff_getElem?.1 (((edgesL_are hg).mem e).2 ⟨he, hne⟩)
    have hil : i < (P.edgesL has).length := by
      rcases Nat.lt_or_ge i (P.edgesL has).length with g | g
      · exact g
      · rw [List.getElem?_eq_none g] at hi; cases hi
    have hm : n ∈ (P.roundV has).getD e.2.toNat [] := (mem_roundV hg (by omega)).2 (.inr (.inr ⟨i, e, hil, hi, by omega, hn⟩))
    rwa [h] at hm
/-- A round of what lies within an answer lies within it. -/
theorem round_within {P : PP} {has ans : List (List Int)} (hg : P.GoodS has) (ga : P.GoodS ans) (hc : ClosedP P ans) (hs : Sub has ans) : Sub (P.roundV has) ans := fun i x hx => by
  by_cases hi : i < has.length
  · rcases (mem_roundV hg hi).1 hx with h | ⟨j, hj, h1, h2, h3⟩ | ⟨q, e, _, he, h2, h3⟩
    · exact hs i x h
    · have := hc.base j hj h1
      rw [h2, h3, Int.toNat_natCast] at this
      exact this
    · have h0 := ((edgesL_are hg).mem e).1 (List.mem_of_getElem? he)
      have h5 := hc.edge e (edges0_mono hs e h0.1) h0.2 x (hs _ _ h3)
      rw [h2, Int.toNat_natCast] at h5
      exact h5
  · rw [List.getD_eq_getElem?_getD, List.getElem?_eq_none (by rw [roundV_len]; omega)] at hx
    cases hx
theorem iter_within {P : PP} {ans : List (List Int)} (ga : P.GoodS ans) (hc : ClosedP P ans) : ∀ n, Sub (P.iterV n) ans
  | 0 => fun i x hx => by
    rw [List.getD_eq_getElem?_getD] at hx
    unfold PP.iterV at hx
    rw [List.getElem?_replicate] at hx
    split at hx <;> cases hx
  | n + 1 => round_within (iterV_good ga.1 n) ga hc (iter_within ga hc n)
/-- How many objects there are. -/
def total (S : List (List Int)) : Nat := (S.map List.length).sum
theorem srt_len : ∀ {a b : List Int}, Srt a → Srt b → (∀ x, x ∈ a → x ∈ b) → a.length ≤ b.length ∧ (a.length = b.length → a = b)
  | [], b, _, _, _ => ⟨Nat.zero_le _, fun h => (List.eq_nil_of_length_eq_zero h.symm).symm⟩
  | x :: a, b, ha, hb, h => by
    obtain ⟨s, t, rfl⟩ := List.append_of_mem (h x List.mem_cons_self)
    have hb' := List.pairwise_append.1 hb
    have hbt := List.pairwise_cons.1 hb'.2.1
    have ih := srt_len ha.tail hbt.2 fun e he => by
      have hlt := ha.head e he
      rcases List.mem_append.1 (h e (List.mem_cons_of_mem _ he)) with g | g
      · have := hb'.2.2 e g x List.mem_cons_self
        omega
      · rcases List.mem_cons.1 g with g | g
        · omega
        · exact g
    rw [List.length_append, List.length_cons, List.length_cons]
    refine ⟨by omega, fun hl => ?_⟩
    have hs : s = [] := List.eq_nil_of_length_eq_zero (by omega)
    subst hs
    rw [List.nil_append, ih.2 (by simp at hl; omega)]
theorem total_sub : ∀ {S T : List (List Int)}, S.length = T.length → (∀ l ∈ S, Srt l) → (∀ l ∈ T, Srt l) → (∀ i x, x ∈ S.getD i [] → x ∈ T.getD i []) → total S ≤ total T ∧ (total S = total T → S = T)
  | [], [], _, _, _, _ => ⟨Nat.le_refl _, fun _ => rfl⟩
  | [], _ :: _, h, _, _, _ => by simp at h
  | _ :: _, [], h, _, _, _ => by simp at h
  | a :: S, b :: T, h, hs, ht, hm => by
    have h1 := srt_len (hs a List.mem_cons_self) (ht b List.mem_cons_self) fun x hx => by simpa using hm 0 x (by simpa using hx)
    have h2 := total_sub (S := S) (T := T) (by simpa using h) (fun l hl => hs l (List.mem_cons_of_mem _ hl)) (fun l hl => ht l (List.mem_cons_of_mem _ hl)) fun i x hx => by simpa using hm (i + 1) x (by simpa using hx)
    have e1 : total (a :: S) = a.length + total S := by unfold total; simp
    have e2 : total (b :: T) = b.length + total T := by unfold total; simp
    rw [e1, e2]
    refine ⟨by omega, fun he => ?_⟩
    rw [h1.2 (by omega), h2.2 (by omega)]
theorem total_few : ∀ {S : List (List Int)}, (∀ l ∈ S, l.length ≤ 1000) → total S ≤ S.length * 1000
  | [], _ => Nat.le_refl _
  | a :: S, h => by
    have h1 := h a List.mem_cons_self
    have h2 := total_few (S := S) fun l hl => h l (List.mem_cons_of_mem _ hl)
    have e1 : total (a :: S) = a.length + total S := by unfold total; simp
    rw [e1, List.length_cons]
    omega
theorem good_srt {P : PP} {has : List (List Int)} (hg : P.GoodS has) : ∀ l ∈ has, Srt l := fun l hl => (chkE_zero.1 (hg.ok.ok l hl).1).2
theorem iter_grows {P : PP} (hw : P.Well) (n : Nat) (h : P.iterV (n + 1) ≠ P.iterV n) : total (P.iterV n) + 1 ≤ total (P.iterV (n + 1)) := by
  have hg := iterV_good hw n
  have hg' := iterV_good hw (n + 1)
  have h1 := total_sub (S := P.iterV n) (T := P.iterV (n + 1)) (roundV_len P _).symm (good_srt hg) (good_srt hg') (roundV_sub hg)
  rcases Nat.lt_or_ge (total (P.iterV n)) (total (P.iterV (n + 1))) with g | g
  · exact g
  · exact absurd (h1.2 (by omega)).symm h
theorem iter_few {P : PP} (hw : P.Well) (n : Nat) : total (P.iterV n) ≤ 120000 := by
  have hg := iterV_good hw n
  have h1 := total_few (S := P.iterV n) fun l hl => srt_few (hg.ok.ok l hl).1
  have h2 := hg.2.1
  have h3 := nodesV_le P hw
  omega
/-- The least answer is after n rounds. -/
structure LeastAt (P : PP) (n : Nat) (S : List (List Int)) : Prop where
  eq : S = P.iterV n
  fix : P.roundV S = S
  first : ∀ m, m < n → P.roundV (P.iterV m) ≠ P.iterV m
theorem LeastAt.uniq {P : PP} {n m : Nat} {S T : List (List Int)} (h : LeastAt P n S) (g : LeastAt P m T) : n = m ∧ S = T := by
  have hnm : n = m := by
    rcases Nat.lt_trichotomy n m with k | k | k
    · exact absurd (by rw [← h.eq]; exact h.fix) (g.first n k)
    · exact k
    · exact absurd (by rw [← g.eq]; exact g.fix) (h.first m k)
  subst hnm
  exact ⟨rfl, h.eq.trans g.eq.symm⟩
theorem LeastAt.good {P : PP} (hw : P.Well) {n : Nat} {S : List (List Int)} (h : LeastAt P n S) : P.GoodS S := by rw [h.eq]; exact iterV_good hw n
theorem LeastAt.closed {P : PP} (hw : P.Well) {n : Nat} {S : List (List Int)} (h : LeastAt P n S) : ClosedP P S := closed_of_round (h.good hw) h.fix
theorem LeastAt.within {P : PP} {n : Nat} {S ans : List (List Int)} (h : LeastAt P n S) (ga : P.GoodS ans) (hc : ClosedP P ans) : Sub S ans := by rw [h.eq]; exact iter_within ga hc n
end Go.Proofs.YtdppgcbekhabnaaGreatDoor



/- The solver, plainly: what came, what is to come; at the end it is the least answer. -/
namespace Go.Proofs.YtdppgcbekhabnaaGreatDoor
set_option linter.unusedSimpArgs false
set_option linter.unusedVariables false
open Go Go.RowKit

/-- A solver: which node has which object, edges as they came, rules, what is to come. -/
structure SV where
  has : List (List Bool)
  edges : List (Int × Int)
  rules : List RV
  wait : List (Int × Int)
def SV.bit (s : SV) (f : Int × Int) : Bool := (s.has.getD f.1.toNat []).getD f.2.toNat false
/-- A node's objects, rising. -/
def SV.objs (s : SV) (n : Int) : List Int := ((List.range (s.has.getD n.toNat []).length).filter fun o => (s.has.getD n.toNat []).getD o false).map fun o : Nat => (o : Int)
def SV.succ (s : SV) (n : Int) : List Int := (s.edges.filter fun e => decide (e.1 = n)).map (·.2)
def SV.edge (s : SV) (e : Int × Int) : SV := if e.1 = e.2 ∨ e ∈ s.edges then s else { s with edges := s.edges ++ [e], wait := s.wait ++ (s.objs e.1).map fun o => (e.2, o) }
/-- Edges of a rule when its pivot has an object. -/
def PP.fires (P : PP) (r : RV) (o : Int) : List (Int × Int) :=
  bif r.kind.toList == kCall then P.callsOf r o else
  if (P.nodesV : Int) ≤ o then [] else bif r.kind.toList == kLoad then [(o, r.b)] else [(r.a, o)]
def RV.pivot (r : RV) : Int := bif r.kind.toList == kStore then r.b else r.a
def RV.fired (r : RV) : Bool := (r.kind.toList == kLoad) || (r.kind.toList == kStore) || (r.kind.toList == kCall)
def SV.fire (P : PP) (s : SV) (r : RV) (o : Int) : SV := (P.fires r o).foldl SV.edge s
def SV.add (P : PP) (s : SV) (r : RV) : SV :=
  bif r.kind.toList == bBase.toList then { s with rules := s.rules ++ [r], wait := s.wait ++ [(r.a, r.b)] } else
  bif r.kind.toList == kCopy then SV.edge { s with rules := s.rules ++ [r] } (r.a, r.b) else
  (s.objs r.pivot).foldl (fun s o => s.fire P r o) { s with rules := s.rules ++ [r] }
def SV.mark (s : SV) (f : Int × Int) : SV := { s with has := s.has.set f.1.toNat ((s.has.getD f.1.toNat []).set f.2.toNat true) }
def SV.came (P : PP) (s : SV) (f : Int × Int) : SV :=
  s.rules.foldl (fun s r => bif r.fired && decide (r.pivot = f.1) then s.fire P r f.2 else s) { s with wait := s.wait ++ (s.succ f.1).map fun t => (t, f.2) }
def SV.clean (s : SV) : SV := { s with wait := s.wait.dropWhile s.bit }

/-- What holds of a solver's edges, and of what came. -/
structure Core (P : PP) (S : List (List Int)) (s : SV) : Prop where
  len : s.has.length = P.nodesV
  row : ∀ l ∈ s.has, l.length = P.objectsV
  wait : ∀ f ∈ s.wait, (0 ≤ f.1 ∧ f.1 < P.nodesV) ∧ f.2 ∈ S.getD f.1.toNat []
  bit : ∀ f : Int × Int, s.bit f = true → 0 ≤ f.2 → f.2 ∈ S.getD f.1.toNat []
  edge : ∀ e ∈ s.edges, (0 ≤ e.1 ∧ e.1 < P.nodesV) ∧ (0 ≤ e.2 ∧ e.2 < P.nodesV) ∧ ∀ o ∈ S.getD e.1.toNat [], o ∈ S.getD e.2.toNat []
  along : ∀ e ∈ s.edges, ∀ o, 0 ≤ o → s.bit (e.1, o) = true → s.bit (e.2, o) = true ∨ (e.2, o) ∈ s.wait
  base : ∀ r ∈ s.rules, r.kind.toList = bBase.toList → s.bit (r.a, r.b) = true ∨ (r.a, r.b) ∈ s.wait
  copy : ∀ r ∈ s.rules, r.kind.toList = kCopy → r.a = r.b ∨ (r.a, r.b) ∈ s.edges
/-- A rule has told all its edges by an object. -/
def SV.told (P : PP) (s : SV) (r : RV) (o : Int) : Prop := ∀ e ∈ P.fires r o, e.1 = e.2 ∨ e ∈ s.edges
/-- An edge that is sound of an answer. -/
def SndE (P : PP) (S : List (List Int)) (e : Int × Int) : Prop := (0 ≤ e.1 ∧ e.1 < P.nodesV) ∧ (0 ≤ e.2 ∧ e.2 < P.nodesV) ∧ ∀ o ∈ S.getD e.1.toNat [], o ∈ S.getD e.2.toNat []
theorem mem_objs {s : SV} {n o : Int} : o ∈ s.objs n ↔ 0 ≤ o ∧ s.bit (n, o) = true := by
  unfold SV.objs SV.bit
  rw [List.mem_map]
  constructor
  · rintro ⟨k, hk, rfl⟩
    obtain ⟨h1, h2⟩ := List.mem_filter.1 hk
    exact ⟨by omega, by simpa using h2⟩
  · rintro ⟨h0, h⟩
    obtain ⟨k, rfl⟩ := Int.eq_ofNat_of_zero_le h0
    refine ⟨k, List.mem_filter.2 ⟨List.mem_range.2 ?_, by simpa using h⟩, rfl⟩
    rcases Nat.lt_or_ge k (s.has.getD n.toNat []).length with g | g
    · exact g
    · have : (s.has.getD n.toNat []).getD k false = false := by rw [List.getD_eq_getElem?_getD, List.getElem?_eq_none g]; rfl
      simp only [Int.toNat_natCast] at h
      rw [this] at h; cases h
theorem edge_has (s : SV) (e : Int × Int) : (s.edge e).has = s.has := by unfold SV.edge; split <;> rfl
theorem edge_rules (s : SV) (e : Int × Int) : (s.edge e).rules = s.rules := by unfold SV.edge; split <;> rfl
theorem edge_bit (s : SV) (e f : Int × Int) : (s.edge e).bit f = s.bit f := by unfold SV.bit; rw [edge_has]
theorem edge_more {s : SV} {e g : Int × Int} (h : g ∈ s.edges) : g ∈ (s.edge e).edges := by
  unfold SV.edge
  split
  · exact h
  · exact List.mem_append_left _ h
theorem edge_in (s : SV) (e : Int × Int) : e.1 = e.2 ∨ e ∈ (s.edge e).edges := by
  unfold SV.edge
  split
  · assumption
  · exact .inr (List.mem_append_right _ (List.mem_singleton.2 rfl))
theorem Core.edgeTo {P : PP} {S : List (List Int)} {s : SV} (h : Core P S s) {e : Int × Int} (he : SndE P S e) : Core P S (s.edge e) := by
  unfold SV.edge
  by_cases hc : e.1 = e.2 ∨ e ∈ s.edges
  · rw [if_pos hc]; exact h
  · rw [if_neg hc]
    refine ⟨h.len, h.row, fun f hf => ?_, h.bit, fun g hg => ?_, fun g hg o h0 hb => ?_, fun r hr hk => ?_, fun r hr hk => ?_⟩
    · rcases List.mem_append.1 hf with hf | hf
      · exact h.wait f hf
      · obtain ⟨o, ho, rfl⟩ := List.mem_map.1 hf
        obtain ⟨h0, hb⟩ := mem_objs.1 ho
        exact ⟨he.2.1, he.2.2 o (h.bit (e.1, o) hb h0)⟩
    · rcases List.mem_append.1 hg with hg | hg
      · exact h.edge g hg
      · obtain rfl := List.mem_singleton.1 hg
        exact he
    · have hb : s.bit (g.1, o) = true := hb
      show s.bit (g.2, o) = true ∨ (g.2, o) ∈ s.wait ++ _
      rcases List.mem_append.1 hg with hg | hg
      · exact (h.along g hg o h0 hb).imp id fun k => List.mem_append_left _ k
      · obtain rfl := List.mem_singleton.1 hg
        exact .inr (List.mem_append_right _ (List.mem_map.2 ⟨o, mem_objs.2 ⟨h0, hb⟩, rfl⟩))
    · exact (h.base r hr hk).imp id fun k => List.mem_append_left _ k
    · exact (h.copy r hr hk).imp id fun k => List.mem_append_left _ k
theorem edges_fold {P : PP} {S : List (List Int)} : ∀ (l : List (Int × Int)) {s : SV}, Core P S s → (∀ e ∈ l, SndE P S e) →
    Core P S (l.foldl SV.edge s) ∧ (l.foldl SV.edge s).has = s.has ∧ (l.foldl SV.edge s).rules = s.rules ∧ (∀ g ∈ s.edges, g ∈ (l.foldl SV.edge s).edges) ∧ ∀ e ∈ l, e.1 = e.2 ∨ e ∈ (l.foldl SV.edge s).edges
  | [], s, h, _ => ⟨h, rfl, rfl, fun _ hg => hg, fun _ he => by cases he⟩
  | e :: l, s, h, hs => by
    obtain ⟨k1, k2, k3, k4, k5⟩ := edges_fold l (h.edgeTo (hs e List.mem_cons_self)) fun g hg => hs g (List.mem_cons_of_mem _ hg)
    refine ⟨k1, k2.trans (edge_has s e), k3.trans (edge_rules s e), fun g hg => k4 g (edge_more hg), fun g hg => ?_⟩
    rcases List.mem_cons.1 hg with rfl | hg
    · exact (edge_in s g).imp id fun k => k4 _ k
    · exact k5 g hg
/-- Edges of a rule by an object of its pivot are edges of the rule. -/
theorem fires_in {P : PP} {S : List (List Int)} {r : RV} {o : Int} (hf : r.fired = true) (ho : o ∈ S.getD r.pivot.toNat []) {e : Int × Int} (he : e ∈ P.fires r o) : e ∈ P.redges r S := by
  unfold PP.fires at he
  unfold RV.pivot at ho
  unfold RV.fired at hf
  unfold PP.redges
  cases h3 : (r.kind.toList == kCall) with
  | true =>
    have e1 := eq_of_beq h3
    have h0 : (r.kind.toList == kCopy) = false := by rw [e1]; decide
    have h1 : (r.kind.toList == kLoad) = false := by rw [e1]; decide
    have h2 : (r.kind.toList == kStore) = false := by rw [e1]; decide
    rw [h3, cond_true] at he
    rw [h2, cond_false] at ho
    rw [h0, h1, h2, cond_false, cond_false, cond_false, cond_true]
    exact List.mem_flatMap.2 ⟨o, ho, he⟩
  | false =>
    rw [h3, cond_false] at he
    have hn : o < P.nodesV := by
      by_cases g : (P.nodesV : Int) ≤ o
      · rw [if_pos g] at he; cases he
      · omega
    rw [if_neg (by omega)] at he
    have hno : o ∈ S.getD r.pivot.toNat [] := ho
    cases h1 : (r.kind.toList == kLoad) with
    | true =>
      have e1 := eq_of_beq h1
      have h0 : (r.kind.toList == kCopy) = false := by rw [e1]; decide
      have h2 : (r.kind.toList == kStore) = false := by rw [e1]; decide
      rw [h1, cond_true] at he
      rw [h2, cond_false] at ho
      rw [h0, cond_false, cond_true]
      refine List.mem_map.2 ⟨o, List.mem_filter.2 ⟨ho, by rw [decide_eq_false (by omega)]; rfl⟩, (List.mem_singleton.1 he).symm⟩
    | false =>
      rw [h1, h3] at hf
      cases h2 : (r.kind.toList == kStore) with
      | false => rw [h2] at hf; cases hf
      | true =>
        have e1 := eq_of_beq h2
        have h0 : (r.kind.toList == kCopy) = false := by rw [e1]; decide
        rw [h1, cond_false] at he
        rw [h2, cond_true] at ho
        rw [h0, cond_false, cond_false, cond_true]
        exact List.mem_map.2 ⟨o, List.mem_filter.2 ⟨ho, by rw [decide_eq_false (by omega)]; rfl⟩, (List.mem_singleton.1 he).symm⟩
theorem sndE_of {P : PP} {S : List (List Int)} (hg : P.GoodS S) (hc : ClosedP P S) {r : RV} (hr : r ∈ P.rulesV) {e : Int × Int} (he : e ∈ P.redges r S) : SndE P S e := by
  have h0 : e ∈ P.edges0 S := List.mem_flatMap.2 ⟨r, hr, he⟩
  obtain ⟨h1, h2, h3, h4⟩ := edges0_in hg.1 hg.ok e h0
  have hl := hg.2.1
  refine ⟨⟨by omega, by omega⟩, ⟨by omega, by omega⟩, ?_⟩
  by_cases k : e.1 = e.2
  · rw [k]; exact fun _ h => h
  · exact hc.edge e h0 k
end Go.Proofs.YtdppgcbekhabnaaGreatDoor

