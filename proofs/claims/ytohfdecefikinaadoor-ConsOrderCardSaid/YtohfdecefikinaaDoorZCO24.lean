/- Texts of one proof, put together: Y2 SL S2. -/
import Derived.Test.YtohfdecefikinaaDoorZCO22
import Derived.Test.YtohfdecefikinaaDoorZCO23
import Derived.Test.YtohfdecefikinaaDoorProg

/- Rules: objects and functions of a program, in numbers. -/
namespace Go.Proofs.YtohfdecefikinaaDoor
set_option linter.unusedSimpArgs false
set_option linter.unusedVariables false
open Go Go.RowKit

/-- A program that is well, in memory, where the errors lie. -/
structure PW (w : World) (n0 : Nat) (ad : Nat → Addr) (a1 a2 a3 : Option Addr) (c1 c2 c3 : Nat) (P : PP) : Prop where
  errs : ErrsP w ad
  prog : ProgR w n0 (.slice a1 P.vars.length c1) (.slice a2 P.funs.length c2) (.slice a3 P.stmts.length c3) P
  z1 : ∀ s ∈ P.vars, s.size ≤ 1000000
  z2 : ∀ s ∈ P.names, s.size ≤ 1000000
  well : P.Well
theorem PW.ext {w w' : World} {n0 : Nat} {ad : Nat → Addr} {a1 a2 a3 : Option Addr} {c1 c2 c3 : Nat} {P : PP} (h : PW w n0 ad a1 a2 a3 c1 c2 c3 P) (x : Ext w w') : PW w' n0 ad a1 a2 a3 c1 c2 c3 P := ⟨h.errs.ext x, h.prog.ext x, h.z1, h.z2, h.well⟩
theorem PW.lift {w : World} {n0 n1 : Nat} {ad : Nat → Addr} {a1 a2 a3 : Option Addr} {c1 c2 c3 : Nat} {P : PP} (h : PW w n0 ad a1 a2 a3 c1 c2 c3 P) (hn : n0 ≤ n1) : PW w n1 ad a1 a2 a3 c1 c2 c3 P := ⟨h.errs, h.prog.lift hn, h.z1, h.z2, h.well⟩

def PP.objectsV (P : PP) : Nat := P.nodesV + P.funs.length
def PP.funV (P : PP) (o : Int) : Int := if 0 ≤ o - P.nodesV ∧ o - P.nodesV < P.funs.length then o - P.nodesV else -1
theorem PP.nodesV_le2 (P : PP) : P.nodesV ≤ P.vars.length + P.stmts.length := by
  unfold PP.nodesV
  have := P.newsN_le P.stmts.length
  omega
set_option maxRecDepth 100000 in
set_option maxHeartbeats 1600000 in
theorem progobjects_any (a1 a2 a3 : Option Addr) (c1 c2 c3 : Nat) (P : PP) (w : World) (n0 : Nat) (ad : Nat → Addr) (h : PW w n0 ad a1 a2 a3 c1 c2 c3 P) :
    Calls Tryd.prog 29 #[pval a1 a2 a3 c1 c2 c3 P] w fun e w' => e = .returned (.int .i64 (P.objectsV : Int)) ∧ Ext w w' := by
  have HM := fun w1 (x : Ext w w1) => hid (prognodes2_any a1 a2 a3 c1 c2 c3 P w1 n0 (h.prog.ext x) (by have := h.well.few; omega) (by have := h.well.few; omega))
  obtain ⟨W, hW⟩ : ∃ W, W = w.alloc (.cells (pcells a1 a2 a3 c1 c2 c3 P) 26) := ⟨_, rfl⟩
  have HX : Hid (Ext w W) := hid (by rw [hW]; exact (Ext.refl _).alloc _)
  have HBx : Hid (Blk W w.heap.size (pcells a1 a2 a3 c1 c2 c3 P) 26) := hid (by rw [hW]; exact Blk.new _ _ _)
  have HWe : Hid (W = w.alloc (.cells #[.slice a1 P.vars.length c1, .slice a2 P.funs.length c2, .slice a3 P.stmts.length c3] 26)) := hid (by rw [hW]; rfl)
  have HPW := hid h
  have HK := fun w1 (x : Ext w w1) => hid (check_well (h.errs.ext x) (h.prog.ext x) h.z1 h.z2 h.well)
  have HN := fun w1 (x : Ext w w1) => hid (prognodes_any a1 a2 a3 c1 c2 c3 P w1 n0 ad (h.errs.ext x) (h.prog.ext x) h.z1 h.z2 h.well)
  obtain ⟨hf1, hf2, hf3⟩ := h.well.few
  have hnl := P.nodesV_le2
  have d0 := HBx.out.av 0 rfl
  have d1 := HBx.out.av 1 rfl
  have d2 := HBx.out.av 2 rfl
  simp only [pcells, List.getElem_toArray, List.getElem_cons_zero, List.getElem_cons_succ] at d0 d1 d2
  unfold pval at HK HN ⊢
  clear hW h
  unfold pval at HM
  have Ho : Hid ((P.objectsV : Int) = (P.nodesV : Int) + (P.funs.length : Int)) := hid (by unfold PP.objectsV; omega)
  go_enter Tryd.func29, Tryd.ntmps29
  go_wp2_with fail
  rw [← HWe.out]
  have HK1 := HK W HX.out
  refine HK1.out.mono ?_
  intro e w1 hx
  obtain ⟨rfl, hx1⟩ := hx
  have e0 := (HBx.out.ext hx1).kc (X := fun _ => False) (fun e => e) 0 rfl
  have e1 := (HBx.out.ext hx1).kc (X := fun _ => False) (fun e => e) 1 rfl
  have e2 := (HBx.out.ext hx1).kc (X := fun _ => False) (fun e => e) 2 rfl
  simp only [pcells, List.getElem_toArray, List.getElem_cons_zero, List.getElem_cons_succ] at e0 e1 e2
  have Hx1 := hid (HX.out.trans hx1)
  clear HK HK1 HN hx1 d0 d1 d2
  generalize P.nodesV = N at *
  go_wp2
  refine wp_flowT (fun _ => False) (by kernel_rfl) (by kernel_rfl) ?_
  repeat (apply FlowT.d; (intro w1 hk; unfold does; go_simp; (try go_ints); (first | exact DetR.mk | (simp only [↓IntWalk.iteOmega, Oper.doesUpon_value]; exact DetR.mk) | (simp only [↓IntWalk.iteOmega]; go_simp; (try go_ints); exact DetR.mk))); simp only [Act.put, List.setIfInBounds_toArray, List.set_cons_zero, List.set_cons_succ])
  apply FlowT.d
  · intro w1 hk
    unfold does
    go_simp
    exact CallR.det ((HM w1 (Hx1.out.trans hk.ext)).out)
  simp only [Act.put, List.setIfInBounds_toArray, List.set_cons_zero, List.set_cons_succ]
  repeat (apply FlowT.d; (intro w1 hk; unfold does; go_simp; (try go_ints); (first | exact DetR.mk | (simp only [↓IntWalk.iteOmega, Oper.doesUpon_value]; exact DetR.mk) | (simp only [↓IntWalk.iteOmega]; go_simp; (try go_ints); exact DetR.mk))); simp only [Act.put, List.setIfInBounds_toArray, List.set_cons_zero, List.set_cons_succ])
  refine FlowT.fin fun w2 hx2 hk2 => ?_
  have Hx2 := hid (Hx1.out.trans hx2)
  clear hx2 hk2 e0 e1 e2 HM
  go_wp2
  go_ret
  exact ⟨by rw [Ho.out]; rfl, Hx2.out⟩
set_option maxRecDepth 100000 in
set_option maxHeartbeats 1600000 in
theorem progfun_any (a1 a2 a3 : Option Addr) (c1 c2 c3 : Nat) (P : PP) (o : Int) (w : World) (n0 : Nat) (ad : Nat → Addr) (h : PW w n0 ad a1 a2 a3 c1 c2 c3 P) (ho : 0 ≤ o ∧ o < 1000) :
    Calls Tryd.prog 32 #[pval a1 a2 a3 c1 c2 c3 P, .int .i64 o] w fun e w' => e = .returned (.int .i64 (P.funV o)) ∧ Ext w w' := by
  obtain ⟨W, hW⟩ : ∃ W, W = w.alloc (.cells (pcells a1 a2 a3 c1 c2 c3 P) 26) := ⟨_, rfl⟩
  have HX : Hid (Ext w W) := hid (by rw [hW]; exact (Ext.refl _).alloc _)
  have HBx : Hid (Blk W w.heap.size (pcells a1 a2 a3 c1 c2 c3 P) 26) := hid (by rw [hW]; exact Blk.new _ _ _)
  have HWe : Hid (W = w.alloc (.cells #[.slice a1 P.vars.length c1, .slice a2 P.funs.length c2, .slice a3 P.stmts.length c3] 26)) := hid (by rw [hW]; rfl)
  have HPW := hid h
  have HK := fun w1 (x : Ext w w1) => hid (check_well (h.errs.ext x) (h.prog.ext x) h.z1 h.z2 h.well)
  have HN := fun w1 (x : Ext w w1) => hid (prognodes_any a1 a2 a3 c1 c2 c3 P w1 n0 ad (h.errs.ext x) (h.prog.ext x) h.z1 h.z2 h.well)
  obtain ⟨hf1, hf2, hf3⟩ := h.well.few
  have hnl := P.nodesV_le2
  have d0 := HBx.out.av 0 rfl
  have d1 := HBx.out.av 1 rfl
  have d2 := HBx.out.av 2 rfl
  simp only [pcells, List.getElem_toArray, List.getElem_cons_zero, List.getElem_cons_succ] at d0 d1 d2
  unfold pval at HK HN ⊢
  clear hW h
  obtain ⟨ho1, ho2⟩ := ho
  obtain ⟨N, hN⟩ : ∃ N, N = P.nodesV := ⟨_, rfl⟩
  have Hf : Hid (P.funV o = if 0 ≤ o - (N : Int) ∧ o - (N : Int) < P.funs.length then o - (N : Int) else -1) := hid (by unfold PP.funV; rw [hN])
  rw [← hN] at hnl HN
  clear hN
  go_enter Tryd.func32, Tryd.ntmps32
  go_wp2_with fail
  rw [← HWe.out]
  have HN1 := HN W HX.out
  refine HN1.out.mono ?_
  intro e w1 hx
  obtain ⟨rfl, hx1⟩ := hx
  have Hx1 := hid hx1
  clear d0 d1 d2
  have d0 := (HBx.out.ext Hx1.out).av 0 rfl
  have d1 := (HBx.out.ext Hx1.out).av 1 rfl
  have d2 := (HBx.out.ext Hx1.out).av 2 rfl
  simp only [pcells, List.getElem_toArray, List.getElem_cons_zero, List.getElem_cons_succ] at d0 d1 d2
  have HK1 := HK w1 (HX.out.trans hx1)
  clear HN HN1 HK hx1
  go_wp2_with fail
  refine HK1.out.mono ?_
  intro e w2 hx
  obtain ⟨rfl, hx2⟩ := hx
  have Hx2 := hid (Hx1.out.trans hx2)
  clear d0 d1 d2 HK1 hx2
  have d0 := (HBx.out.ext Hx2.out).av 0 rfl
  have d1 := (HBx.out.ext Hx2.out).av 1 rfl
  have d2 := (HBx.out.ext Hx2.out).av 2 rfl
  simp only [pcells, List.getElem_toArray, List.getElem_cons_zero, List.getElem_cons_succ] at d0 d1 d2
  by_cases hlo : o - (N : Int) < 0
  · have Hr : Hid (P.funV o = -1) := hid (by rw [Hf.out, if_neg (by omega)])
    go_wp2
    go_ret
    exact ⟨by rw [Hr.out]; rfl, HX.out.trans Hx2.out⟩
  · by_cases hhi : (P.funs.length : Int) ≤ o - (N : Int)
    · have Hr : Hid (P.funV o = -1) := hid (by rw [Hf.out, if_neg (by omega)])
      go_wp2
      go_ret
      exact ⟨by rw [Hr.out]; rfl, HX.out.trans Hx2.out⟩
    · have Hr : Hid (P.funV o = o - (N : Int)) := hid (by rw [Hf.out, if_pos (by omega)])
      go_wp2
      go_ret
      exact ⟨by rw [Hr.out]; rfl, HX.out.trans Hx2.out⟩
end Go.Proofs.YtohfdecefikinaaDoor


/- Contracts of Go's library, laid at the numbers of this seat: none is needed here (shelf.py writes this text anew for a seat). -/
namespace Go.Proofs
end Go.Proofs


/- Sets: numbers sorted and compacted; the set of any numbers. -/
namespace Go.Proofs.YtohfdecefikinaaDoor
set_option linter.unusedSimpArgs false
set_option linter.unusedVariables false
open Go Go.RowKit

set_option maxRecDepth 100000 in
set_option maxHeartbeats 800000 in
theorem clone_big (v : Value) (l : List Int) (w : World) (n0 : Nat) (h : IntsR w n0 v l) (hl : l.length ≤ 100000) :
    Calls Tryd.prog 45 #[v] w fun e w' => ∃ v', e = .returned v' ∧ Ext w w' ∧ IRow w.heap.size w' v' l := by
  obtain ⟨a, cap, rfl, h2, h3, h4, h5⟩ := id h
  have hl2 : 0 + l.length ≤ 1000000 := by omega
  cases a with
  | none =>
    have h0 : l.length = 0 := by
      rcases Nat.eq_zero_or_pos l.length with e | e
      · exact e
      · obtain ⟨x, hx⟩ := h4 e; cases hx
    obtain rfl : l = [] := List.eq_nil_of_length_eq_zero h0
    have he := Lib.run_eql_slice_nil (P := Tryd.prog) w 32 3 none 0 cap 0 0 Tryd.underlying32
    clear h h2 h3 h4 h5 h0
    go_enter Tryd.func45, Tryd.ntmps45
    go_wp2
    go_ret
    exact ⟨_, rfl, Ext.refl _, IRow.nil _ _⟩
  | some x =>
    have Hs := hid h.src
    have hnil : IRow w.heap.size (w.alloc (.cells #[] 3)) (.slice (some ⟨w.heap.size, 0, none⟩) 0 0) [] := World.ownsRow_made w #[] 0 (Nat.le_refl _) (by unfold maxLen; omega) rfl
    have Hnil := hid hnil
    have hb : w.heap.size ≤ (w.alloc (.cells #[] 3)).heap.size := by simp
    have hx1 : Hid (Ext w (w.alloc (.cells #[] 3))) := hid ((Ext.refl _).alloc _)
    have hs1 : Hid (Src (w.alloc (.cells #[] 3)) (some x) l.length 1 (icells l)) := hid (h.old ((hx1.out).old n0)).src
    have he := Lib.run_eql_slice_nil (P := Tryd.prog) w 32 3 (some x) l.length cap 0 0 Tryd.underlying32
    clear h h2 h3 h4 h5 hnil
    go_enter Tryd.func45, Tryd.ntmps45
    go_wp2_with (at_builtin; refine wpList_append_src w.heap.size hb 32 3 (.int .i64 0) 1 8 Tryd.underlying32 ints_info rfl (by omega) (by omega) rfl _ _ rfl (.slice (some ⟨w.heap.size, 0, none⟩) 0 0) 0 [] rfl Hnil.out (some x) l.length cap (icells l) rfl hs1.out hl2 ?_; intro v' w' h1 h2 h4; have h3 := Keep.new hx1.out h2 (fun k hk => by simp [Value.ownBlock] at hk; omega))
    go_ret
    exact ⟨_, rfl, h3, by unfold IRow; simpa using h1⟩

theorem Keep.fresh {w w1 w2 : World} {base : Nat} {v : Value} {l : List Int} (hx : Ext w w1) (h : IRow base w1 v l) (hb : w.heap.size ≤ base) (k : Keep (fun b => v.ownBlock = some b) w1 w2) : Ext w w2 :=
  Keep.new hx k fun b hb' => Nat.le_trans hb (h.lt hb').1

/-- What the set of any numbers answers. -/
def OfR (ad : Nat → Addr) (l : List Int) (n0 : Nat) (w : World) (t : Value) : Prop :=
  (InR l ∧ ∃ v, t = .tuple #[v, .nilIface] ∧ IRow n0 w v (sset l)) ∨ (¬ InR l ∧ t = .tuple #[.slice none 0 0, evOf ad 2])
theorem ofBad {l : List Int} {x : Int} (hx : x ∈ l) (h : x < 0 ∨ 1000 ≤ x) : ¬ InR l := fun g => by
  have := g x hx
  omega
end Go.Proofs.YtohfdecefikinaaDoor
