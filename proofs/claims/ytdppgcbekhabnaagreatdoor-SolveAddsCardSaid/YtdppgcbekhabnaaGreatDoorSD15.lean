/- Texts of one proof, put together: YB YN YM YG YC YD YE YF. -/
import Derived.Test.YtdppgcbekhabnaaGreatDoorSD12
import Derived.Test.YtdppgcbekhabnaaGreatDoorSD14
import Derived.Sort.Grow
import Derived.Deep.Draws
import Derived.Laws.StructEq

/- Are sets well, one for each node? (cons.Sets) -/
namespace Go.Proofs.YtdppgcbekhabnaaGreatDoor
set_option linter.unusedSimpArgs false
set_option linter.unusedVariables false
open Go Go.RowKit

/-- What a node's set is wrong in (0: it is well). -/
def PP.setE (P : PP) (l : List Int) : Nat := if chkE l = 0 then (if 0 < l.length ∧ (P.objectsV : Int) ≤ l.getD (l.length - 1) 0 then 2 else 0) else chkE l
/-- What cons.Sets tells. -/
def SetsIs (ad : Nat → Addr) (P : PP) (has : List (List Int)) (w : World) (v : Value) : Prop :=
  (has.length ≠ P.nodesV ∧ v = evOf ad 3) ∨ (has.length = P.nodesV ∧ (∀ l ∈ has, P.setE l = 0) ∧ v = .nilIface) ∨
  (has.length = P.nodesV ∧ ∃ (i : Nat) (l : List Int) (b : Nat), has[i]? = some l ∧ P.setE l ≠ 0 ∧ (∀ j m, j < i → has[j]? = some m → P.setE m = 0) ∧ v = .iface 118 (.pointer (some ⟨b, 0, none⟩)) ∧ Blk w b #[.int .i64 (i : Int), evOf ad (P.setE l)] 120)
theorem setE_zero {P : PP} {l : List Int} (h : P.setE l = 0) : chkE l = 0 ∧ ∀ x ∈ l, x < P.objectsV := by
  unfold PP.setE at h
  by_cases h0 : chkE l = 0
  · rw [if_pos h0] at h
    refine ⟨h0, fun x hx => ?_⟩
    obtain ⟨i, hi, rfl⟩ := List.getElem_of_mem hx
    have hl : 0 < l.length := by omega
    by_cases hb : 0 < l.length ∧ (P.objectsV : Int) ≤ l.getD (l.length - 1) 0
    · rw [if_pos hb] at h; cases h
    · have hlast : l.getD (l.length - 1) 0 < (P.objectsV : Int) := by omega
      rw [List.getD_eq_getElem?_getD, List.getElem?_eq_getElem (by omega)] at hlast
      have hs := (chkE_zero.1 h0).2
      rcases Nat.lt_or_ge i (l.length - 1) with g | g
      · have := List.pairwise_iff_getElem.1 hs i (l.length - 1) hi (by omega) g
        have h2 : (some (l[l.length - 1]'(by omega))).getD 0 = l[l.length - 1]'(by omega) := rfl
        rw [h2] at hlast
        omega
      · have e : i = l.length - 1 := by omega
        subst e
        exact hlast
  · rw [if_neg h0] at h; exact absurd h h0
theorem SetsOk.of {P : PP} {has : List (List Int)} (h1 : has.length = P.nodesV) (h2 : ∀ l ∈ has, P.setE l = 0) : SetsOk P has := ⟨h1, fun l hl => setE_zero (h2 l hl)⟩

set_option maxRecDepth 100000 in
set_option maxHeartbeats 3200000 in
theorem conssets_any (a1 a2 a3 : Option Addr) (c1 c2 c3 : Nat) (P : PP) (hv : Value) (has : List (List Int)) (w : World) (n0 : Nat) (ad : Nat → Addr) (h : PW w n0 ad a1 a2 a3 c1 c2 c3 P) (hS : ErrS w ad) (hh : SetsR w n0 hv has) :
    Calls Tryz.prog 112 #[pval a1 a2 a3 c1 c2 c3 P, hv] w fun e w' => ∃ v, e = .returned v ∧ SetsIs ad P has w' v ∧ Ext w w' := by
  obtain ⟨ah, ch, rfl⟩ := hh.form
  have hhl := hh.len
  have HO := fun w1 (x : Ext w w1) => hid (progobjects_any a1 a2 a3 c1 c2 c3 P w1 n0 ad (h.ext x))
  have g3 := h.errs.at3
  have HH := hid hh
  have HS := hid hS
  obtain ⟨W, hW⟩ : ∃ W, W = w.alloc (.cells (pcells a1 a2 a3 c1 c2 c3 P) 26) := ⟨_, rfl⟩
  have HX : Hid (Ext w W) := hid (by rw [hW]; exact (Ext.refl _).alloc _)
  have HBx : Hid (Blk W w.heap.size (pcells a1 a2 a3 c1 c2 c3 P) 26) := hid (by rw [hW]; exact Blk.new _ _ _)
  have HWe : Hid (W = w.alloc (.cells #[.slice a1 P.vars.length c1, .slice a2 P.funs.length c2, .slice a3 P.stmts.length c3] 26)) := hid (by rw [hW]; rfl)
  have HPW := hid h
  have HK := fun w1 (x : Ext w w1) => hid (check_well (h.errs.ext x) (h.prog.ext x) h.z1 h.z2 h.well)
  have HN := fun w1 (x : Ext w w1) => hid (prognodes_any a1 a2 a3 c1 c2 c3 P w1 n0 ad (h.errs.ext x) (h.prog.ext x) h.z1 h.z2 h.well)
  obtain ⟨hf1, hf2, hf3⟩ := h.well.few
  have hnl := P.nodesV_le2
  have d0 := HBx.out.av 0 rfl
  have d1 := HBx.out.av 1 rfl
  have d2 := HBx.out.av 2 rfl
  simp only [pcells, List.getElem_toArray, List.getElem_cons_zero, List.getElem_cons_succ] at d0 d1 d2
  unfold pval at HK HN ⊢
  clear hW h
  have G3 := hid g3
  unfold pval at HO
  obtain ⟨N, hN⟩ : ∃ N, N = P.nodesV := ⟨_, rfl⟩
  obtain ⟨M, hM⟩ : ∃ M, M = P.objectsV := ⟨_, rfl⟩
  have hMl : M ≤ 1000 := by rw [hM]; unfold PP.objectsV; omega
  have HNe := hid hN
  have HMe := hid hM
  rw [← hN] at hnl HN
  rw [← hM] at HO
  clear hN hM g3 hh hS HK
  go_enter Tryz.func112, Tryz.ntmps112
  go_wp2_with fail
  rw [← HWe.out]
  have HN1 := HN W HX.out
  refine HN1.out.mono ?_
  intro e w1 hx
  obtain ⟨rfl, hx1⟩ := hx
  have Hx1 := hid (HX.out.trans hx1)
  have HBx1 := hid (HBx.out.ext hx1)
  clear HN HN1 hx1 d0 d1 d2
  by_cases hlen : has.length = N
  · have Hlen : Hid (has.length = P.nodesV) := hid (by rw [← HNe.out]; exact hlen)
    have e0 : ((has.length : Int) != (N : Int)) = false := by rw [hlen]; simp
    clear hlen
    have d0 := HBx1.out.av 0 rfl
    have d1 := HBx1.out.av 1 rfl
    have d2 := HBx1.out.av 2 rfl
    simp only [pcells, List.getElem_toArray, List.getElem_cons_zero, List.getElem_cons_succ] at d0 d1 d2
    have HO1 := HO w1 Hx1.out
    go_wp2_with fail
    refine HO1.out.mono ?_
    intro e w2 hx
    obtain ⟨rfl, hx2⟩ := hx
    have Hx2 := hid (Hx1.out.trans hx2)
    clear HO HO1 hx2 d0 d1 d2 e0
    go_wp2
    go_loopw [19] (fun t19 wr => ∃ k : Nat, t19 = .int .i64 (k : Int) ∧ k ≤ has.length ∧ (∀ j m, j < k → has[j]? = some m → P.setE m = 0) ∧ Ext w wr) (fun t19 _ => has.length - (intOf t19).toNat)
    case atStart => exact ⟨0, rfl, Nat.zero_le _, fun j m h => by omega, Hx2.out⟩
    case round =>
      obtain ⟨k, rfl, hk, hp, hx⟩ := hrel
      have Hp := hid hp
      have Hx := hid hx
      clear hp hx
      by_cases hlt : k < has.length
      · obtain ⟨y, l, bl, cl, rfl, hl, hc, hI⟩ := (HH.out.old (Hx.out.old n0)).at hlt
        have HCk := hid (setcheck_any (.slice bl l.length cl) l wr n0 ad (HS.out.ext Hx.out) hI)
        have Hl := hid hl
        have HI := hid hI
        have hll := hI.len
        clear Hx2 hl hI
        by_cases h0 : chkE l = 0
        · rw [errv_no h0] at HCk
          have H0 := hid h0
          clear h0
          go_wp2_with fail
          refine HCk.out.mono ?_
          intro e w3 hx
          obtain ⟨rfl, hx3⟩ := hx
          have Hx2 := hid (Hx.out.trans hx3)
          have Hx3 := hid hx3
          clear HCk hx3 hc
          by_cases hl0 : 0 < l.length
          · obtain ⟨yl, q, hyl, hqm, hcq⟩ := (HI.out.old (Hx3.out.old n0)).at (show l.length - 1 < l.length by omega)
            subst hyl
            have Hq : Hid (l.getD (l.length - 1) 0 = q) := hid (by rw [List.getD_eq_getElem?_getD, hqm]; rfl)
            have G2 := HS.out.ext Hx2.out
            have g2 := G2.at2
            unfold evOf at g2
            clear hqm G2
            by_cases hqM : (M : Int) ≤ q
            · have HE : Hid (P.setE l = 2) := hid (by unfold PP.setE; rw [if_pos H0.out, if_pos ⟨hl0, by rw [Hq.out, ← HMe.out]; exact hqM⟩])
              have hbad : P.setE l ≠ 0 := by rw [HE.out]; exact (by decide)
              go_wp2
              go_ret
              refine ⟨_, rfl, .inr (.inr ⟨Hlen.out, k, l, _, Hl.out, hbad, Hp.out, rfl, ?_⟩), Hx2.out.alloc _⟩
              rw [HE.out]
              exact Blk.new _ _ _
            · have HE : Hid (P.setE l = 0) := hid (by unfold PP.setE; rw [if_pos H0.out, if_neg (fun h => hqM (by have := h.2; rw [Hq.out, ← HMe.out] at this; exact this))])
              clear g2
              go_wp2
              go_roundw
              case rel =>
                refine ⟨k + 1, by go_num, by omega, fun j m hj hm => ?_, Hx2.out⟩
                by_cases hjk : j = k
                · subst hjk
                  obtain rfl := Option.some.inj (Hl.out.symm.trans hm)
                  exact HE.out
                · exact Hp.out j m (by omega) hm
              case measure => simp [intOf]; omega
          · have HE : Hid (P.setE l = 0) := hid (by unfold PP.setE; rw [if_pos H0.out, if_neg (by omega)])
            go_wp2
            go_roundw
            case rel =>
              refine ⟨k + 1, by go_num, by omega, fun j m hj hm => ?_, Hx2.out⟩
              by_cases hjk : j = k
              · subst hjk
                obtain rfl := Option.some.inj (Hl.out.symm.trans hm)
                exact HE.out
              · exact Hp.out j m (by omega) hm
            case measure => simp [intOf]; omega
        · have HE : Hid (P.setE l = chkE l) := hid (by unfold PP.setE; rw [if_neg h0])
          rw [errv_yes h0] at HCk
          have H0 := hid h0
          clear h0
          go_wp2_with fail
          refine HCk.out.mono ?_
          intro e w3 hx
          obtain ⟨rfl, hx3⟩ := hx
          have Hx2 := hid (Hx.out.trans hx3)
          clear HCk hx3 hc
          have hbad : P.setE l ≠ 0 := by rw [HE.out]; exact H0.out
          go_wp2
          go_ret
          refine ⟨_, rfl, .inr (.inr ⟨Hlen.out, k, l, _, Hl.out, hbad, Hp.out, rfl, ?_⟩), Hx2.out.alloc _⟩
          rw [HE.out]
          exact Blk.new _ _ _
      · obtain rfl : k = has.length := by omega
        have Hall : Hid (∀ l ∈ has, P.setE l = 0) := hid fun l hl => by
          obtain ⟨j, hj, e⟩ := List.mem_iff_getElem.1 hl
          exact Hp.out j l hj (by rw [List.getElem?_eq_getElem hj, e])
        go_wp2
        go_ret
        exact ⟨_, rfl, .inr (.inl ⟨Hlen.out, Hall.out, rfl⟩), Hx.out⟩
  · have Hlen : Hid (has.length ≠ P.nodesV) := hid (by rw [← HNe.out]; exact hlen)
    have e0 : ((has.length : Int) != (N : Int)) = true := bne_iff_ne.2 (by omega)
    have g3 := Hx1.out.cellx G3.out
    unfold evOf at g3
    clear hlen HO
    go_wp2
    go_ret
    exact ⟨_, rfl, .inl ⟨Hlen.out, rfl⟩, Hx1.out⟩
end Go.Proofs.YtdppgcbekhabnaaGreatDoor



/- ConsOrder, plainly: statements turned round, where none makes a thing. -/
namespace Go.Proofs.YtdppgcbekhabnaaGreatDoor
set_option linter.unusedSimpArgs false
set_option linter.unusedVariables false
open Go Go.RowKit

/-- Is an answer: base rules, and edges. -/
structure ClosedP (P : PP) (has : List (List Int)) : Prop where
  base : ∀ k, k < P.stmts.length → (P.ruleV k (P.stAt k)).kind.toList = bBase.toList → (P.ruleV k (P.stAt k)).b ∈ has.getD (P.ruleV k (P.stAt k)).a.toNat []
  edge : ∀ e ∈ P.edges0 has, e.1 ≠ e.2 → ∀ n ∈ has.getD e.1.toNat [], n ∈ has.getD e.2.toNat []
/-- A program with its statements turned round. -/
def PP.turned (P : PP) : PP := ⟨P.vars, P.funs, P.stmts.reverse⟩
def PP.noNew (P : PP) : Prop := ∀ x ∈ P.stmts, x.isK kNew = false
theorem allWell_iff (P : PP) : P.allWell ↔ ∀ x ∈ P.stmts, P.stmtErr x = 0 :=
  ⟨fun h x hx => by
    obtain ⟨k, hk, e⟩ := List.getElem_of_mem hx
    exact h k x hk (by rw [List.getElem?_eq_getElem hk, e]), fun h j t _ ht => h t (List.mem_of_getElem? ht)⟩
/-- The base rule of a statement, wherever it stands. -/
def PP.sOk (P : PP) (has : List (List Int)) (x : PS) : Prop := (P.ruleV 0 x).kind.toList = bBase.toList → (P.ruleV 0 x).b ∈ has.getD (P.ruleV 0 x).a.toNat []
end Go.Proofs.YtdppgcbekhabnaaGreatDoor



/- Edges, plainly: more objects make no fewer edges. -/
namespace Go.Proofs.YtdppgcbekhabnaaGreatDoor
set_option linter.unusedSimpArgs false
set_option linter.unusedVariables false
open Go Go.RowKit

/-- Each node has what it had. -/
def Sub (a b : List (List Int)) : Prop := ∀ i x, x ∈ a.getD i [] → x ∈ b.getD i []
theorem nodesOf_mono {P : PP} {a b : List Int} (h : ∀ x, x ∈ a → x ∈ b) : ∀ x, x ∈ P.nodesOf a → x ∈ P.nodesOf b := fun x hx => by
  unfold PP.nodesOf at hx ⊢
  obtain ⟨h1, h2⟩ := List.mem_filter.1 hx
  exact List.mem_filter.2 ⟨h x h1, h2⟩
theorem redges_mono {P : PP} {a b : List (List Int)} (h : Sub a b) (r : RV) : ∀ e, e ∈ P.redges r a → e ∈ P.redges r b := by
  intro e
  unfold PP.redges
  cases r.kind.toList == kCopy
  · cases r.kind.toList == kLoad
    · cases r.kind.toList == kStore
      · cases r.kind.toList == kCall
        · exact id
        · simp only [cond_true, cond_false]
          intro he
          obtain ⟨o, ho, hm⟩ := List.mem_flatMap.1 he
          exact List.mem_flatMap.2 ⟨o, h _ _ ho, hm⟩
      · simp only [cond_true, cond_false]
        intro he
        obtain ⟨o, ho, hm⟩ := List.mem_map.1 he
        exact List.mem_map.2 ⟨o, nodesOf_mono (h _) _ ho, hm⟩
    · simp only [cond_true, cond_false]
      intro he
      obtain ⟨o, ho, hm⟩ := List.mem_map.1 he
      exact List.mem_map.2 ⟨o, nodesOf_mono (h _) _ ho, hm⟩
  · exact id
theorem edges0_mono {P : PP} {a b : List (List Int)} (h : Sub a b) : ∀ e, e ∈ P.edges0 a → e ∈ P.edges0 b := by
  intro e he
  unfold PP.edges0 at he ⊢
  obtain ⟨r, hr, hm⟩ := List.mem_flatMap.1 he
  exact List.mem_flatMap.2 ⟨r, hr, redges_mono h r e hm⟩
/-- One node has one object more. -/
def plusAt (has : List (List Int)) (n : Nat) (o : Int) : List (List Int) := has.set n (sset (has.getD n [] ++ [o]))
/-- In a list that rises, what is greater stands behind. -/
theorem srtP_idx {b : List (Int × Int)} (h : SrtP b) {i j : Nat} {x y : Int × Int} (hi : b[i]? = some x) (hj : b[j]? = some y) (hlt : lexLt x y) : i < j := by
  have hil : i < b.length := by
    rcases Nat.lt_or_ge i b.length with g | g
    · exact g
    · rw [List.getElem?_eq_none g] at hi; cases hi
  have hjl : j < b.length := by
    rcases Nat.lt_or_ge j b.length with g | g
    · exact g
    · rw [List.getElem?_eq_none g] at hj; cases hj
  rw [List.getElem?_eq_getElem hil] at hi
  rw [List.getElem?_eq_getElem hjl] at hj
  obtain rfl := Option.some.inj hi
  obtain rfl := Option.some.inj hj
  rcases Nat.lt_trichotomy i j with g | g | g
  · exact g
  · subst g; exact absurd hlt (lexLt.irr _)
  · exact absurd (hlt.trans (List.pairwise_iff_getElem.1 h j i hjl hil g)) (lexLt.irr _)
theorem srtP_next {a : List (Int × Int)} (h : SrtP a) {i : Nat} {x y : Int × Int} (hi : a[i]? = some x) (hj : a[i + 1]? = some y) : lexLt x y := by
  have hjl : i + 1 < a.length := by
    rcases Nat.lt_or_ge (i + 1) a.length with g | g
    · exact g
    · rw [List.getElem?_eq_none g] at hj; cases hj
  rw [List.getElem?_eq_getElem (by omega)] at hi
  rw [List.getElem?_eq_getElem hjl] at hj
  obtain rfl := Option.some.inj hi
  obtain rfl := Option.some.inj hj
  exact List.pairwise_iff_getElem.1 h i (i + 1) (by omega) hjl (by omega)
end Go.Proofs.YtdppgcbekhabnaaGreatDoor



/- cons.Edges: where the program is not well, or the sets are at fault. -/
namespace Go.Proofs.YtdppgcbekhabnaaGreatDoor
set_option linter.unusedSimpArgs false
set_option linter.unusedVariables false
open Go Go.RowKit

end Go.Proofs.YtdppgcbekhabnaaGreatDoor



/- slices.IndexFunc and DeleteFunc over edges. -/
namespace Go.Proofs.YtdppgcbekhabnaaGreatDoor
set_option linter.unusedSimpArgs false
set_option linter.unusedVariables false
open Go Go.RowKit

def IdxG {α : Type} (p : α → Bool) (l : List α) (r : Int) : Prop := (r = -1 ∧ ∀ x ∈ l, p x = false) ∨ ∃ (i : Nat) (x : α), r = (i : Int) ∧ i < l.length ∧ l[i]? = some x ∧ p x = true ∧ ∀ j y, j < i → l[j]? = some y → p y = false
def eVal (e : Int × Int) : Value := .agg #[.int .i64 e.1, .int .i64 e.2]
theorem own_e {w : World} {base g n cap : Nat} {t : TypeId} {R : List (Int × Int)} (h : w.ownsRow base t 2 (.slice (some ⟨g, 0, none⟩) n cap) n (R.flatMap eCells)) {i : Nat} {x : Int × Int} (hx : R[i]? = some x) :
    w.cell? ⟨g, i * 2, none⟩ = some (.int .i64 x.1) ∧ w.cell? ⟨g, i * 2 + 1, none⟩ = some (.int .i64 x.2) := by
  have c : ∀ j v, (eCells x)[j]? = some v → j < 2 → w.cell? ⟨g, i * 2 + j, none⟩ = some v := fun j v hv hj => own_get h _ ((fm_get eCells 2 eCells_len R i j x hx hj).trans hv)
  exact ⟨c 0 _ rfl (by omega), c 1 _ rfl (by omega)⟩
theorem eset2 : ∀ (R : List (Int × Int)) (i : Nat) (y : Int × Int), i < R.length → ((R.flatMap eCells).set (i * 2) (.int .i64 y.1)).set (i * 2 + 1) (.int .i64 y.2) = (R.set i y).flatMap eCells
  | [], i, y, h => by simp at h
  | x :: l, 0, y, h => by simp [eCells]
  | x :: l, i + 1, y, h => by
    have ih := eset2 l i y (by simpa using h)
    rw [List.set_cons_succ, List.flatMap_cons, List.flatMap_cons, ← ih]
    rw [show (i + 1) * 2 = i * 2 + 2 by omega, show i * 2 + 2 + 1 = i * 2 + 1 + 2 by omega]
    simp only [eCells, List.cons_append, List.nil_append, List.set_cons_succ]
def storeE (w : World) (g i : Nat) (y : Int × Int) : World := (w.setCell ⟨g, i, none⟩ (.int .i64 y.1)).setCell ⟨g, i + 1, none⟩ (.int .i64 y.2)
theorem storeE_keep (w : World) (g i : Nat) (y : Int × Int) : Keep (fun b => b = g) w (storeE w g i y) :=
  have k : ∀ (u : World) j v, Keep (fun b => b = g) w u → Keep (fun b => b = g) w (u.setCell ⟨g, j, none⟩ v) := fun _ _ v h => h.set rfl v
  k _ _ _ (k _ _ _ (Keep.refl _ w))
theorem own_putE {w : World} {base g n cap : Nat} {e : TypeId} {R : List (Int × Int)} (h : w.ownsRow base e 2 (.slice (some ⟨g, 0, none⟩) n cap) n (R.flatMap eCells)) (i : Nat) (hi : i < R.length) (y : Int × Int) : (storeE w g (i * 2) y).ownsRow base e 2 (.slice (some ⟨g, 0, none⟩) n cap) n ((R.set i y).flatMap eCells) := by
  have hl : (R.flatMap eCells).length = R.length * 2 := fm_len eCells 2 eCells_len R
  rw [← eset2 R i y hi]
  unfold storeE
  exact own_set (own_set h _ (by omega) _) _ (by simp only [List.length_set]; omega) _

set_option maxRecDepth 100000 in
set_option maxHeartbeats 1600000 in
theorem eidx_same  (p : Int × Int → Bool) (lv : Value) (l : List (Int × Int)) (w : World) (n0 : Nat) (h : ERow n0 w lv l) (hfew : l.length ≤ 100000) (hF : ∀ n w1, n ∈ l → Ext w w1 → Calls Tryz.prog 115 (#[eVal n] ++ #[]) w1 fun e w' => e = .returned (.bool (p n)) ∧ Ext w1 w') :
    Calls Tryz.prog 130 #[lv, .func (.func 115) #[] #[]] w fun e w' => ∃ r : Int, e = .returned (.int .i64 r) ∧ IdxG p l r ∧ Ext w w' := by
  have HF := hid hF
  unfold ERow at h
  obtain ⟨a, c, rfl⟩ := row_form h
  have Hr := hid h
  clear hF h
  go_enter Tryz.func130, Tryz.ntmps130
  go_wp2
  go_loopw [8] (fun t8 wr => ∃ k : Nat, t8 = .int .i64 (k : Int) ∧ k ≤ l.length ∧ (∀ j t, j < k → l[j]? = some t → p t = false) ∧ Ext w wr) (fun t8 _ => l.length - (intOf t8).toNat)
  case atStart => exact ⟨0, rfl, Nat.zero_le _, fun j t h => by omega, Ext.refl _⟩
  case round =>
    obtain ⟨k, rfl, hk, hne, hx⟩ := hrel
    have Hne := hid hne
    have Hx := hid hx
    clear hne hx
    by_cases hlt : k < l.length
    · obtain ⟨g, cp, he⟩ := own_some Hr.out (by omega)
      simp only [Value.slice.injEq, true_and] at he
      obtain ⟨rfl, rfl⟩ := he
      obtain ⟨t, ht⟩ : ∃ t, l[k]? = some t := ⟨_, List.getElem?_eq_getElem hlt⟩
      obtain ⟨q0, q1⟩ := own_e (own_ext Hr.out Hx.out) ht
      have HN := hid (HF.out t wr (List.mem_of_getElem? ht) Hx.out)
      unfold eVal at HN
      have Hxk := hid ht
      clear ht
      go_wp2_with fail
      refine HN.out.mono ?_
      intro e w1 hx1
      obtain ⟨rfl, hx1⟩ := hx1
      have Hx1 := hid (Hx.out.trans hx1)
      clear HN hx1 Hx q0 q1
      cases he : p t with
      | true =>
        have Hin := hid (show IdxG p l (k : Int) from .inr ⟨k, t, rfl, hlt, Hxk.out, he, Hne.out⟩)
        go_wp2
        go_ret
        exact ⟨(k : Int), rfl, Hin.out, Hx1.out⟩
      | false =>
        have Hf := hid he
        clear he
        go_wp2
        go_roundw
        case rel =>
          refine ⟨k + 1, by go_num, by omega, fun j u hj hu => ?_, Hx1.out⟩
          by_cases hjk : j = k
          · subst hjk
            obtain rfl := Option.some.inj (Hxk.out.symm.trans hu)
            exact Hf.out
          · exact Hne.out j u (by omega) hu
        case measure => simp [intOf]; omega
    · obtain rfl : k = l.length := by omega
      have Hnot := hid (show IdxG p l (-1) from .inl ⟨rfl, fun x hx => by
        obtain ⟨j, hj, e2⟩ := List.mem_iff_getElem.1 hx
        exact Hne.out j x hj (by rw [List.getElem?_eq_getElem hj, e2])⟩)
      go_wp2
      go_ret
      exact ⟨(-1 : Int), rfl, Hnot.out, Hx.out⟩
theorem consedgesc1_any (e : Int × Int) (w : World) : Calls Tryz.prog 115 (#[eVal e] ++ #[]) w fun r w' => r = .returned (.bool (decide (e.1 = e.2))) ∧ Ext w w' := by
  obtain ⟨a, b⟩ := e
  unfold eVal
  show Calls Tryz.prog 115 #[.agg #[.int .i64 a, .int .i64 b]] w _
  by_cases h : a = b
  · subst h
    go_enter Tryz.func115, Tryz.ntmps115
    go_wp2
    go_ret
    exact ⟨by simp, (Ext.refl w).alloc _⟩
  · have h1 : (a == b) = false := beq_eq_false_iff_ne.2 h
    go_enter Tryz.func115, Tryz.ntmps115
    go_wp2
    go_ret
    exact ⟨by simp [h], (Ext.refl w).alloc _⟩
end Go.Proofs.YtdppgcbekhabnaaGreatDoor



/- slices.DeleteFunc over edges. -/
namespace Go.Proofs.YtdppgcbekhabnaaGreatDoor
set_option linter.unusedSimpArgs false
set_option linter.unusedVariables false
open Go Go.RowKit

theorem filter_nextG {α : Type} {p : α → Bool} {l : List α} {j : Nat} {x : α} (hx : l[j]? = some x) : (l.take (j + 1)).filter p = (l.take j).filter p ++ (if p x = true then [x] else []) := by
  rw [List.take_add_one, hx]
  simp only [Option.toList, List.filter_append, List.filter_cons, List.filter_nil]
set_option maxRecDepth 100000 in
set_option maxHeartbeats 3200000 in
theorem edel_same  (p : Int × Int → Bool) (lv : Value) (l : List (Int × Int)) (w0 w : World) (n0 : Nat) (hx0 : Ext w0 w) (hb0 : w0.heap.size ≤ n0) (hr : ERow n0 w lv l) (hF : ∀ n w1, Ext w0 w1 → Calls Tryz.prog 115 (#[eVal n] ++ #[]) w1 fun e w' => e = .returned (.bool (p n)) ∧ Ext w1 w') (hfew : l.length ≤ 100000) :
    Calls Tryz.prog 114 #[lv, .func (.func 115) #[] #[]] w fun e w' => ∃ lv', e = .returned lv' ∧ ERow n0 w' lv' (l.filter fun x => !p x) ∧ Ext w0 w' := by
  have HI := hid (eidx_same  p lv l w n0 hr hfew (fun n w1 _ x => hF n w1 (hx0.trans x)))
  have HF := hid hF
  unfold ERow at hr
  obtain ⟨a, c, rfl⟩ := row_form hr
  have Hr := hid hr
  have Hx0 := hid hx0
  have Hb0 := hid hb0
  clear hr hF hx0 hb0
  go_enter Tryz.func114, Tryz.ntmps114
  go_wp2_with fail
  refine HI.out.mono ?_
  intro e w1 hx
  obtain ⟨r, rfl, hidx, hx1⟩ := hx
  have Hx1 := hid (Hx0.out.trans hx1)
  have Hr1 := hid (own_ext Hr.out hx1)
  clear HI hx1
  rcases hidx with ⟨rfl, hall⟩ | ⟨i0, x0, rfl, hi0, hx0, hd0, hlow⟩
  · have hf : Hid (l.filter (fun x => !p x) = l) := hid (List.filter_eq_self.2 fun x hx => by rw [hall x hx]; rfl)
    clear hall
    go_wp2
    go_ret
    exact ⟨_, rfl, by rw [hf.out]; exact Hr1.out, Hx1.out⟩
  · obtain ⟨gb, cp, he⟩ := own_some Hr1.out (by omega)
    simp only [Value.slice.injEq, true_and] at he
    obtain ⟨rfl, rfl⟩ := he
    obtain ⟨_, _, hbase, hcap, hmx, _⟩ := own_blk Hr1.out
    have hstart : l.take i0 = (l.take (i0 + 1)).filter fun x => !p x := by
      rw [filter_nextG hx0, hd0, List.filter_eq_self.2 fun x hx => ?_]
      · simp
      · obtain ⟨j, hj, e⟩ := List.mem_iff_getElem.1 hx
        rw [List.length_take] at hj
        rw [List.getElem_take] at e
        rw [hlow j x (by omega) (by rw [List.getElem?_eq_getElem (by omega), e])]; rfl
    have Hstart := hid hstart
    have Hbase := hid hbase
    have hmx' : (c : Int) ≤ 9223372036854775807 := by unfold maxLen at hmx; omega
    have hcl : (l.length : Int) ≤ (c : Int) := by omega
    have hi1 : ((i0 : Int) == -1) = false := beq_eq_false_iff_ne.2 (by omega)
    clear hstart hx0 hd0 hlow hbase hcap hmx
    go_wp2
    clear hi1
    go_loopw [5, 6] (fun t5 t6 wr => ∃ (i j : Nat) (R : List (Int × Int)), t5 = .int .i64 (i : Int) ∧ t6 = .int .i64 (j : Int) ∧ i < j ∧ j ≤ l.length ∧ R.length = l.length ∧ R.take i = (l.take j).filter (fun x => !p x) ∧ R.drop j = l.drop j ∧
      wr.ownsRow n0 127 2 (.slice (some ⟨gb, 0, none⟩) l.length c) l.length (R.flatMap eCells) ∧ Ext w0 wr) (fun _ t6 _ => l.length - (intOf t6).toNat)
    case atStart => exact ⟨i0, i0 + 1, l, rfl, rfl, by omega, by omega, rfl, Hstart.out, rfl, Hr1.out, Hx1.out⟩
    case round =>
      obtain ⟨i, j, R, rfl, rfl, hij, hj, hRl, hT, hD, hrow, hx⟩ := hrel
      have HRl := hid hRl
      have HT := hid hT
      have HD := hid hD
      have Hrow := hid hrow
      have Hx := hid hx
      clear hRl hT hD Hstart hrow hx
      by_cases hlt : j < l.length
      · have hxj : R[j]? = some (l[j]'hlt) := by
          have := congrArg (fun l => l[0]?) HD.out
          simpa [List.getElem?_drop, List.getElem?_eq_getElem hlt] using this
        obtain ⟨x, hxd⟩ : ∃ x, x = l[j]'hlt := ⟨_, rfl⟩
        rw [← hxd] at hxj
        have hxk : l[j]? = some x := by rw [hxd]; exact List.getElem?_eq_getElem hlt
        obtain ⟨c0, c1⟩ := own_e Hrow.out hxj
        have HN := hid (HF.out x (wr.alloc (.cells #[.int .i64 x.1, .int .i64 x.2] 127)) (Hx.out.alloc _))
        unfold eVal at HN
        have hW := hid (Blk.new wr #[.int .i64 x.1, .int .i64 x.2] 127)
        have HWx := hid ((Ext.refl wr).alloc (.cells #[.int .i64 x.1, .int .i64 x.2] 127))
        have Hxk := hid hxk
        have hji : (i : Int) < (l.length : Int) := by omega
        clear hxd hxj hxk
        go_wp2_with fail
        refine HN.out.mono ?_
        intro e w2 hx2
        obtain ⟨rfl, hx2⟩ := hx2
        have Hrow2 := hid (own_ext Hrow.out (HWx.out.trans hx2))
        have Hx2 := hid (Hx.out.trans (HWx.out.trans hx2))
        have hB2 := hid (hW.out.ext hx2)
        clear HN hx2 c0 c1
        cases hf : p x with
        | true =>
          have Hf : Hid ((fun x => !p x) x = false) := hid (by show (!p x) = false; rw [hf]; rfl)
          clear hf
          go_wp2
          go_roundw
          case rel => exact ⟨i, j + 1, R, rfl, by go_num, by omega, by omega, HRl.out, by rw [filter_nextG Hxk.out, if_neg (by rw [Hf.out]; simp), HT.out]; simp, by rw [← List.drop_drop, HD.out, List.drop_drop], Hrow2.out, Hx2.out⟩
          case measure => simp [intOf]; omega
        | false =>
          have Hf : Hid ((fun x => !p x) x = true) := hid (by show (!p x) = true; rw [hf]; rfl)
          have hiR : i < R.length := by have := HRl.out; omega
          obtain ⟨y0, y1⟩ := own_e Hrow2.out (List.getElem?_eq_getElem hiR)
          have hfr := own_free Hrow2.out
          have v0 := hB2.out.av 0 rfl
          have v1 := hB2.out.av 1 rfl
          simp only [List.getElem_toArray, List.getElem_cons_zero, List.getElem_cons_succ] at v0 v1
          have hput := hid (own_putE Hrow2.out i hiR x)
          have hkp2 := hid (Keep.new Hx2.out (storeE_keep w2 gb (i * 2) x) fun b e => by rw [e]; exact Nat.le_trans Hb0.out Hbase.out)
          unfold storeE at hput hkp2
          generalize hyv : R[i] = y at *
          clear hyv hf
          go_wp2
          go_roundw
          case rel => exact ⟨i + 1, j + 1, R.set i x, by go_num, by go_num, by omega, by omega, by rw [List.length_set]; exact HRl.out, by rw [take_set_succ R i x hiR, filter_nextG Hxk.out, if_pos Hf.out, HT.out], by rw [List.drop_set_of_lt (by omega), ← List.drop_drop, HD.out, List.drop_drop], hput.out, hkp2.out⟩
          case measure => simp [intOf]; omega
      · obtain rfl : j = l.length := by omega
        have hTf : R.take i = l.filter fun x => !p x := by rw [HT.out, List.take_length]
        have hRi : (l.filter fun x => !p x).length = i := by rw [← hTf, List.length_take, HRl.out]; omega
        obtain ⟨cu, hcu, hb0, hcap, hmx, hcs, htk⟩ := own_blk Hrow.out
        obtain ⟨ti, hi, hz0, hz1, hz2⟩ := info_parts edge_info
        have hsz : i * 2 + (l.length - i) * 2 ≤ cu.size := by rw [hcs]; omega
        have hclr := fun ty => run_clear_row (P := Tryz.prog) wr 143 ty 127 ti _ Tryz.underlying143 hi hz0 (by simp [Value.cells, Value.oneCell']) gb (i * 2) (l.length - i) (c - i) (by omega) cu hcu hsz
        obtain ⟨cu', hcu'⟩ : ∃ cu', cu' = (cu.toList.take (i * 2) ++ (Builtin.zeroCells (Value.agg #[.int .i64 0, .int .i64 0]).cells (l.length - i)).toList ++ cu.toList.drop (i * 2 + (l.length - i) * (Value.agg #[.int .i64 0, .int .i64 0]).cells.size)).toArray := ⟨_, rfl⟩
        rw [← hcu'] at hclr
        have hsz' : cu'.size = c * 2 := by
          have h6 : (Value.agg #[.int .i64 0, .int .i64 0]).cells.size = 2 := rfl
          rw [hcu', List.size_toArray, List.length_append, List.length_append, List.length_take, List.length_drop, Array.length_toList, Array.length_toList, size_zeroCells, h6, hcs]
          omega
        have htk' : cu'.toList.take (i * 2) = (l.filter fun x => !p x).flatMap eCells := by
          rw [hcu', List.toList_toArray, List.append_assoc, List.take_append_of_le_length (by rw [List.length_take, Array.length_toList]; omega), List.take_take, Nat.min_self, ← hTf, ← fm_take eCells 2 eCells_len, ← htk, List.take_take, Nat.min_eq_left (by omega)]
        have hfin := hid (own_of_blk (setRow_blk hcu cu') hb0 (show i ≤ c by omega) hmx hsz' htk')
        have hkf : Hid (Ext w0 _) := hid (Keep.new Hx.out (setRow_keep wr gb cu') fun b e => by rw [e]; exact Nat.le_trans Hb0.out Hbase.out)
        have HRi := hid hRi
        have hci : (i : Int) ≤ (l.length : Int) := by omega
        clear hTf hRi hcu hb0 hcap hmx hcs htk hi hz0 hz1 hz2 hsz hcu' hsz' htk' HRl HT HD
        go_wp2
        go_ret
        exact ⟨.slice (some ⟨gb, 0, none⟩) i c, rfl, by unfold ERow; rw [HRi.out]; exact hfin.out, hkf.out⟩
end Go.Proofs.YtdppgcbekhabnaaGreatDoor



/- The comparison of two edges (cmp.Or of differences). -/
namespace Go.Proofs.YtdppgcbekhabnaaGreatDoor
set_option linter.unusedSimpArgs false
set_option linter.unusedVariables false
open Go Go.RowKit

set_option maxRecDepth 100000 in
set_option maxHeartbeats 1600000 in
theorem cmpor_any (g : Nat) (x y : Int) (w : World) (hB : Blk w g #[.int .i64 x, .int .i64 y] 3) :
    Calls Tryz.prog 118 #[.slice (some ⟨g, 0, none⟩) 2 2] w fun e w' => e = .returned (.int .i64 (if x = 0 then y else x)) ∧ w = w' := by
  have c0 := hB.av 0 rfl
  have c1 := hB.av 1 rfl
  simp only [List.getElem_toArray, List.getElem_cons_zero, List.getElem_cons_succ] at c0 c1
  clear hB
  by_cases hx : x = 0
  · subst hx
    by_cases hy : y = 0
    · subst hy
      go_enter Tryz.func118, Tryz.ntmps118
      go_wp2
      go_loop [8] (fun t8 => ∃ k : Nat, t8 = .int .i64 (k : Int) ∧ (k = 0 ∨ k = 1 ∨ k = 2)) (fun t8 => 2 - (intOf t8).toNat)
      case atStart => exact ⟨0, rfl, .inl rfl⟩
      case round =>
        obtain ⟨k, rfl, rfl | rfl | rfl⟩ := hrel
        · go_wp2
          exact ⟨⟨1, rfl, .inr (.inl rfl)⟩, by simp [intOf]⟩
        · go_wp2
          exact ⟨⟨2, rfl, .inr (.inr rfl)⟩, by simp [intOf]⟩
        · go_wp2
          go_ret
          exact ⟨rfl, rfl⟩
    · have hy1 : (y != 0) = true := bne_iff_ne.2 hy
      have hr : Hid ((if (0 : Int) = 0 then y else 0) = y) := hid (if_pos rfl)
      go_enter Tryz.func118, Tryz.ntmps118
      go_wp2
      go_loop [8] (fun t8 => ∃ k : Nat, t8 = .int .i64 (k : Int) ∧ (k = 0 ∨ k = 1)) (fun t8 => 2 - (intOf t8).toNat)
      case atStart => exact ⟨0, rfl, .inl rfl⟩
      case round =>
        obtain ⟨k, rfl, rfl | rfl⟩ := hrel
        · go_wp2
          exact ⟨⟨1, rfl, .inr rfl⟩, by simp [intOf]⟩
        · go_wp2
          go_ret
          exact ⟨rfl, rfl⟩
  · have hx1 : (x != 0) = true := bne_iff_ne.2 hx
    have hr : Hid ((if x = 0 then y else x) = x) := hid (if_neg hx)
    go_enter Tryz.func118, Tryz.ntmps118
    go_wp2
    go_loop [8] (fun t8 => t8 = .int .i64 0) (fun _ => 0)
    case atStart => exact rfl
    case round =>
      obtain rfl := hrel
      go_wp2
      go_ret
      exact ⟨rfl, rfl⟩
/-- How two edges compare. -/
def eCmp (a b : Int × Int) : Int := if a.1 - b.1 = 0 then a.2 - b.2 else a.1 - b.1
set_option maxRecDepth 100000 in
set_option maxHeartbeats 1600000 in
theorem consedgesc2_grow (a b : Int × Int) (w : World) (ha : 0 ≤ a.1 ∧ a.1 < 1000 ∧ 0 ≤ a.2 ∧ a.2 < 1000) (hb : 0 ≤ b.1 ∧ b.1 < 1000 ∧ 0 ≤ b.2 ∧ b.2 < 1000) :
    Calls Tryz.prog 117 #[eVal a, eVal b] w fun r w' => r = .returned (.int .i64 (eCmp a b)) ∧ ∃ os, w' = Sort.grow (w.drewN 0) os := by
  obtain ⟨a1, a2⟩ := a
  obtain ⟨b1, b2⟩ := b
  simp only at ha hb
  obtain ⟨h1, h2, h3, h4⟩ := ha
  obtain ⟨h5, h6, h7, h8⟩ := hb
  unfold eVal
  obtain ⟨W1, hW1⟩ : ∃ W1, W1 = w.alloc (.cells #[.int .i64 a1, .int .i64 a2] 127) := ⟨_, rfl⟩
  obtain ⟨W2, hW2⟩ : ∃ W2, W2 = W1.alloc (.cells #[.int .i64 b1, .int .i64 b2] 127) := ⟨_, rfl⟩
  obtain ⟨W3, hW3⟩ : ∃ W3, W3 = W2.alloc (.cells #[.int .i64 (a1 - b1), .int .i64 (a2 - b2)] 3) := ⟨_, rfl⟩
  have hx : ∃ os, W3 = Sort.grow (w.drewN 0) os := ⟨_, by rw [hW3, hW2, hW1, Sort.alloc_eq_grow, Sort.alloc_eq_grow, Sort.alloc_eq_grow, Sort.grow_grow, Sort.grow_grow]; rfl⟩
  have s1 : W1.heap.size = w.heap.size + 1 := by rw [hW1, heap_size_alloc]
  have s2 : W2.heap.size = w.heap.size + 1 + 1 := by rw [hW2, heap_size_alloc, s1]
  have HC := hid (cmpor_any (w.heap.size + 1 + 1) (a1 - b1) (a2 - b2) W3 (by rw [← s2, hW3]; exact Blk.new _ _ _))
  obtain ⟨d, hd⟩ : ∃ d, d = (if a1 - b1 = 0 then a2 - b2 else a1 - b1) := ⟨_, rfl⟩
  have Hd : Hid (eCmp (a1, a2) (b1, b2) = d) := hid (by rw [hd]; rfl)
  rw [← hd] at HC
  have HW : Hid (W3 = ((w.alloc (.cells #[.int .i64 a1, .int .i64 a2] 127)).alloc (.cells #[.int .i64 b1, .int .i64 b2] 127)).alloc (.cells #[.int .i64 (a1 - b1), .int .i64 (a2 - b2)] 3)) := hid (by rw [hW3, hW2, hW1])
  have Hx := hid hx
  clear hW1 hW2 hW3 s1 s2 hx hd
  go_enter Tryz.func117, Tryz.ntmps117
  go_wp2_with fail
  rw [← HW.out]
  refine HC.out.mono ?_
  intro e w2 hx
  obtain ⟨rfl, rfl⟩ := hx
  clear HC
  go_wp2
  go_ret
  exact ⟨by rw [Hd.out]; rfl, Hx.out⟩
end Go.Proofs.YtdppgcbekhabnaaGreatDoor



/- slices.Compact over edges. -/
namespace Go.Proofs.YtdppgcbekhabnaaGreatDoor
set_option linter.unusedSimpArgs false
set_option linter.unusedVariables false
open Go Go.RowKit

set_option maxRecDepth 100000 in
@[go_sem high] theorem eql_edge (w : World) (a b c d : Int) :
    (binOp .eql 127 (.agg #[.int .i64 a, .int .i64 b]) (.agg #[.int .i64 c, .int .i64 d])).run Tryz.prog w = .ok (.bool (a == c && b == d)) w := by
  have hS : Tryz.prog.underlying 127 = some (.struct (Tryz.prog.fieldsOf 127)) := by kernel_rfl
  have hp : Tryz.prog.stoodInHeld 127 = false := by kernel_rfl
  rw [run_eql_struct, show (10000 : Nat) = 9999 + 1 from rfl, run_equalIn_agg w 9999 127 _ _ hS hp]
  simp only [Program.fieldsOf, Tryz.underlying127]
  go_simp
  by_cases h1 : a = c <;> by_cases h2 : b = d <;> simp [h1, h2]

set_option maxRecDepth 100000 in
@[go_sem high] theorem neq_edge (w : World) (a b c d : Int) :
    (binOp .neq 127 (.agg #[.int .i64 a, .int .i64 b]) (.agg #[.int .i64 c, .int .i64 d])).run Tryz.prog w = .ok (.bool (a != c || b != d)) w := by
  have hS : Tryz.prog.underlying 127 = some (.struct (Tryz.prog.fieldsOf 127)) := by kernel_rfl
  have hp : Tryz.prog.stoodInHeld 127 = false := by kernel_rfl
  rw [run_neq_struct, show (10000 : Nat) = 9999 + 1 from rfl, run_equalIn_agg w 9999 127 _ _ hS hp]
  simp only [Program.fieldsOf, Tryz.underlying127]
  go_simp
  by_cases h1 : a = c <;> by_cases h2 : b = d <;> simp [h1, h2]

set_option maxRecDepth 100000 in
set_option maxHeartbeats 3200000 in
theorem ecompact_any (lv : Value) (l : List (Int × Int)) (w0 w : World) (n0 : Nat) (hx0 : Ext w0 w) (hb0 : w0.heap.size ≤ n0) (hr : ERow n0 w lv l) (hfew : l.length ≤ 100000) :
    Calls Tryz.prog 119 #[lv] w fun e w' => ∃ lv', e = .returned lv' ∧ ERow n0 w' lv' (Lib.compact l) ∧ Ext w0 w' := by
  unfold ERow at hr
  obtain ⟨a, c, rfl⟩ := row_form hr
  have Hr := hid hr
  have Hx0 := hid hx0
  have Hb0 := hid hb0
  clear hr hx0 hb0
  by_cases h2 : l.length < 2
  · have Hc : Hid (Lib.compact l = l) := hid (Lib.compact_all l fun j hj => by
      have : j = 0 := by omega
      subst this
      simp [Lib.keeps])
    go_enter Tryz.func119, Tryz.ntmps119
    go_wp2
    go_ret
    exact ⟨_, rfl, by rw [Hc.out]; exact Hr.out, Hx0.out⟩
  · obtain ⟨g, cp, he⟩ := own_some Hr.out (by omega)
    simp only [Value.slice.injEq, true_and] at he
    obtain ⟨rfl, rfl⟩ := he
    go_enter Tryz.func119, Tryz.ntmps119
    go_wp2
    go_loopw [3] (fun t3 wr => ∃ k : Nat, t3 = .int .i64 (k : Int) ∧ 1 ≤ k ∧ k ≤ l.length ∧ (∀ j, j < k → Lib.keeps l.toArray j = true) ∧ Ext w wr) (fun t3 _ => l.length - (intOf t3).toNat)
    case atStart => exact ⟨1, rfl, Nat.le_refl _, by omega, fun j hj => (by obtain rfl : j = 0 := by omega
                                                                            simp [Lib.keeps]), Ext.refl _⟩
    case round =>
      obtain ⟨k, rfl, hk1, hk, hp, hx⟩ := hrel
      have Hp := hid hp
      have Hx := hid hx
      clear hp hx
      by_cases hlt : k < l.length
      · obtain ⟨p, hpk⟩ : ∃ p, l[k - 1]? = some p := ⟨_, List.getElem?_eq_getElem (by omega)⟩
        obtain ⟨q, hqk⟩ : ∃ q, l[k]? = some q := ⟨_, List.getElem?_eq_getElem hlt⟩
        have Hkeep : Hid (Lib.keeps l.toArray k = decide (q ≠ p)) := hid (by
          unfold Lib.keeps
          rw [show l.toArray[k]! = q by simp [hqk], show l.toArray[k - 1]! = p by simp [hpk]]
          have : k ≠ 0 := by omega
          simp [this])
        obtain ⟨p0, p1⟩ := own_e (own_ext Hr.out Hx.out) hpk
        obtain ⟨q0, q1⟩ := own_e (own_ext Hr.out Hx.out) hqk
        have c0 : ∀ w1, Keep (fun _ => False) wr w1 → w1.cell? ⟨g, (k - 1) * 2, none⟩ = some (.int .i64 p.1) := fun w1 kk => kk.ext.cellx p0
        have c1 : ∀ w1, Keep (fun _ => False) wr w1 → w1.cell? ⟨g, (k - 1) * 2 + 1, none⟩ = some (.int .i64 p.2) := fun w1 kk => kk.ext.cellx p1
        have c2 : ∀ w1, Keep (fun _ => False) wr w1 → w1.cell? ⟨g, k * 2, none⟩ = some (.int .i64 q.1) := fun w1 kk => kk.ext.cellx q0
        have c3 : ∀ w1, Keep (fun _ => False) wr w1 → w1.cell? ⟨g, k * 2 + 1, none⟩ = some (.int .i64 q.2) := fun w1 kk => kk.ext.cellx q1
        clear hpk hqk p0 p1 q0 q1
        go_wp2
        refine wp_flowT (fun _ => False) (by kernel_rfl) (by kernel_rfl) ?_
        repeat (apply FlowT.d; (intro w1 hk; unfold does; go_simp; (try go_ints); (first | exact DetR.mk | (simp only [↓IntWalk.iteOmega, Oper.doesUpon_value]; exact DetR.mk) | (simp only [↓IntWalk.iteOmega]; go_simp; (try go_ints); exact DetR.mk))); simp only [Act.put, List.setIfInBounds_toArray, List.set_cons_zero, List.set_cons_succ])
        refine FlowT.fin fun w1 hx1 hk1 => ?_
        have Hx1 := hid (Hx.out.trans hx1)
        clear hx1 hk1 c0 c1 c2 c3
        by_cases hqp : q = p
        · rw [show (q.1 == p.1 && q.2 == p.2) = true by rw [hqp]; simp]
          have Hdup : Hid (Lib.keeps l.toArray k = false) := hid (by rw [Hkeep.out, hqp]; simp)
          clear hqp Hkeep
          have Hr1 := hid (own_ext Hr.out Hx1.out)
          obtain ⟨_, _, hbase, hcap, hmx, _⟩ := own_blk Hr1.out
          have Hbase := hid hbase
          have hmx' : (c : Int) ≤ 9223372036854775807 := by unfold maxLen at hmx; omega
          have hcl : (l.length : Int) ≤ (c : Int) := by omega
          clear hbase hcap hmx
          go_wp2
          go_loopw [3, 5] (fun t3 t5 wq => ∃ (k1 j : Nat) (R : List (Int × Int)), t3 = .int .i64 (k1 : Int) ∧ t5 = .int .i64 (j : Int) ∧ 1 ≤ j ∧ k + j ≤ l.length ∧ R.length = l.length ∧ Lib.CompInv l.toArray (k + j) k1 R.toArray ∧
            wq.ownsRow n0 127 2 (.slice (some ⟨g, 0, none⟩) l.length c) l.length (R.flatMap eCells) ∧ Ext w0 wq) (fun _ t5 _ => l.length - (intOf t5).toNat)
          case atStart => exact ⟨k, 1, l, rfl, rfl, Nat.le_refl _, by omega, rfl, Lib.CompInv.start Hp.out Hdup.out, Hr1.out, Hx0.out.trans Hx1.out⟩
          case round =>
            obtain ⟨k1, j, R, rfl, rfl, hj1, hj, hRl, hinv, hrow, hxq⟩ := hrel
            have HRl := hid hRl
            have Hinv := hid hinv
            have Hrow := hid hrow
            have Hxq := hid hxq
            clear hRl hinv hrow hxq
            by_cases hlt2 : k + j < l.length
            · obtain ⟨p2, hpk⟩ : ∃ p2, l[k + j - 1]? = some p2 := ⟨_, List.getElem?_eq_getElem (by omega)⟩
              obtain ⟨q2, hqk⟩ : ∃ q2, l[k + j]? = some q2 := ⟨_, List.getElem?_eq_getElem hlt2⟩
              have Hkeep : Hid (Lib.keeps l.toArray (k + j) = decide (q2 ≠ p2)) := hid (by
                unfold Lib.keeps
                rw [show l.toArray[k + j]! = q2 by simp [hqk], show l.toArray[k + j - 1]! = p2 by simp [hpk]]
                have h0 : ¬ (k + j = 0) := by omega
                exact decide_eq_decide.2 ⟨fun h => h.resolve_left h0, Or.inr⟩)
              have Hq2 : Hid (l.toArray[k + j]! = q2) := hid (by simp [hqk])
              have hRg : ∀ i, k1 ≤ i → i < l.length → R[i]? = l[i]? := fun i h1 h3 => by
                have := Hinv.out.high i h1
                have h4 : i < R.length := by rw [HRl.out]; exact h3
                rw [List.getElem?_eq_getElem h4, List.getElem?_eq_getElem h3]
                simpa [List.getElem?_eq_getElem h4, List.getElem?_eq_getElem h3] using this
              have hlt3 := Hinv.out.lt
              rw [← hRg _ (by omega) (by omega)] at hpk hqk
              obtain ⟨p0, p1⟩ := own_e Hrow.out hpk
              obtain ⟨q0, q1⟩ := own_e Hrow.out hqk
              rw [show (k + j - 1) * 2 = k * 2 + (j - 1) * 2 by omega] at p0 p1
              rw [show (k + j) * 2 = k * 2 + j * 2 by omega] at q0 q1
              have c0 : ∀ w1, Keep (fun _ => False) wr w1 → w1.cell? ⟨g, k * 2 + (j - 1) * 2, none⟩ = some (.int .i64 p2.1) := fun w1 kk => kk.ext.cellx p0
              have c1 : ∀ w1, Keep (fun _ => False) wr w1 → w1.cell? ⟨g, k * 2 + (j - 1) * 2 + 1, none⟩ = some (.int .i64 p2.2) := fun w1 kk => kk.ext.cellx p1
              have c2 : ∀ w1, Keep (fun _ => False) wr w1 → w1.cell? ⟨g, k * 2 + j * 2, none⟩ = some (.int .i64 q2.1) := fun w1 kk => kk.ext.cellx q0
              have c3 : ∀ w1, Keep (fun _ => False) wr w1 → w1.cell? ⟨g, k * 2 + j * 2 + 1, none⟩ = some (.int .i64 q2.2) := fun w1 kk => kk.ext.cellx q1
              have hlt4 : (j : Int) < (↑(l.length - k) : Int) := by omega
              have hk1l : (k1 : Int) < (l.length : Int) := by omega
              clear hpk hqk p0 p1 q0 q1 hRg
              go_wp2
              refine wp_flowT (fun _ => False) (by kernel_rfl) (by kernel_rfl) ?_
              repeat (apply FlowT.d; (intro w1 hk; unfold does; go_simp; (try go_ints); (first | exact DetR.mk | (simp only [↓IntWalk.iteOmega, Oper.doesUpon_value]; exact DetR.mk) | (simp only [↓IntWalk.iteOmega]; go_simp; (try go_ints); exact DetR.mk))); simp only [Act.put, List.setIfInBounds_toArray, List.set_cons_zero, List.set_cons_succ])
              refine FlowT.fin fun w2 hx2 hk2 => ?_
              have d0 := c2 w2 hk2
              have d1 := c3 w2 hk2
              have Hxq2 := hid (Hxq.out.trans hx2)
              have Hrow2 := hid (own_ext Hrow.out hx2)
              clear hx2 hk2 c0 c1 c2 c3
              by_cases hqp : q2 = p2
              · rw [show (q2.1 != p2.1 || q2.2 != p2.2) = false by rw [hqp]; simp]
                have Hd : Hid (Lib.keeps l.toArray (k + j) = false) := hid (by rw [Hkeep.out, hqp]; simp)
                clear hqp Hkeep
                go_wp2
                go_roundw
                case rel => exact ⟨k1, j + 1, R, rfl, by go_num, by omega, by omega, HRl.out, Lib.CompInv.skip Hinv.out Hd.out, Hrow2.out, Hxq2.out⟩
                case measure => simp [intOf]; omega
              · rw [show (q2.1 != p2.1 || q2.2 != p2.2) = true by
                  cases hb : (q2.1 != p2.1 || q2.2 != p2.2) with
                  | true => rfl
                  | false =>
                    rw [Bool.or_eq_false_iff, bne_eq_false_iff_eq, bne_eq_false_iff_eq] at hb
                    exact absurd (Prod.ext hb.1 hb.2) hqp]
                have Hd : Hid (Lib.keeps l.toArray (k + j) = true) := hid (by rw [Hkeep.out]; simp [hqp])
                clear hqp Hkeep
                have hiR : k1 < R.length := by have := HRl.out; omega
                obtain ⟨y0, y1⟩ := own_e Hrow2.out (List.getElem?_eq_getElem hiR)
                have hfr := own_free Hrow2.out
                have hput := hid (own_putE Hrow2.out k1 hiR q2)
                have hkp2 := hid (Keep.new Hxq2.out (storeE_keep w2 g (k1 * 2) q2) fun b e => by rw [e]; exact Nat.le_trans Hb0.out Hbase.out)
                unfold storeE at hput hkp2
                generalize hyv : R[k1] = y at *
                clear hyv
                go_wp2
                go_roundw
                case rel => exact ⟨k1 + 1, j + 1, R.set k1 q2, by go_num, by go_num, by omega, by omega, by rw [List.length_set]; exact HRl.out, (by
                  have := Lib.CompInv.keep Hinv.out (by simpa using hlt2) Hd.out
                  rw [Hq2.out] at this
                  rw [← Nat.add_assoc]
                  simpa using this), hput.out, hkp2.out⟩
                case measure => simp [intOf]; omega
            · have hm : k + j = l.length := by omega
              have Hinv2 : Hid (Lib.CompInv l.toArray l.length k1 R.toArray) := hid (by rw [← hm]; exact Hinv.out)
              obtain rfl : j = l.length - k := by omega
              have hk1l := Hinv2.out.lt
              have hlen : (Lib.compact l).length = k1 := Hinv2.out.len
              have hTf : R.take k1 = Lib.compact l := by
                apply List.ext_getElem?
                intro i
                by_cases hi : i < k1
                · have h1 : (Lib.compact l)[i]? = some R.toArray[i]! := Hinv2.out.low i hi
                  have h4 : i < R.length := by rw [HRl.out]; omega
                  rw [h1, List.getElem?_take, if_pos hi, List.getElem?_eq_getElem h4]
                  simp [List.getElem?_eq_getElem h4]
                · rw [List.getElem?_eq_none (by rw [List.length_take]; omega), List.getElem?_eq_none (by omega)]
              obtain ⟨cu, hcu, hb0, hcap, hmx, hcs, htk⟩ := own_blk Hrow.out
              obtain ⟨ti, hi, hz0, hz1, hz2⟩ := info_parts edge_info
              have hsz : k1 * 2 + (l.length - k1) * 2 ≤ cu.size := by rw [hcs]; omega
              have hclr := fun ty => run_clear_row (P := Tryz.prog) wr 143 ty 127 ti _ Tryz.underlying143 hi hz0 (by simp [Value.cells, Value.oneCell']) g (k1 * 2) (l.length - k1) (c - k1) (by omega) cu hcu hsz
              obtain ⟨cu', hcu'⟩ : ∃ cu', cu' = (cu.toList.take (k1 * 2) ++ (Builtin.zeroCells (Value.agg #[.int .i64 0, .int .i64 0]).cells (l.length - k1)).toList ++ cu.toList.drop (k1 * 2 + (l.length - k1) * (Value.agg #[.int .i64 0, .int .i64 0]).cells.size)).toArray := ⟨_, rfl⟩
              rw [← hcu'] at hclr
              have hsz' : cu'.size = c * 2 := by
                have h6 : (Value.agg #[.int .i64 0, .int .i64 0]).cells.size = 2 := rfl
                rw [hcu', List.size_toArray, List.length_append, List.length_append, List.length_take, List.length_drop, Array.length_toList, Array.length_toList, size_zeroCells, h6, hcs]
                omega
              have htk' : cu'.toList.take (k1 * 2) = (Lib.compact l).flatMap eCells := by
                rw [hcu', List.toList_toArray, List.append_assoc, List.take_append_of_le_length (by rw [List.length_take, Array.length_toList]; omega), List.take_take, Nat.min_self, ← hTf, ← fm_take eCells 2 eCells_len, ← htk, List.take_take, Nat.min_eq_left (by omega)]
              have hfin := hid (own_of_blk (setRow_blk hcu cu') hb0 (show k1 ≤ c by omega) hmx hsz' htk')
              have hkf : Hid (Ext w0 _) := hid (Keep.new Hxq.out (setRow_keep wr g cu') fun b e => by rw [e]; exact Nat.le_trans Hb0.out Hbase.out)
              have HRi := hid hlen
              have hci : (k1 : Int) ≤ (l.length : Int) := by omega
              clear hTf hlen hcu hb0 hcap hmx hcs htk hi hz0 hz1 hz2 hsz hcu' hsz' htk' HRl Hinv Hinv2 hm
              go_wp2
              go_ret
              exact ⟨.slice (some ⟨g, 0, none⟩) k1 c, rfl, by unfold ERow; rw [HRi.out]; exact hfin.out, hkf.out⟩
        · rw [show (q.1 == p.1 && q.2 == p.2) = false by
            cases hb : (q.1 == p.1 && q.2 == p.2) with
            | false => rfl
            | true =>
              rw [Bool.and_eq_true, beq_iff_eq, beq_iff_eq] at hb
              exact absurd (Prod.ext hb.1 hb.2) hqp]
          have Hd : Hid (Lib.keeps l.toArray k = true) := hid (by rw [Hkeep.out]; simp [hqp])
          clear hqp Hkeep
          go_wp2
          go_roundw
          case rel => exact ⟨k + 1, by go_num, by omega, by omega, fun j hj => (by
                                                                  by_cases e : j = k
                                                                  · rw [e]; exact Hd.out
                                                                  · exact Hp.out j (by omega)), Hx1.out⟩
          case measure => simp [intOf]; omega
      · obtain rfl : k = l.length := by omega
        have Hc : Hid (Lib.compact l = l) := hid (Lib.compact_all l Hp.out)
        go_wp2
        go_ret
        exact ⟨_, rfl, by rw [Hc.out]; exact own_ext Hr.out Hx.out, Hx0.out.trans Hx.out⟩
end Go.Proofs.YtdppgcbekhabnaaGreatDoor

