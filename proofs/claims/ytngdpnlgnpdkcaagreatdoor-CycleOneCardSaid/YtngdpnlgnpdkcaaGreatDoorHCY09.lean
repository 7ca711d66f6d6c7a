/- Texts of one proof, put together: X1 T3 T4 T2 T5 T6 T1 T7 ZW ZX ZY ZZ ZZ1 ZZ2 ZZ3 ZZ4 ZZ5 ZZ6 ZZ7 ZZXr. -/
import Derived.Test.YtngdpnlgnpdkcaaGreatDoorHCY02
import Derived.Test.YtngdpnlgnpdkcaaGreatDoorHCY03
import Derived.Test.YtngdpnlgnpdkcaaGreatDoorHCY04
import Derived.Test.YtngdpnlgnpdkcaaGreatDoorHCY05
import Derived.Test.YtngdpnlgnpdkcaaGreatDoorHCY07
import Derived.Test.YtngdpnlgnpdkcaaGreatDoorHCY08
import Derived.Test.YtngdpnlgnpdkcaaGreatDoorHCY01
set_option linter.unusedSimpArgs false
set_option linter.unusedVariables false
namespace Go.Proofs.YtngdpnlgnpdkcaaGreatDoor
open Go Go.RowKit
def PP.ruleR (P : PP) (k : Nat) (x : PS) : RV :=
  bif x.isK kAddr then ⟨bBase, x.x, x.y, k, []⟩ else
  bif x.isK kNew then ⟨bBase, x.x, P.placeV k, k, []⟩ else
  bif x.isK kFun then ⟨bBase, x.x, (P.nodesV : Int) + x.y, k, []⟩ else ⟨x.kind, x.y, x.x, k, x.args⟩
def PP.rulesRUp (P : PP) (n : Nat) : List RV := ((List.range n).map fun k => P.ruleR k (P.stAt k)).filter fun r => !(r.kind.toList == bBase.toList)
structure REdge (n : Nat) (r : RV) : Prop where
  kd : (r.kind.toList == kCopy) = true ∨ (r.kind.toList == kLoad) = true ∨ (r.kind.toList == kStore) = true ∨ (r.kind.toList == kCall) = true
  a : 0 ≤ r.a ∧ r.a < n
  b : 0 ≤ r.b ∧ r.b < n
def RERow (base : Nat) (w : World) (v : Value) (l : List (Int × Int)) : Prop := w.ownsRow base 135 2 v l.length (l.flatMap eCells)
theorem wait_in {P : PP} {S : List (List Int)} {s : SV} (hg : P.GoodS S) (h : Core P S s) : ∀ f ∈ s.wait, (0 ≤ f.1 ∧ f.1 < P.nodesV) ∧ (0 ≤ f.2 ∧ f.2 < P.objectsV) := fun f hf => by
  have hfw := h.wait f hf
  have hlen := hg.2.1
  have hin : f.2 ∈ S.getD f.1.toNat [] := hfw.2
  rw [List.getD_eq_getElem?_getD, List.getElem?_eq_getElem (show f.1.toNat < S.length by omega)] at hin
  have hk := hg.ok.ok _ (List.getElem_mem (show f.1.toNat < S.length by omega))
  exact ⟨hfw.1, ((chkE_zero.1 hk.1).1 _ hin).1, hk.2 _ hin⟩
def lenAt (w : World) (g : Nat) : Nat := match w.cell? ⟨g, 8, none⟩ with
  | some (.slice _ n _) => n
  | _ => 0
def SV.ask (P : PP) (f : Int × Int) (s : SV) (r : RV) : SV := bif r.fired && decide (r.pivot = f.1) then s.fire P r f.2 else s
def SV.told1 (s : SV) (f : Int × Int) : SV := { s with wait := s.wait ++ (s.succ f.1).map fun t => (t, f.2) }
theorem came_ask (P : PP) (s : SV) (f : Int × Int) : s.came P f = s.rules.foldl (SV.ask P f) (s.told1 f) := rfl
theorem ask_step {P : PP} {S : List (List Int)} (hg : P.GoodS S) (hc : ClosedP P S) {f : Int × Int} (hf : f.2 ∈ S.getD f.1.toNat []) {s : SV} (h : Core P S s) (hb : s.Bnd P) {r : RV} (hr : r ∈ P.rulesV) :
    Core P S (s.ask P f r) ∧ (s.ask P f r).Bnd P ∧ (s.ask P f r).rules = s.rules := by
  unfold SV.ask
  cases h1 : (r.fired && decide (r.pivot = f.1)) with
  | false => exact ⟨h, hb, rfl⟩
  | true =>
    rw [Bool.and_eq_true] at h1
    have hp := of_decide_eq_true h1.2
    have ho : f.2 ∈ S.getD r.pivot.toNat [] := by rw [hp]; exact hf
    obtain ⟨k1, _, k3, _⟩ := h.fire hg hc hr h1.1 ho
    exact ⟨k1, bnd_fire hg hc h hb hr h1.1 ho, k3⟩
section
variable {P : PP} {S : List (List Int)} {s : SV}
theorem asks_fold (hg : P.GoodS S) (hc : ClosedP P S) {f : Int × Int} (hf : f.2 ∈ S.getD f.1.toNat []) : ∀ (l : List RV) {s : SV}, Core P S s → s.Bnd P → (∀ r ∈ l, r ∈ P.rulesV) → Core P S (l.foldl (SV.ask P f) s) ∧ (l.foldl (SV.ask P f) s).Bnd P ∧ (l.foldl (SV.ask P f) s).rules = s.rules
  | [], _, h, b, _ => ⟨h, b, rfl⟩
  | r :: l, _, h, b, hr => by
    obtain ⟨k1, k2, k3⟩ := ask_step hg hc hf h b (hr r List.mem_cons_self)
    obtain ⟨j1, j2, j3⟩ := asks_fold hg hc hf l k1 k2 fun q hq => hr q (List.mem_cons_of_mem _ hq)
    exact ⟨j1, j2, j3.trans k3⟩
theorem wait_fact (hg : P.GoodS S) (h : Full P S s) {f : Int × Int} {r : List (Int × Int)} (hw : s.wait = f :: r) : ((0 ≤ f.1 ∧ f.1 < P.nodesV) ∧ f.2 ∈ S.getD f.1.toNat []) ∧ 0 ≤ f.2 ∧ f.2 < P.objectsV := by
  have hm : f ∈ s.wait := by rw [hw]; exact List.mem_cons_self
  exact ⟨h.core.wait f hm, (wait_in hg h.core f hm).2⟩
theorem mark_tot (hg : P.GoodS S) (h : Full P S s) (hr : s.ready) {f : Int × Int} {r : List (Int × Int)} (hw : s.wait = f :: r) : (s.mark f).tot P = s.tot P + 1 := by
  obtain ⟨hf, h2⟩ := wait_fact hg h hw
  have hl1 : f.1.toNat < s.has.length := by rw [h.core.len]; omega
  refine tot_mark h.core.len hf.1 ⟨h2.1, ?_⟩ (hr f r hw)
  rw [List.getD_eq_getElem?_getD, List.getElem?_eq_getElem hl1]
  have := h.core.row _ (List.getElem_mem hl1)
  show f.2.toNat < (s.has[f.1.toNat]).length
  omega
theorem told1_bnd (hg : P.GoodS S) (h : Full P S s) (b : s.Bnd P) (hr : s.ready) {f : Int × Int} {r : List (Int × Int)} (hw : s.wait = f :: r) : ((s.mark f).told1 f).Bnd P := by
  have e : ((s.mark f).told1 f).tot P = s.tot P + 1 := by rw [← mark_tot hg h hr hw]; exact tot_has rfl
  refine ⟨b.nd, b.ru, ?_⟩
  rw [e]
  have h1 : (s.succ f.1).length ≤ 14400 := Nat.le_trans (succ_few s f.1) (h.core.edges_few hg.1 b.nd)
  have h2 := b.le
  show (s.wait ++ (s.succ f.1).map fun t => (t, f.2)).length ≤ s.rules.length + s.edges.length * P.objectsV + _
  rw [List.length_append, List.length_map]
  omega
theorem bnd_came (hg : P.GoodS S) (hc : ClosedP P S) (h : Full P S s) (b : s.Bnd P) (hr : s.ready) {f : Int × Int} {r : List (Int × Int)} (hw : s.wait = f :: r) : ((s.mark f).came P f).Bnd P := by
  obtain ⟨hf, h2⟩ := wait_fact hg h hw
  rw [came_ask]
  exact (asks_fold hg hc hf.2 _ (h.marked hg hf h2) (told1_bnd hg h b hr hw) fun q hq => h.of q hq).2.1
theorem bnd_clean (b : s.Bnd P) : s.clean.Bnd P := by
  refine ⟨b.nd, b.ru, ?_⟩
  rw [tot_has (clean_has s)]
  refine Nat.le_trans ?_ b.le
  exact (List.dropWhile_suffix s.bit).length_le
theorem bnd_one (hg : P.GoodS S) (hc : ClosedP P S) (h : Full P S s) (b : s.Bnd P) (hr : s.ready) : (s.one P).Bnd P := by
  cases hw : s.wait with
  | nil =>
    have e : s.one P = s := by unfold SV.one; rw [hw]
    rw [e]; exact b
  | cons f r =>
    have e : s.one P = ((s.mark f).came P f).clean := by unfold SV.one; rw [hw]
    rw [e]
    exact bnd_clean (bnd_came hg hc h b hr hw)
def SV.step (P : PP) (s : SV) (n : Int) : SV × Nat := s.clean.steps P n.toNat
theorem steps_nil (P : PP) : ∀ (k : Nat) {s : SV}, s.wait = [] → s.steps P k = (s, 0)
  | 0, _, _ => rfl
  | k + 1, _, h => by unfold SV.steps; rw [h]
theorem steps_cons (P : PP) (k : Nat) {s : SV} {f : Int × Int} {r : List (Int × Int)} (h : s.wait = f :: r) : s.steps P (k + 1) = (((s.one P).steps P k).1, ((s.one P).steps P k).2 + 1) := by
  conv => lhs; unfold SV.steps
  rw [h]
theorem steps_bnd (hg : P.GoodS S) (hc : ClosedP P S) : ∀ (k : Nat) {s : SV}, Full P S s → s.Bnd P → s.ready → (s.steps P k).1.Bnd P
  | 0, _, _, b, _ => b
  | k + 1, s, h, b, hr => by
    cases hw : s.wait with
    | nil => rw [steps_nil P _ hw]; exact b
    | cons f r =>
      rw [steps_cons P k hw]
      obtain ⟨k1, k2, _⟩ := h.one hg hc hr hw
      exact steps_bnd hg hc k k1 (bnd_one hg hc h b hr) k2
structure SolvOk (P : PP) (S : List (List Int)) (s : SV) : Prop where
  full : Full P S s
  bnd : s.Bnd P
theorem SolvOk.clean (h : SolvOk P S s) : SolvOk P S s.clean := ⟨h.full.cleaned, bnd_clean h.bnd⟩
theorem SolvOk.step (hg : P.GoodS S) (hc : ClosedP P S) (h : SolvOk P S s) (n : Int) :
    SolvOk P S (s.step P n).1 ∧ (s.step P n).1.ready ∧ (s.step P n).1.rules = s.rules ∧ (s.step P n).1.tot P = s.tot P + (s.step P n).2 ∧ (s.step P n).2 ≤ n.toNat ∧ ((s.step P n).2 < n.toNat → (s.step P n).1.wait = []) := by
  obtain ⟨k1, k2, k3, k4, k5, k6⟩ := steps_keep hg hc n.toNat h.full.cleaned (clean_ready s)
  exact ⟨⟨k1, steps_bnd hg hc _ h.full.cleaned (bnd_clean h.bnd) (clean_ready s)⟩, k2, k3, by rw [← tot_has (clean_has s)]; exact k4, k5, k6⟩
end
def SV.hasL (P : PP) (s : SV) (n : Int) : List Int := if n < 0 ∨ (P.nodesV : Int) ≤ n then [] else s.objs n
theorem Core.push {P : PP} {S : List (List Int)} {s : SV} (h : Core P S s) {r : RV} (n1 : r.kind.toList ≠ bBase.toList) (n2 : r.kind.toList ≠ kCopy) : Core P S { s with rules := s.rules ++ [r] } :=
  ⟨h.len, h.row, h.wait, h.bit, h.edge, h.along, fun q hq hk => by
      rcases List.mem_append.1 hq with hq | hq
      · exact h.base q hq hk
      · obtain rfl := List.mem_singleton.1 hq
        exact absurd hk n1, fun q hq hk => by
      rcases List.mem_append.1 hq with hq | hq
      · exact h.copy q hq hk
      · obtain rfl := List.mem_singleton.1 hq
        exact absurd hk n2⟩
theorem bnd_push {P : PP} {s : SV} (b : s.Bnd P) (r : RV) (h : s.rules.length < 80) : SV.Bnd P { s with rules := s.rules ++ [r] } := by
  have h1 := b.le
  refine ⟨b.nd, by simp only [List.length_append, List.length_singleton]; omega, ?_⟩
  have e : SV.tot P { s with rules := s.rules ++ [r] } = s.tot P := tot_has rfl
  rw [e]
  simp only [List.length_append, List.length_singleton]
  omega
theorem bnd_fires {P : PP} {S : List (List Int)} (hg : P.GoodS S) (hc : ClosedP P S) {r : RV} (hr : r ∈ P.rulesV) (hf : r.fired = true) : ∀ (l : List Int) {s : SV}, Core P S s → s.Bnd P → (∀ o ∈ l, o ∈ S.getD r.pivot.toNat []) → (l.foldl (fun s o => s.fire P r o) s).Bnd P
  | [], _, _, b, _ => b
  | o :: l, _, h, b, hs => bnd_fires hg hc hr hf l (h.fire hg hc hr hf (hs o List.mem_cons_self)).1 (bnd_fire hg hc h b hr hf (hs o List.mem_cons_self)) fun q hq => hs q (List.mem_cons_of_mem _ hq)
theorem bnd_add {P : PP} {S : List (List Int)} {s : SV} (hg : P.GoodS S) (hc : ClosedP P S) (h : Full P S s) (b : s.Bnd P) {r : RV} (hr : r ∈ P.rulesV) (h80 : s.rules.length < 80) : (s.add P r).Bnd P := by
  unfold SV.add
  cases h1 : (r.kind.toList == bBase.toList) with
  | true =>
    rw [cond_true]
    have h2 := b.le
    refine ⟨b.nd, by simp only [List.length_append, List.length_singleton]; omega, ?_⟩
    have e : SV.tot P { s with rules := s.rules ++ [r], wait := s.wait ++ [(r.a, r.b)] } = s.tot P := tot_has rfl
    rw [e]
    simp only [List.length_append, List.length_singleton]
    omega
  | false =>
  have n1 : r.kind.toList ≠ bBase.toList := fun e => by rw [e] at h1; simp at h1
  rw [cond_false]
  have hb := bnd_push b r h80
  cases h2 : (r.kind.toList == kCopy) with
  | true =>
    rw [cond_true]
    have hm : SV.edge { s with rules := s.rules ++ [r] } (r.a, r.b) = { s.edge (r.a, r.b) with rules := s.rules ++ [r] } := by unfold SV.edge; split <;> rfl
    have := (b.edgeTo h.core (r.a, r.b))
    rw [hm]
    have h5 := bnd_push (s := s.edge (r.a, r.b)) this r (by rw [edge_rules]; exact h80)
    rw [edge_rules] at h5
    exact h5
  | false =>
  have n2 : r.kind.toList ≠ kCopy := fun e => by rw [e] at h2; simp at h2
  have hf : r.fired = true := by
    rcases rule_kinds hg.1 hr with g | g | g
    · exact absurd g n1
    · exact absurd g n2
    · exact g
  rw [cond_false]
  refine bnd_fires hg hc hr hf _ (h.core.push n1 n2) hb fun o ho => ?_
  obtain ⟨h0, hb⟩ := mem_objs.1 ho
  exact h.core.bit (r.pivot, o) hb h0
theorem SolvOk.add {P : PP} {S : List (List Int)} {s : SV} (hg : P.GoodS S) (hc : ClosedP P S) (h : SolvOk P S s) {r : RV} (hr : r ∈ P.rulesV) (h80 : s.rules.length < 80) : SolvOk P S (s.add P r) := ⟨(h.full.added hg hc hr).1, bnd_add hg hc h.full h.bnd hr h80⟩
section
variable {w w1 w2 : World} {G F : Nat → Prop} {g : Nat} {ad : Nat → Addr} {a1 a2 a3 : Option Addr} {c1 c2 c3 : Nat} {P : PP} {vr : Value} {rs : List R2} {vh : Value} {hs : List Value} {m1 m2 : Nat} {f1 : Int → Option Value} {vw : Value} {s : SV}
end
section
variable {P : PP} {S : List (List Int)} {s : SV} {m : Nat}
def SV.start (P : PP) : SV := P.rulesV.foldl (SV.add P) (SV.zero P)
end
def sumUp (S : List (List Int)) (k : Nat) : Nat := ((List.range k).map fun n : Nat => (S.getD n []).length).sum
set_option maxRecDepth 100000 in
set_option maxHeartbeats 6400000 in
theorem cycleonelaw_no (a1 a2 a3 : Option Addr) (c1 c2 c3 : Nat) (P : PP) (w : World) (ad : Nat → Addr) (hE : ErrsP w ad) (hS : ErrS w ad) (hP : ProgR w w.heap.size (.slice a1 P.vars.length c1) (.slice a2 P.funs.length c2) (.slice a3 P.stmts.length c3) P) (hw : ¬ P.Well) :
    Calls Tryz.prog 4 #[pval a1 a2 a3 c1 c2 c3 P] w fun e w' => e = .returned (.bool true) ∧ Ext w w' := by
  have Hw := hid hw
  clear hw
  have HE := hid hE
  have HS := hid hS
  have HP := hid hP
  obtain ⟨W1, hW1⟩ : ∃ W1, W1 = w.alloc (.cells (pcells a1 a2 a3 c1 c2 c3 P) 26) := ⟨_, rfl⟩
  have HX1 : Hid (Ext w W1) := hid (by rw [hW1]; exact (Ext.refl _).alloc _)
  have HB1 : Hid (Blk W1 w.heap.size (pcells a1 a2 a3 c1 c2 c3 P) 26) := hid (by rw [hW1]; exact Blk.new _ _ _)
  have HR := hid (grouped_any W1 ad (hS.ext HX1.out).at2)
  have HW1 : Hid (W1 = w.alloc (.cells #[.slice a1 P.vars.length c1, .slice a2 P.funs.length c2, .slice a3 P.stmts.length c3] 26)) := hid (by rw [hW1]; rfl)
  unfold pval
  clear hE hS hP hW1
  go_enter Tryz.func4, Tryz.ntmps4
  go_wp2_with fail
  rw [← HW1.out]
  refine HR.out.mono ?_
  intro e w1 hx
  obtain ⟨rfl, hx1⟩ := hx
  have HL := hid (large_q a1 a2 a3 c1 c2 c3 20 (by omega) P w1 w.heap.size (HP.out.ext (HX1.out.trans hx1)))
  rw [show ((20 : Nat) : Int) = (20 : Int) from rfl] at HL
  unfold pval at HL
  have HX1' := hid (HX1.out.trans hx1)
  have HBp1 := hid (HB1.out.ext hx1)
  have p0 := HBp1.out.av 0 rfl
  have p1 := HBp1.out.av 1 rfl
  have p2 := HBp1.out.av 2 rfl
  simp only [pcells, qA0, qA1, qA2] at p0 p1 p2
  clear HR hx1
  go_wp2_with fail
  refine HL.out.mono ?_
  intro e w2 hx
  obtain ⟨r, rfl, hr, hsm, hx2⟩ := hx
  have HX2 := hid (HX1'.out.trans hx2)
  have HBp := hid (HBp1.out.ext hx2)
  clear HL hx2 p0 p1 p2
  rcases (by omega : r = 1 ∨ r = 0) with rfl | rfl
  · clear hsm hr
    go_wp2
    go_ret
    exact ⟨rfl, HX2.out⟩
  have HSm := hid (hsm rfl).1
  have HQl := hid (hsm rfl).2.1
  have HVl := hid (hsm rfl).2.2
  clear hsm hr
  have hz1 : ∀ s ∈ P.vars, s.size ≤ 1000000 := fun s hs => by have := HSm.out.vs s hs; omega
  have hz2 : ∀ s ∈ P.names, s.size ≤ 1000000 := fun s hs => by
    obtain ⟨f, hf, rfl⟩ := List.mem_map.1 hs
    have := (HSm.out.fs f hf).1
    omega
  have Hz1 := hid hz1
  have Hz2 := hid hz2
  have HPS := hid (show PS0 w2 w2.heap.size ad a1 a2 a3 c1 c2 c3 P from ⟨HE.out.ext HX2.out, (HP.out.ext HX2.out).lift HX2.out.size, Hz1.out, Hz2.out⟩)
  clear hz1 hz2
  have HQ := hid (ownprogram_any a1 a2 a3 c1 c2 c3 P w2 HPS.out.prog HSm.out)
  have p0 := HBp.out.av 0 rfl
  have p1 := HBp.out.av 1 rfl
  have p2 := HBp.out.av 2 rfl
  simp only [pcells, qA0, qA1, qA2] at p0 p1 p2
  unfold pval at HQ
  go_wp2_with fail
  refine HQ.out.mono ?_
  intro e w3 hx
  obtain ⟨hx3, b1, b2, b3, d1, d2, d3, rfl, hq⟩ := hx
  have HX3 := hid (HX2.out.trans hx3)
  have Hx3 := hid hx3
  have HPQ := hid (show PS0 w3 w3.heap.size ad b1 b2 b3 d1 d2 d3 P from ⟨HE.out.ext HX3.out, hq, Hz1.out, Hz2.out⟩)
  have HS3 := hid (HS.out.ext HX3.out)
  clear HQ hx3 hq p0 p1 p2
  obtain ⟨W9, hW9⟩ : ∃ W9, W9 = w3.alloc (.cells (pcells b1 b2 b3 d1 d2 d3 P) 26) := ⟨_, rfl⟩
  have hx9 : Ext w3 W9 := by rw [hW9]; exact (Ext.refl _).alloc _
  have HX9 : Hid (Ext w W9) := hid (HX3.out.trans hx9)
  have HB9 : Hid (Blk W9 w3.heap.size (pcells b1 b2 b3 d1 d2 d3 P) 26) := hid (by rw [hW9]; exact Blk.new _ _ _)
  have HW9 : Hid (W9 = w3.alloc (.cells #[.slice b1 P.vars.length d1, .slice b2 P.funs.length d2, .slice b3 P.stmts.length d3] 26)) := hid (by rw [hW9]; rfl)
  have HQ9 := hid (HPQ.out.on (Nat.le_refl _) hx9)
  have HS9 := hid (HS3.out.ext hx9)
  clear hW9 hx9
  have HL := hid (cyclemerged_no b1 b2 b3 d1 d2 d3 P W9 W9.heap.size ad HQ9.out Hw.out)
  have g0 := (HB9.out.ext (Ext.refl _)).av 0 rfl
  have g1 := (HB9.out.ext (Ext.refl _)).av 1 rfl
  have g2 := (HB9.out.ext (Ext.refl _)).av 2 rfl
  simp only [pcells, qA0, qA1, qA2] at g0 g1 g2
  rw [HW9.out] at g0 g1 g2
  unfold pval at HL
  go_wp2_with fail
  rw [← HW9.out]
  refine HL.out.mono ?_
  intro e w4 hx
  obtain ⟨t, x, rfl, _, hx4⟩ := hx
  have HX4 := hid (HX9.out.trans hx4)
  clear HL hx4 g0 g1 g2
  go_wp2
  go_ret
  exact ⟨rfl, HX4.out⟩
set_option maxRecDepth 100000 in
set_option maxHeartbeats 6400000 in
theorem cycleonelaw_yes (a1 a2 a3 : Option Addr) (c1 c2 c3 : Nat) (P : PP) (w : World) (ad : Nat → Addr) (hE : ErrsP w ad) (hS : ErrS w ad) (hP : ProgR w w.heap.size (.slice a1 P.vars.length c1) (.slice a2 P.funs.length c2) (.slice a3 P.stmts.length c3) P) (hw : P.Well) :
    Calls Tryz.prog 4 #[pval a1 a2 a3 c1 c2 c3 P] w fun e w' => e = .returned (.bool true) ∧ Ext w w' := by
  obtain ⟨ks, S, hL⟩ := least_exists hw
  have HLe := hid hL
  have Hw := hid hw
  have Hg := hid (hL.good hw)
  have Hc := hid (hL.closed hw)
  have Hn := hid (nodesV_le P hw)
  clear hw hL
  have HE := hid hE
  have HS := hid hS
  have HP := hid hP
  obtain ⟨W1, hW1⟩ : ∃ W1, W1 = w.alloc (.cells (pcells a1 a2 a3 c1 c2 c3 P) 26) := ⟨_, rfl⟩
  have HX1 : Hid (Ext w W1) := hid (by rw [hW1]; exact (Ext.refl _).alloc _)
  have HB1 : Hid (Blk W1 w.heap.size (pcells a1 a2 a3 c1 c2 c3 P) 26) := hid (by rw [hW1]; exact Blk.new _ _ _)
  have HR := hid (grouped_any W1 ad (hS.ext HX1.out).at2)
  have HW1 : Hid (W1 = w.alloc (.cells #[.slice a1 P.vars.length c1, .slice a2 P.funs.length c2, .slice a3 P.stmts.length c3] 26)) := hid (by rw [hW1]; rfl)
  unfold pval
  clear hE hS hP hW1
  go_enter Tryz.func4, Tryz.ntmps4
  go_wp2_with fail
  rw [← HW1.out]
  refine HR.out.mono ?_
  intro e w1 hx
  obtain ⟨rfl, hx1⟩ := hx
  have HL := hid (large_q a1 a2 a3 c1 c2 c3 20 (by omega) P w1 w.heap.size (HP.out.ext (HX1.out.trans hx1)))
  rw [show ((20 : Nat) : Int) = (20 : Int) from rfl] at HL
  unfold pval at HL
  have HX1' := hid (HX1.out.trans hx1)
  have HBp1 := hid (HB1.out.ext hx1)
  have p0 := HBp1.out.av 0 rfl
  have p1 := HBp1.out.av 1 rfl
  have p2 := HBp1.out.av 2 rfl
  simp only [pcells, qA0, qA1, qA2] at p0 p1 p2
  clear HR hx1
  go_wp2_with fail
  refine HL.out.mono ?_
  intro e w2 hx
  obtain ⟨r, rfl, hr, hsm, hx2⟩ := hx
  have HX2 := hid (HX1'.out.trans hx2)
  have HBp := hid (HBp1.out.ext hx2)
  clear HL hx2 p0 p1 p2
  rcases (by omega : r = 1 ∨ r = 0) with rfl | rfl
  · clear hsm hr
    go_wp2
    go_ret
    exact ⟨rfl, HX2.out⟩
  have HSm := hid (hsm rfl).1
  have HQl := hid (hsm rfl).2.1
  have HVl := hid (hsm rfl).2.2
  clear hsm hr
  have hz1 : ∀ s ∈ P.vars, s.size ≤ 1000000 := fun s hs => by have := HSm.out.vs s hs; omega
  have hz2 : ∀ s ∈ P.names, s.size ≤ 1000000 := fun s hs => by
    obtain ⟨f, hf, rfl⟩ := List.mem_map.1 hs
    have := (HSm.out.fs f hf).1
    omega
  have Hz1 := hid hz1
  have Hz2 := hid hz2
  have HPS := hid (show PS0 w2 w2.heap.size ad a1 a2 a3 c1 c2 c3 P from ⟨HE.out.ext HX2.out, (HP.out.ext HX2.out).lift HX2.out.size, Hz1.out, Hz2.out⟩)
  clear hz1 hz2
  have HQ := hid (ownprogram_any a1 a2 a3 c1 c2 c3 P w2 HPS.out.prog HSm.out)
  have p0 := HBp.out.av 0 rfl
  have p1 := HBp.out.av 1 rfl
  have p2 := HBp.out.av 2 rfl
  simp only [pcells, qA0, qA1, qA2] at p0 p1 p2
  unfold pval at HQ
  go_wp2_with fail
  refine HQ.out.mono ?_
  intro e w3 hx
  obtain ⟨hx3, b1, b2, b3, d1, d2, d3, rfl, hq⟩ := hx
  have HX3 := hid (HX2.out.trans hx3)
  have Hx3 := hid hx3
  have HPQ := hid (show PS0 w3 w3.heap.size ad b1 b2 b3 d1 d2 d3 P from ⟨HE.out.ext HX3.out, hq, Hz1.out, Hz2.out⟩)
  have HS3 := hid (HS.out.ext HX3.out)
  clear HQ hx3 hq p0 p1 p2
  obtain ⟨W9, hW9⟩ : ∃ W9, W9 = w3.alloc (.cells (pcells b1 b2 b3 d1 d2 d3 P) 26) := ⟨_, rfl⟩
  have hx9 : Ext w3 W9 := by rw [hW9]; exact (Ext.refl _).alloc _
  have HX9 : Hid (Ext w W9) := hid (HX3.out.trans hx9)
  have HB9 : Hid (Blk W9 w3.heap.size (pcells b1 b2 b3 d1 d2 d3 P) 26) := hid (by rw [hW9]; exact Blk.new _ _ _)
  have HW9 : Hid (W9 = w3.alloc (.cells #[.slice b1 P.vars.length d1, .slice b2 P.funs.length d2, .slice b3 P.stmts.length d3] 26)) := hid (by rw [hW9]; rfl)
  have HQ9 := hid (HPQ.out.on (Nat.le_refl _) hx9)
  have HS9 := hid (HS3.out.ext hx9)
  clear hW9 hx9
  have HL := hid (cyclemerged_ok b1 b2 b3 d1 d2 d3 P W9 ad (HQ9.out.pw Hw.out) HS9.out ks S HLe.out)
  have g0 := (HB9.out.ext (Ext.refl _)).av 0 rfl
  have g1 := (HB9.out.ext (Ext.refl _)).av 1 rfl
  have g2 := (HB9.out.ext (Ext.refl _)).av 2 rfl
  simp only [pcells, qA0, qA1, qA2] at g0 g1 g2
  rw [HW9.out] at g0 g1 g2
  unfold pval at HL
  go_wp2_with fail
  rw [← HW9.out]
  clear g0 g1 g2
  refine HL.out.mono ?_
  intro e w4 hx
  obtain ⟨g, G, rfl, hG, hrow, hx4⟩ := hx
  have HG := hid hG
  have Hrow := hid hrow
  have Hx4 := hid hx4
  have HF := hid (fixleast_ok b1 b2 b3 d1 d2 d3 P w4 ad ((HQ9.out.on (Nat.le_refl _) hx4).pw Hw.out) (HS9.out.ext hx4) ks S HLe.out)
  have g0 := (HB9.out.ext Hx4.out).av 0 rfl
  have g1 := (HB9.out.ext Hx4.out).av 1 rfl
  have g2 := (HB9.out.ext Hx4.out).av 2 rfl
  simp only [pcells, qA0, qA1, qA2] at g0 g1 g2
  unfold pval at HF
  clear HL hG hrow hx4
  go_wp2_with fail
  clear g0 g1 g2
  refine HF.out.mono ?_
  intro e w5 hx
  obtain ⟨aS, cS, rfl, hs, hx5⟩ := hx
  have Hs5 := hid hs
  have Hx5 := hid (Hx4.out.trans hx5)
  have Hrow5 := hid (own_ext Hrow.out hx5)
  have HEd := hid (edges_fix b1 b2 b3 d1 d2 d3 P (.slice aS P.nodesV cS) S w5 ad ((HQ9.out.on (Nat.le_refl _) Hx5.out).pw Hw.out) (HS9.out.ext Hx5.out) hs Hg.out)
  have g0 := (HB9.out.ext Hx5.out).av 0 rfl
  have g1 := (HB9.out.ext Hx5.out).av 1 rfl
  have g2 := (HB9.out.ext Hx5.out).av 2 rfl
  simp only [pcells, qA0, qA1, qA2] at g0 g1 g2
  unfold pval at HEd
  clear HF hs hx5
  go_wp2_with fail
  clear g0 g1 g2
  refine HEd.out.mono ?_
  intro e w6 hx
  obtain ⟨aE, cE, rfl, hr, hlen, hx6⟩ := hx
  have Hr6 := hid (EsR.own (ERow.ext hr (Ext.refl _)) (Nat.le_refl _))
  have Hx6 := hid (Hx5.out.trans hx6)
  have Hs6 := hid ((Hs5.out.ext hx6).lift hx6.size)
  have Hrow6 := hid (own_ext Hrow5.out hx6)
  have HO := hid (cycleorder_yes P.nodesV (.slice aE (P.edgesL S).length cE) (P.edgesL S) w6 w6.heap.size ad (HS9.out.ext Hx6.out).at2 Hr6.out (by omega) (by have := Hn.out; omega) (edgesL_in S).all (Nat.le_refl _))
  clear HEd hr hx6
  go_wp2_with fail
  refine HO.out.mono ?_
  intro e w7 hx
  obtain ⟨u7, G', rfl, hG', hro, hx7⟩ := hx
  obtain rfl := hG'.uniq HG.out
  obtain ⟨o, ho⟩ : ∃ o, o = ordRun (P.edgesL S) G' (sset G').length (sset G') := ⟨_, rfl⟩
  rw [← ho] at hro
  obtain ⟨a7, c7, rfl⟩ := hro.form
  obtain ⟨on1, on2, on3⟩ := ord_good (edgesL_in S) HG.out (by have := Hn.out; omega)
  rw [← ho] at on1 on2 on3
  have Ho := hid ho
  have On1 := hid on1
  have On2 := hid on2
  have Hro := hid hro
  have Hx7 := hid (Hx6.out.trans hx7)
  have Hr7 := hid (Hr6.out.ext hx7)
  have Hs7 := hid (Hs6.out.ext hx7)
  have Hrow7 := hid (own_ext Hrow6.out hx7)
  have hS' : S.length = P.nodesV := Hg.out.2.1
  have HSl := hid hS'
  obtain ⟨N, hN⟩ : ∃ N, N = P.nodesV := ⟨_, rfl⟩
  have HN := hid hN
  have hN120 : N ≤ 120 := by rw [hN]; exact Hn.out
  obtain ⟨E, hEE⟩ : ∃ E, E = P.edgesL S := ⟨_, rfl⟩
  have HEE := hid hEE
  rw [← hN] at HG Hrow7 Hs7 HSl On2
  rw [← hEE] at Hr7 HG Ho hlen
  rw [← hEE]
  rw [← hN]
  clear HO hG' hro hx7 ho on1 on2 hS' hN hEE Hrow Hrow5 Hrow6 Hs5 Hs6 Hr6
  obtain ⟨ti, hi, hz0, hz1, hz2⟩ := info_parts int_info1
  have hlow := (World.ownsRow.lt Hro.out)
  have Hlow := hid hlow
  have Hlen := hid hlen
  clear hlow hlen
  go_wp2_with (at_make; refine wpList_make_full w7 rfl _ _ _ rfl w7.heap.size 3 ti (.int .i64 0) 1 Tryz.underlying43 hi hz0 hz1 .i64 .i64 (N : Int) (N : Int) N rfl rfl rfl rfl (by rw [hz2]; omega) (by unfold maxLen; omega) (Nat.le_refl _) ?_; intro w8 hrow hgr; rw [show (Value.int .i64 0).cells = #[Value.int .i64 0] from rfl, toList_madeCells_one, Nat.mul_one] at hrow)
  clear hi hz0 hz1 hz2
  have Hx8 := hid (show Ext w7 w8 from Keep.new (Ext.refl w7) (grown_keep hgr) (fun k hk => by cases hk))
  obtain ⟨gp, hgp⟩ : ∃ gp, gp = w7.heap.size := ⟨_, rfl⟩
  rw [← hgp] at hrow ⊢
  have Hgp := hid hgp
  have HQ0 : Hid (w8.ownsRow gp 3 1 (.slice (some ⟨gp, 0, none⟩) N N) N (icells (List.replicate N 0))) := hid (by
    have : icells (List.replicate N 0) = List.replicate N (Value.int .i64 0) := by unfold icells; rw [List.map_replicate]
    rw [this]; exact hrow)
  clear hrow hgr hgp
  go_loopw [16] (fun t16 wr => ∃ (k : Nat) (Q : List Int), t16 = .int .i64 (k : Int) ∧ k ≤ o.length ∧ PlaceQ N o k Q ∧ wr.ownsRow gp 3 1 (.slice (some ⟨gp, 0, none⟩) N N) N (icells Q) ∧ Keep (fun q => q = gp) w8 wr) (fun t16 _ => o.length - (intOf t16).toNat)
  case atStart => exact ⟨0, _, rfl, Nat.zero_le _, PlaceQ.start N o, HQ0.out, Keep.refl _ _⟩
  case round =>
    obtain ⟨k, Q, rfl, hk, hQ, hR, hK⟩ := hrel
    have HQ := hid hQ
    have HRp := hid hR
    have HK := hid hK
    clear hQ hR hK
    by_cases hlt : k < o.length
    · obtain ⟨x, hx⟩ : ∃ x, o[k]? = some x := ⟨_, List.getElem?_eq_getElem hlt⟩
      obtain ⟨ob, hob⟩ : ∃ ob, a7 = some ⟨ob, 0, none⟩ := by
        rcases Hro.out.case with ⟨_, h2⟩ | ⟨ob, cq, h1⟩
        · rw [h2] at hlt; simp at hlt
        · exact ⟨ob, (by simpa using h1 : _ ∧ _).1⟩
      subst hob
      have hxb := On2.out x (List.mem_of_getElem? hx)
      have HQn := hid (HQ.out.step On1.out On2.out hx)
      obtain ⟨xn, rfl⟩ := Int.eq_ofNat_of_zero_le hxb.1
      have hro2 := row_keep (own_ext Hro.out Hx8.out) HK.out (fun b hb e => by
        have h1 := (Hlow.out b hb).2
        have := Hgp.out
        omega)
      have q0 := own_get hro2 k (icells_at hx)
      have hxn : xn < N := by omega
      have hQl : xn < (icells Q).length := by unfold icells; rw [List.length_map, HQ.out.len]; exact hxn
      have HRn : Hid ((wr.setCell ⟨gp, xn, none⟩ (.int .i64 (k : Int))).ownsRow gp 3 1 (.slice (some ⟨gp, 0, none⟩) N N) N (icells (Q.set xn (k : Int)))) := hid (by
        have := own_set HRp.out xn hQl (.int .i64 (k : Int))
        rw [show (icells Q).set xn (.int .i64 (k : Int)) = icells (Q.set xn (k : Int)) by unfold icells; rw [List.map_set]] at this
        exact this)
      have HKn := hid (HK.out.trans ((Keep.refl (fun q => q = gp) wr).set (p := ⟨gp, xn, none⟩) rfl (.int .i64 (k : Int))))
      obtain ⟨y, hy⟩ : ∃ y, Q[xn]? = some y := ⟨_, List.getElem?_eq_getElem (by rw [HQ.out.len]; exact hxn)⟩
      have q1 := own_get HRp.out xn (icells_at hy)
      have fr := (show ∃ c, Blk wr gp c 3 from own_ty HRp.out (k := gp) rfl).elim fun c hc => hc.free xn
      rw [Int.toNat_natCast] at HQn
      clear hx hxb hro2 hQl hy
      go_wp2
      go_roundw
      case rel => exact ⟨k + 1, _, by go_num, by omega, HQn.out, HRn.out, HKn.out⟩
      case measure => simp [intOf]; omega
    · obtain rfl : k = o.length := by omega
      obtain ⟨wz, hwz⟩ : ∃ x, x = wr := ⟨_, rfl⟩
      subst hwz
      have HXz : Hid (Ext w7 wz) := hid (Keep.new Hx8.out HK.out fun b hb => by rw [hb, Hgp.out]; exact Nat.le_refl _)
      have HRz := hid (own_ext Hrow7.out HXz.out)
      have HSz := hid (Hs7.out.ext HXz.out)
      have HEz := hid (Hr7.out.ext HXz.out)
      have Hxall := hid (HX9.out.trans (Hx7.out.trans HXz.out))
      clear HQ0
      go_wp2
      go_loopw [17] (fun t17 wr => ∃ k : Nat, t17 = .int .i64 (k : Int) ∧ k ≤ N ∧ Ext wz wr) (fun t17 _ => N - (intOf t17).toNat)
      case atStart => exact ⟨0, rfl, Nat.zero_le _, Ext.refl _⟩
      case round =>
        obtain ⟨k, rfl, hk, hx⟩ := hrel
        have Hx := hid hx
        clear hx
        by_cases hlt : k < N
        · obtain ⟨r, hr, hrk, hsame⟩ := grp_same Hg.out Hc.out (by rw [← HN.out, ← HEE.out]; exact HG.out) (i := k) (by rw [← HN.out]; exact hlt)
          have q0 := own_get (own_ext HRz.out Hx.out) k (icells_at hr)
          obtain ⟨ya, l, bl, cl, hya, hl, hcl, hIl⟩ := (HSz.out.ext Hx.out).at (k := k) (by rw [HSl.out]; exact hlt)
          obtain ⟨yb, m, bm, cm, hyb, hm, hcm, hIm⟩ := (HSz.out.ext Hx.out).at (k := r) (by rw [HSl.out]; omega)
          subst hya
          obtain rfl := Option.some.inj hyb
          have elm : l = m := by
            rw [List.getD_eq_getElem?_getD, List.getD_eq_getElem?_getD, hl, hm] at hsame
            exact hsame
          have hok := (chkE_zero.1 (Hg.out.ok.ok l (List.mem_of_getElem? hl)).1).1
          have hll := hIl.len
          have hml := hIm.len
          have HC := fun w1 (x : Ext wr w1) => hid (sameints_any bl bm l.length m.length cl cm l m w1 (IntsR.ints (hIl.old (x.old _)) (setok_few (Hg.out.ok.ok l (List.mem_of_getElem? hl)).1)) (IntsR.ints (hIm.old (x.old _)) (setok_few (Hg.out.ok.ok m (List.mem_of_getElem? hm)).1)) hll hml)
          rw [decide_eq_true elm] at HC
          have c0 : ∀ w1, Keep (fun _ => False) wr w1 → w1.cell? (ya.add k) = some (.slice bl l.length cl) := fun w1 k => k.ext.cellx hcl
          have c1 : ∀ w1, Keep (fun _ => False) wr w1 → w1.cell? (ya.add r) = some (.slice bm m.length cm) := fun w1 k => k.ext.cellx hcm
          have c2 : ∀ w1, Keep (fun _ => False) wr w1 → w1.cell? ⟨g, k, none⟩ = some (.int .i64 (r : Int)) := fun w1 k => k.ext.cellx q0
          have hrN : r < N := by omega
          clear hr hsame hl hm hcl hcm hIl hIm elm hok hyb
          go_wp2
          clear q0
          refine wp_flowT (fun _ => False) (by kernel_rfl) (by kernel_rfl) ?_
          repeat (apply FlowT.d; (intro w1 hk; unfold does; go_simp; (try go_ints); (first | exact DetR.mk | (simp only [↓IntWalk.iteOmega, Oper.doesUpon_value]; exact DetR.mk) | (simp only [↓IntWalk.iteOmega]; go_simp; (try go_ints); exact DetR.mk))); simp only [Act.put, qS0, qS1, qS2])
          apply FlowT.d
          · intro w1 hk
            unfold does
            go_simp
            exact CallR.det ((HC w1 hk.ext).out)
          simp only [Act.put, qS0, qS1, qS2]
          repeat (apply FlowT.d; (intro w1 hk; unfold does; go_simp; (try go_ints); (first | exact DetR.mk | (simp only [↓IntWalk.iteOmega, Oper.doesUpon_value]; exact DetR.mk) | (simp only [↓IntWalk.iteOmega]; go_simp; (try go_ints); exact DetR.mk))); simp only [Act.put, qS0, qS1, qS2])
          refine FlowT.fin fun w1 hx1 hk1 => ?_
          have Hx1 := hid (Hx.out.trans hx1)
          clear HC hx1 hk1 c0 c1 c2
          go_wp2
          go_roundw
          case rel => exact ⟨k + 1, by go_num, by omega, Hx1.out⟩
          case measure => simp [intOf]; omega
        · have hkN : N = k := by omega
          subst hkN
          obtain ⟨wy, hwy⟩ : ∃ x, x = wr := ⟨_, rfl⟩
          subst hwy
          have Hxy := hid Hx.out
          go_wp2
          go_loopw [18] (fun t18 wr => ∃ k : Nat, t18 = .int .i64 (k : Int) ∧ k ≤ E.length ∧ Ext wz wr) (fun t18 _ => E.length - (intOf t18).toNat)
          case atStart => exact ⟨0, rfl, Nat.zero_le _, Hxy.out⟩
          case round =>
            obtain ⟨k, rfl, hk, hx⟩ := hrel
            have Hx := hid hx
            clear hx
            by_cases hlt : k < E.length
            · have hE5 := Hlen.out
              obtain ⟨e, he⟩ : ∃ e, E[k]? = some e := ⟨_, List.getElem?_eq_getElem hlt⟩
              obtain ⟨y, hya, hyb, q0, q1⟩ := (HEz.out.ext Hx.out).at2 he
              subst hya
              have hmem := List.mem_of_getElem? he
              have hein : EIn N E := by rw [HEE.out, HN.out]; exact edgesL_in S
              have HEin := hid hein
              have hein := hein e hmem
              obtain ⟨x1, x2⟩ := e
              simp only at q0 q1 hein
              obtain ⟨⟨e1, e2⟩, e3, e4⟩ := hein
              obtain ⟨m1, rfl⟩ := Int.eq_ofNat_of_zero_le e1
              obtain ⟨m2, rfl⟩ := Int.eq_ofNat_of_zero_le e3
              obtain ⟨k1, hk1, _, k1n, m1n⟩ := HG.out.get (x := (m1 : Int)) (by omega)
              obtain ⟨k2, hk2, _, k2n, m2n⟩ := HG.out.get (x := (m2 : Int)) (by omega)
              have hpl := fun hne : (k1 : Int) ≠ (k2 : Int) => place_less HEin.out HG.out (by omega) (by rw [← Ho.out]; exact HQ.out) hmem (a := (k1 : Int)) (b := (k2 : Int)) hk1 hk2 hne
              rw [Int.toNat_natCast] at hk1 hk2 m1n m2n
              rw [Int.toNat_natCast, Int.toNat_natCast] at hpl
              have Hpl := hid hpl
              have r1 := own_get (own_ext HRz.out Hx.out) m1 (icells_at hk1)
              have r2 := own_get (own_ext HRz.out Hx.out) m2 (icells_at hk2)
              have HRp2 := hid (own_ext HRp.out Hx.out)
              clear he hmem e1 e2 e3 e4 hk1 hk2 hpl
              by_cases hne : k1 = k2
              · subst hne
                go_wp2
                clear q0 q1 r1 r2
                refine wp_flowT (fun _ => False) (by kernel_rfl) (by kernel_rfl) ?_
                repeat (apply FlowT.d; (intro w1 hk; unfold does; go_simp; (try go_ints); (first | exact DetR.mk | (simp only [↓IntWalk.iteOmega, Oper.doesUpon_value]; exact DetR.mk) | (simp only [↓IntWalk.iteOmega]; go_simp; (try go_ints); exact DetR.mk))); simp only [Act.put, qS0, qS1, qS2])
                refine FlowT.fin fun w1 hx1 hk1 => ?_
                have Hx1 := hid (Hx.out.trans hx1)
                clear hx1 hk1
                go_wp2
                go_roundw
                case rel => exact ⟨k + 1, by go_num, by omega, Hx1.out⟩
                case measure => simp [intOf]; omega
              · obtain ⟨i, j, hij, hi, hj⟩ := Hpl.out (by omega)
                have c0 : ∀ w1, Keep (fun _ => False) wr w1 → w1.cell? ⟨gp, k1, none⟩ = some (.int .i64 (i : Int)) := fun w1 k => k.ext.cellx (own_get HRp2.out k1 (icells_at hi))
                have c1 : ∀ w1, Keep (fun _ => False) wr w1 → w1.cell? ⟨gp, k2, none⟩ = some (.int .i64 (j : Int)) := fun w1 k => k.ext.cellx (own_get HRp2.out k2 (icells_at hj))
                clear hi hj
                go_wp2
                clear q0 q1 r1 r2
                refine wp_flowT (fun _ => False) (by kernel_rfl) (by kernel_rfl) ?_
                repeat (apply FlowT.d; (intro w1 hk; unfold does; go_simp; (try go_ints); (first | exact DetR.mk | (simp only [↓IntWalk.iteOmega, Oper.doesUpon_value]; exact DetR.mk) | (simp only [↓IntWalk.iteOmega]; go_simp; (try go_ints); exact DetR.mk))); simp only [Act.put, qS0, qS1, qS2])
                refine FlowT.fin fun w1 hx1 hk1 => ?_
                have Hx1 := hid (Hx.out.trans hx1)
                clear hx1 hk1 c0 c1
                go_wp2
                go_roundw
                case rel => exact ⟨k + 1, by go_num, by omega, Hx1.out⟩
                case measure => simp [intOf]; omega
            · obtain rfl : k = E.length := by omega
              have HXe := hid (Hxall.out.trans Hx.out)
              go_wp2
              go_ret
              exact ⟨rfl, HXe.out⟩
theorem cycleonelaw_any (a1 a2 a3 : Option Addr) (c1 c2 c3 : Nat) (P : PP) (w : World) (ad : Nat → Addr) (hE : ErrsP w ad) (hS : ErrS w ad) (hP : ProgR w w.heap.size (.slice a1 P.vars.length c1) (.slice a2 P.funs.length c2) (.slice a3 P.stmts.length c3) P) :
    Calls Tryz.prog 4 #[pval a1 a2 a3 c1 c2 c3 P] w fun e w' => e = .returned (.bool true) ∧ Ext w w' := by
  rcases Classical.em P.Well with hw | hw
  · exact cycleonelaw_yes a1 a2 a3 c1 c2 c3 P w ad hE hS hP hw
  · exact cycleonelaw_no a1 a2 a3 c1 c2 c3 P w ad hE hS hP hw
end Go.Proofs.YtngdpnlgnpdkcaaGreatDoor
