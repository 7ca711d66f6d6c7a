/- Texts of one proof, put together: T7 ZW ZX ZY ZZ ZZ1 ZZ2 ZZ3 ZZ4. -/
import Derived.Test.YtihdpijgngooaaaGreatDoorHCG08
import Derived.Test.YtihdpijgngooaaaGreatDoorHCG11
import Derived.Test.YtihdpijgngooaaaGreatDoorHCG14
import Derived.Test.YtihdpijgngooaaaGreatDoorHCG17
import Derived.Test.YtihdpijgngooaaaGreatDoorHCG22
set_option linter.unusedSimpArgs false
set_option linter.unusedVariables false
namespace Go.Proofs.YtihdpijgngooaaaGreatDoor
open Go Go.RowKit
theorem own_e2 {w : World} {base g n cap : Nat} {t : TypeId} {R : List (Int × Int)} (h : w.ownsRow base t 2 (.slice (some ⟨g, 0, none⟩) n cap) n (R.flatMap eCells)) {i : Nat} {x : Int × Int} (hx : R[i]? = some x) :
    w.cell? ⟨g, i * 2, none⟩ = some (.int .i64 x.1) ∧ w.cell? ⟨g, i * 2 + 1, none⟩ = some (.int .i64 x.2) := own_e h hx
theorem wait_in {P : PP} {S : List (List Int)} {s : SV} (hg : P.GoodS S) (h : Core P S s) : ∀ f ∈ s.wait, (0 ≤ f.1 ∧ f.1 < P.nodesV) ∧ (0 ≤ f.2 ∧ f.2 < P.objectsV) := fun f hf => by
  have hfw := h.wait f hf
  have hlen := hg.2.1
  have hin : f.2 ∈ S.getD f.1.toNat [] := hfw.2
  rw [List.getD_eq_getElem?_getD, List.getElem?_eq_getElem (show f.1.toNat < S.length by omega)] at hin
  have hk := hg.ok.ok _ (List.getElem_mem (show f.1.toNat < S.length by omega))
  exact ⟨hfw.1, ((chkE_zero.1 hk.1).1 _ hin).1, hk.2 _ hin⟩
def lenAt (w : World) (g : Nat) : Nat := match w.cell? ⟨g, 8, none⟩ with
  | some (.slice _ n _) => n
  | _ => 0
def SV.ask (P : PP) (f : Int × Int) (s : SV) (r : RV) : SV := bif r.fired && decide (r.pivot = f.1) then s.fire P r f.2 else s
def SV.told1 (s : SV) (f : Int × Int) : SV := { s with wait := s.wait ++ (s.succ f.1).map fun t => (t, f.2) }
theorem came_ask (P : PP) (s : SV) (f : Int × Int) : s.came P f = s.rules.foldl (SV.ask P f) (s.told1 f) := rfl
theorem ask_step {P : PP} {S : List (List Int)} (hg : P.GoodS S) (hc : ClosedP P S) {f : Int × Int} (hf : f.2 ∈ S.getD f.1.toNat []) {s : SV} (h : Core P S s) (hb : s.Bnd P) {r : RV} (hr : r ∈ P.rulesV) :
    Core P S (s.ask P f r) ∧ (s.ask P f r).Bnd P ∧ (s.ask P f r).rules = s.rules := by
  unfold SV.ask
  cases h1 : (r.fired && decide (r.pivot = f.1)) with
  | false => exact ⟨h, hb, rfl⟩
  | true =>
    rw [Bool.and_eq_true] at h1
    have hp := of_decide_eq_true h1.2
    have ho : f.2 ∈ S.getD r.pivot.toNat [] := by rw [hp]; exact hf
    obtain ⟨k1, _, k3, _⟩ := h.fire hg hc hr h1.1 ho
    exact ⟨k1, bnd_fire hg hc h hb hr h1.1 ho, k3⟩
section
variable {P : PP} {S : List (List Int)} {s : SV}
theorem asks_fold (hg : P.GoodS S) (hc : ClosedP P S) {f : Int × Int} (hf : f.2 ∈ S.getD f.1.toNat []) : ∀ (l : List RV) {s : SV}, Core P S s → s.Bnd P → (∀ r ∈ l, r ∈ P.rulesV) → Core P S (l.foldl (SV.ask P f) s) ∧ (l.foldl (SV.ask P f) s).Bnd P ∧ (l.foldl (SV.ask P f) s).rules = s.rules
  | [], _, h, b, _ => ⟨h, b, rfl⟩
  | r :: l, _, h, b, hr => by
    obtain ⟨k1, k2, k3⟩ := ask_step hg hc hf h b (hr r List.mem_cons_self)
    obtain ⟨j1, j2, j3⟩ := asks_fold hg hc hf l k1 k2 fun q hq => hr q (List.mem_cons_of_mem _ hq)
    exact ⟨j1, j2, j3.trans k3⟩
theorem wait_fact (hg : P.GoodS S) (h : Full P S s) {f : Int × Int} {r : List (Int × Int)} (hw : s.wait = f :: r) : ((0 ≤ f.1 ∧ f.1 < P.nodesV) ∧ f.2 ∈ S.getD f.1.toNat []) ∧ 0 ≤ f.2 ∧ f.2 < P.objectsV := by
  have hm : f ∈ s.wait := by rw [hw]; exact List.mem_cons_self
  exact ⟨h.core.wait f hm, (wait_in hg h.core f hm).2⟩
theorem mark_tot (hg : P.GoodS S) (h : Full P S s) (hr : s.ready) {f : Int × Int} {r : List (Int × Int)} (hw : s.wait = f :: r) : (s.mark f).tot P = s.tot P + 1 := by
  obtain ⟨hf, h2⟩ := wait_fact hg h hw
  have hl1 : f.1.toNat < s.has.length := by rw [h.core.len]; omega
  refine tot_mark h.core.len hf.1 ⟨h2.1, ?_⟩ (hr f r hw)
  rw [List.getD_eq_getElem?_getD, List.getElem?_eq_getElem hl1]
  have := h.core.row _ (List.getElem_mem hl1)
  show f.2.toNat < (s.has[f.1.toNat]).length
  omega
theorem told1_bnd (hg : P.GoodS S) (h : Full P S s) (b : s.Bnd P) (hr : s.ready) {f : Int × Int} {r : List (Int × Int)} (hw : s.wait = f :: r) : ((s.mark f).told1 f).Bnd P := by
  have e : ((s.mark f).told1 f).tot P = s.tot P + 1 := by rw [← mark_tot hg h hr hw]; exact tot_has rfl
  refine ⟨b.nd, b.ru, ?_⟩
  rw [e]
  have h1 : (s.succ f.1).length ≤ 14400 := Nat.le_trans (succ_few s f.1) (h.core.edges_few hg.1 b.nd)
  have h2 := b.le
  show (s.wait ++ (s.succ f.1).map fun t => (t, f.2)).length ≤ s.rules.length + s.edges.length * P.objectsV + _
  rw [List.length_append, List.length_map]
  omega
theorem bnd_came (hg : P.GoodS S) (hc : ClosedP P S) (h : Full P S s) (b : s.Bnd P) (hr : s.ready) {f : Int × Int} {r : List (Int × Int)} (hw : s.wait = f :: r) : ((s.mark f).came P f).Bnd P := by
  obtain ⟨hf, h2⟩ := wait_fact hg h hw
  rw [came_ask]
  exact (asks_fold hg hc hf.2 _ (h.marked hg hf h2) (told1_bnd hg h b hr hw) fun q hq => h.of q hq).2.1
theorem bnd_clean (b : s.Bnd P) : s.clean.Bnd P := by
  refine ⟨b.nd, b.ru, ?_⟩
  rw [tot_has (clean_has s)]
  refine Nat.le_trans ?_ b.le
  exact (List.dropWhile_suffix s.bit).length_le
theorem bnd_one (hg : P.GoodS S) (hc : ClosedP P S) (h : Full P S s) (b : s.Bnd P) (hr : s.ready) : (s.one P).Bnd P := by
  cases hw : s.wait with
  | nil =>
    have e : s.one P = s := by unfold SV.one; rw [hw]
    rw [e]; exact b
  | cons f r =>
    have e : s.one P = ((s.mark f).came P f).clean := by unfold SV.one; rw [hw]
    rw [e]
    exact bnd_clean (bnd_came hg hc h b hr hw)
def SV.step (P : PP) (s : SV) (n : Int) : SV × Nat := s.clean.steps P n.toNat
theorem steps_nil (P : PP) : ∀ (k : Nat) {s : SV}, s.wait = [] → s.steps P k = (s, 0)
  | 0, _, _ => rfl
  | k + 1, _, h => by unfold SV.steps; rw [h]
theorem steps_cons (P : PP) (k : Nat) {s : SV} {f : Int × Int} {r : List (Int × Int)} (h : s.wait = f :: r) : s.steps P (k + 1) = (((s.one P).steps P k).1, ((s.one P).steps P k).2 + 1) := by
  conv => lhs; unfold SV.steps
  rw [h]
theorem steps_bnd (hg : P.GoodS S) (hc : ClosedP P S) : ∀ (k : Nat) {s : SV}, Full P S s → s.Bnd P → s.ready → (s.steps P k).1.Bnd P
  | 0, _, _, b, _ => b
  | k + 1, s, h, b, hr => by
    cases hw : s.wait with
    | nil => rw [steps_nil P _ hw]; exact b
    | cons f r =>
      rw [steps_cons P k hw]
      obtain ⟨k1, k2, _⟩ := h.one hg hc hr hw
      exact steps_bnd hg hc k k1 (bnd_one hg hc h b hr) k2
structure SolvOk (P : PP) (S : List (List Int)) (s : SV) : Prop where
  full : Full P S s
  bnd : s.Bnd P
theorem SolvOk.clean (h : SolvOk P S s) : SolvOk P S s.clean := ⟨h.full.cleaned, bnd_clean h.bnd⟩
theorem SolvOk.step (hg : P.GoodS S) (hc : ClosedP P S) (h : SolvOk P S s) (n : Int) :
    SolvOk P S (s.step P n).1 ∧ (s.step P n).1.ready ∧ (s.step P n).1.rules = s.rules ∧ (s.step P n).1.tot P = s.tot P + (s.step P n).2 ∧ (s.step P n).2 ≤ n.toNat ∧ ((s.step P n).2 < n.toNat → (s.step P n).1.wait = []) := by
  obtain ⟨k1, k2, k3, k4, k5, k6⟩ := steps_keep hg hc n.toNat h.full.cleaned (clean_ready s)
  exact ⟨⟨k1, steps_bnd hg hc _ h.full.cleaned (bnd_clean h.bnd) (clean_ready s)⟩, k2, k3, by rw [← tot_has (clean_has s)]; exact k4, k5, k6⟩
end
def SV.hasL (P : PP) (s : SV) (n : Int) : List Int := if n < 0 ∨ (P.nodesV : Int) ≤ n then [] else s.objs n
theorem Core.push {P : PP} {S : List (List Int)} {s : SV} (h : Core P S s) {r : RV} (n1 : r.kind.toList ≠ bBase.toList) (n2 : r.kind.toList ≠ kCopy) : Core P S { s with rules := s.rules ++ [r] } :=
  ⟨h.len, h.row, h.wait, h.bit, h.edge, h.along, fun q hq hk => by
      rcases List.mem_append.1 hq with hq | hq
      · exact h.base q hq hk
      · obtain rfl := List.mem_singleton.1 hq
        exact absurd hk n1, fun q hq hk => by
      rcases List.mem_append.1 hq with hq | hq
      · exact h.copy q hq hk
      · obtain rfl := List.mem_singleton.1 hq
        exact absurd hk n2⟩
theorem bnd_push {P : PP} {s : SV} (b : s.Bnd P) (r : RV) (h : s.rules.length < 80) : SV.Bnd P { s with rules := s.rules ++ [r] } := by
  have h1 := b.le
  refine ⟨b.nd, by simp only [List.length_append, List.length_singleton]; omega, ?_⟩
  have e : SV.tot P { s with rules := s.rules ++ [r] } = s.tot P := tot_has rfl
  rw [e]
  simp only [List.length_append, List.length_singleton]
  omega
theorem bnd_fires {P : PP} {S : List (List Int)} (hg : P.GoodS S) (hc : ClosedP P S) {r : RV} (hr : r ∈ P.rulesV) (hf : r.fired = true) : ∀ (l : List Int) {s : SV}, Core P S s → s.Bnd P → (∀ o ∈ l, o ∈ S.getD r.pivot.toNat []) → (l.foldl (fun s o => s.fire P r o) s).Bnd P
  | [], _, _, b, _ => b
  | o :: l, _, h, b, hs => bnd_fires hg hc hr hf l (h.fire hg hc hr hf (hs o List.mem_cons_self)).1 (bnd_fire hg hc h b hr hf (hs o List.mem_cons_self)) fun q hq => hs q (List.mem_cons_of_mem _ hq)
theorem bnd_add {P : PP} {S : List (List Int)} {s : SV} (hg : P.GoodS S) (hc : ClosedP P S) (h : Full P S s) (b : s.Bnd P) {r : RV} (hr : r ∈ P.rulesV) (h80 : s.rules.length < 80) : (s.add P r).Bnd P := by
  unfold SV.add
  cases h1 : (r.kind.toList == bBase.toList) with
  | true =>
    rw [cond_true]
    have h2 := b.le
    refine ⟨b.nd, by simp only [List.length_append, List.length_singleton]; omega, ?_⟩
    have e : SV.tot P { s with rules := s.rules ++ [r], wait := s.wait ++ [(r.a, r.b)] } = s.tot P := tot_has rfl
    rw [e]
    simp only [List.length_append, List.length_singleton]
    omega
  | false =>
  have n1 : r.kind.toList ≠ bBase.toList := fun e => by rw [e] at h1; simp at h1
  rw [cond_false]
  have hb := bnd_push b r h80
  cases h2 : (r.kind.toList == kCopy) with
  | true =>
    rw [cond_true]
    have hm : SV.edge { s with rules := s.rules ++ [r] } (r.a, r.b) = { s.edge (r.a, r.b) with rules := s.rules ++ [r] } := by unfold SV.edge; split <;> rfl
    have := (b.edgeTo h.core (r.a, r.b))
    rw [hm]
    have h5 := bnd_push (s := s.edge (r.a, r.b)) this r (by rw [edge_rules]; exact h80)
    rw [edge_rules] at h5
    exact h5
  | false =>
  have n2 : r.kind.toList ≠ kCopy := fun e => by rw [e] at h2; simp at h2
  have hf : r.fired = true := by
    rcases rule_kinds hg.1 hr with g | g | g
    · exact absurd g n1
    · exact absurd g n2
    · exact g
  rw [cond_false]
  refine bnd_fires hg hc hr hf _ (h.core.push n1 n2) hb fun o ho => ?_
  obtain ⟨h0, hb⟩ := mem_objs.1 ho
  exact h.core.bit (r.pivot, o) hb h0
theorem SolvOk.add {P : PP} {S : List (List Int)} {s : SV} (hg : P.GoodS S) (hc : ClosedP P S) (h : SolvOk P S s) {r : RV} (hr : r ∈ P.rulesV) (h80 : s.rules.length < 80) : SolvOk P S (s.add P r) := ⟨(h.full.added hg hc hr).1, bnd_add hg hc h.full h.bnd hr h80⟩
end Go.Proofs.YtihdpijgngooaaaGreatDoor
