/- Texts of one proof, put together: ZX ZY ZZ ZZ1 ZZ2 ZZ3 ZZ4 ZZ5 ZZ6 ZZYs V3q X1 S6 X7 X8 WG WH. -/
import Derived.Test.YtihdpijgngooaaaGreatDoorHHT04
import Derived.Test.YtihdpijgngooaaaGreatDoorHHT05
import Derived.Test.YtihdpijgngooaaaGreatDoorHHT06
import Derived.Test.YtihdpijgngooaaaGreatDoorHHT07
import Derived.Test.YtihdpijgngooaaaGreatDoorHHT08
import Derived.Test.YtihdpijgngooaaaGreatDoorHHT09
import Derived.Test.YtihdpijgngooaaaGreatDoorHHT10
import Derived.Test.YtihdpijgngooaaaGreatDoorHHT11
import Derived.Test.YtihdpijgngooaaaGreatDoorHHT01
set_option linter.unusedSimpArgs false
set_option linter.unusedVariables false
namespace Go.Proofs.YtihdpijgngooaaaGreatDoor
open Go Go.RowKit
theorem wait_in {P : PP} {S : List (List Int)} {s : SV} (hg : P.GoodS S) (h : Core P S s) : ∀ f ∈ s.wait, (0 ≤ f.1 ∧ f.1 < P.nodesV) ∧ (0 ≤ f.2 ∧ f.2 < P.objectsV) := fun f hf => by
  have hfw := h.wait f hf
  have hlen := hg.2.1
  have hin : f.2 ∈ S.getD f.1.toNat [] := hfw.2
  rw [List.getD_eq_getElem?_getD, List.getElem?_eq_getElem (show f.1.toNat < S.length by omega)] at hin
  have hk := hg.ok.ok _ (List.getElem_mem (show f.1.toNat < S.length by omega))
  exact ⟨hfw.1, ((chkE_zero.1 hk.1).1 _ hin).1, hk.2 _ hin⟩
def lenAt (w : World) (g : Nat) : Nat := match w.cell? ⟨g, 8, none⟩ with
  | some (.slice _ n _) => n
  | _ => 0
def SV.ask (P : PP) (f : Int × Int) (s : SV) (r : RV) : SV := bif r.fired && decide (r.pivot = f.1) then s.fire P r f.2 else s
def SV.told1 (s : SV) (f : Int × Int) : SV := { s with wait := s.wait ++ (s.succ f.1).map fun t => (t, f.2) }
theorem came_ask (P : PP) (s : SV) (f : Int × Int) : s.came P f = s.rules.foldl (SV.ask P f) (s.told1 f) := rfl
theorem ask_step {P : PP} {S : List (List Int)} (hg : P.GoodS S) (hc : ClosedP P S) {f : Int × Int} (hf : f.2 ∈ S.getD f.1.toNat []) {s : SV} (h : Core P S s) (hb : s.Bnd P) {r : RV} (hr : r ∈ P.rulesV) :
    Core P S (s.ask P f r) ∧ (s.ask P f r).Bnd P ∧ (s.ask P f r).rules = s.rules := by
  unfold SV.ask
  cases h1 : (r.fired && decide (r.pivot = f.1)) with
  | false => exact ⟨h, hb, rfl⟩
  | true =>
    rw [Bool.and_eq_true] at h1
    have hp := of_decide_eq_true h1.2
    have ho : f.2 ∈ S.getD r.pivot.toNat [] := by rw [hp]; exact hf
    obtain ⟨k1, _, k3, _⟩ := h.fire hg hc hr h1.1 ho
    exact ⟨k1, bnd_fire hg hc h hb hr h1.1 ho, k3⟩
section
variable {P : PP} {S : List (List Int)} {s : SV}
theorem asks_fold (hg : P.GoodS S) (hc : ClosedP P S) {f : Int × Int} (hf : f.2 ∈ S.getD f.1.toNat []) : ∀ (l : List RV) {s : SV}, Core P S s → s.Bnd P → (∀ r ∈ l, r ∈ P.rulesV) → Core P S (l.foldl (SV.ask P f) s) ∧ (l.foldl (SV.ask P f) s).Bnd P ∧ (l.foldl (SV.ask P f) s).rules = s.rules
  | [], _, h, b, _ => ⟨h, b, rfl⟩
  | r :: l, _, h, b, hr => by
    obtain ⟨k1, k2, k3⟩ := ask_step hg hc hf h b (hr r List.mem_cons_self)
    obtain ⟨j1, j2, j3⟩ := asks_fold hg hc hf l k1 k2 fun q hq => hr q (List.mem_cons_of_mem _ hq)
    exact ⟨j1, j2, j3.trans k3⟩
theorem wait_fact (hg : P.GoodS S) (h : Full P S s) {f : Int × Int} {r : List (Int × Int)} (hw : s.wait = f :: r) : ((0 ≤ f.1 ∧ f.1 < P.nodesV) ∧ f.2 ∈ S.getD f.1.toNat []) ∧ 0 ≤ f.2 ∧ f.2 < P.objectsV := by
  have hm : f ∈ s.wait := by rw [hw]; exact List.mem_cons_self
  exact ⟨h.core.wait f hm, (wait_in hg h.core f hm).2⟩
theorem mark_tot (hg : P.GoodS S) (h : Full P S s) (hr : s.ready) {f : Int × Int} {r : List (Int × Int)} (hw : s.wait = f :: r) : (s.mark f).tot P = s.tot P + 1 := by
  obtain ⟨hf, h2⟩ := wait_fact hg h hw
  have hl1 : f.1.toNat < s.has.length := by rw [h.core.len]; omega
  refine tot_mark h.core.len hf.1 ⟨h2.1, ?_⟩ (hr f r hw)
  rw [List.getD_eq_getElem?_getD, List.getElem?_eq_getElem hl1]
  have := h.core.row _ (List.getElem_mem hl1)
  show f.2.toNat < (s.has[f.1.toNat]).length
  omega
theorem told1_bnd (hg : P.GoodS S) (h : Full P S s) (b : s.Bnd P) (hr : s.ready) {f : Int × Int} {r : List (Int × Int)} (hw : s.wait = f :: r) : ((s.mark f).told1 f).Bnd P := by
  have e : ((s.mark f).told1 f).tot P = s.tot P + 1 := by rw [← mark_tot hg h hr hw]; exact tot_has rfl
  refine ⟨b.nd, b.ru, ?_⟩
  rw [e]
  have h1 : (s.succ f.1).length ≤ 14400 := Nat.le_trans (succ_few s f.1) (h.core.edges_few hg.1 b.nd)
  have h2 := b.le
  show (s.wait ++ (s.succ f.1).map fun t => (t, f.2)).length ≤ s.rules.length + s.edges.length * P.objectsV + _
  rw [List.length_append, List.length_map]
  omega
theorem bnd_came (hg : P.GoodS S) (hc : ClosedP P S) (h : Full P S s) (b : s.Bnd P) (hr : s.ready) {f : Int × Int} {r : List (Int × Int)} (hw : s.wait = f :: r) : ((s.mark f).came P f).Bnd P := by
  obtain ⟨hf, h2⟩ := wait_fact hg h hw
  rw [came_ask]
  exact (asks_fold hg hc hf.2 _ (h.marked hg hf h2) (told1_bnd hg h b hr hw) fun q hq => h.of q hq).2.1
theorem bnd_clean (b : s.Bnd P) : s.clean.Bnd P := by
  refine ⟨b.nd, b.ru, ?_⟩
  rw [tot_has (clean_has s)]
  refine Nat.le_trans ?_ b.le
  exact (List.dropWhile_suffix s.bit).length_le
theorem bnd_one (hg : P.GoodS S) (hc : ClosedP P S) (h : Full P S s) (b : s.Bnd P) (hr : s.ready) : (s.one P).Bnd P := by
  cases hw : s.wait with
  | nil =>
    have e : s.one P = s := by unfold SV.one; rw [hw]
    rw [e]; exact b
  | cons f r =>
    have e : s.one P = ((s.mark f).came P f).clean := by unfold SV.one; rw [hw]
    rw [e]
    exact bnd_clean (bnd_came hg hc h b hr hw)
def SV.step (P : PP) (s : SV) (n : Int) : SV × Nat := s.clean.steps P n.toNat
theorem steps_nil (P : PP) : ∀ (k : Nat) {s : SV}, s.wait = [] → s.steps P k = (s, 0)
  | 0, _, _ => rfl
  | k + 1, _, h => by unfold SV.steps; rw [h]
theorem steps_cons (P : PP) (k : Nat) {s : SV} {f : Int × Int} {r : List (Int × Int)} (h : s.wait = f :: r) : s.steps P (k + 1) = (((s.one P).steps P k).1, ((s.one P).steps P k).2 + 1) := by
  conv => lhs; unfold SV.steps
  rw [h]
theorem steps_bnd (hg : P.GoodS S) (hc : ClosedP P S) : ∀ (k : Nat) {s : SV}, Full P S s → s.Bnd P → s.ready → (s.steps P k).1.Bnd P
  | 0, _, _, b, _ => b
  | k + 1, s, h, b, hr => by
    cases hw : s.wait with
    | nil => rw [steps_nil P _ hw]; exact b
    | cons f r =>
      rw [steps_cons P k hw]
      obtain ⟨k1, k2, _⟩ := h.one hg hc hr hw
      exact steps_bnd hg hc k k1 (bnd_one hg hc h b hr) k2
structure SolvOk (P : PP) (S : List (List Int)) (s : SV) : Prop where
  full : Full P S s
  bnd : s.Bnd P
theorem SolvOk.clean (h : SolvOk P S s) : SolvOk P S s.clean := ⟨h.full.cleaned, bnd_clean h.bnd⟩
theorem SolvOk.step (hg : P.GoodS S) (hc : ClosedP P S) (h : SolvOk P S s) (n : Int) :
    SolvOk P S (s.step P n).1 ∧ (s.step P n).1.ready ∧ (s.step P n).1.rules = s.rules ∧ (s.step P n).1.tot P = s.tot P + (s.step P n).2 ∧ (s.step P n).2 ≤ n.toNat ∧ ((s.step P n).2 < n.toNat → (s.step P n).1.wait = []) := by
  obtain ⟨k1, k2, k3, k4, k5, k6⟩ := steps_keep hg hc n.toNat h.full.cleaned (clean_ready s)
  exact ⟨⟨k1, steps_bnd hg hc _ h.full.cleaned (bnd_clean h.bnd) (clean_ready s)⟩, k2, k3, by rw [← tot_has (clean_has s)]; exact k4, k5, k6⟩
end
def SV.hasL (P : PP) (s : SV) (n : Int) : List Int := if n < 0 ∨ (P.nodesV : Int) ≤ n then [] else s.objs n
theorem Core.push {P : PP} {S : List (List Int)} {s : SV} (h : Core P S s) {r : RV} (n1 : r.kind.toList ≠ bBase.toList) (n2 : r.kind.toList ≠ kCopy) : Core P S { s with rules := s.rules ++ [r] } :=
  ⟨h.len, h.row, h.wait, h.bit, h.edge, h.along, fun q hq hk => by
      rcases List.mem_append.1 hq with hq | hq
      · exact h.base q hq hk
      · obtain rfl := List.mem_singleton.1 hq
        exact absurd hk n1, fun q hq hk => by
      rcases List.mem_append.1 hq with hq | hq
      · exact h.copy q hq hk
      · obtain rfl := List.mem_singleton.1 hq
        exact absurd hk n2⟩
theorem bnd_push {P : PP} {s : SV} (b : s.Bnd P) (r : RV) (h : s.rules.length < 80) : SV.Bnd P { s with rules := s.rules ++ [r] } := by
  have h1 := b.le
  refine ⟨b.nd, by simp only [List.length_append, List.length_singleton]; omega, ?_⟩
  have e : SV.tot P { s with rules := s.rules ++ [r] } = s.tot P := tot_has rfl
  rw [e]
  simp only [List.length_append, List.length_singleton]
  omega
theorem bnd_fires {P : PP} {S : List (List Int)} (hg : P.GoodS S) (hc : ClosedP P S) {r : RV} (hr : r ∈ P.rulesV) (hf : r.fired = true) : ∀ (l : List Int) {s : SV}, Core P S s → s.Bnd P → (∀ o ∈ l, o ∈ S.getD r.pivot.toNat []) → (l.foldl (fun s o => s.fire P r o) s).Bnd P
  | [], _, _, b, _ => b
  | o :: l, _, h, b, hs => bnd_fires hg hc hr hf l (h.fire hg hc hr hf (hs o List.mem_cons_self)).1 (bnd_fire hg hc h b hr hf (hs o List.mem_cons_self)) fun q hq => hs q (List.mem_cons_of_mem _ hq)
theorem bnd_add {P : PP} {S : List (List Int)} {s : SV} (hg : P.GoodS S) (hc : ClosedP P S) (h : Full P S s) (b : s.Bnd P) {r : RV} (hr : r ∈ P.rulesV) (h80 : s.rules.length < 80) : (s.add P r).Bnd P := by
  unfold SV.add
  cases h1 : (r.kind.toList == bBase.toList) with
  | true =>
    rw [cond_true]
    have h2 := b.le
    refine ⟨b.nd, by simp only [List.length_append, List.length_singleton]; omega, ?_⟩
    have e : SV.tot P { s with rules := s.rules ++ [r], wait := s.wait ++ [(r.a, r.b)] } = s.tot P := tot_has rfl
    rw [e]
    simp only [List.length_append, List.length_singleton]
    omega
  | false =>
  have n1 : r.kind.toList ≠ bBase.toList := fun e => by rw [e] at h1; simp at h1
  rw [cond_false]
  have hb := bnd_push b r h80
  cases h2 : (r.kind.toList == kCopy) with
  | true =>
    rw [cond_true]
    have hm : SV.edge { s with rules := s.rules ++ [r] } (r.a, r.b) = { s.edge (r.a, r.b) with rules := s.rules ++ [r] } := by unfold SV.edge; split <;> rfl
    have := (b.edgeTo h.core (r.a, r.b))
    rw [hm]
    have h5 := bnd_push (s := s.edge (r.a, r.b)) this r (by rw [edge_rules]; exact h80)
    rw [edge_rules] at h5
    exact h5
  | false =>
  have n2 : r.kind.toList ≠ kCopy := fun e => by rw [e] at h2; simp at h2
  have hf : r.fired = true := by
    rcases rule_kinds hg.1 hr with g | g | g
    · exact absurd g n1
    · exact absurd g n2
    · exact g
  rw [cond_false]
  refine bnd_fires hg hc hr hf _ (h.core.push n1 n2) hb fun o ho => ?_
  obtain ⟨h0, hb⟩ := mem_objs.1 ho
  exact h.core.bit (r.pivot, o) hb h0
theorem SolvOk.add {P : PP} {S : List (List Int)} {s : SV} (hg : P.GoodS S) (hc : ClosedP P S) (h : SolvOk P S s) {r : RV} (hr : r ∈ P.rulesV) (h80 : s.rules.length < 80) : SolvOk P S (s.add P r) := ⟨(h.full.added hg hc hr).1, bnd_add hg hc h.full h.bnd hr h80⟩
section
variable {w w1 w2 : World} {G F : Nat → Prop} {g : Nat} {ad : Nat → Addr} {a1 a2 a3 : Option Addr} {c1 c2 c3 : Nat} {P : PP} {vr : Value} {rs : List R2} {vh : Value} {hs : List Value} {m1 m2 : Nat} {f1 : Int → Option Value} {vw : Value} {s : SV}
end
section
variable {P : PP} {S : List (List Int)} {s : SV} {m : Nat}
def SV.start (P : PP) : SV := P.rulesV.foldl (SV.add P) (SV.zero P)
end
section
variable {P : PP} {me k : Int} {T : NV → Prop} {S : List (List Int)} {s t : SH}
theorem Runs.full (hw : P.Well) (h : Runs P me k s t) (hs : s.Full P me k T) : t.Full P me k T := h.keeps (fun u => u.Full P me k T) (fun _ hu hne => hu.step hw hne) hs
theorem Runs.snd (hg : P.GoodS S) (hc : ClosedP P S) (h : Runs P me k s t) (hs : SndS P S s) : SndS P S t := h.keeps (fun u => SndS P S u) (fun _ hu _ => step_snd hg hc hu) hs
end
theorem SH.Full.rest {P : PP} {me k : Int} {T : NV → Prop} {t : SH} (h : t.Full P me k T) : ({ t with out := [] } : SH).Full P me k fun x => T x ∨ x ∈ t.out := by
  have hd : ∀ x, t.Dn T x → ({ t with out := [] } : SH).Dn (fun x => T x ∨ x ∈ t.out) x := fun x h => by
    rcases h with h | h | h | h
    · exact .inl h
    · exact .inr (.inl h)
    · exact .inr (.inr (.inr (.inr h)))
    · exact .inr (.inr (.inr (.inl h)))
  exact ⟨⟨h.ok.hnd, h.ok.has, h.ok.nnd, h.ok.nxt, h.ok.todo, fun _ h => (by cases h)⟩, ⟨fun e he o ho => hd _ (h.loc.along e he o ho), fun r hr hf o ho e he => (h.loc.told r hr hf o ho e he).imp id (hd _)⟩, ⟨fun r hr h1 h2 => hd _ (h.begun.base r hr h1 h2), fun r hr h1 h2 => (h.begun.copy r hr h1 h2).imp id (hd _)⟩⟩
theorem alone_done {P : PP} {S : List (List Int)} {m : Nat} (hL : LeastAt P m S) (hw : P.Well) {t : SH} (hr : Runs P ((0 : Nat) : Int) ((1 : Nat) : Int) (SH.start P ((0 : Nat) : Int) ((1 : Nat) : Int)) t) (ht : t.todo = []) :
    t.out = [] ∧ t.Ok P ((0 : Nat) : Int) ((1 : Nat) : Int) ∧ ∀ n : Nat, n < P.nodesV → keysL t.has (n : Int) = S.getD n [] := by
  have hg := hL.good hw
  have hc := hL.closed hw
  have hf := hr.full hw (start_full hw)
  have hs := hr.snd hg hc (start_snd hg hc)
  have ho : t.out = [] := List.eq_nil_iff_forall_not_mem.2 fun x hx => by
    obtain ⟨h1, h2⟩ := hf.ok.out x hx
    rcases h1.is with ⟨_, n, _, _, _, h3, _⟩ | ⟨_, a, _, _, _, h3, _⟩
    · exact h2 (by rw [h3]; simp)
    · exact h2 (by rw [h3]; simp)
  refine ⟨ho, hf.ok, fun n hn => ?_⟩
  have h := shards_done hL hw 1 (by omega) (fun _ => t) (fun _ _ => False) (fun i hi => (by have e : i = 0 := (by omega); rw [e]; exact hf)) (fun _ _ => ⟨ht, ho⟩) (fun _ _ => hs) (fun _ _ _ h => h.elim) hn
  exact h
theorem SC.own_yes {c : SC} {n : Int} (h : 0 ≤ n ∧ n < (c.P.nodesV : Int) ∧ n % (c.k : Int) = (c.me : Int)) (s : SH) : c.hasL s n = keysL s.has n := by
  unfold SC.hasL SC.own
  rw [decide_eq_true h]; rfl
set_option maxRecDepth 100000 in
set_option maxHeartbeats 3200000 in
theorem shardedfact_any (w : World) (ad : Nat → Addr) (hE : ErrsP w ad) : Calls Tryz.prog 7 #[] w fun e w' => e = .returned (.bool true) ∧ Ext w w' := by
  obtain ⟨W1, hW1⟩ : ∃ W1, W1 = w.alloc (.cells #[.string ⟨#[97]⟩, .string ⟨#[98]⟩] 9) := ⟨_, rfl⟩
  obtain ⟨W2, hW2⟩ : ∃ W2, W2 = W1.alloc (.cells fixedS 73) := ⟨_, rfl⟩
  obtain ⟨W3, hW3⟩ : ∃ W3, W3 = W2.alloc (.cells #[.slice (some ⟨w.heap.size, 0, none⟩) 2 2, .slice none 0 0, .slice (some ⟨w.heap.size + 1, 0, none⟩) 2 2] 26) := ⟨_, rfl⟩
  have x1 : Ext w W1 := by rw [hW1]; exact (Ext.refl _).alloc _
  have x2 : Ext W1 W2 := by rw [hW2]; exact (Ext.refl _).alloc _
  have x3 : Ext W2 W3 := by rw [hW3]; exact (Ext.refl _).alloc _
  have s1 : W1.heap.size = w.heap.size + 1 := by rw [hW1, heap_size_alloc]
  have s2 : W2.heap.size = w.heap.size + 2 := by rw [hW2, heap_size_alloc, s1]
  have s3 : W3.heap.size = w.heap.size + 3 := by rw [hW3, heap_size_alloc, s2]
  have bA : Blk W1 w.heap.size #[.string ⟨#[97]⟩, .string ⟨#[98]⟩] 9 := by rw [hW1]; exact Blk.new _ _ _
  have bB : Blk W2 (w.heap.size + 1) fixedS 73 := by rw [hW2, ← s1]; exact Blk.new _ _ _
  have hP := fixed_prog (n0 := W3.heap.size) (bA.ext (x2.trans x3)) (bB.ext x3) (by omega) (by omega)
  have xx : Ext w W3 := x1.trans (x2.trans x3)
  have HD := hid (shardnew_yes _ _ _ 2 0 2 fixedP 0 1 W3 W3.heap.size ad ⟨hE.ext xx, hP, fun s hs => by rcases (by simpa [fixedP] using hs : s = ⟨#[97]⟩ ∨ s = ⟨#[98]⟩) with rfl | rfl <;> decide, fun s hs => by simp [PP.names, fixedP] at hs, fixed_well⟩ (Nat.le_refl _) (by omega))
  have HX := hid xx
  have HW3 : Hid (W3 = ((w.alloc (.cells #[.string ⟨#[97]⟩, .string ⟨#[98]⟩] 9)).alloc (.cells #[.string ⟨#[97, 100, 100, 114]⟩, .int .i64 0, .int .i64 1, .slice none 0 0, .string ⟨#[99, 111, 112, 121]⟩, .int .i64 1, .int .i64 0, .slice none 0 0] 73)).alloc (.cells #[.slice (some ⟨w.heap.size, 0, none⟩) 2 2, .slice none 0 0, .slice (some ⟨w.heap.size + 1, 0, none⟩) 2 2] 26)) := hid (by rw [hW3, hW2, hW1]; rfl)
  unfold pval at HD
  rw [show (((0 : Nat) : Int)) = (0 : Int) from rfl, show (((1 : Nat) : Int)) = (1 : Int) from rfl] at HD
  clear hE hW1 hW2 hW3 x1 x2 x3 s1 s2 s3 bA bB hP xx
  go_enter Tryz.func7, Tryz.ntmps7
  go_wp2_with fail
  rw [← HW3.out]
  refine HD.out.mono ?_
  intro e w5 hx
  obtain ⟨g, c, G, F, u, t, os, rfl, hcP, hcm, hck, hr, ht, hS, hN, hF, hI, hG, hx5⟩ := hx
  obtain ⟨ho, hok, hk⟩ := alone_done fixed_least fixed_well hr ht
  obtain ⟨au, cu, hu⟩ := hN.row.form
  rw [ho, List.length_nil] at hu
  subst hu
  have HX5 := hid (HX.out.trans hx5)
  have HHa := hid (shardhas_any c { t with out := [] } 1 w5 G F g hS (by
    rw [hcP, hcm, hck]
    exact ⟨hok.hnd, hok.has, hok.nnd, hok.nxt, hok.todo, fun _ h => (by cases h)⟩))
  rw [SC.own_yes (by rw [hcP, hcm, hck, fixed_nodes]; decide)] at HHa
  rw [show keysL ({ t with out := [] } : SH).has 1 = [1] from hk 1 (by rw [fixed_nodes]; decide)] at HHa
  clear HD hr ht hS hN hF hI hG hx5 ho hok hk hcP hcm hck
  go_wp2_with fail
  refine HHa.out.mono ?_
  intro e w8 hx
  obtain ⟨v, rfl, hr8, hx8⟩ := hx
  obtain ⟨av, cv, rfl⟩ := hr8.form
  obtain ⟨W9, hW9⟩ : ∃ W9, W9 = w8.alloc (.cells #[.int .i64 1] 3) := ⟨_, rfl⟩
  have hx9 : Ext w8 W9 := by rw [hW9]; exact (Ext.refl _).alloc _
  have HW9 := hid hW9
  have HC := hid (sameints_any av (some ⟨w8.heap.size, 0, none⟩) 1 1 cv 1 [1] [1] W9 (IntsR.ints (n0 := W9.heap.size) (IntsR.own (hr8.ext hx9) (Nat.le_refl _)) (setok_few (by decide))) (IntsR.ints (n0 := W9.heap.size) (IntsR.blk (l := [1]) (by rw [hW9]; exact Blk.new w8 #[.int .i64 1] 3) rfl (by simp)) (setok_few (by decide))) (by decide) (by decide))
  rw [decide_eq_true rfl] at HC
  have HX9 := hid (HX5.out.trans (hx8.trans hx9))
  clear HHa hr8 hx8 hW9 hx9
  go_wp2_with fail
  rw [← HW9.out]
  refine HC.out.mono ?_
  intro e w10 hx
  obtain ⟨rfl, hx10⟩ := hx
  have HX10 := hid (HX9.out.trans hx10)
  clear HC hx10
  go_wp2
  go_ret
  exact ⟨rfl, HX10.out⟩
set_option maxRecDepth 100000 in
set_option maxHeartbeats 12800000 in
theorem large_q (a1 a2 a3 : Option Addr) (c1 c2 c3 : Nat) (q : Nat) (hq80 : q ≤ 80) (P : PP) (w : World) (n0 : Nat) (h : ProgR w n0 (.slice a1 P.vars.length c1) (.slice a2 P.funs.length c2) (.slice a3 P.stmts.length c3) P) :
    Calls Tryz.prog 8 #[pval a1 a2 a3 c1 c2 c3 P, .int .i64 (q : Int)] w fun e w' => ∃ r : Int, e = .returned (.int .i64 r) ∧ (0 ≤ r ∧ r ≤ 1) ∧ (r = 0 → P.Small ∧ (P.stmts.length ≤ q ∨ P.stmts.length = 81) ∧ (P.vars.length ≤ 15 ∨ P.vars.length = 41)) ∧ Ext w w' := by
  have hl1 := h.vars.len
  have hl2 := h.funs.len
  have hl3 := h.stmts.len
  obtain ⟨W, hW⟩ : ∃ W, W = w.alloc (.cells (pcells a1 a2 a3 c1 c2 c3 P) 26) := ⟨_, rfl⟩
  have HX : Hid (Ext w W) := hid (by rw [hW]; exact (Ext.refl _).alloc _)
  have hB : Blk W w.heap.size (pcells a1 a2 a3 c1 c2 c3 P) 26 := by rw [hW]; exact Blk.new _ _ _
  have HP := hid (h.ext HX.out)
  have d0 := hB.av 0 rfl
  have d1 := hB.av 1 rfl
  have d2 := hB.av 2 rfl
  simp only [pcells, qA0, qA1, qA2] at d0 d1 d2
  unfold pcells at hW
  have HWe := hid hW
  unfold pval
  clear hW hB h
  go_enter Tryz.func8, Tryz.ntmps8
  by_cases b1 : 15 < P.vars.length
  · by_cases b2 : (P.vars.length : Int) = 41
    · have Hv8 : Hid (P.vars.length ≤ 15 ∨ P.vars.length = 41) := hid (.inr (by omega))
      by_cases b3 : 8 < P.funs.length
      · go_wp2
        go_ret
        exact ⟨1, rfl, by omega, (fun h => absurd h (by decide)), (Ext.refl w).alloc _⟩
      · by_cases b4 : q < P.stmts.length
        · by_cases b5 : (P.stmts.length : Int) = 81
          · have Hq8 : Hid (P.stmts.length ≤ q ∨ P.stmts.length = 81) := hid (.inr (by omega))
            have Hb := hid (show P.vars.length ≤ 41 ∧ P.funs.length ≤ 8 ∧ P.stmts.length ≤ 81 from ⟨by omega, by omega, by omega⟩)
            go_wp2
            rw [← HWe.out]
            clear b1 b3 b4
            clear b5
            clear b2
            go_loop [5] (fun t5 => ∃ k : Nat, t5 = .int .i64 (k : Int) ∧ k ≤ P.vars.length ∧ ∀ j s, j < k → P.vars[j]? = some s → s.size ≤ 20) (fun t5 => P.vars.length - (intOf t5).toNat)
            case atStart => exact ⟨0, rfl, Nat.zero_le _, fun j s h => by omega⟩
            case round =>
              obtain ⟨k, rfl, hk, hp⟩ := hrel
              have Hp := hid hp
              clear hp
              by_cases hlt : k < P.vars.length
              · obtain ⟨y, q, rfl, hq, hc⟩ := HP.out.vars.at hlt
                have Hq := hid hq
                clear hq
                by_cases hz : 20 < q.size
                · go_wp2
                  go_ret
                  exact ⟨1, rfl, by omega, (fun h => absurd h (by decide)), HX.out⟩
                · have hz2 : q.size ≤ 20 := by omega
                  go_wp2
                  refine ⟨⟨k + 1, by go_num, by omega, fun j s hj hs => ?_⟩, by simp [intOf]; omega⟩
                  by_cases hjk : j = k
                  · subst hjk
                    obtain rfl := Option.some.inj (Hq.out.symm.trans hs)
                    exact hz2
                  · exact Hp.out j s (by omega) hs
              · obtain rfl : k = P.vars.length := by omega
                have Hv := hid (show ∀ s ∈ P.vars, s.size ≤ 20 from fun s hs => by
                  obtain ⟨j, hj, e⟩ := List.mem_iff_getElem.1 hs
                  exact Hp.out j s hj (by rw [List.getElem?_eq_getElem hj, e]))
                clear Hp
                go_wp2
                go_loop [6] (fun t6 => ∃ k : Nat, t6 = .int .i64 (k : Int) ∧ k ≤ P.funs.length ∧ ∀ j f, j < k → P.funs[j]? = some f → f.name.size ≤ 20 ∧ f.params.length ≤ 8) (fun t6 => P.funs.length - (intOf t6).toNat)
                case atStart => exact ⟨0, rfl, Nat.zero_le _, fun j s h => by omega⟩
                case round =>
                  obtain ⟨k, rfl, hk, hp⟩ := hrel
                  have Hp := hid hp
                  clear hp
                  by_cases hlt : k < P.funs.length
                  · obtain ⟨y, f, av, cv, rfl, hq, e0, e1, e2, _⟩ := HP.out.funs.at hlt
                    have Hq := hid hq
                    clear hq
                    by_cases hz : 20 < f.name.size
                    · go_wp2
                      go_ret
                      exact ⟨1, rfl, by omega, (fun h => absurd h (by decide)), HX.out⟩
                    · by_cases hz3 : 8 < f.params.length
                      · go_wp2
                        go_ret
                        exact ⟨1, rfl, by omega, (fun h => absurd h (by decide)), HX.out⟩
                      · have hz2 : f.name.size ≤ 20 ∧ f.params.length ≤ 8 := ⟨by omega, by omega⟩
                        have Hz2 := hid hz2
                        clear hz2
                        go_wp2
                        refine ⟨⟨k + 1, by go_num, by omega, fun j s hj hs => ?_⟩, by simp [intOf]; omega⟩
                        by_cases hjk : j = k
                        · subst hjk
                          obtain rfl := Option.some.inj (Hq.out.symm.trans hs)
                          exact Hz2.out
                        · exact Hp.out j s (by omega) hs
                  · obtain rfl : k = P.funs.length := by omega
                    have Hf := hid (show ∀ f ∈ P.funs, f.name.size ≤ 20 ∧ f.params.length ≤ 8 from fun s hs => by
                      obtain ⟨j, hj, e⟩ := List.mem_iff_getElem.1 hs
                      exact Hp.out j s hj (by rw [List.getElem?_eq_getElem hj, e]))
                    clear Hp
                    go_wp2
                    go_loop [7] (fun t7 => ∃ k : Nat, t7 = .int .i64 (k : Int) ∧ k ≤ P.stmts.length ∧ ∀ j s, j < k → P.stmts[j]? = some s → s.kind.size ≤ 20 ∧ s.args.length ≤ 8) (fun t7 => P.stmts.length - (intOf t7).toNat)
                    case atStart => exact ⟨0, rfl, Nat.zero_le _, fun j s h => by omega⟩
                    case round =>
                      obtain ⟨k, rfl, hk, hp⟩ := hrel
                      have Hp := hid hp
                      clear hp
                      by_cases hlt : k < P.stmts.length
                      · obtain ⟨y, s, av, cv, rfl, hq, e0, e1, e2, e3, _⟩ := HP.out.stmts.at hlt
                        have Hq := hid hq
                        clear hq
                        by_cases hz : 20 < s.kind.size
                        · go_wp2
                          go_ret
                          exact ⟨1, rfl, by omega, (fun h => absurd h (by decide)), HX.out⟩
                        · by_cases hz3 : 8 < s.args.length
                          · go_wp2
                            go_ret
                            exact ⟨1, rfl, by omega, (fun h => absurd h (by decide)), HX.out⟩
                          · have hz2 : s.kind.size ≤ 20 ∧ s.args.length ≤ 8 := ⟨by omega, by omega⟩
                            have Hz2 := hid hz2
                            clear hz2
                            go_wp2
                            refine ⟨⟨k + 1, by go_num, by omega, fun j s hj hs => ?_⟩, by simp [intOf]; omega⟩
                            by_cases hjk : j = k
                            · subst hjk
                              obtain rfl := Option.some.inj (Hq.out.symm.trans hs)
                              exact Hz2.out
                            · exact Hp.out j s (by omega) hs
                      · obtain rfl : k = P.stmts.length := by omega
                        have Hs := hid (show P.Small from ⟨Hb.out.1, Hb.out.2.1, Hb.out.2.2, Hv.out, Hf.out, fun s hs => by
                          obtain ⟨j, hj, e⟩ := List.mem_iff_getElem.1 hs
                          exact Hp.out j s hj (by rw [List.getElem?_eq_getElem hj, e])⟩)
                        go_wp2
                        go_ret
                        exact ⟨0, rfl, by omega, fun _ => ⟨Hs.out, Hq8.out, Hv8.out⟩, HX.out⟩
          · have b5n : ((P.stmts.length : Int) != 81) = true := bne_iff_ne.2 b5
            go_wp2
            go_ret
            exact ⟨1, rfl, by omega, (fun h => absurd h (by decide)), (Ext.refl w).alloc _⟩
        · have Hq8 : Hid (P.stmts.length ≤ q ∨ P.stmts.length = 81) := hid (.inl (by omega))
          have Hb := hid (show P.vars.length ≤ 41 ∧ P.funs.length ≤ 8 ∧ P.stmts.length ≤ 81 from ⟨by omega, by omega, by omega⟩)
          go_wp2
          rw [← HWe.out]
          clear b1 b3 b4
          clear b2
          go_loop [5] (fun t5 => ∃ k : Nat, t5 = .int .i64 (k : Int) ∧ k ≤ P.vars.length ∧ ∀ j s, j < k → P.vars[j]? = some s → s.size ≤ 20) (fun t5 => P.vars.length - (intOf t5).toNat)
          case atStart => exact ⟨0, rfl, Nat.zero_le _, fun j s h => by omega⟩
          case round =>
            obtain ⟨k, rfl, hk, hp⟩ := hrel
            have Hp := hid hp
            clear hp
            by_cases hlt : k < P.vars.length
            · obtain ⟨y, q, rfl, hq, hc⟩ := HP.out.vars.at hlt
              have Hq := hid hq
              clear hq
              by_cases hz : 20 < q.size
              · go_wp2
                go_ret
                exact ⟨1, rfl, by omega, (fun h => absurd h (by decide)), HX.out⟩
              · have hz2 : q.size ≤ 20 := by omega
                go_wp2
                refine ⟨⟨k + 1, by go_num, by omega, fun j s hj hs => ?_⟩, by simp [intOf]; omega⟩
                by_cases hjk : j = k
                · subst hjk
                  obtain rfl := Option.some.inj (Hq.out.symm.trans hs)
                  exact hz2
                · exact Hp.out j s (by omega) hs
            · obtain rfl : k = P.vars.length := by omega
              have Hv := hid (show ∀ s ∈ P.vars, s.size ≤ 20 from fun s hs => by
                obtain ⟨j, hj, e⟩ := List.mem_iff_getElem.1 hs
                exact Hp.out j s hj (by rw [List.getElem?_eq_getElem hj, e]))
              clear Hp
              go_wp2
              go_loop [6] (fun t6 => ∃ k : Nat, t6 = .int .i64 (k : Int) ∧ k ≤ P.funs.length ∧ ∀ j f, j < k → P.funs[j]? = some f → f.name.size ≤ 20 ∧ f.params.length ≤ 8) (fun t6 => P.funs.length - (intOf t6).toNat)
              case atStart => exact ⟨0, rfl, Nat.zero_le _, fun j s h => by omega⟩
              case round =>
                obtain ⟨k, rfl, hk, hp⟩ := hrel
                have Hp := hid hp
                clear hp
                by_cases hlt : k < P.funs.length
                · obtain ⟨y, f, av, cv, rfl, hq, e0, e1, e2, _⟩ := HP.out.funs.at hlt
                  have Hq := hid hq
                  clear hq
                  by_cases hz : 20 < f.name.size
                  · go_wp2
                    go_ret
                    exact ⟨1, rfl, by omega, (fun h => absurd h (by decide)), HX.out⟩
                  · by_cases hz3 : 8 < f.params.length
                    · go_wp2
                      go_ret
                      exact ⟨1, rfl, by omega, (fun h => absurd h (by decide)), HX.out⟩
                    · have hz2 : f.name.size ≤ 20 ∧ f.params.length ≤ 8 := ⟨by omega, by omega⟩
                      have Hz2 := hid hz2
                      clear hz2
                      go_wp2
                      refine ⟨⟨k + 1, by go_num, by omega, fun j s hj hs => ?_⟩, by simp [intOf]; omega⟩
                      by_cases hjk : j = k
                      · subst hjk
                        obtain rfl := Option.some.inj (Hq.out.symm.trans hs)
                        exact Hz2.out
                      · exact Hp.out j s (by omega) hs
                · obtain rfl : k = P.funs.length := by omega
                  have Hf := hid (show ∀ f ∈ P.funs, f.name.size ≤ 20 ∧ f.params.length ≤ 8 from fun s hs => by
                    obtain ⟨j, hj, e⟩ := List.mem_iff_getElem.1 hs
                    exact Hp.out j s hj (by rw [List.getElem?_eq_getElem hj, e]))
                  clear Hp
                  go_wp2
                  go_loop [7] (fun t7 => ∃ k : Nat, t7 = .int .i64 (k : Int) ∧ k ≤ P.stmts.length ∧ ∀ j s, j < k → P.stmts[j]? = some s → s.kind.size ≤ 20 ∧ s.args.length ≤ 8) (fun t7 => P.stmts.length - (intOf t7).toNat)
                  case atStart => exact ⟨0, rfl, Nat.zero_le _, fun j s h => by omega⟩
                  case round =>
                    obtain ⟨k, rfl, hk, hp⟩ := hrel
                    have Hp := hid hp
                    clear hp
                    by_cases hlt : k < P.stmts.length
                    · obtain ⟨y, s, av, cv, rfl, hq, e0, e1, e2, e3, _⟩ := HP.out.stmts.at hlt
                      have Hq := hid hq
                      clear hq
                      by_cases hz : 20 < s.kind.size
                      · go_wp2
                        go_ret
                        exact ⟨1, rfl, by omega, (fun h => absurd h (by decide)), HX.out⟩
                      · by_cases hz3 : 8 < s.args.length
                        · go_wp2
                          go_ret
                          exact ⟨1, rfl, by omega, (fun h => absurd h (by decide)), HX.out⟩
                        · have hz2 : s.kind.size ≤ 20 ∧ s.args.length ≤ 8 := ⟨by omega, by omega⟩
                          have Hz2 := hid hz2
                          clear hz2
                          go_wp2
                          refine ⟨⟨k + 1, by go_num, by omega, fun j s hj hs => ?_⟩, by simp [intOf]; omega⟩
                          by_cases hjk : j = k
                          · subst hjk
                            obtain rfl := Option.some.inj (Hq.out.symm.trans hs)
                            exact Hz2.out
                          · exact Hp.out j s (by omega) hs
                    · obtain rfl : k = P.stmts.length := by omega
                      have Hs := hid (show P.Small from ⟨Hb.out.1, Hb.out.2.1, Hb.out.2.2, Hv.out, Hf.out, fun s hs => by
                        obtain ⟨j, hj, e⟩ := List.mem_iff_getElem.1 hs
                        exact Hp.out j s hj (by rw [List.getElem?_eq_getElem hj, e])⟩)
                      go_wp2
                      go_ret
                      exact ⟨0, rfl, by omega, fun _ => ⟨Hs.out, Hq8.out, Hv8.out⟩, HX.out⟩
    · go_wp2
      go_ret
      exact ⟨1, rfl, by omega, (fun h => absurd h (by decide)), (Ext.refl w).alloc _⟩
  · have Hv8 : Hid (P.vars.length ≤ 15 ∨ P.vars.length = 41) := hid (.inl (by omega))
    by_cases b3 : 8 < P.funs.length
    · go_wp2
      go_ret
      exact ⟨1, rfl, by omega, (fun h => absurd h (by decide)), (Ext.refl w).alloc _⟩
    · by_cases b4 : q < P.stmts.length
      · by_cases b5 : (P.stmts.length : Int) = 81
        · have Hq8 : Hid (P.stmts.length ≤ q ∨ P.stmts.length = 81) := hid (.inr (by omega))
          have Hb := hid (show P.vars.length ≤ 41 ∧ P.funs.length ≤ 8 ∧ P.stmts.length ≤ 81 from ⟨by omega, by omega, by omega⟩)
          go_wp2
          rw [← HWe.out]
          clear b1 b3 b4
          clear b5
          skip
          go_loop [5] (fun t5 => ∃ k : Nat, t5 = .int .i64 (k : Int) ∧ k ≤ P.vars.length ∧ ∀ j s, j < k → P.vars[j]? = some s → s.size ≤ 20) (fun t5 => P.vars.length - (intOf t5).toNat)
          case atStart => exact ⟨0, rfl, Nat.zero_le _, fun j s h => by omega⟩
          case round =>
            obtain ⟨k, rfl, hk, hp⟩ := hrel
            have Hp := hid hp
            clear hp
            by_cases hlt : k < P.vars.length
            · obtain ⟨y, q, rfl, hq, hc⟩ := HP.out.vars.at hlt
              have Hq := hid hq
              clear hq
              by_cases hz : 20 < q.size
              · go_wp2
                go_ret
                exact ⟨1, rfl, by omega, (fun h => absurd h (by decide)), HX.out⟩
              · have hz2 : q.size ≤ 20 := by omega
                go_wp2
                refine ⟨⟨k + 1, by go_num, by omega, fun j s hj hs => ?_⟩, by simp [intOf]; omega⟩
                by_cases hjk : j = k
                · subst hjk
                  obtain rfl := Option.some.inj (Hq.out.symm.trans hs)
                  exact hz2
                · exact Hp.out j s (by omega) hs
            · obtain rfl : k = P.vars.length := by omega
              have Hv := hid (show ∀ s ∈ P.vars, s.size ≤ 20 from fun s hs => by
                obtain ⟨j, hj, e⟩ := List.mem_iff_getElem.1 hs
                exact Hp.out j s hj (by rw [List.getElem?_eq_getElem hj, e]))
              clear Hp
              go_wp2
              go_loop [6] (fun t6 => ∃ k : Nat, t6 = .int .i64 (k : Int) ∧ k ≤ P.funs.length ∧ ∀ j f, j < k → P.funs[j]? = some f → f.name.size ≤ 20 ∧ f.params.length ≤ 8) (fun t6 => P.funs.length - (intOf t6).toNat)
              case atStart => exact ⟨0, rfl, Nat.zero_le _, fun j s h => by omega⟩
              case round =>
                obtain ⟨k, rfl, hk, hp⟩ := hrel
                have Hp := hid hp
                clear hp
                by_cases hlt : k < P.funs.length
                · obtain ⟨y, f, av, cv, rfl, hq, e0, e1, e2, _⟩ := HP.out.funs.at hlt
                  have Hq := hid hq
                  clear hq
                  by_cases hz : 20 < f.name.size
                  · go_wp2
                    go_ret
                    exact ⟨1, rfl, by omega, (fun h => absurd h (by decide)), HX.out⟩
                  · by_cases hz3 : 8 < f.params.length
                    · go_wp2
                      go_ret
                      exact ⟨1, rfl, by omega, (fun h => absurd h (by decide)), HX.out⟩
                    · have hz2 : f.name.size ≤ 20 ∧ f.params.length ≤ 8 := ⟨by omega, by omega⟩
                      have Hz2 := hid hz2
                      clear hz2
                      go_wp2
                      refine ⟨⟨k + 1, by go_num, by omega, fun j s hj hs => ?_⟩, by simp [intOf]; omega⟩
                      by_cases hjk : j = k
                      · subst hjk
                        obtain rfl := Option.some.inj (Hq.out.symm.trans hs)
                        exact Hz2.out
                      · exact Hp.out j s (by omega) hs
                · obtain rfl : k = P.funs.length := by omega
                  have Hf := hid (show ∀ f ∈ P.funs, f.name.size ≤ 20 ∧ f.params.length ≤ 8 from fun s hs => by
                    obtain ⟨j, hj, e⟩ := List.mem_iff_getElem.1 hs
                    exact Hp.out j s hj (by rw [List.getElem?_eq_getElem hj, e]))
                  clear Hp
                  go_wp2
                  go_loop [7] (fun t7 => ∃ k : Nat, t7 = .int .i64 (k : Int) ∧ k ≤ P.stmts.length ∧ ∀ j s, j < k → P.stmts[j]? = some s → s.kind.size ≤ 20 ∧ s.args.length ≤ 8) (fun t7 => P.stmts.length - (intOf t7).toNat)
                  case atStart => exact ⟨0, rfl, Nat.zero_le _, fun j s h => by omega⟩
                  case round =>
                    obtain ⟨k, rfl, hk, hp⟩ := hrel
                    have Hp := hid hp
                    clear hp
                    by_cases hlt : k < P.stmts.length
                    · obtain ⟨y, s, av, cv, rfl, hq, e0, e1, e2, e3, _⟩ := HP.out.stmts.at hlt
                      have Hq := hid hq
                      clear hq
                      by_cases hz : 20 < s.kind.size
                      · go_wp2
                        go_ret
                        exact ⟨1, rfl, by omega, (fun h => absurd h (by decide)), HX.out⟩
                      · by_cases hz3 : 8 < s.args.length
                        · go_wp2
                          go_ret
                          exact ⟨1, rfl, by omega, (fun h => absurd h (by decide)), HX.out⟩
                        · have hz2 : s.kind.size ≤ 20 ∧ s.args.length ≤ 8 := ⟨by omega, by omega⟩
                          have Hz2 := hid hz2
                          clear hz2
                          go_wp2
                          refine ⟨⟨k + 1, by go_num, by omega, fun j s hj hs => ?_⟩, by simp [intOf]; omega⟩
                          by_cases hjk : j = k
                          · subst hjk
                            obtain rfl := Option.some.inj (Hq.out.symm.trans hs)
                            exact Hz2.out
                          · exact Hp.out j s (by omega) hs
                    · obtain rfl : k = P.stmts.length := by omega
                      have Hs := hid (show P.Small from ⟨Hb.out.1, Hb.out.2.1, Hb.out.2.2, Hv.out, Hf.out, fun s hs => by
                        obtain ⟨j, hj, e⟩ := List.mem_iff_getElem.1 hs
                        exact Hp.out j s hj (by rw [List.getElem?_eq_getElem hj, e])⟩)
                      go_wp2
                      go_ret
                      exact ⟨0, rfl, by omega, fun _ => ⟨Hs.out, Hq8.out, Hv8.out⟩, HX.out⟩
        · have b5n : ((P.stmts.length : Int) != 81) = true := bne_iff_ne.2 b5
          go_wp2
          go_ret
          exact ⟨1, rfl, by omega, (fun h => absurd h (by decide)), (Ext.refl w).alloc _⟩
      · have Hq8 : Hid (P.stmts.length ≤ q ∨ P.stmts.length = 81) := hid (.inl (by omega))
        have Hb := hid (show P.vars.length ≤ 41 ∧ P.funs.length ≤ 8 ∧ P.stmts.length ≤ 81 from ⟨by omega, by omega, by omega⟩)
        go_wp2
        rw [← HWe.out]
        clear b1 b3 b4
        skip
        go_loop [5] (fun t5 => ∃ k : Nat, t5 = .int .i64 (k : Int) ∧ k ≤ P.vars.length ∧ ∀ j s, j < k → P.vars[j]? = some s → s.size ≤ 20) (fun t5 => P.vars.length - (intOf t5).toNat)
        case atStart => exact ⟨0, rfl, Nat.zero_le _, fun j s h => by omega⟩
        case round =>
          obtain ⟨k, rfl, hk, hp⟩ := hrel
          have Hp := hid hp
          clear hp
          by_cases hlt : k < P.vars.length
          · obtain ⟨y, q, rfl, hq, hc⟩ := HP.out.vars.at hlt
            have Hq := hid hq
            clear hq
            by_cases hz : 20 < q.size
            · go_wp2
              go_ret
              exact ⟨1, rfl, by omega, (fun h => absurd h (by decide)), HX.out⟩
            · have hz2 : q.size ≤ 20 := by omega
              go_wp2
              refine ⟨⟨k + 1, by go_num, by omega, fun j s hj hs => ?_⟩, by simp [intOf]; omega⟩
              by_cases hjk : j = k
              · subst hjk
                obtain rfl := Option.some.inj (Hq.out.symm.trans hs)
                exact hz2
              · exact Hp.out j s (by omega) hs
          · obtain rfl : k = P.vars.length := by omega
            have Hv := hid (show ∀ s ∈ P.vars, s.size ≤ 20 from fun s hs => by
              obtain ⟨j, hj, e⟩ := List.mem_iff_getElem.1 hs
              exact Hp.out j s hj (by rw [List.getElem?_eq_getElem hj, e]))
            clear Hp
            go_wp2
            go_loop [6] (fun t6 => ∃ k : Nat, t6 = .int .i64 (k : Int) ∧ k ≤ P.funs.length ∧ ∀ j f, j < k → P.funs[j]? = some f → f.name.size ≤ 20 ∧ f.params.length ≤ 8) (fun t6 => P.funs.length - (intOf t6).toNat)
            case atStart => exact ⟨0, rfl, Nat.zero_le _, fun j s h => by omega⟩
            case round =>
              obtain ⟨k, rfl, hk, hp⟩ := hrel
              have Hp := hid hp
              clear hp
              by_cases hlt : k < P.funs.length
              · obtain ⟨y, f, av, cv, rfl, hq, e0, e1, e2, _⟩ := HP.out.funs.at hlt
                have Hq := hid hq
                clear hq
                by_cases hz : 20 < f.name.size
                · go_wp2
                  go_ret
                  exact ⟨1, rfl, by omega, (fun h => absurd h (by decide)), HX.out⟩
                · by_cases hz3 : 8 < f.params.length
                  · go_wp2
                    go_ret
                    exact ⟨1, rfl, by omega, (fun h => absurd h (by decide)), HX.out⟩
                  · have hz2 : f.name.size ≤ 20 ∧ f.params.length ≤ 8 := ⟨by omega, by omega⟩
                    have Hz2 := hid hz2
                    clear hz2
                    go_wp2
                    refine ⟨⟨k + 1, by go_num, by omega, fun j s hj hs => ?_⟩, by simp [intOf]; omega⟩
                    by_cases hjk : j = k
                    · subst hjk
                      obtain rfl := Option.some.inj (Hq.out.symm.trans hs)
                      exact Hz2.out
                    · exact Hp.out j s (by omega) hs
              · obtain rfl : k = P.funs.length := by omega
                have Hf := hid (show ∀ f ∈ P.funs, f.name.size ≤ 20 ∧ f.params.length ≤ 8 from fun s hs => by
                  obtain ⟨j, hj, e⟩ := List.mem_iff_getElem.1 hs
                  exact Hp.out j s hj (by rw [List.getElem?_eq_getElem hj, e]))
                clear Hp
                go_wp2
                go_loop [7] (fun t7 => ∃ k : Nat, t7 = .int .i64 (k : Int) ∧ k ≤ P.stmts.length ∧ ∀ j s, j < k → P.stmts[j]? = some s → s.kind.size ≤ 20 ∧ s.args.length ≤ 8) (fun t7 => P.stmts.length - (intOf t7).toNat)
                case atStart => exact ⟨0, rfl, Nat.zero_le _, fun j s h => by omega⟩
                case round =>
                  obtain ⟨k, rfl, hk, hp⟩ := hrel
                  have Hp := hid hp
                  clear hp
                  by_cases hlt : k < P.stmts.length
                  · obtain ⟨y, s, av, cv, rfl, hq, e0, e1, e2, e3, _⟩ := HP.out.stmts.at hlt
                    have Hq := hid hq
                    clear hq
                    by_cases hz : 20 < s.kind.size
                    · go_wp2
                      go_ret
                      exact ⟨1, rfl, by omega, (fun h => absurd h (by decide)), HX.out⟩
                    · by_cases hz3 : 8 < s.args.length
                      · go_wp2
                        go_ret
                        exact ⟨1, rfl, by omega, (fun h => absurd h (by decide)), HX.out⟩
                      · have hz2 : s.kind.size ≤ 20 ∧ s.args.length ≤ 8 := ⟨by omega, by omega⟩
                        have Hz2 := hid hz2
                        clear hz2
                        go_wp2
                        refine ⟨⟨k + 1, by go_num, by omega, fun j s hj hs => ?_⟩, by simp [intOf]; omega⟩
                        by_cases hjk : j = k
                        · subst hjk
                          obtain rfl := Option.some.inj (Hq.out.symm.trans hs)
                          exact Hz2.out
                        · exact Hp.out j s (by omega) hs
                  · obtain rfl : k = P.stmts.length := by omega
                    have Hs := hid (show P.Small from ⟨Hb.out.1, Hb.out.2.1, Hb.out.2.2, Hv.out, Hf.out, fun s hs => by
                      obtain ⟨j, hj, e⟩ := List.mem_iff_getElem.1 hs
                      exact Hp.out j s hj (by rw [List.getElem?_eq_getElem hj, e])⟩)
                    go_wp2
                    go_ret
                    exact ⟨0, rfl, by omega, fun _ => ⟨Hs.out, Hq8.out, Hv8.out⟩, HX.out⟩
def seen (l : List Int) : List Value := (List.range 1000).map fun n : Nat => Value.bool (decide ((n : Int) ∈ l))
def setUp (l : List Int) (n : Nat) : List Int := ((List.range n).filter fun k : Nat => decide ((k : Int) ∈ l)).map fun k : Nat => (k : Int)
theorem BagAt.inr {P : PP} {has : List (List Int)} {EL : List (Int × Int)} {k m : Nat} {B : List (List Int)} (h : BagAt P has EL k m B) {l : List Int} (hl : l ∈ B) : InR l := fun x hx => by
  obtain ⟨S, h1, h2, h3⟩ := h.set
  obtain ⟨i, hi, rfl⟩ := List.getElem_of_mem hl
  have hx' : x ∈ B.getD i [] := by rw [List.getD_eq_getElem?_getD, List.getElem?_eq_getElem hi]; exact hx
  exact (chkE_zero.1 (h1.ok _ (getD_mem (by rw [← h2]; exact hi)))).1 x ((h3 i x).1 hx')
def NewS (w : World) (base : Nat) (v : Value) : Prop := ∀ y n c, v = .slice (some y) n c → 0 < n → base ≤ y.block ∧ ∀ i u, i < n → w.cell? (y.add i) = some u → ∀ b, u.ownBlock = some b → base ≤ b
theorem NewS.ext {w w' : World} {base n0 : Nat} {v : Value} {L : List (List Int)} (h : NewS w base v) (hs : SetsR w n0 v L) (x : Ext w w') : NewS w' base v := by
  intro y n c e h0
  obtain ⟨k1, k2⟩ := h y n c e h0
  refine ⟨k1, fun i u hi hu b hb => ?_⟩
  obtain ⟨a, cap, g1, g2, g3, g4, g5⟩ := hs
  subst e
  obtain ⟨rfl, rfl, rfl⟩ : some y = a ∧ n = L.length ∧ c = cap := by simpa using g1
  obtain ⟨u0, hu0, _⟩ := (g5 y rfl h0).2 i hi _ (List.getElem?_eq_getElem hi)
  have := x.cellx hu0
  rw [hu] at this
  obtain rfl := Option.some.inj this
  exact k2 i _ hi hu0 b hb
theorem NewS.low {w : World} {base b2 : Nat} {v : Value} (h : NewS w base v) (hb : b2 ≤ base) : NewS w b2 v := fun y n c e h0 => ⟨Nat.le_trans hb (h y n c e h0).1, fun i u hi hu b hb' => Nat.le_trans hb ((h y n c e h0).2 i u hi hu b hb')⟩
theorem NewS.made {w : World} {base n : Nat} {v : Value} {vs : List Value} (h : w.ownsRow base 43 1 v n vs) (hn : ∀ u ∈ vs, ∀ b, u.ownBlock = some b → base ≤ b) : NewS w base v := by
  intro y m c e h0
  rcases h.2 with ⟨rfl, h0⟩ | ⟨g, cap, cur, rfl, hb, hg, hn', hc, hcs, ht⟩
  · cases e
  · obtain ⟨rfl, rfl, rfl⟩ : (⟨g, 0, none⟩ : Addr) = y ∧ n = m ∧ cap = c := by simpa using e
    refine ⟨hb, fun i u hi hu b hub => ?_⟩
    have hl : vs.length = n := by have := h.1; omega
    have h2 := own_get h i (List.getElem?_eq_getElem (show i < vs.length by omega))
    rw [show (⟨g, 0, none⟩ : Addr).add i = ⟨g, i, none⟩ from by by_cases h0 : i = 0 <;> simp [Addr.add, h0], h2] at hu
    obtain rfl := Option.some.inj hu
    exact hn _ (List.getElem_mem _) b hub
def vkVar : List UInt8 := [118, 97, 114]
def vkThing : List UInt8 := [116, 104, 105, 110, 103]
def vkFun : List UInt8 := [102, 117, 110]
def PP.objV (P : PP) (pl : List Int) (k : List UInt8) (n : Int) : Int :=
  bif k == vkVar then (if 0 ≤ n ∧ n < P.vars.length then n else -1) else
  bif k == vkThing then (if 0 ≤ n ∧ n < pl.length then P.placeV (pl.getD n.toNat 0) else -1) else
  bif k == vkFun then (if 0 ≤ n ∧ n < P.funs.length then (P.nodesV : Int) + n else -1) else -1
theorem PP.nodesV_le (P : PP) : P.nodesV ≤ P.vars.length + P.stmts.length := by
  unfold PP.nodesV
  have := P.newsN_le P.stmts.length
  omega
end Go.Proofs.YtihdpijgngooaaaGreatDoor
