/- Texts of one proof, put together: YA YP YQ YK S3 S4. -/
import Derived.Test.YtdppgcbekhabnaaGreatDoorSD11
import Derived.Test.YtdppgcbekhabnaaGreatDoorSD12
import Derived.Test.YtdppgcbekhabnaaGreatDoorSD13
import Derived.Lib.SlicesCompact
import Derived.Lib.AppendZeros

/- Edges of any rule of a well program. -/
namespace Go.Proofs.YtdppgcbekhabnaaGreatDoor
set_option linter.unusedSimpArgs false
set_option linter.unusedVariables false
open Go Go.RowKit

set_option maxRecDepth 100000 in
set_option maxHeartbeats 6400000 in
theorem redges_base (a1 a2 a3 : Option Addr) (c1 c2 c3 : Nat) (P : PP) (r : RV) (av hv : Value) (has : List (List Int)) (w : World) (n0 : Nat) (ad : Nat → Addr) (h : PW w n0 ad a1 a2 a3 c1 c2 c3 P) (ha : IntsR w n0 av r.args) (hh : SetsR w n0 hv has) (hfew : ∀ l ∈ has, l.length ≤ 10000) (hkd : (r.kind.toList == [98, 97, 115, 101]) = true) :
    Calls Tryz.prog 113 #[pval a1 a2 a3 c1 c2 c3 P, r.val av, hv] w fun e w' => ∃ v, e = .returned v ∧ ERow w.heap.size w' v (P.redges r has) ∧ Ext w w' := by
  obtain ⟨aa, ca, rfl, _⟩ := id ha
  obtain ⟨ah, ch, rfl⟩ := hh.form
  have hhl := hh.len
  have hal := ha.len
  obtain ⟨W1, hW1⟩ : ∃ W1, W1 = w.alloc (.cells (pcells a1 a2 a3 c1 c2 c3 P) 26) := ⟨_, rfl⟩
  have hx1 : Ext w W1 := by rw [hW1]; exact (Ext.refl _).alloc _
  obtain ⟨W, hW⟩ : ∃ W, W = W1.alloc (.cells #[.string r.kind, .int .i64 r.a, .int .i64 r.b, .int .i64 r.k, .slice aa r.args.length ca] 86) := ⟨_, rfl⟩
  have hx2 : Ext W1 W := by rw [hW]; exact (Ext.refl _).alloc _
  have s1 : W1.heap.size = w.heap.size + 1 := by rw [hW1, heap_size_alloc]
  have HX := hid (hx1.trans hx2)
  have HB0 : Hid (Blk W w.heap.size (pcells a1 a2 a3 c1 c2 c3 P) 26) := hid (by
    have : Blk W1 w.heap.size (pcells a1 a2 a3 c1 c2 c3 P) 26 := by rw [hW1]; exact Blk.new _ _ _
    exact this.ext hx2)
  have HB1 : Hid (Blk W (w.heap.size + 1) #[.string r.kind, .int .i64 r.a, .int .i64 r.b, .int .i64 r.k, .slice aa r.args.length ca] 86) := hid (by rw [← s1, hW]; exact Blk.new _ _ _)
  have HWe : Hid (W = (w.alloc (.cells #[.slice a1 P.vars.length c1, .slice a2 P.funs.length c2, .slice a3 P.stmts.length c3] 26)).alloc (.cells #[.string r.kind, .int .i64 r.a, .int .i64 r.b, .int .i64 r.k, .slice aa r.args.length ca] 86)) := hid (by rw [hW, hW1]; rfl)
  have HPW := hid h
  have HH := hid hh
  have HA := hid ha
  have Hfew := hid hfew
  unfold RV.val pval
  clear h ha hh hfew hW1 hW hx1 hx2 s1
  have hk0 : (r.kind.toList == [99, 111, 112, 121]) = false := by rw [eq_of_beq hkd]; rfl
  have hk1 : (r.kind.toList == [108, 111, 97, 100]) = false := by rw [eq_of_beq hkd]; rfl
  have hk2 : (r.kind.toList == [115, 116, 111, 114, 101]) = false := by rw [eq_of_beq hkd]; rfl
  have hk3 : (r.kind.toList == [99, 97, 108, 108]) = false := by rw [eq_of_beq hkd]; rfl
  have Hr : Hid (P.redges r has = []) := hid (by unfold PP.redges kCopy kLoad kStore kCall; rw [hk0, hk1, hk2, hk3]; rfl)
  clear hkd
  go_enter Tryz.func113, Tryz.ntmps113
  go_wp2
  go_ret
  exact ⟨_, rfl, by rw [Hr.out]; exact ERow.nil _ _, ((Ext.refl w).alloc _).alloc _⟩
theorem bBase_list : (bBase.toList == [98, 97, 115, 101]) = true := by decide +kernel
theorem bCall_list : (bCall.toList == [99, 97, 108, 108]) = true := by decide +kernel
/-- Sets that are well: one for each node, each a set of objects. -/
structure SetsOk (P : PP) (has : List (List Int)) : Prop where
  len : has.length = P.nodesV
  ok : ∀ l ∈ has, chkE l = 0 ∧ ∀ x ∈ l, x < P.objectsV
theorem SetsOk.inr {P : PP} {has : List (List Int)} (h : SetsOk P has) : ∀ l ∈ has, InR l := fun l hl => (chkE_zero.1 (h.ok l hl).1).1
theorem srt_few {l : List Int} (h : chkE l = 0) : l.length ≤ 1000 := by
  obtain ⟨h1, h2⟩ := chkE_zero.1 h
  rw [← sset_self h2 h1]
  unfold sset
  rw [List.length_map]
  have := List.length_filter_le (fun n : Nat => decide ((n : Int) ∈ l)) (List.range 1000)
  rw [List.length_range] at this
  exact this
theorem nodes_vars (P : PP) : P.vars.length ≤ P.nodesV := by unfold PP.nodesV; omega
theorem redges_any (a1 a2 a3 : Option Addr) (c1 c2 c3 : Nat) (P : PP) (k : Nat) (hk : k < P.stmts.length) (av hv : Value) (has : List (List Int)) (w : World) (n0 : Nat) (ad : Nat → Addr) (h : PW w n0 ad a1 a2 a3 c1 c2 c3 P) (ha : IntsR w n0 av (P.ruleV k (P.stAt k)).args) (hh : SetsR w n0 hv has) (hs : SetsOk P has) (hn0 : n0 ≤ w.heap.size) :
    Calls Tryz.prog 113 #[pval a1 a2 a3 c1 c2 c3 P, (P.ruleV k (P.stAt k)).val av, hv] w fun e w' => ∃ v, e = .returned v ∧ ERow w.heap.size w' v (P.redges (P.ruleV k (P.stAt k)) has) ∧ Ext w w' := by
  have h0 := h.well.2 k (P.stAt k) hk (stAt_some hk)
  have hg := PP.good h0
  have hfew : ∀ l ∈ has, l.length ≤ 10000 := fun l hl => by have := srt_few (hs.ok l hl).1; omega
  have hnv := nodes_vars P
  have hl := hs.len
  obtain ⟨x, hx⟩ : ∃ x, x = P.stAt k := ⟨_, rfl⟩
  rw [← hx] at h0 hg ha ⊢
  rcases kind_cases h0 with g | g | g | g | g | g | g
  · have e : P.ruleV k x = ⟨bBase, x.x, x.y, k, []⟩ := by unfold PP.ruleV; rw [g]; rfl
    exact redges_base a1 a2 a3 c1 c2 c3 P _ av hv has w n0 ad h ha hh hfew (by rw [e]; exact bBase_list)
  · have e : P.ruleV k x = ⟨x.kind, x.y, x.x, k, []⟩ := by unfold PP.ruleV; rw [isK_ne g (k' := kAddr) rfl, isK_ne g (k' := kNew) rfl, isK_ne g (k' := kFun) rfl, isK_ne g (k' := kCall) rfl]; rfl
    exact redges_copy a1 a2 a3 c1 c2 c3 P _ av hv has w n0 ad h ha hh hfew (by rw [e]; exact g)
  · have e : P.ruleV k x = ⟨x.kind, x.y, x.x, k, []⟩ := by unfold PP.ruleV; rw [isK_ne g (k' := kAddr) rfl, isK_ne g (k' := kNew) rfl, isK_ne g (k' := kFun) rfl, isK_ne g (k' := kCall) rfl]; rfl
    have hy := hg.yv (isK_ne g (k' := kFun) rfl) (isK_ne g (k' := kNew) rfl)
    exact redges_load a1 a2 a3 c1 c2 c3 P _ av hv has w n0 ad h ha hh hfew (by rw [e]; exact g) (by rw [e]; show 0 ≤ x.y ∧ x.y < has.length; omega)
  · have e : P.ruleV k x = ⟨x.kind, x.y, x.x, k, []⟩ := by unfold PP.ruleV; rw [isK_ne g (k' := kAddr) rfl, isK_ne g (k' := kNew) rfl, isK_ne g (k' := kFun) rfl, isK_ne g (k' := kCall) rfl]; rfl
    have hy := hg.gx
    exact redges_store a1 a2 a3 c1 c2 c3 P _ av hv has w n0 ad h ha hh hfew (by rw [e]; exact g) (by rw [e]; show 0 ≤ x.x ∧ x.x < has.length; omega)
  · have e : P.ruleV k x = ⟨bBase, x.x, P.placeV k, k, []⟩ := by unfold PP.ruleV; rw [isK_ne g (k' := kAddr) rfl, g]; rfl
    exact redges_base a1 a2 a3 c1 c2 c3 P _ av hv has w n0 ad h ha hh hfew (by rw [e]; exact bBase_list)
  · have e : P.ruleV k x = ⟨bBase, x.x, (P.nodesV : Int) + x.y, k, []⟩ := by unfold PP.ruleV; rw [isK_ne g (k' := kAddr) rfl, isK_ne g (k' := kNew) rfl, g]; rfl
    exact redges_base a1 a2 a3 c1 c2 c3 P _ av hv has w n0 ad h ha hh hfew (by rw [e]; exact bBase_list)
  · have e : P.ruleV k x = ⟨bCall, x.y, x.x, k, x.args⟩ := by unfold PP.ruleV; rw [isK_ne g (k' := kAddr) rfl, isK_ne g (k' := kNew) rfl, isK_ne g (k' := kFun) rfl, g]; rfl
    have hy := hg.yv (isK_ne g (k' := kFun) rfl) (isK_ne g (k' := kNew) rfl)
    exact redges_call a1 a2 a3 c1 c2 c3 P _ av hv has w n0 ad h ha hh hfew (by rw [e]; exact bCall_list) (by rw [e]; show 0 ≤ x.y ∧ x.y < has.length; omega) hs.inr hn0
end Go.Proofs.YtdppgcbekhabnaaGreatDoor



/- Edges, plainly: pairs of numbers in order, each once. -/
namespace Go.Proofs.YtdppgcbekhabnaaGreatDoor
set_option linter.unusedSimpArgs false
set_option linter.unusedVariables false

/-- The order of pairs. -/
def lexLt (a b : Int × Int) : Prop := a.1 < b.1 ∨ (a.1 = b.1 ∧ a.2 < b.2)
def lexLe (a b : Int × Int) : Prop := lexLt a b ∨ a = b
theorem lexLt.irr (a : Int × Int) : ¬ lexLt a a := by unfold lexLt; omega
theorem lexLt.trans {a b c : Int × Int} (h : lexLt a b) (k : lexLt b c) : lexLt a c := by unfold lexLt at *; omega
theorem lexLt.tri (a b : Int × Int) : lexLt a b ∨ a = b ∨ lexLt b a := by
  obtain ⟨a1, a2⟩ := a
  obtain ⟨b1, b2⟩ := b
  unfold lexLt
  simp only [Prod.mk.injEq]
  omega
theorem lexLe.lt {a b : Int × Int} (h : lexLe a b) (hn : a ≠ b) : lexLt a b := h.elim id fun e => absurd e hn
theorem lexLe.trans_lt {a b c : Int × Int} (h : lexLe a b) (k : lexLt b c) : lexLt a c := h.elim (fun h => h.trans k) (fun e => by rw [e]; exact k)
/-- A list of pairs that rises. -/
abbrev SrtP (l : List (Int × Int)) : Prop := l.Pairwise lexLt
theorem srtP_uniq : ∀ {a b : List (Int × Int)}, SrtP a → SrtP b → (∀ x, x ∈ a ↔ x ∈ b) → a = b
  | [], [], _, _, _ => rfl
  | [], y :: b, _, _, h => absurd ((h y).2 (List.mem_cons_self ..)) (List.not_mem_nil)
  | x :: a, [], _, _, h => absurd ((h x).1 (List.mem_cons_self ..)) (List.not_mem_nil)
  | x :: a, y :: b, ha, hb, h => by
    obtain ⟨ha1, ha2⟩ := List.pairwise_cons.1 ha
    obtain ⟨hb1, hb2⟩ := List.pairwise_cons.1 hb
    have hxy : x = y := by
      have h1 : x ∈ y :: b := (h x).1 (List.mem_cons_self ..)
      have h2 : y ∈ x :: a := (h y).2 (List.mem_cons_self ..)
      rcases List.mem_cons.1 h1 with e | e
      · exact e
      · rcases List.mem_cons.1 h2 with f | f
        · exact f.symm
        · exact absurd ((hb1 x e).trans (ha1 y f)) (lexLt.irr _)
    subst hxy
    congr 1
    refine srtP_uniq ha2 hb2 fun z => ⟨fun hz => ?_, fun hz => ?_⟩
    · rcases List.mem_cons.1 ((h z).1 (List.mem_cons_of_mem _ hz)) with e | e
      · have := ha1 z hz; rw [e] at this; exact absurd this (lexLt.irr _)
      · exact e
    · rcases List.mem_cons.1 ((h z).2 (List.mem_cons_of_mem _ hz)) with e | e
      · have := hb1 z hz; rw [e] at this; exact absurd this (lexLt.irr _)
      · exact e
/-- What is in order, and compacted, rises, and has the same ones. -/
theorem compactP_upto (zs : List (Int × Int)) (hz : zs.Pairwise lexLe) : ∀ m, m ≤ zs.length → (∀ x, x ∈ Go.Lib.compactUpTo zs.toArray m ↔ x ∈ zs.take m) ∧ SrtP (Go.Lib.compactUpTo zs.toArray m)
  | 0, _ => ⟨fun x => by simp [Go.Lib.compactUpTo], by simp [Go.Lib.compactUpTo]⟩
  | m + 1, hm => by
    obtain ⟨h1, h2⟩ := compactP_upto zs hz m (by omega)
    have hg : zs.toArray[m]! = zs[m]'(by omega) := by simp [getElem!_pos, show m < zs.length by omega]
    have ht : zs.take (m + 1) = zs.take m ++ [zs[m]'(by omega)] := by rw [List.take_add_one, List.getElem?_eq_getElem (by omega)]; rfl
    rw [Go.Lib.compactUpTo_succ]
    by_cases hk : Go.Lib.keeps zs.toArray m = true
    · rw [if_pos hk, hg, ht]
      refine ⟨fun x => by rw [List.mem_append, List.mem_append, h1], ?_⟩
      refine List.pairwise_append.2 ⟨h2, List.pairwise_singleton _ _, fun a ha b hb => ?_⟩
      obtain rfl := List.mem_singleton.1 hb
      have ha' := (h1 a).1 ha
      obtain ⟨i, hi, rfl⟩ := List.getElem_of_mem ha'
      rw [List.length_take] at hi
      rw [List.getElem_take]
      unfold Go.Lib.keeps at hk
      rcases of_decide_eq_true hk with e | e
      · omega
      · have hg2 : zs.toArray[m - 1]! = zs[m - 1]'(by omega) := by simp [getElem!_pos, show m - 1 < zs.length by omega]
        rw [hg, hg2] at e
        have p1 : lexLt (zs[m - 1]'(by omega)) (zs[m]'(by omega)) := (List.pairwise_iff_getElem.1 hz (m - 1) m (by omega) (by omega) (by omega)).lt fun h => e h.symm
        have p2 : lexLe (zs[i]'(by omega)) (zs[m - 1]'(by omega)) := by
          rcases Nat.lt_or_ge i (m - 1) with h | h
          · exact List.pairwise_iff_getElem.1 hz i (m - 1) (by omega) (by omega) h
          · have : i = m - 1 := by omega
            subst this; exact .inr rfl
        exact p2.trans_lt p1
    · rw [if_neg hk, List.append_nil]
      refine ⟨fun x => ?_, h2⟩
      rw [h1, ht, List.mem_append]
      refine ⟨.inl, fun h => h.elim id fun hx => ?_⟩
      obtain rfl := List.mem_singleton.1 hx
      unfold Go.Lib.keeps at hk
      have hk' : ¬ (m = 0 ∨ zs.toArray[m]! ≠ zs.toArray[m - 1]!) := fun h => hk (decide_eq_true h)
      have hg2 : zs.toArray[m - 1]! = zs[m - 1]'(by omega) := by simp [getElem!_pos, show m - 1 < zs.length by omega]
      have e : zs[m]'(by omega) = zs[m - 1]'(by omega) := by
        rcases Classical.em (zs[m]'(by omega) = zs[m - 1]'(by omega)) with e | e
        · exact e
        · exact absurd (.inr (by rw [hg, hg2]; exact e)) hk'
      have hm0 : m ≠ 0 := fun h => hk' (.inl h)
      rw [e]
      have : zs[m - 1]'(by omega) = (zs.take m)[m - 1]'(by rw [List.length_take]; omega) := by rw [List.getElem_take]
      rw [this]
      exact List.getElem_mem _
theorem compactP (zs : List (Int × Int)) (hz : zs.Pairwise lexLe) : (∀ x, x ∈ Go.Lib.compact zs ↔ x ∈ zs) ∧ SrtP (Go.Lib.compact zs) := by
  obtain ⟨h1, h2⟩ := compactP_upto zs hz _ (Nat.le_refl _)
  refine ⟨fun x => ?_, by unfold Go.Lib.compact; exact h2⟩
  have := h1 x
  unfold Go.Lib.compact
  rw [this, List.take_of_length_le (Nat.le_refl _)]
end Go.Proofs.YtdppgcbekhabnaaGreatDoor



/- Edges of a program, plainly: which they are, whatever the order of statements. -/
namespace Go.Proofs.YtdppgcbekhabnaaGreatDoor
set_option linter.unusedSimpArgs false
set_option linter.unusedVariables false
open Go Go.RowKit

/-- Edges as the rules tell them. -/
def PP.edges0 (P : PP) (has : List (List Int)) : List (Int × Int) := P.rulesV.flatMap fun r => P.redges r has
/-- Edges of a statement. -/
def PP.sedges (P : PP) (x : PS) (has : List (List Int)) : List (Int × Int) := P.redges (P.ruleV 0 x) has
theorem redges_nil {P : PP} {r : RV} {has : List (List Int)} (h : r.kind = bBase) : P.redges r has = [] := by
  have e := eq_of_beq bBase_list
  unfold PP.redges kCopy kLoad kStore kCall
  rw [h, e]; rfl
theorem redges_s (P : PP) (k : Nat) (x : PS) (has : List (List Int)) : P.redges (P.ruleV k x) has = P.sedges x has := by
  unfold PP.sedges
  by_cases h1 : x.isK kAddr = true
  · rw [redges_nil (by unfold PP.ruleV; rw [h1]; rfl), redges_nil (by unfold PP.ruleV; rw [h1]; rfl)]
  · by_cases h2 : x.isK kNew = true
    · rw [redges_nil (by unfold PP.ruleV; rw [eq_false_of_ne_true h1, h2]; rfl), redges_nil (by unfold PP.ruleV; rw [eq_false_of_ne_true h1, h2]; rfl)]
    · by_cases h3 : x.isK kFun = true
      · rw [redges_nil (by unfold PP.ruleV; rw [eq_false_of_ne_true h1, eq_false_of_ne_true h2, h3]; rfl), redges_nil (by unfold PP.ruleV; rw [eq_false_of_ne_true h1, eq_false_of_ne_true h2, h3]; rfl)]
      · unfold PP.ruleV
        rw [eq_false_of_ne_true h1, eq_false_of_ne_true h2, eq_false_of_ne_true h3]
        cases x.isK kCall <;> rfl
theorem mem_edges0 {P : PP} {has : List (List Int)} {e : Int × Int} : e ∈ P.edges0 has ↔ ∃ x ∈ P.stmts, e ∈ P.sedges x has := by
  unfold PP.edges0 PP.rulesV PP.rulesUp
  rw [List.mem_flatMap]
  constructor
  · rintro ⟨r, hr, he⟩
    obtain ⟨k, hk, rfl⟩ := List.mem_map.1 hr
    rw [redges_s] at he
    exact ⟨P.stAt k, List.mem_of_getElem? (stAt_some (List.mem_range.1 hk)), he⟩
  · rintro ⟨x, hx, he⟩
    obtain ⟨k, hk, hkx⟩ := List.getElem_of_mem hx
    have e1 : P.stAt k = x := by
      have := stAt_some hk
      rw [List.getElem?_eq_getElem hk, hkx] at this
      exact (Option.some.inj this).symm
    refine ⟨P.ruleV k (P.stAt k), List.mem_map.2 ⟨k, List.mem_range.2 hk, rfl⟩, ?_⟩
    rw [redges_s, e1]; exact he
/-- A statement's edges speak of the number of nodes, and of the functions, alone. -/
theorem sedges_congr {P Q : PP} (hn : P.nodesV = Q.nodesV) (hf : P.funs = Q.funs) (x : PS) (has : List (List Int)) : P.sedges x has = Q.sedges x has := by
  unfold PP.sedges
  by_cases h1 : x.isK kAddr = true
  · rw [redges_nil (by unfold PP.ruleV; rw [h1]; rfl), redges_nil (by unfold PP.ruleV; rw [h1]; rfl)]
  · by_cases h2 : x.isK kNew = true
    · rw [redges_nil (by unfold PP.ruleV; rw [eq_false_of_ne_true h1, h2]; rfl), redges_nil (by unfold PP.ruleV; rw [eq_false_of_ne_true h1, h2]; rfl)]
    · by_cases h3 : x.isK kFun = true
      · rw [redges_nil (by unfold PP.ruleV; rw [eq_false_of_ne_true h1, eq_false_of_ne_true h2, h3]; rfl), redges_nil (by unfold PP.ruleV; rw [eq_false_of_ne_true h1, eq_false_of_ne_true h2, h3]; rfl)]
      · have e : P.ruleV 0 x = Q.ruleV 0 x := by
          unfold PP.ruleV
          rw [eq_false_of_ne_true h1, eq_false_of_ne_true h2, eq_false_of_ne_true h3]; rfl
        rw [e]
        unfold PP.redges PP.nodesOf
        rw [hn]
        have hc : P.callsOf (Q.ruleV 0 x) = Q.callsOf (Q.ruleV 0 x) := by
          funext o
          unfold PP.callsOf PP.funV
          rw [hn, hf]
        rw [hc]
end Go.Proofs.YtdppgcbekhabnaaGreatDoor



/- Edges of a well program are of its nodes. -/
namespace Go.Proofs.YtdppgcbekhabnaaGreatDoor
set_option linter.unusedSimpArgs false
set_option linter.unusedVariables false
open Go Go.RowKit

/-- Both ends are nodes. -/
def PP.InN (P : PP) (e : Int × Int) : Prop := 0 ≤ e.1 ∧ e.1 < P.nodesV ∧ 0 ≤ e.2 ∧ e.2 < P.nodesV
theorem nodes_in {P : PP} {has : List (List Int)} (hs : SetsOk P has) (i : Nat) (o : Int) (ho : o ∈ P.nodesOf (has.getD i [])) : 0 ≤ o ∧ o < (P.nodesV : Int) := by
  unfold PP.nodesOf at ho
  obtain ⟨h1, h2⟩ := List.mem_filter.1 ho
  have h3 : o < (P.nodesV : Int) := by simpa using h2
  rw [List.getD_eq_getElem?_getD] at h1
  cases he : has[i]? with
  | none => rw [he] at h1; cases h1
  | some l => rw [he] at h1; exact ⟨(hs.inr l (List.mem_of_getElem? he) o h1).1, h3⟩
theorem called_in {P : PP} (hw : P.Well) {f : PF} (hf : f ∈ P.funs) {r : RV} (hb : 0 ≤ r.b ∧ r.b < P.nodesV) (ha : ∀ a ∈ r.args, 0 ≤ a ∧ a < (P.nodesV : Int)) : ∀ e ∈ calledV f r, P.InN e := by
  intro e he
  have g := PP.goodF (PP.funs_ok hw.1) hf
  have hnv := nodes_vars P
  unfold calledV at he
  split at he
  · rcases List.mem_cons.1 he with rfl | he
    · have := g.ret
      exact ⟨this.1, by show f.ret < _; omega, hb.1, hb.2⟩
    · obtain ⟨a, b⟩ := e
      obtain ⟨h1, h2⟩ := List.of_mem_zip he
      have p1 := ha a h1
      have p2 := g.params b h2
      exact ⟨p1.1, p1.2, p2.1, by show b < _; omega⟩
  · cases he
set_option maxRecDepth 100000 in
theorem redges_in {P : PP} {has : List (List Int)} (hw : P.Well) (hs : SetsOk P has) {k : Nat} (hk : k < P.stmts.length) : ∀ e ∈ P.redges (P.ruleV k (P.stAt k)) has, P.InN e := by
  have h0 := hw.2 k (P.stAt k) hk (stAt_some hk)
  have hg := PP.good h0
  have hnv := nodes_vars P
  obtain ⟨x, hx⟩ : ∃ x, x = P.stAt k := ⟨_, rfl⟩
  rw [← hx] at h0 hg ⊢
  have hgx := hg.gx
  rcases kind_cases h0 with g | g | g | g | g | g | g
  · rw [redges_nil (by unfold PP.ruleV; rw [g]; rfl)]
    intro e he; cases he
  · have e : P.ruleV k x = ⟨x.kind, x.y, x.x, k, []⟩ := by unfold PP.ruleV; rw [isK_ne g (k' := kAddr) rfl, isK_ne g (k' := kNew) rfl, isK_ne g (k' := kFun) rfl, isK_ne g (k' := kCall) rfl]; rfl
    have hy := hg.yv (isK_ne g (k' := kFun) rfl) (isK_ne g (k' := kNew) rfl)
    have h2 : (x.kind.toList == kCopy) = true := g
    rw [e]
    unfold PP.redges
    dsimp only
    rw [h2, cond_true]
    intro e he
    obtain rfl := List.mem_singleton.1 he
    exact ⟨hy.1, by show x.y < _; omega, hgx.1, by show x.x < _; omega⟩
  · have e : P.ruleV k x = ⟨x.kind, x.y, x.x, k, []⟩ := by unfold PP.ruleV; rw [isK_ne g (k' := kAddr) rfl, isK_ne g (k' := kNew) rfl, isK_ne g (k' := kFun) rfl, isK_ne g (k' := kCall) rfl]; rfl
    have h1 : (x.kind.toList == kCopy) = false := isK_ne g (k' := kCopy) rfl
    have h2 : (x.kind.toList == kLoad) = true := g
    rw [e]
    unfold PP.redges
    dsimp only
    rw [h1, h2, cond_true, cond_false]
    intro e he
    obtain ⟨o, ho, rfl⟩ := List.mem_map.1 he
    have := nodes_in hs _ o ho
    exact ⟨this.1, this.2, hgx.1, by show x.x < _; omega⟩
  · have e : P.ruleV k x = ⟨x.kind, x.y, x.x, k, []⟩ := by unfold PP.ruleV; rw [isK_ne g (k' := kAddr) rfl, isK_ne g (k' := kNew) rfl, isK_ne g (k' := kFun) rfl, isK_ne g (k' := kCall) rfl]; rfl
    have hy := hg.yv (isK_ne g (k' := kFun) rfl) (isK_ne g (k' := kNew) rfl)
    have h1 : (x.kind.toList == kCopy) = false := isK_ne g (k' := kCopy) rfl
    have h3 : (x.kind.toList == kLoad) = false := isK_ne g (k' := kLoad) rfl
    have h2 : (x.kind.toList == kStore) = true := g
    rw [e]
    unfold PP.redges
    dsimp only
    rw [h1, h2, h3, cond_true, cond_false, cond_false]
    intro e he
    obtain ⟨o, ho, rfl⟩ := List.mem_map.1 he
    have := nodes_in hs _ o ho
    exact ⟨hy.1, by show x.y < _; omega, this.1, this.2⟩
  · rw [redges_nil (by unfold PP.ruleV; rw [isK_ne g (k' := kAddr) rfl, g]; rfl)]
    intro e he; cases he
  · rw [redges_nil (by unfold PP.ruleV; rw [isK_ne g (k' := kAddr) rfl, isK_ne g (k' := kNew) rfl, g]; rfl)]
    intro e he; cases he
  · have e : P.ruleV k x = ⟨bCall, x.y, x.x, k, x.args⟩ := by unfold PP.ruleV; rw [isK_ne g (k' := kAddr) rfl, isK_ne g (k' := kNew) rfl, isK_ne g (k' := kFun) rfl, g]; rfl
    have hkd := eq_of_beq bCall_list
    rw [e]
    unfold PP.redges kCopy kLoad kStore kCall
    dsimp only
    rw [hkd]
    intro e he
    obtain ⟨o, _, ho⟩ := List.mem_flatMap.1 (show e ∈ (has.getD x.y.toNat []).flatMap (P.callsOf ⟨bCall, x.y, x.x, k, x.args⟩) from he)
    unfold PP.callsOf at ho
    split at ho
    · rename_i hF
      have hlt := funV_lt hF
      have hn : (P.funV o).toNat < P.funs.length := by omega
      rw [List.getD_eq_getElem?_getD, List.getElem?_eq_getElem hn] at ho
      exact called_in hw (List.getElem_mem hn) (r := ⟨bCall, x.y, x.x, k, x.args⟩) ⟨hgx.1, by show x.x < _; omega⟩ (fun a ha => by have := hg.args a ha; omega) e ho
    · cases ho
theorem edges0_in {P : PP} {has : List (List Int)} (hw : P.Well) (hs : SetsOk P has) : ∀ e ∈ P.edges0 has, P.InN e := by
  intro e he
  unfold PP.edges0 PP.rulesV PP.rulesUp at he
  obtain ⟨r, hr, he⟩ := List.mem_flatMap.1 he
  obtain ⟨k, hk, rfl⟩ := List.mem_map.1 hr
  exact redges_in hw hs (List.mem_range.1 hk) e he
theorem nodesV_le (P : PP) (hw : P.Well) : P.nodesV ≤ 120 := by
  have := hw.few
  have := P.nodesV_le2
  omega
/-- The edges of a program: pairs of two, in order, each once. -/
structure EdgesAre (P : PP) (has : List (List Int)) (l : List (Int × Int)) : Prop where
  srt : SrtP l
  mem : ∀ e, e ∈ l ↔ e ∈ P.edges0 has ∧ e.1 ≠ e.2
theorem EdgesAre.uniq {P : PP} {has : List (List Int)} {a b : List (Int × Int)} (h : EdgesAre P has a) (k : EdgesAre P has b) : a = b :=
  srtP_uniq h.srt k.srt fun e => (h.mem e).trans (k.mem e).symm
end Go.Proofs.YtdppgcbekhabnaaGreatDoor



/- Sets: two lists put together (slices.Grow, slices.Concat). -/
namespace Go.Proofs.YtdppgcbekhabnaaGreatDoor
set_option linter.unusedSimpArgs false
set_option linter.unusedVariables false
open Go Go.RowKit

set_option maxRecDepth 100000 in
set_option maxHeartbeats 800000 in
theorem igrow_any (n : Nat) (w : World) (hn : n ≤ 100000) :
    Calls Tryz.prog 158 #[.slice none 0 0, .int .i64 (n : Int)] w fun e w' => ∃ v, e = .returned v ∧ Ext w w' ∧ IRow w.heap.size w' v [] := by
  rcases Nat.eq_zero_or_pos n with rfl | h0
  · go_enter Tryz.func158, Tryz.ntmps158
    go_wp2
    go_ret
    exact ⟨_, rfl, Ext.refl _, IRow.nil _ _⟩
  · obtain ⟨i, hi, hz0, hz, hz2⟩ : ∃ i, Tryz.prog.info? 3 = some i ∧ i.zero = some (.int .i64 0) ∧ i.size = 1 ∧ i.bytes = 8 := by
      have h := ints_info
      cases hi : Tryz.prog.info? 3 with
      | none => rw [hi] at h; cases h
      | some i =>
        rw [hi] at h
        simp only [Option.map_some, Option.some.injEq, Prod.mk.injEq] at h
        exact ⟨i, rfl, h.1, h.2.1, h.2.2⟩
    have hr := fun ty => Lib.run_append_nil_zeros (P := Tryz.prog) w 27 3 ty 3 i (.int .i64 0) .i64 .i64 Tryz.underlying27 Tryz.underlying3 hi hz0 n h0 (by omega) (by omega) (by rw [hz2]; omega)
    have hG := grownCap_ge w n 0 3
    have hG2 := grownCap_le_maxLen w n 0 3 (by unfold maxLen; omega)
    generalize grownCap w n 0 3 = G at *
    have hG3 : G ≤ 9223372036854775807 := by unfold maxLen at hG2; omega
    obtain ⟨W, hW⟩ : ∃ W, W = w.drew.alloc (.cells (Builtin.zeroCells (Value.int .i64 0).cells n ++ Builtin.zeroCells (Value.int .i64 0).cells (G - n)) 3) := ⟨_, rfl⟩
    have hx : Hid (Ext w W) := hid (by rw [hW]; exact ((Ext.refl w).drew).alloc _)
    have hrow : Hid (IRow w.heap.size W (.slice (some ⟨w.heap.size, 0, none⟩) 0 G) []) := hid ⟨rfl, .inr ⟨w.heap.size, G, _, rfl, Nat.le_refl _, by rw [hW]; exact Blk.new w.drew _ _, Nat.zero_le _, hG2, by simp [Builtin.zeroCells, Value.cells]; omega, rfl⟩⟩
    rw [← hW] at hr
    have Hr := hid hr
    clear hr hW hi hz0 hz hz2 hG2
    have hn' : (0 : Int) < (n : Int) := by omega
    go_enter Tryz.func158, Tryz.ntmps158
    go_wp2_with (at_builtin; refine Lib.wpList_append_run _ rfl _ _ _ _ rfl _ _ rfl rfl _ _ (Hr.out _) ?_)
    go_ret
    exact ⟨_, rfl, hx.out, hrow.out⟩

set_option maxRecDepth 100000 in
set_option maxHeartbeats 1600000 in
theorem iconcat_any (g : Nat) (va vb : Value) (a b : List Int) (w : World) (n0 : Nat) (hB : Blk w g #[va, vb] 27) (ha : IntsR w n0 va a) (hb : IntsR w n0 vb b) (hla : a.length ≤ 10000) (hlb : b.length ≤ 10000) :
    Calls Tryz.prog 135 #[.slice (some ⟨g, 0, none⟩) 2 2] w fun e w' => ∃ v, e = .returned v ∧ Ext w w' ∧ IRow w.heap.size w' v (a ++ b) := by
  have HA := hid ha
  have HB := hid hb
  obtain ⟨aa, ca, rfl, _⟩ := ha
  obtain ⟨ab, cb, rfl, _⟩ := hb
  have HBl := hid hB
  have HG := fun w1 => hid (igrow_any (a.length + b.length) w1 (by omega))
  have c0 := hB.av 0 rfl
  have c1 := hB.av 1 rfl
  simp only [List.getElem_toArray, List.getElem_cons_zero, List.getElem_cons_succ] at c0 c1
  clear hB
  go_enter Tryz.func135, Tryz.ntmps135
  go_wp2
  go_loop [3, 11] (fun t3 t11 => ∃ k m : Nat, t11 = .int .i64 (k : Int) ∧ t3 = .int .i64 (m : Int) ∧ ((k = 0 ∧ m = 0) ∨ (k = 1 ∧ m = a.length) ∨ (k = 2 ∧ m = a.length + b.length))) (fun _ t11 => 2 - (intOf t11).toNat)
  case atStart => exact ⟨0, 0, rfl, rfl, .inl ⟨rfl, rfl⟩⟩
  case round =>
    obtain ⟨k, m, rfl, rfl, ⟨rfl, rfl⟩ | ⟨rfl, rfl⟩ | ⟨rfl, rfl⟩⟩ := hrel
    · go_wp2
      refine ⟨⟨1, a.length, by go_num, by go_num, .inr (.inl ⟨rfl, rfl⟩)⟩, by simp [intOf]⟩
    · go_wp2
      refine ⟨⟨2, a.length + b.length, by go_num, by go_num, .inr (.inr ⟨rfl, rfl⟩)⟩, by simp [intOf]⟩
    · have HG1 := HG w
      clear HG
      go_wp2_with fail
      refine HG1.out.mono ?_
      intro e w1 hx
      obtain ⟨v1, rfl, hx1, hr1⟩ := hx
      obtain ⟨a1, p1, rfl⟩ := hr1.form
      have Hr1 := hid hr1
      have Hx1 := hid hx1
      clear HG1 hr1 hx1 c0 c1
      go_wp2
      go_loopw [6, 27] (fun t6 t27 wr => ∃ (k : Nat) (x : List Int), t27 = .int .i64 (k : Int) ∧ IRow w.heap.size wr t6 x ∧ Ext w wr ∧ ((k = 0 ∧ x = []) ∨ (k = 1 ∧ x = a) ∨ (k = 2 ∧ x = a ++ b))) (fun _ t27 _ => 2 - (intOf t27).toNat)
      case atStart => exact ⟨0, [], rfl, Hr1.out, Hx1.out, .inl ⟨rfl, rfl⟩⟩
      case round =>
        obtain ⟨k, x, rfl, hr, hx, hcase⟩ := hrel
        obtain ⟨at6, ct6, rfl⟩ := hr.form
        have Hr := hid hr
        have Hx := hid hx
        have c0 := (HBl.out.ext hx).av 0 rfl
        have c1 := (HBl.out.ext hx).av 1 rfl
        simp only [List.getElem_toArray, List.getElem_cons_zero, List.getElem_cons_succ] at c0 c1
        clear hr hx
        rcases hcase with ⟨rfl, rfl⟩ | ⟨rfl, rfl⟩ | ⟨rfl, rfl⟩
        · have HSrc := hid (HA.out.old (Hx.out.old n0)).src
          go_wp2_with (at_builtin; refine wpList_append_src w.heap.size Hx.out.size 27 3 (.int .i64 0) 1 8 Tryz.underlying27 ints_info rfl (by omega) (by omega) rfl _ _ rfl (.slice at6 0 ct6) 0 (icells []) rfl Hr.out _ _ _ _ rfl HSrc.out (by omega) ?_; intro v' w' h1 h2 h4; obtain ⟨a', c', rfl⟩ := row_form h1; have h3 := hid (Keep.new Hx.out h2 (fun k hk => (Hr.out.lt hk).1)); have h1 := hid h1; clear h2 h4)
          go_roundw
          case rel => exact ⟨1, a, by go_num, by have := h1.out; unfold IRow; simpa [icells] using this, h3.out, .inr (.inl ⟨rfl, rfl⟩)⟩
          case measure => simp [intOf]
        · have HSrc := hid (HB.out.old (Hx.out.old n0)).src
          go_wp2_with (at_builtin; refine wpList_append_src w.heap.size Hx.out.size 27 3 (.int .i64 0) 1 8 Tryz.underlying27 ints_info rfl (by omega) (by omega) rfl _ _ rfl (.slice at6 x.length ct6) x.length (icells x) rfl Hr.out _ _ _ _ rfl HSrc.out (by omega) ?_; intro v' w' h1 h2 h4; obtain ⟨a', c', rfl⟩ := row_form h1; have h3 := hid (Keep.new Hx.out h2 (fun k hk => (Hr.out.lt hk).1)); have h1 := hid h1; clear h2 h4)
          go_roundw
          case rel => exact ⟨2, x ++ b, by go_num, by have := h1.out; unfold IRow; rw [icells_append, List.length_append]; exact this, h3.out, .inr (.inr ⟨rfl, rfl⟩)⟩
          case measure => simp [intOf]
        · go_wp2
          go_ret
          exact ⟨_, rfl, Hx.out, Hr.out⟩
end Go.Proofs.YtdppgcbekhabnaaGreatDoor



/- Sets: a union. -/
namespace Go.Proofs.YtdppgcbekhabnaaGreatDoor
set_option linter.unusedSimpArgs false
set_option linter.unusedVariables false
open Go Go.RowKit

theorem bothE_zero {a b : List Int} : bothE a b = 0 ↔ chkE a = 0 ∧ chkE b = 0 := by
  unfold bothE
  by_cases h : chkE a = 0
  · rw [if_pos h]; exact ⟨fun g => ⟨h, g⟩, fun g => g.2⟩
  · rw [if_neg h]; exact ⟨fun g => absurd g h, fun g => absurd g.1 h⟩
/-- What a union answers (or another work of two sets, whose set is c). -/
def TwoR (ad : Nat → Addr) (a b c : List Int) (n0 : Nat) (w : World) (t : Value) : Prop :=
  (bothE a b = 0 ∧ ∃ v, t = .tuple #[v, .nilIface] ∧ IRow n0 w v c) ∨ (bothE a b ≠ 0 ∧ t = .tuple #[.slice none 0 0, evOf ad (bothE a b)])
theorem errv_no {ad : Nat → Addr} {c : Nat} (h : c = 0) : errv (evOf ad) c = .nilIface := by unfold errv; rw [if_pos h]
theorem errv_yes {ad : Nat → Addr} {c : Nat} (h : c ≠ 0) : errv (evOf ad) c = .iface 270 (.pointer (some (ad c))) := by unfold errv evOf; rw [if_neg h]
set_option maxRecDepth 100000 in
set_option maxHeartbeats 1600000 in
theorem setunion_any (va vb : Value) (a b : List Int) (w : World) (n0 : Nat) (ad : Nat → Addr) (hE : ErrS w ad) (ha : IntsR w n0 va a) (hb : IntsR w n0 vb b) (hla : a.length ≤ 10000) (hlb : b.length ≤ 10000) :
    Calls Tryz.prog 120 #[va, vb] w fun e w' => ∃ t, e = .returned t ∧ TwoR ad a b (sset (a ++ b)) w.heap.size w' t ∧ Ext w w' := by
  have HK := hid (setboth_any va vb a b w n0 ad hE ha hb)
  have HA := hid ha
  have HB := hid hb
  have HE := hid hE
  obtain ⟨aa, ca, rfl, _⟩ := ha
  obtain ⟨ab, cb, rfl, _⟩ := hb
  clear hE
  by_cases h0 : bothE a b = 0
  · rw [errv_no h0] at HK
    have H0 := hid h0
    obtain ⟨ha0, hb0⟩ := bothE_zero.1 h0
    have Hin : Hid (InR (a ++ b)) := hid ((chkE_zero.1 ha0).1.app (chkE_zero.1 hb0).1)
    clear h0 ha0 hb0
    go_enter Tryz.func120, Tryz.ntmps120
    go_wp2_with fail
    refine HK.out.mono ?_
    intro e w1 hx
    obtain ⟨rfl, hx1⟩ := hx
    obtain ⟨W, hW⟩ : ∃ W, W = w1.alloc (.cells #[.slice aa a.length ca, .slice ab b.length cb] 27) := ⟨_, rfl⟩
    have hxW : Ext w W := by rw [hW]; exact hx1.alloc _
    have HxW := hid hxW
    obtain ⟨l, hl⟩ : ∃ l, l = a ++ b := ⟨_, rfl⟩
    have hll : l.length ≤ 20000 := by rw [hl, List.length_append]; omega
    have Hl := hid hl
    have HC := hid (iconcat_any w1.heap.size _ _ a b W n0 (by rw [hW]; exact Blk.new _ _ _) (HA.out.old (hxW.old n0)) (HB.out.old (hxW.old n0)) hla hlb)
    have HW := hid hW
    rw [← hl] at HC Hin
    clear HK hx1 hxW hW hl
    go_wp2_with fail
    rw [← HW.out]
    refine HC.out.mono ?_
    intro e w2 hx
    obtain ⟨v2, rfl, hx2, hr2⟩ := hx
    obtain ⟨a2, p2, rfl⟩ := hr2.form
    have HO := hid (setof_any _ l w2 w2.heap.size ad (HE.out.ext (HxW.out.trans hx2)) (IntsR.own hr2 (Nat.le_refl _)) (by omega))
    have Hx2 := hid (HxW.out.trans hx2)
    clear HC hx2 hr2
    go_wp2_with fail
    refine HO.out.mono ?_
    intro e w3 hx
    obtain ⟨t3, rfl, ho, hx3⟩ := hx
    obtain ⟨v3, rfl, hr3⟩ : ∃ v, t3 = .tuple #[v, .nilIface] ∧ IRow w2.heap.size w3 v (sset l) := by
      rcases ho with ⟨_, h⟩ | ⟨h, _⟩
      · exact h
      · exact absurd Hin.out h
    obtain ⟨a3, p3, rfl⟩ := hr3.form
    have Hr3 := hid (hr3.base Hx2.out.size)
    have Hx3 := hid (Hx2.out.trans hx3)
    clear HO ho hr3 hx3
    go_wp2
    go_ret2
    exact ⟨_, rfl, .inl ⟨H0.out, _, rfl, by rw [← Hl.out]; exact Hr3.out⟩, Hx3.out⟩
  · rw [errv_yes h0] at HK
    have H0 := hid h0
    clear h0
    go_enter Tryz.func120, Tryz.ntmps120
    go_wp2_with fail
    refine HK.out.mono ?_
    intro e w1 hx
    obtain ⟨rfl, hx1⟩ := hx
    have Hx1 := hid hx1
    clear HK hx1
    go_wp2
    go_ret2
    exact ⟨_, rfl, .inr ⟨H0.out, rfl⟩, Hx1.out⟩
end Go.Proofs.YtdppgcbekhabnaaGreatDoor

