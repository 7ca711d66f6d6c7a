/- Texts of one proof, put together: YE YP YF YQ. -/
import Derived.Test.YtohfdecefikinaaGreatDoorZCM28
import Derived.Test.YtohfdecefikinaaGreatDoorZCM29
import Derived.Sort.Grow
import Derived.Deep.Draws
import Derived.Lib.SlicesCompact
import Derived.Laws.StructEq

/- The comparison of two edges (cmp.Or of differences). -/
namespace Go.Proofs.YtohfdecefikinaaGreatDoor
set_option linter.unusedSimpArgs false
set_option linter.unusedVariables false
open Go Go.RowKit

set_option maxRecDepth 100000 in
set_option maxHeartbeats 1600000 in
theorem cmpor_any (g : Nat) (x y : Int) (w : World) (hB : Blk w g #[.int .i64 x, .int .i64 y] 3) :
    Calls Tryz.prog 42 #[.slice (some ⟨g, 0, none⟩) 2 2] w fun e w' => e = .returned (.int .i64 (if x = 0 then y else x)) ∧ w = w' := by
  have c0 := hB.av 0 rfl
  have c1 := hB.av 1 rfl
  simp only [List.getElem_toArray, List.getElem_cons_zero, List.getElem_cons_succ] at c0 c1
  clear hB
  by_cases hx : x = 0
  · subst hx
    by_cases hy : y = 0
    · subst hy
      go_enter Tryz.func42, Tryz.ntmps42
      go_wp2
      go_loop [8] (fun t8 => ∃ k : Nat, t8 = .int .i64 (k : Int) ∧ (k = 0 ∨ k = 1 ∨ k = 2)) (fun t8 => 2 - (intOf t8).toNat)
      case atStart => exact ⟨0, rfl, .inl rfl⟩
      case round =>
        obtain ⟨k, rfl, rfl | rfl | rfl⟩ := hrel
        · go_wp2
          exact ⟨⟨1, rfl, .inr (.inl rfl)⟩, by simp [intOf]⟩
        · go_wp2
          exact ⟨⟨2, rfl, .inr (.inr rfl)⟩, by simp [intOf]⟩
        · go_wp2
          go_ret
          exact ⟨rfl, rfl⟩
    · have hy1 : (y != 0) = true := bne_iff_ne.2 hy
      have hr : Hid ((if (0 : Int) = 0 then y else 0) = y) := hid (if_pos rfl)
      go_enter Tryz.func42, Tryz.ntmps42
      go_wp2
      go_loop [8] (fun t8 => ∃ k : Nat, t8 = .int .i64 (k : Int) ∧ (k = 0 ∨ k = 1)) (fun t8 => 2 - (intOf t8).toNat)
      case atStart => exact ⟨0, rfl, .inl rfl⟩
      case round =>
        obtain ⟨k, rfl, rfl | rfl⟩ := hrel
        · go_wp2
          exact ⟨⟨1, rfl, .inr rfl⟩, by simp [intOf]⟩
        · go_wp2
          go_ret
          exact ⟨rfl, rfl⟩
  · have hx1 : (x != 0) = true := bne_iff_ne.2 hx
    have hr : Hid ((if x = 0 then y else x) = x) := hid (if_neg hx)
    go_enter Tryz.func42, Tryz.ntmps42
    go_wp2
    go_loop [8] (fun t8 => t8 = .int .i64 0) (fun _ => 0)
    case atStart => exact rfl
    case round =>
      obtain rfl := hrel
      go_wp2
      go_ret
      exact ⟨rfl, rfl⟩
/-- How two edges compare. -/
def eCmp (a b : Int × Int) : Int := if a.1 - b.1 = 0 then a.2 - b.2 else a.1 - b.1
set_option maxRecDepth 100000 in
set_option maxHeartbeats 1600000 in
theorem consedgesc2_grow (a b : Int × Int) (w : World) (ha : 0 ≤ a.1 ∧ a.1 < 1000 ∧ 0 ≤ a.2 ∧ a.2 < 1000) (hb : 0 ≤ b.1 ∧ b.1 < 1000 ∧ 0 ≤ b.2 ∧ b.2 < 1000) :
    Calls Tryz.prog 41 #[eVal a, eVal b] w fun r w' => r = .returned (.int .i64 (eCmp a b)) ∧ ∃ os, w' = Sort.grow (w.drewN 0) os := by
  obtain ⟨a1, a2⟩ := a
  obtain ⟨b1, b2⟩ := b
  simp only at ha hb
  obtain ⟨h1, h2, h3, h4⟩ := ha
  obtain ⟨h5, h6, h7, h8⟩ := hb
  unfold eVal
  obtain ⟨W1, hW1⟩ : ∃ W1, W1 = w.alloc (.cells #[.int .i64 a1, .int .i64 a2] 58) := ⟨_, rfl⟩
  obtain ⟨W2, hW2⟩ : ∃ W2, W2 = W1.alloc (.cells #[.int .i64 b1, .int .i64 b2] 58) := ⟨_, rfl⟩
  obtain ⟨W3, hW3⟩ : ∃ W3, W3 = W2.alloc (.cells #[.int .i64 (a1 - b1), .int .i64 (a2 - b2)] 3) := ⟨_, rfl⟩
  have hx : ∃ os, W3 = Sort.grow (w.drewN 0) os := ⟨_, by rw [hW3, hW2, hW1, Sort.alloc_eq_grow, Sort.alloc_eq_grow, Sort.alloc_eq_grow, Sort.grow_grow, Sort.grow_grow]; rfl⟩
  have s1 : W1.heap.size = w.heap.size + 1 := by rw [hW1, heap_size_alloc]
  have s2 : W2.heap.size = w.heap.size + 1 + 1 := by rw [hW2, heap_size_alloc, s1]
  have HC := hid (cmpor_any (w.heap.size + 1 + 1) (a1 - b1) (a2 - b2) W3 (by rw [← s2, hW3]; exact Blk.new _ _ _))
  obtain ⟨d, hd⟩ : ∃ d, d = (if a1 - b1 = 0 then a2 - b2 else a1 - b1) := ⟨_, rfl⟩
  have Hd : Hid (eCmp (a1, a2) (b1, b2) = d) := hid (by rw [hd]; rfl)
  rw [← hd] at HC
  have HW : Hid (W3 = ((w.alloc (.cells #[.int .i64 a1, .int .i64 a2] 58)).alloc (.cells #[.int .i64 b1, .int .i64 b2] 58)).alloc (.cells #[.int .i64 (a1 - b1), .int .i64 (a2 - b2)] 3)) := hid (by rw [hW3, hW2, hW1])
  have Hx := hid hx
  clear hW1 hW2 hW3 s1 s2 hx hd
  go_enter Tryz.func41, Tryz.ntmps41
  go_wp2_with fail
  rw [← HW.out]
  refine HC.out.mono ?_
  intro e w2 hx
  obtain ⟨rfl, rfl⟩ := hx
  clear HC
  go_wp2
  go_ret
  exact ⟨by rw [Hd.out]; rfl, Hx.out⟩
end Go.Proofs.YtohfdecefikinaaGreatDoor


/- Edges, plainly: pairs of numbers in order, each once. -/
namespace Go.Proofs.YtohfdecefikinaaGreatDoor
set_option linter.unusedSimpArgs false
set_option linter.unusedVariables false

/-- The order of pairs. -/
def lexLt (a b : Int × Int) : Prop := a.1 < b.1 ∨ (a.1 = b.1 ∧ a.2 < b.2)
def lexLe (a b : Int × Int) : Prop := lexLt a b ∨ a = b
theorem lexLt.irr (a : Int × Int) : ¬ lexLt a a := by unfold lexLt; omega
theorem lexLt.trans {a b c : Int × Int} (h : lexLt a b) (k : lexLt b c) : lexLt a c := by unfold lexLt at *; omega
theorem lexLt.tri (a b : Int × Int) : lexLt a b ∨ a = b ∨ lexLt b a := by
  obtain ⟨a1, a2⟩ := a
  obtain ⟨b1, b2⟩ := b
  unfold lexLt
  simp only [Prod.mk.injEq]
  omega
theorem lexLe.lt {a b : Int × Int} (h : lexLe a b) (hn : a ≠ b) : lexLt a b := h.elim id fun e => absurd e hn
theorem lexLe.trans_lt {a b c : Int × Int} (h : lexLe a b) (k : lexLt b c) : lexLt a c := h.elim (fun h => h.trans k) (fun e => by rw [e]; exact k)
/-- A list of pairs that rises. -/
abbrev SrtP (l : List (Int × Int)) : Prop := l.Pairwise lexLt
theorem srtP_uniq : ∀ {a b : List (Int × Int)}, SrtP a → SrtP b → (∀ x, x ∈ a ↔ x ∈ b) → a = b
  | [], [], _, _, _ => rfl
  | [], y :: b, _, _, h => absurd ((h y).2 (List.mem_cons_self ..)) (List.not_mem_nil)
  | x :: a, [], _, _, h => absurd ((h x).1 (List.mem_cons_self ..)) (List.not_mem_nil)
  | x :: a, y :: b, ha, hb, h => by
    obtain ⟨ha1, ha2⟩ := List.pairwise_cons.1 ha
    obtain ⟨hb1, hb2⟩ := List.pairwise_cons.1 hb
    have hxy : x = y := by
      have h1 : x ∈ y :: b := (h x).1 (List.mem_cons_self ..)
      have h2 : y ∈ x :: a := (h y).2 (List.mem_cons_self ..)
      rcases List.mem_cons.1 h1 with e | e
      · exact e
      · rcases List.mem_cons.1 h2 with f | f
        · exact f.symm
        · exact absurd ((hb1 x e).trans (ha1 y f)) (lexLt.irr _)
    subst hxy
    congr 1
    refine srtP_uniq ha2 hb2 fun z => ⟨fun hz => ?_, fun hz => ?_⟩
    · rcases List.mem_cons.1 ((h z).1 (List.mem_cons_of_mem _ hz)) with e | e
      · have := ha1 z hz; rw [e] at this; exact absurd this (lexLt.irr _)
      · exact e
    · rcases List.mem_cons.1 ((h z).2 (List.mem_cons_of_mem _ hz)) with e | e
      · have := hb1 z hz; rw [e] at this; exact absurd this (lexLt.irr _)
      · exact e
/-- What is in order, and compacted, rises, and has the same ones. -/
theorem compactP_upto (zs : List (Int × Int)) (hz : zs.Pairwise lexLe) : ∀ m, m ≤ zs.length → (∀ x, x ∈ Go.Lib.compactUpTo zs.toArray m ↔ x ∈ zs.take m) ∧ SrtP (Go.Lib.compactUpTo zs.toArray m)
  | 0, _ => ⟨fun x => by simp [Go.Lib.compactUpTo], by simp [Go.Lib.compactUpTo]⟩
  | m + 1, hm => by
    obtain ⟨h1, h2⟩ := compactP_upto zs hz m (by omega)
    have hg : zs.toArray[m]! = zs[m]'(by omega) := by simp [getElem!_pos, show m < zs.length by omega]
    have ht : zs.take (m + 1) = zs.take m ++ [zs[m]'(by omega)] := by rw [List.take_add_one, List.getElem?_eq_getElem (by omega)]; rfl
    rw [Go.Lib.compactUpTo_succ]
    by_cases hk : Go.Lib.keeps zs.toArray m = true
    · rw [if_pos hk, hg, ht]
      refine ⟨fun x => by rw [List.mem_append, List.mem_append, h1], ?_⟩
      refine List.pairwise_append.2 ⟨h2, List.pairwise_singleton _ _, fun a ha b hb => ?_⟩
      obtain rfl := List.mem_singleton.1 hb
      have ha' := (h1 a).1 ha
      obtain ⟨i, hi, rfl⟩ := List.getElem_of_mem ha'
      rw [List.length_take] at hi
      rw [List.getElem_take]
      unfold Go.Lib.keeps at hk
      rcases of_decide_eq_true hk with e | e
      · omega
      · have hg2 : zs.toArray[m - 1]! = zs[m - 1]'(by omega) := by simp [getElem!_pos, show m - 1 < zs.length by omega]
        rw [hg, hg2] at e
        have p1 : lexLt (zs[m - 1]'(by omega)) (zs[m]'(by omega)) := (List.pairwise_iff_getElem.1 hz (m - 1) m (by omega) (by omega) (by omega)).lt fun h => e h.symm
        have p2 : lexLe (zs[i]'(by omega)) (zs[m - 1]'(by omega)) := by
          rcases Nat.lt_or_ge i (m - 1) with h | h
          · exact List.pairwise_iff_getElem.1 hz i (m - 1) (by omega) (by omega) h
          · have : i = m - 1 := by omega
            subst this; exact .inr rfl
        exact p2.trans_lt p1
    · rw [if_neg hk, List.append_nil]
      refine ⟨fun x => ?_, h2⟩
      rw [h1, ht, List.mem_append]
      refine ⟨.inl, fun h => h.elim id fun hx => ?_⟩
      obtain rfl := List.mem_singleton.1 hx
      unfold Go.Lib.keeps at hk
      have hk' : ¬ (m = 0 ∨ zs.toArray[m]! ≠ zs.toArray[m - 1]!) := fun h => hk (decide_eq_true h)
      have hg2 : zs.toArray[m - 1]! = zs[m - 1]'(by omega) := by simp [getElem!_pos, show m - 1 < zs.length by omega]
      have e : zs[m]'(by omega) = zs[m - 1]'(by omega) := by
        rcases Classical.em (zs[m]'(by omega) = zs[m - 1]'(by omega)) with e | e
        · exact e
        · exact absurd (.inr (by rw [hg, hg2]; exact e)) hk'
      have hm0 : m ≠ 0 := fun h => hk' (.inl h)
      rw [e]
      have : zs[m - 1]'(by omega) = (zs.take m)[m - 1]'(by rw [List.length_take]; omega) := by rw [List.getElem_take]
      rw [this]
      exact List.getElem_mem _
theorem compactP (zs : List (Int × Int)) (hz : zs.Pairwise lexLe) : (∀ x, x ∈ Go.Lib.compact zs ↔ x ∈ zs) ∧ SrtP (Go.Lib.compact zs) := by
  obtain ⟨h1, h2⟩ := compactP_upto zs hz _ (Nat.le_refl _)
  refine ⟨fun x => ?_, by unfold Go.Lib.compact; exact h2⟩
  have := h1 x
  unfold Go.Lib.compact
  rw [this, List.take_of_length_le (Nat.le_refl _)]
end Go.Proofs.YtohfdecefikinaaGreatDoor


/- slices.Compact over edges. -/
namespace Go.Proofs.YtohfdecefikinaaGreatDoor
set_option linter.unusedSimpArgs false
set_option linter.unusedVariables false
open Go Go.RowKit

set_option maxRecDepth 100000 in
@[go_sem high] theorem eql_edge (w : World) (a b c d : Int) :
    (binOp .eql 58 (.agg #[.int .i64 a, .int .i64 b]) (.agg #[.int .i64 c, .int .i64 d])).run Tryz.prog w = .ok (.bool (a == c && b == d)) w := by
  have hS : Tryz.prog.underlying 58 = some (.struct (Tryz.prog.fieldsOf 58)) := by kernel_rfl
  have hp : Tryz.prog.stoodInHeld 58 = false := by kernel_rfl
  rw [run_eql_struct, show (10000 : Nat) = 9999 + 1 from rfl, run_equalIn_agg w 9999 58 _ _ hS hp]
  simp only [Program.fieldsOf, Tryz.underlying58]
  go_simp
  by_cases h1 : a = c <;> by_cases h2 : b = d <;> simp [h1, h2]

set_option maxRecDepth 100000 in
@[go_sem high] theorem neq_edge (w : World) (a b c d : Int) :
    (binOp .neq 58 (.agg #[.int .i64 a, .int .i64 b]) (.agg #[.int .i64 c, .int .i64 d])).run Tryz.prog w = .ok (.bool (a != c || b != d)) w := by
  have hS : Tryz.prog.underlying 58 = some (.struct (Tryz.prog.fieldsOf 58)) := by kernel_rfl
  have hp : Tryz.prog.stoodInHeld 58 = false := by kernel_rfl
  rw [run_neq_struct, show (10000 : Nat) = 9999 + 1 from rfl, run_equalIn_agg w 9999 58 _ _ hS hp]
  simp only [Program.fieldsOf, Tryz.underlying58]
  go_simp
  by_cases h1 : a = c <;> by_cases h2 : b = d <;> simp [h1, h2]

set_option maxRecDepth 100000 in
set_option maxHeartbeats 3200000 in
theorem ecompact_any (lv : Value) (l : List (Int × Int)) (w0 w : World) (n0 : Nat) (hx0 : Ext w0 w) (hb0 : w0.heap.size ≤ n0) (hr : ERow n0 w lv l) (hfew : l.length ≤ 100000) :
    Calls Tryz.prog 43 #[lv] w fun e w' => ∃ lv', e = .returned lv' ∧ ERow n0 w' lv' (Lib.compact l) ∧ Ext w0 w' := by
  unfold ERow at hr
  obtain ⟨a, c, rfl⟩ := row_form hr
  have Hr := hid hr
  have Hx0 := hid hx0
  have Hb0 := hid hb0
  clear hr hx0 hb0
  by_cases h2 : l.length < 2
  · have Hc : Hid (Lib.compact l = l) := hid (Lib.compact_all l fun j hj => by
      have : j = 0 := by omega
      subst this
      simp [Lib.keeps])
    go_enter Tryz.func43, Tryz.ntmps43
    go_wp2
    go_ret
    exact ⟨_, rfl, by rw [Hc.out]; exact Hr.out, Hx0.out⟩
  · obtain ⟨g, cp, he⟩ := own_some Hr.out (by omega)
    simp only [Value.slice.injEq, true_and] at he
    obtain ⟨rfl, rfl⟩ := he
    go_enter Tryz.func43, Tryz.ntmps43
    go_wp2
    go_loopw [3] (fun t3 wr => ∃ k : Nat, t3 = .int .i64 (k : Int) ∧ 1 ≤ k ∧ k ≤ l.length ∧ (∀ j, j < k → Lib.keeps l.toArray j = true) ∧ Ext w wr) (fun t3 _ => l.length - (intOf t3).toNat)
    case atStart => exact ⟨1, rfl, Nat.le_refl _, by omega, fun j hj => (by obtain rfl : j = 0 := by omega
                                                                            simp [Lib.keeps]), Ext.refl _⟩
    case round =>
      obtain ⟨k, rfl, hk1, hk, hp, hx⟩ := hrel
      have Hp := hid hp
      have Hx := hid hx
      clear hp hx
      by_cases hlt : k < l.length
      · obtain ⟨p, hpk⟩ : ∃ p, l[k - 1]? = some p := ⟨_, List.getElem?_eq_getElem (by omega)⟩
        obtain ⟨q, hqk⟩ : ∃ q, l[k]? = some q := ⟨_, List.getElem?_eq_getElem hlt⟩
        have Hkeep : Hid (Lib.keeps l.toArray k = decide (q ≠ p)) := hid (by
          unfold Lib.keeps
          rw [show l.toArray[k]! = q by simp [hqk], show l.toArray[k - 1]! = p by simp [hpk]]
          have : k ≠ 0 := by omega
          simp [this])
        obtain ⟨p0, p1⟩ := own_e (own_ext Hr.out Hx.out) hpk
        obtain ⟨q0, q1⟩ := own_e (own_ext Hr.out Hx.out) hqk
        have c0 : ∀ w1, Keep (fun _ => False) wr w1 → w1.cell? ⟨g, (k - 1) * 2, none⟩ = some (.int .i64 p.1) := fun w1 kk => kk.ext.cellx p0
        have c1 : ∀ w1, Keep (fun _ => False) wr w1 → w1.cell? ⟨g, (k - 1) * 2 + 1, none⟩ = some (.int .i64 p.2) := fun w1 kk => kk.ext.cellx p1
        have c2 : ∀ w1, Keep (fun _ => False) wr w1 → w1.cell? ⟨g, k * 2, none⟩ = some (.int .i64 q.1) := fun w1 kk => kk.ext.cellx q0
        have c3 : ∀ w1, Keep (fun _ => False) wr w1 → w1.cell? ⟨g, k * 2 + 1, none⟩ = some (.int .i64 q.2) := fun w1 kk => kk.ext.cellx q1
        clear hpk hqk p0 p1 q0 q1
        go_wp2
        refine wp_flowT (fun _ => False) (by kernel_rfl) (by kernel_rfl) ?_
        repeat (apply FlowT.d; (intro w1 hk; unfold does; go_simp; (try go_ints); (first | exact DetR.mk | (simp only [↓IntWalk.iteOmega, Oper.doesUpon_value]; exact DetR.mk) | (simp only [↓IntWalk.iteOmega]; go_simp; (try go_ints); exact DetR.mk))); simp only [Act.put, List.setIfInBounds_toArray, List.set_cons_zero, List.set_cons_succ])
        refine FlowT.fin fun w1 hx1 hk1 => ?_
        have Hx1 := hid (Hx.out.trans hx1)
        clear hx1 hk1 c0 c1 c2 c3
        by_cases hqp : q = p
        · rw [show (q.1 == p.1 && q.2 == p.2) = true by rw [hqp]; simp]
          have Hdup : Hid (Lib.keeps l.toArray k = false) := hid (by rw [Hkeep.out, hqp]; simp)
          clear hqp Hkeep
          have Hr1 := hid (own_ext Hr.out Hx1.out)
          obtain ⟨_, _, hbase, hcap, hmx, _⟩ := own_blk Hr1.out
          have Hbase := hid hbase
          have hmx' : (c : Int) ≤ 9223372036854775807 := by unfold maxLen at hmx; omega
          have hcl : (l.length : Int) ≤ (c : Int) := by omega
          clear hbase hcap hmx
          go_wp2
          go_loopw [3, 5] (fun t3 t5 wq => ∃ (k1 j : Nat) (R : List (Int × Int)), t3 = .int .i64 (k1 : Int) ∧ t5 = .int .i64 (j : Int) ∧ 1 ≤ j ∧ k + j ≤ l.length ∧ R.length = l.length ∧ Lib.CompInv l.toArray (k + j) k1 R.toArray ∧
            wq.ownsRow n0 58 2 (.slice (some ⟨g, 0, none⟩) l.length c) l.length (R.flatMap eCells) ∧ Ext w0 wq) (fun _ t5 _ => l.length - (intOf t5).toNat)
          case atStart => exact ⟨k, 1, l, rfl, rfl, Nat.le_refl _, by omega, rfl, Lib.CompInv.start Hp.out Hdup.out, Hr1.out, Hx0.out.trans Hx1.out⟩
          case round =>
            obtain ⟨k1, j, R, rfl, rfl, hj1, hj, hRl, hinv, hrow, hxq⟩ := hrel
            have HRl := hid hRl
            have Hinv := hid hinv
            have Hrow := hid hrow
            have Hxq := hid hxq
            clear hRl hinv hrow hxq
            by_cases hlt2 : k + j < l.length
            · obtain ⟨p2, hpk⟩ : ∃ p2, l[k + j - 1]? = some p2 := ⟨_, List.getElem?_eq_getElem (by omega)⟩
              obtain ⟨q2, hqk⟩ : ∃ q2, l[k + j]? = some q2 := ⟨_, List.getElem?_eq_getElem hlt2⟩
              have Hkeep : Hid (Lib.keeps l.toArray (k + j) = decide (q2 ≠ p2)) := hid (by
                unfold Lib.keeps
                rw [show l.toArray[k + j]! = q2 by simp [hqk], show l.toArray[k + j - 1]! = p2 by simp [hpk]]
                have h0 : ¬ (k + j = 0) := by omega
                exact decide_eq_decide.2 ⟨fun h => h.resolve_left h0, Or.inr⟩)
              have Hq2 : Hid (l.toArray[k + j]! = q2) := hid (by simp [hqk])
              have hRg : ∀ i, k1 ≤ i → i < l.length → R[i]? = l[i]? := fun i h1 h3 => by
                have := Hinv.out.high i h1
                have h4 : i < R.length := by rw [HRl.out]; exact h3
                rw [List.getElem?_eq_getElem h4, List.getElem?_eq_getElem h3]
                simpa [List.getElem?_eq_getElem h4, List.getElem?_eq_getElem h3] using this
              have hlt3 := Hinv.out.lt
              rw [← hRg _ (by omega) (by omega)] at hpk hqk
              obtain ⟨p0, p1⟩ := own_e Hrow.out hpk
              obtain ⟨q0, q1⟩ := own_e Hrow.out hqk
              rw [show (k + j - 1) * 2 = k * 2 + (j - 1) * 2 by omega] at p0 p1
              rw [show (k + j) * 2 = k * 2 + j * 2 by omega] at q0 q1
              have c0 : ∀ w1, Keep (fun _ => False) wr w1 → w1.cell? ⟨g, k * 2 + (j - 1) * 2, none⟩ = some (.int .i64 p2.1) := fun w1 kk => kk.ext.cellx p0
              have c1 : ∀ w1, Keep (fun _ => False) wr w1 → w1.cell? ⟨g, k * 2 + (j - 1) * 2 + 1, none⟩ = some (.int .i64 p2.2) := fun w1 kk => kk.ext.cellx p1
              have c2 : ∀ w1, Keep (fun _ => False) wr w1 → w1.cell? ⟨g, k * 2 + j * 2, none⟩ = some (.int .i64 q2.1) := fun w1 kk => kk.ext.cellx q0
              have c3 : ∀ w1, Keep (fun _ => False) wr w1 → w1.cell? ⟨g, k * 2 + j * 2 + 1, none⟩ = some (.int .i64 q2.2) := fun w1 kk => kk.ext.cellx q1
              have hlt4 : (j : Int) < (↑(l.length - k) : Int) := by omega
              have hk1l : (k1 : Int) < (l.length : Int) := by omega
              clear hpk hqk p0 p1 q0 q1 hRg
              go_wp2
              refine wp_flowT (fun _ => False) (by kernel_rfl) (by kernel_rfl) ?_
              repeat (apply FlowT.d; (intro w1 hk; unfold does; go_simp; (try go_ints); (first | exact DetR.mk | (simp only [↓IntWalk.iteOmega, Oper.doesUpon_value]; exact DetR.mk) | (simp only [↓IntWalk.iteOmega]; go_simp; (try go_ints); exact DetR.mk))); simp only [Act.put, List.setIfInBounds_toArray, List.set_cons_zero, List.set_cons_succ])
              refine FlowT.fin fun w2 hx2 hk2 => ?_
              have d0 := c2 w2 hk2
              have d1 := c3 w2 hk2
              have Hxq2 := hid (Hxq.out.trans hx2)
              have Hrow2 := hid (own_ext Hrow.out hx2)
              clear hx2 hk2 c0 c1 c2 c3
              by_cases hqp : q2 = p2
              · rw [show (q2.1 != p2.1 || q2.2 != p2.2) = false by rw [hqp]; simp]
                have Hd : Hid (Lib.keeps l.toArray (k + j) = false) := hid (by rw [Hkeep.out, hqp]; simp)
                clear hqp Hkeep
                go_wp2
                go_roundw
                case rel => exact ⟨k1, j + 1, R, rfl, by go_num, by omega, by omega, HRl.out, Lib.CompInv.skip Hinv.out Hd.out, Hrow2.out, Hxq2.out⟩
                case measure => simp [intOf]; omega
              · rw [show (q2.1 != p2.1 || q2.2 != p2.2) = true by
                  cases hb : (q2.1 != p2.1 || q2.2 != p2.2) with
                  | true => rfl
                  | false =>
                    rw [Bool.or_eq_false_iff, bne_eq_false_iff_eq, bne_eq_false_iff_eq] at hb
                    exact absurd (Prod.ext hb.1 hb.2) hqp]
                have Hd : Hid (Lib.keeps l.toArray (k + j) = true) := hid (by rw [Hkeep.out]; simp [hqp])
                clear hqp Hkeep
                have hiR : k1 < R.length := by have := HRl.out; omega
                obtain ⟨y0, y1⟩ := own_e Hrow2.out (List.getElem?_eq_getElem hiR)
                have hfr := own_free Hrow2.out
                have hput := hid (own_putE Hrow2.out k1 hiR q2)
                have hkp2 := hid (Keep.new Hxq2.out (storeE_keep w2 g (k1 * 2) q2) fun b e => by rw [e]; exact Nat.le_trans Hb0.out Hbase.out)
                unfold storeE at hput hkp2
                generalize hyv : R[k1] = y at *
                clear hyv
                go_wp2
                go_roundw
                case rel => exact ⟨k1 + 1, j + 1, R.set k1 q2, by go_num, by go_num, by omega, by omega, by rw [List.length_set]; exact HRl.out, (by
                  have := Lib.CompInv.keep Hinv.out (by simpa using hlt2) Hd.out
                  rw [Hq2.out] at this
                  rw [← Nat.add_assoc]
                  simpa using this), hput.out, hkp2.out⟩
                case measure => simp [intOf]; omega
            · have hm : k + j = l.length := by omega
              have Hinv2 : Hid (Lib.CompInv l.toArray l.length k1 R.toArray) := hid (by rw [← hm]; exact Hinv.out)
              obtain rfl : j = l.length - k := by omega
              have hk1l := Hinv2.out.lt
              have hlen : (Lib.compact l).length = k1 := Hinv2.out.len
              have hTf : R.take k1 = Lib.compact l := by
                apply List.ext_getElem?
                intro i
                by_cases hi : i < k1
                · have h1 : (Lib.compact l)[i]? = some R.toArray[i]! := Hinv2.out.low i hi
                  have h4 : i < R.length := by rw [HRl.out]; omega
                  rw [h1, List.getElem?_take, if_pos hi, List.getElem?_eq_getElem h4]
                  simp [List.getElem?_eq_getElem h4]
                · rw [List.getElem?_eq_none (by rw [List.length_take]; omega), List.getElem?_eq_none (by omega)]
              obtain ⟨cu, hcu, hb0, hcap, hmx, hcs, htk⟩ := own_blk Hrow.out
              obtain ⟨ti, hi, hz0, hz1, hz2⟩ := info_parts edge_info
              have hsz : k1 * 2 + (l.length - k1) * 2 ≤ cu.size := by rw [hcs]; omega
              have hclr := fun ty => run_clear_row (P := Tryz.prog) wr 49 ty 58 ti _ Tryz.underlying49 hi hz0 (by simp [Value.cells, Value.oneCell']) g (k1 * 2) (l.length - k1) (c - k1) (by omega) cu hcu hsz
              obtain ⟨cu', hcu'⟩ : ∃ cu', cu' = (cu.toList.take (k1 * 2) ++ (Builtin.zeroCells (Value.agg #[.int .i64 0, .int .i64 0]).cells (l.length - k1)).toList ++ cu.toList.drop (k1 * 2 + (l.length - k1) * (Value.agg #[.int .i64 0, .int .i64 0]).cells.size)).toArray := ⟨_, rfl⟩
              rw [← hcu'] at hclr
              have hsz' : cu'.size = c * 2 := by
                have h6 : (Value.agg #[.int .i64 0, .int .i64 0]).cells.size = 2 := rfl
                rw [hcu', List.size_toArray, List.length_append, List.length_append, List.length_take, List.length_drop, Array.length_toList, Array.length_toList, size_zeroCells, h6, hcs]
                omega
              have htk' : cu'.toList.take (k1 * 2) = (Lib.compact l).flatMap eCells := by
                rw [hcu', List.toList_toArray, List.append_assoc, List.take_append_of_le_length (by rw [List.length_take, Array.length_toList]; omega), List.take_take, Nat.min_self, ← hTf, ← fm_take eCells 2 eCells_len, ← htk, List.take_take, Nat.min_eq_left (by omega)]
              have hfin := hid (own_of_blk (setRow_blk hcu cu') hb0 (show k1 ≤ c by omega) hmx hsz' htk')
              have hkf : Hid (Ext w0 _) := hid (Keep.new Hxq.out (setRow_keep wr g cu') fun b e => by rw [e]; exact Nat.le_trans Hb0.out Hbase.out)
              have HRi := hid hlen
              have hci : (k1 : Int) ≤ (l.length : Int) := by omega
              clear hTf hlen hcu hb0 hcap hmx hcs htk hi hz0 hz1 hz2 hsz hcu' hsz' htk' HRl Hinv Hinv2 hm
              go_wp2
              go_ret
              exact ⟨.slice (some ⟨g, 0, none⟩) k1 c, rfl, by unfold ERow; rw [HRi.out]; exact hfin.out, hkf.out⟩
        · rw [show (q.1 == p.1 && q.2 == p.2) = false by
            cases hb : (q.1 == p.1 && q.2 == p.2) with
            | false => rfl
            | true =>
              rw [Bool.and_eq_true, beq_iff_eq, beq_iff_eq] at hb
              exact absurd (Prod.ext hb.1 hb.2) hqp]
          have Hd : Hid (Lib.keeps l.toArray k = true) := hid (by rw [Hkeep.out]; simp [hqp])
          clear hqp Hkeep
          go_wp2
          go_roundw
          case rel => exact ⟨k + 1, by go_num, by omega, by omega, fun j hj => (by
                                                                  by_cases e : j = k
                                                                  · rw [e]; exact Hd.out
                                                                  · exact Hp.out j (by omega)), Hx1.out⟩
          case measure => simp [intOf]; omega
      · obtain rfl : k = l.length := by omega
        have Hc : Hid (Lib.compact l = l) := hid (Lib.compact_all l Hp.out)
        go_wp2
        go_ret
        exact ⟨_, rfl, by rw [Hc.out]; exact own_ext Hr.out Hx.out, Hx0.out.trans Hx.out⟩
end Go.Proofs.YtohfdecefikinaaGreatDoor


/- Edges of a program, plainly: which they are, whatever the order of statements. -/
namespace Go.Proofs.YtohfdecefikinaaGreatDoor
set_option linter.unusedSimpArgs false
set_option linter.unusedVariables false
open Go Go.RowKit

/-- Edges as the rules tell them. -/
def PP.edges0 (P : PP) (has : List (List Int)) : List (Int × Int) := P.rulesV.flatMap fun r => P.redges r has
/-- Edges of a statement. -/
def PP.sedges (P : PP) (x : PS) (has : List (List Int)) : List (Int × Int) := P.redges (P.ruleV 0 x) has
theorem redges_nil {P : PP} {r : RV} {has : List (List Int)} (h : r.kind = bBase) : P.redges r has = [] := by
  have e := eq_of_beq bBase_list
  unfold PP.redges kCopy kLoad kStore kCall
  rw [h, e]; rfl
theorem redges_s (P : PP) (k : Nat) (x : PS) (has : List (List Int)) : P.redges (P.ruleV k x) has = P.sedges x has := by
  unfold PP.sedges
  by_cases h1 : x.isK kAddr = true
  · rw [redges_nil (by unfold PP.ruleV; rw [h1]; rfl), redges_nil (by unfold PP.ruleV; rw [h1]; rfl)]
  · by_cases h2 : x.isK kNew = true
    · rw [redges_nil (by unfold PP.ruleV; rw [eq_false_of_ne_true h1, h2]; rfl), redges_nil (by unfold PP.ruleV; rw [eq_false_of_ne_true h1, h2]; rfl)]
    · by_cases h3 : x.isK kFun = true
      · rw [redges_nil (by unfold PP.ruleV; rw [eq_false_of_ne_true h1, eq_false_of_ne_true h2, h3]; rfl), redges_nil (by unfold PP.ruleV; rw [eq_false_of_ne_true h1, eq_false_of_ne_true h2, h3]; rfl)]
      · unfold PP.ruleV
        rw [eq_false_of_ne_true h1, eq_false_of_ne_true h2, eq_false_of_ne_true h3]
        cases x.isK kCall <;> rfl
theorem mem_edges0 {P : PP} {has : List (List Int)} {e : Int × Int} : e ∈ P.edges0 has ↔ ∃ x ∈ P.stmts, e ∈ P.sedges x has := by
  unfold PP.edges0 PP.rulesV PP.rulesUp
  rw [List.mem_flatMap]
  constructor
  · rintro ⟨r, hr, he⟩
    obtain ⟨k, hk, rfl⟩ := List.mem_map.1 hr
    rw [redges_s] at he
    exact ⟨P.stAt k, List.mem_of_getElem? (stAt_some (List.mem_range.1 hk)), he⟩
  · rintro ⟨x, hx, he⟩
    obtain ⟨k, hk, hkx⟩ := List.getElem_of_mem hx
    have e1 : P.stAt k = x := by
      have := stAt_some hk
      rw [List.getElem?_eq_getElem hk, hkx] at this
      exact (Option.some.inj this).symm
    refine ⟨P.ruleV k (P.stAt k), List.mem_map.2 ⟨k, List.mem_range.2 hk, rfl⟩, ?_⟩
    rw [redges_s, e1]; exact he
/-- A statement's edges speak of the number of nodes, and of the functions, alone. -/
theorem sedges_congr {P Q : PP} (hn : P.nodesV = Q.nodesV) (hf : P.funs = Q.funs) (x : PS) (has : List (List Int)) : P.sedges x has = Q.sedges x has := by
  unfold PP.sedges
  by_cases h1 : x.isK kAddr = true
  · rw [redges_nil (by unfold PP.ruleV; rw [h1]; rfl), redges_nil (by unfold PP.ruleV; rw [h1]; rfl)]
  · by_cases h2 : x.isK kNew = true
    · rw [redges_nil (by unfold PP.ruleV; rw [eq_false_of_ne_true h1, h2]; rfl), redges_nil (by unfold PP.ruleV; rw [eq_false_of_ne_true h1, h2]; rfl)]
    · by_cases h3 : x.isK kFun = true
      · rw [redges_nil (by unfold PP.ruleV; rw [eq_false_of_ne_true h1, eq_false_of_ne_true h2, h3]; rfl), redges_nil (by unfold PP.ruleV; rw [eq_false_of_ne_true h1, eq_false_of_ne_true h2, h3]; rfl)]
      · have e : P.ruleV 0 x = Q.ruleV 0 x := by
          unfold PP.ruleV
          rw [eq_false_of_ne_true h1, eq_false_of_ne_true h2, eq_false_of_ne_true h3]; rfl
        rw [e]
        unfold PP.redges PP.nodesOf
        rw [hn]
        have hc : P.callsOf (Q.ruleV 0 x) = Q.callsOf (Q.ruleV 0 x) := by
          funext o
          unfold PP.callsOf PP.funV
          rw [hn, hf]
        rw [hc]
end Go.Proofs.YtohfdecefikinaaGreatDoor
