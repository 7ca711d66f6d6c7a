/- Texts of one proof, put together: Y7 Y8. -/
import Derived.Test.YtohfdecefikinaaGreatDoorZCM26

/- Nodes of a set of objects (cons.nodes). -/
namespace Go.Proofs.YtohfdecefikinaaGreatDoor
set_option linter.unusedSimpArgs false
set_option linter.unusedVariables false
open Go Go.RowKit

/-- Objects that are no functions. -/
def PP.nodesOf (P : PP) (l : List Int) : List Int := l.filter fun x => !decide ((P.nodesV : Int) ≤ x)
theorem consnodesc_any (g : Nat) (a1 a2 a3 : Option Addr) (c1 c2 c3 : Nat) (P : PP) (n : Int) (w : World) (n0 : Nat) (ad : Nat → Addr) (hB : Blk w g (pcells a1 a2 a3 c1 c2 c3 P) 26) (h : PW w n0 ad a1 a2 a3 c1 c2 c3 P) :
    Calls Tryz.prog 91 #[.int .i64 n, .pointer (some ⟨g, 0, none⟩)] w fun e w' => e = .returned (.bool (decide ((P.nodesV : Int) ≤ n))) ∧ Ext w w' := by
  have HN := hid (prognodes_any a1 a2 a3 c1 c2 c3 P w n0 ad h.errs h.prog h.z1 h.z2 h.well)
  have d0 := hB.av 0 rfl
  have d1 := hB.av 1 rfl
  have d2 := hB.av 2 rfl
  simp only [pcells, List.getElem_toArray, List.getElem_cons_zero, List.getElem_cons_succ] at d0 d1 d2
  unfold pval at HN
  clear hB h
  generalize P.nodesV = N at *
  go_enter Tryz.func91, Tryz.ntmps91
  go_wp2_with fail
  refine HN.out.mono ?_
  intro e w1 hx
  obtain ⟨rfl, hx1⟩ := hx
  have Hx1 := hid hx1
  clear HN hx1 d0 d1 d2
  by_cases hn : (N : Int) ≤ n
  · go_wp2
    go_ret
    exact ⟨by simp [hn], Hx1.out⟩
  · go_wp2
    go_ret
    exact ⟨by simp [hn], Hx1.out⟩
set_option maxRecDepth 100000 in
set_option maxHeartbeats 1600000 in
theorem consnodes_any (a1 a2 a3 : Option Addr) (c1 c2 c3 : Nat) (P : PP) (v : Value) (l : List Int) (w : World) (n0 : Nat) (ad : Nat → Addr) (h : PW w n0 ad a1 a2 a3 c1 c2 c3 P) (hl : IntsR w n0 v l) (hfew : l.length ≤ 100000) :
    Calls Tryz.prog 65 #[pval a1 a2 a3 c1 c2 c3 P, v] w fun e w' => ∃ v', e = .returned v' ∧ IRow w.heap.size w' v' (P.nodesOf l) ∧ Ext w w' := by
  obtain ⟨W, hW⟩ : ∃ W, W = w.alloc (.cells (pcells a1 a2 a3 c1 c2 c3 P) 26) := ⟨_, rfl⟩
  have HX : Hid (Ext w W) := hid (by rw [hW]; exact (Ext.refl _).alloc _)
  have HBx : Hid (Blk W w.heap.size (pcells a1 a2 a3 c1 c2 c3 P) 26) := hid (by rw [hW]; exact Blk.new _ _ _)
  have HWe : Hid (W = w.alloc (.cells #[.slice a1 P.vars.length c1, .slice a2 P.funs.length c2, .slice a3 P.stmts.length c3] 26)) := hid (by rw [hW]; rfl)
  have HPW := hid h
  have HC := hid (clone_big v l W n0 (hl.old (HX.out.old n0)) hfew)
  obtain ⟨av, cv, rfl, _⟩ := hl
  unfold pval
  clear hW h
  go_enter Tryz.func65, Tryz.ntmps65
  go_wp2_with fail
  rw [← HWe.out]
  refine HC.out.mono ?_
  intro e w1 hx
  obtain ⟨v1, rfl, hx1, hr1⟩ := hx
  have HD := hid (idel_nodesc (.pointer (some ⟨w.heap.size, 0, none⟩)) (fun o => decide ((P.nodesV : Int) ≤ o)) v1 l W w1 W.heap.size hx1 (Nat.le_refl _) hr1 (fun n w2 x => consnodesc_any w.heap.size a1 a2 a3 c1 c2 c3 P n w2 n0 ad (HBx.out.ext x) (HPW.out.ext (HX.out.trans x))) hfew)
  obtain ⟨a1', p1', rfl⟩ := hr1.form
  clear HC hx1 hr1
  go_wp2_with fail
  refine HD.out.mono ?_
  intro e w2 hx
  obtain ⟨v2, rfl, hr2, hx2⟩ := hx
  have Hr2 := hid (hr2.base HX.out.size)
  have Hx2 := hid (HX.out.trans hx2)
  clear HD hr2 hx2
  obtain ⟨a2', p2', rfl⟩ := Hr2.out.form
  go_wp2
  go_ret
  exact ⟨_, rfl, Hr2.out, Hx2.out⟩
end Go.Proofs.YtohfdecefikinaaGreatDoor


/- Edges of a rule: copies, loads, stores. -/
namespace Go.Proofs.YtohfdecefikinaaGreatDoor
set_option linter.unusedSimpArgs false
set_option linter.unusedVariables false
open Go Go.RowKit

def PP.callsOf (P : PP) (r : RV) (o : Int) : List (Int × Int) := if 0 ≤ P.funV o then calledV (P.funs.getD (P.funV o).toNat ⟨⟨#[]⟩, [], 0⟩) r else []
/-- Edges of a rule, when nodes have these objects. -/
def PP.redges (P : PP) (r : RV) (has : List (List Int)) : List (Int × Int) :=
  bif r.kind.toList == kCopy then [(r.a, r.b)] else
  bif r.kind.toList == kLoad then (P.nodesOf (has.getD r.a.toNat [])).map fun o => (o, r.b) else
  bif r.kind.toList == kStore then (P.nodesOf (has.getD r.b.toNat [])).map fun o => (r.a, o) else
  bif r.kind.toList == kCall then (has.getD r.a.toNat []).flatMap (P.callsOf r) else []

set_option maxRecDepth 100000 in
set_option maxHeartbeats 6400000 in
theorem redges_copy (a1 a2 a3 : Option Addr) (c1 c2 c3 : Nat) (P : PP) (r : RV) (av hv : Value) (has : List (List Int)) (w : World) (n0 : Nat) (ad : Nat → Addr) (h : PW w n0 ad a1 a2 a3 c1 c2 c3 P) (ha : IntsR w n0 av r.args) (hh : SetsR w n0 hv has) (hfew : ∀ l ∈ has, l.length ≤ 10000) (hkd : (r.kind.toList == [99, 111, 112, 121]) = true) :
    Calls Tryz.prog 37 #[pval a1 a2 a3 c1 c2 c3 P, r.val av, hv] w fun e w' => ∃ v, e = .returned v ∧ ERow w.heap.size w' v (P.redges r has) ∧ Ext w w' := by
  obtain ⟨aa, ca, rfl, _⟩ := id ha
  obtain ⟨ah, ch, rfl⟩ := hh.form
  have hhl := hh.len
  have hal := ha.len
  obtain ⟨W1, hW1⟩ : ∃ W1, W1 = w.alloc (.cells (pcells a1 a2 a3 c1 c2 c3 P) 26) := ⟨_, rfl⟩
  have hx1 : Ext w W1 := by rw [hW1]; exact (Ext.refl _).alloc _
  obtain ⟨W, hW⟩ : ∃ W, W = W1.alloc (.cells #[.string r.kind, .int .i64 r.a, .int .i64 r.b, .int .i64 r.k, .slice aa r.args.length ca] 46) := ⟨_, rfl⟩
  have hx2 : Ext W1 W := by rw [hW]; exact (Ext.refl _).alloc _
  have s1 : W1.heap.size = w.heap.size + 1 := by rw [hW1, heap_size_alloc]
  have HX := hid (hx1.trans hx2)
  have HB0 : Hid (Blk W w.heap.size (pcells a1 a2 a3 c1 c2 c3 P) 26) := hid (by
    have : Blk W1 w.heap.size (pcells a1 a2 a3 c1 c2 c3 P) 26 := by rw [hW1]; exact Blk.new _ _ _
    exact this.ext hx2)
  have HB1 : Hid (Blk W (w.heap.size + 1) #[.string r.kind, .int .i64 r.a, .int .i64 r.b, .int .i64 r.k, .slice aa r.args.length ca] 46) := hid (by rw [← s1, hW]; exact Blk.new _ _ _)
  have HWe : Hid (W = (w.alloc (.cells #[.slice a1 P.vars.length c1, .slice a2 P.funs.length c2, .slice a3 P.stmts.length c3] 26)).alloc (.cells #[.string r.kind, .int .i64 r.a, .int .i64 r.b, .int .i64 r.k, .slice aa r.args.length ca] 46)) := hid (by rw [hW, hW1]; rfl)
  have HPW := hid h
  have HH := hid hh
  have HA := hid ha
  have Hfew := hid hfew
  unfold RV.val pval
  clear h ha hh hfew hW1 hW hx1 hx2 s1
  have Hr : Hid (P.redges r has = [(r.a, r.b)]) := hid (by unfold PP.redges kCopy; rw [hkd]; rfl)
  go_enter Tryz.func37, Tryz.ntmps37
  go_wp2
  go_ret
  refine ⟨_, rfl, ?_, ?_⟩
  · rw [Hr.out]
    refine ⟨rfl, .inr ⟨w.heap.size + 1 + 1, 1, #[.int .i64 r.a, .int .i64 r.b], rfl, by omega, ?_, Nat.le_refl _, by unfold maxLen; omega, rfl, rfl⟩⟩
    have := Blk.new W #[.int .i64 r.a, .int .i64 r.b] 58
    rw [HWe.out] at this
    simp only [heap_size_alloc] at this
    exact this
  · exact (((Ext.refl w).alloc _).alloc _).alloc _
set_option maxRecDepth 100000 in
set_option maxHeartbeats 6400000 in
theorem redges_load (a1 a2 a3 : Option Addr) (c1 c2 c3 : Nat) (P : PP) (r : RV) (av hv : Value) (has : List (List Int)) (w : World) (n0 : Nat) (ad : Nat → Addr) (h : PW w n0 ad a1 a2 a3 c1 c2 c3 P) (ha : IntsR w n0 av r.args) (hh : SetsR w n0 hv has) (hfew : ∀ l ∈ has, l.length ≤ 10000) (hkd : (r.kind.toList == [108, 111, 97, 100]) = true) (hidx : 0 ≤ r.a ∧ r.a < has.length) :
    Calls Tryz.prog 37 #[pval a1 a2 a3 c1 c2 c3 P, r.val av, hv] w fun e w' => ∃ v, e = .returned v ∧ ERow w.heap.size w' v (P.redges r has) ∧ Ext w w' := by
  obtain ⟨aa, ca, rfl, _⟩ := id ha
  obtain ⟨ah, ch, rfl⟩ := hh.form
  have hhl := hh.len
  have hal := ha.len
  obtain ⟨W1, hW1⟩ : ∃ W1, W1 = w.alloc (.cells (pcells a1 a2 a3 c1 c2 c3 P) 26) := ⟨_, rfl⟩
  have hx1 : Ext w W1 := by rw [hW1]; exact (Ext.refl _).alloc _
  obtain ⟨W, hW⟩ : ∃ W, W = W1.alloc (.cells #[.string r.kind, .int .i64 r.a, .int .i64 r.b, .int .i64 r.k, .slice aa r.args.length ca] 46) := ⟨_, rfl⟩
  have hx2 : Ext W1 W := by rw [hW]; exact (Ext.refl _).alloc _
  have s1 : W1.heap.size = w.heap.size + 1 := by rw [hW1, heap_size_alloc]
  have HX := hid (hx1.trans hx2)
  have HB0 : Hid (Blk W w.heap.size (pcells a1 a2 a3 c1 c2 c3 P) 26) := hid (by
    have : Blk W1 w.heap.size (pcells a1 a2 a3 c1 c2 c3 P) 26 := by rw [hW1]; exact Blk.new _ _ _
    exact this.ext hx2)
  have HB1 : Hid (Blk W (w.heap.size + 1) #[.string r.kind, .int .i64 r.a, .int .i64 r.b, .int .i64 r.k, .slice aa r.args.length ca] 46) := hid (by rw [← s1, hW]; exact Blk.new _ _ _)
  have HWe : Hid (W = (w.alloc (.cells #[.slice a1 P.vars.length c1, .slice a2 P.funs.length c2, .slice a3 P.stmts.length c3] 26)).alloc (.cells #[.string r.kind, .int .i64 r.a, .int .i64 r.b, .int .i64 r.k, .slice aa r.args.length ca] 46)) := hid (by rw [hW, hW1]; rfl)
  have HPW := hid h
  have HH := hid hh
  have HA := hid ha
  have Hfew := hid hfew
  unfold RV.val pval
  clear h ha hh hfew hW1 hW hx1 hx2 s1
  have hk0 : (r.kind.toList == [99, 111, 112, 121]) = false := by rw [eq_of_beq hkd]; rfl
  obtain ⟨K, hK⟩ := Int.eq_ofNat_of_zero_le hidx.1
  have hKl : K < has.length := by omega
  obtain ⟨y, l, bl, cl, hya, hl, hc, hI⟩ := (HH.out.old (HX.out.old n0)).at hKl
  subst hya
  have Hl : Hid (has.getD (r.a).toNat [] = l) := hid (by rw [hK, List.getD_eq_getElem?_getD]; show (has[K]?).getD [] = l; rw [hl]; rfl)
  have hll : l.length ≤ 10000 := Hfew.out l (List.mem_of_getElem? hl)
  have HI := hid hI
  have c0 : ∀ w1, Keep (fun _ => False) W w1 → w1.cell? (y.add K) = some (.slice bl l.length cl) := fun w1 k => k.ext.cellx hc
  obtain ⟨m, hm⟩ : ∃ m, m = P.nodesOf l := ⟨_, rfl⟩
  have hml : m.length ≤ 10000 := by rw [hm]; exact Nat.le_trans (List.length_filter_le _ _) hll
  have Hr : Hid (P.redges r has = m.map fun o => (o, r.b)) := hid (by unfold PP.redges kCopy kLoad; rw [hk0, hkd, Hl.out, hm]; rfl)
  have HN := fun w1 (x : Ext W w1) => hid (consnodes_any a1 a2 a3 c1 c2 c3 P (.slice bl l.length cl) l w1 n0 ad (HPW.out.ext (HX.out.trans x)) (HI.out.old (x.old n0)) (by omega))
  unfold pval at HN
  rw [← hm] at HN
  rw [hK] at HB1 HWe
  have x0 := Ext.refl W
  have d0 := (HB0.out.ext x0).kc (X := fun _ => False) (fun e => e) 0 rfl
  have d1 := (HB0.out.ext x0).kc (X := fun _ => False) (fun e => e) 1 rfl
  have d2 := (HB0.out.ext x0).kc (X := fun _ => False) (fun e => e) 2 rfl
  have m0 := (HB1.out.ext x0).kc (X := fun _ => False) (fun e => e) 0 rfl
  have m1 := (HB1.out.ext x0).kc (X := fun _ => False) (fun e => e) 1 rfl
  have m2 := (HB1.out.ext x0).kc (X := fun _ => False) (fun e => e) 2 rfl
  have m3 := (HB1.out.ext x0).kc (X := fun _ => False) (fun e => e) 3 rfl
  have m4 := (HB1.out.ext x0).kc (X := fun _ => False) (fun e => e) 4 rfl
  simp only [pcells, List.getElem_toArray, List.getElem_cons_zero, List.getElem_cons_succ] at d0 d1 d2 m0 m1 m2 m3 m4
  clear x0 hl hc hI hidx hm
  go_enter Tryz.func37, Tryz.ntmps37
  rw [hK]
  clear hK
  go_wp2
  rw [← HWe.out]
  refine wp_flow (fun _ => False) (by kernel_rfl) (by kernel_rfl) ?_
  apply Flow.d 0 _ rfl (by simp) (by kernel_rfl)
  · intro w1 hk; unfold does; go_simp; (try go_ints); exact DetR.mk
  simp only [List.getElem_toArray, List.getElem_cons_zero, List.getElem_cons_succ, Act.put, List.setIfInBounds_toArray, List.set_cons_zero, List.set_cons_succ]
  apply Flow.d 1 _ rfl (by simp) (by kernel_rfl)
  · intro w1 hk; unfold does; go_simp; (try go_ints); exact DetR.mk
  simp only [List.getElem_toArray, List.getElem_cons_zero, List.getElem_cons_succ, Act.put, List.setIfInBounds_toArray, List.set_cons_zero, List.set_cons_succ]
  apply Flow.d 2 _ rfl (by simp) (by kernel_rfl)
  · intro w1 hk; unfold does; go_simp; (try go_ints); exact DetR.mk
  simp only [List.getElem_toArray, List.getElem_cons_zero, List.getElem_cons_succ, Act.put, List.setIfInBounds_toArray, List.set_cons_zero, List.set_cons_succ]
  apply Flow.d 3 _ rfl (by simp) (by kernel_rfl)
  · intro w1 hk; unfold does; go_simp; (try go_ints); exact DetR.mk
  simp only [List.getElem_toArray, List.getElem_cons_zero, List.getElem_cons_succ, Act.put, List.setIfInBounds_toArray, List.set_cons_zero, List.set_cons_succ]
  apply Flow.d 4 _ rfl (by simp) (by kernel_rfl)
  · intro w1 hk; unfold does; go_simp; (try go_ints); exact DetR.mk
  simp only [List.getElem_toArray, List.getElem_cons_zero, List.getElem_cons_succ, Act.put, List.setIfInBounds_toArray, List.set_cons_zero, List.set_cons_succ]
  apply Flow.d 5 _ rfl (by simp) (by kernel_rfl)
  · intro w1 hk; unfold does; go_simp; (try go_ints); exact DetR.mk
  simp only [List.getElem_toArray, List.getElem_cons_zero, List.getElem_cons_succ, Act.put, List.setIfInBounds_toArray, List.set_cons_zero, List.set_cons_succ]
  apply Flow.d 8 _ rfl (by simp) (by kernel_rfl)
  · intro w1 hk; unfold does; go_simp; (try go_ints); exact DetR.mk
  simp only [List.getElem_toArray, List.getElem_cons_zero, List.getElem_cons_succ, Act.put, List.setIfInBounds_toArray, List.set_cons_zero, List.set_cons_succ]
  refine Flow.one 6 _ rfl (by kernel_rfl) (fun v w' => (∃ a c, v = .slice a m.length c) ∧ IRow W.heap.size w' v m ∧ Ext W w') (fun _ _ _ ⟨h1, h2, h3⟩ y => ⟨h1, h2.ext y, h3.trans y⟩) (fun w1 hC hk => ?_) ?_
  · unfold does
    go_simp
    refine CallR.act ((HN w1 hC).out.mono ?_)
    rintro e w2 ⟨v, rfl, hr, hx⟩
    exact ⟨v, rfl, (hC.trans hx).keep _, hr.form, hr.base hC.size, hC.trans hx⟩
  rintro _ ⟨_, ⟨a9, c9, rfl⟩, _, _⟩
  simp only [List.getElem_toArray, List.getElem_cons_zero, List.getElem_cons_succ, Act.put, List.setIfInBounds_toArray, List.set_cons_zero, List.set_cons_succ]
  apply Flow.d 7 _ rfl (by simp) (by kernel_rfl)
  · intro w1 hk; unfold does; go_simp; (try go_ints); exact DetR.mk
  simp only [List.getElem_toArray, List.getElem_cons_zero, List.getElem_cons_succ, Act.put, List.setIfInBounds_toArray, List.set_cons_zero, List.set_cons_succ]
  refine Flow.fin (by kernel_rfl) fun w3 hC hk3 => ?_
  obtain ⟨_, hrm, hx3⟩ := hC
  have Hrm := hid hrm
  have Hx3 := hid hx3
  clear hrm hx3 hk3 HN c0 d0 d1 d2 m0 m1 m2 m3 m4
  go_wp2
  go_loopw [7, 35] (fun t7 ti wr => ∃ (k : Nat) (E : List (Int × Int)), ti = .int .i64 (k : Int) ∧ k ≤ m.length ∧ E = ((m.take k).map fun o => (o, r.b)) ∧ wr.ownsRow w3.heap.size 58 2 t7 k (E.flatMap eCells) ∧ Ext w3 wr) (fun _ ti _ => m.length - (intOf ti).toNat)
  case atStart => exact ⟨0, [], rfl, Nat.zero_le _, rfl, World.ownsRow_nil _ _ _ _, Ext.refl _⟩
  case round =>
    obtain ⟨k, E, rfl, hk, hE, hr, hx⟩ := hrel
    obtain ⟨a7, c7, rfl⟩ := row_form hr
    have Hr7 := hid hr
    have Hx := hid hx
    have HE := hid hE
    have HrmX := hid (Hrm.out.ext hx)
    clear hr hx hE
    by_cases hlt : k < m.length
    · obtain ⟨g9, cp9, he9⟩ : ∃ g cap, Value.slice a9 m.length c9 = .slice (some ⟨g, 0, none⟩) m.length cap := by
        rcases HrmX.out.case with ⟨_, h⟩ | h
        · rw [h] at hlt; simp at hlt
        · exact h
      simp only [Value.slice.injEq, true_and] at he9
      obtain ⟨rfl, rfl⟩ := he9
      obtain ⟨o, ho⟩ : ∃ o, m[k]? = some o := ⟨_, List.getElem?_eq_getElem hlt⟩
      have hco := own_i HrmX.out ho
      have Hn : Hid (((m.take (k + 1)).map fun o => (o, r.b)) = E ++ [((fun o => (o, r.b)) o)]) := hid (by rw [List.take_add_one, ho, HE.out, List.map_append]; rfl)
      have q2 := (HB1.out.ext (Hx3.out.trans Hx.out)).av 2 rfl
      simp only [List.getElem_toArray, List.getElem_cons_zero, List.getElem_cons_succ] at q2
      have hxa : Hid (Ext w3 (wr.alloc (.cells #[.int .i64 o, .int .i64 r.b] 58))) := hid (Hx.out.alloc _)
      have Hra := hid (own_ext Hr7.out ((Ext.refl wr).alloc (.cells #[.int .i64 o, .int .i64 r.b] 58)))
      clear ho
      go_wp2_with (at_builtin; refine wpList_append_el w3.heap.size hxa.out.size 49 58 (.agg #[.int .i64 0, .int .i64 0]) 2 16 Tryz.underlying49 edge_info rfl (by omega) (by omega) rfl _ _ rfl (.slice a7 k c7) k (E.flatMap eCells) rfl Hra.out wr.heap.size [.int .i64 o, .int .i64 r.b] rfl (by simp [Value.oneCell']) rfl (Blk.new _ _ _) (by omega) ?_; intro v' w' h1 h2 h4; obtain ⟨a', c', rfl⟩ := row_form h1; have h3 := hid (Keep.new hxa.out h2 (fun k hk => (World.ownsRow.lt Hra.out k hk).1)); have h1 := hid h1; clear h2 h4)
      go_roundw
      case rel =>
        refine ⟨k + 1, _, by go_num, by omega, Hn.out.symm, ?_, h3.out⟩
        rw [List.flatMap_append]
        simpa [eCells] using h1.out
      case measure => simp [intOf]; omega
    · obtain rfl : k = m.length := by omega
      have HEn : Hid (P.redges r has = E) := hid (by rw [Hr.out, HE.out, List.take_of_length_le (Nat.le_refl _)])
      have hEl : Hid (E.length = m.length) := hid (by rw [HE.out, List.length_map, List.length_take, Nat.min_self])
      go_wp2
      go_ret
      exact ⟨_, rfl, by unfold ERow; rw [HEn.out, hEl.out]; exact own_low Hr7.out (HX.out.trans Hx3.out).size, HX.out.trans (Hx3.out.trans Hx.out)⟩
set_option maxRecDepth 100000 in
set_option maxHeartbeats 6400000 in
theorem redges_store (a1 a2 a3 : Option Addr) (c1 c2 c3 : Nat) (P : PP) (r : RV) (av hv : Value) (has : List (List Int)) (w : World) (n0 : Nat) (ad : Nat → Addr) (h : PW w n0 ad a1 a2 a3 c1 c2 c3 P) (ha : IntsR w n0 av r.args) (hh : SetsR w n0 hv has) (hfew : ∀ l ∈ has, l.length ≤ 10000) (hkd : (r.kind.toList == [115, 116, 111, 114, 101]) = true) (hidx : 0 ≤ r.b ∧ r.b < has.length) :
    Calls Tryz.prog 37 #[pval a1 a2 a3 c1 c2 c3 P, r.val av, hv] w fun e w' => ∃ v, e = .returned v ∧ ERow w.heap.size w' v (P.redges r has) ∧ Ext w w' := by
  obtain ⟨aa, ca, rfl, _⟩ := id ha
  obtain ⟨ah, ch, rfl⟩ := hh.form
  have hhl := hh.len
  have hal := ha.len
  obtain ⟨W1, hW1⟩ : ∃ W1, W1 = w.alloc (.cells (pcells a1 a2 a3 c1 c2 c3 P) 26) := ⟨_, rfl⟩
  have hx1 : Ext w W1 := by rw [hW1]; exact (Ext.refl _).alloc _
  obtain ⟨W, hW⟩ : ∃ W, W = W1.alloc (.cells #[.string r.kind, .int .i64 r.a, .int .i64 r.b, .int .i64 r.k, .slice aa r.args.length ca] 46) := ⟨_, rfl⟩
  have hx2 : Ext W1 W := by rw [hW]; exact (Ext.refl _).alloc _
  have s1 : W1.heap.size = w.heap.size + 1 := by rw [hW1, heap_size_alloc]
  have HX := hid (hx1.trans hx2)
  have HB0 : Hid (Blk W w.heap.size (pcells a1 a2 a3 c1 c2 c3 P) 26) := hid (by
    have : Blk W1 w.heap.size (pcells a1 a2 a3 c1 c2 c3 P) 26 := by rw [hW1]; exact Blk.new _ _ _
    exact this.ext hx2)
  have HB1 : Hid (Blk W (w.heap.size + 1) #[.string r.kind, .int .i64 r.a, .int .i64 r.b, .int .i64 r.k, .slice aa r.args.length ca] 46) := hid (by rw [← s1, hW]; exact Blk.new _ _ _)
  have HWe : Hid (W = (w.alloc (.cells #[.slice a1 P.vars.length c1, .slice a2 P.funs.length c2, .slice a3 P.stmts.length c3] 26)).alloc (.cells #[.string r.kind, .int .i64 r.a, .int .i64 r.b, .int .i64 r.k, .slice aa r.args.length ca] 46)) := hid (by rw [hW, hW1]; rfl)
  have HPW := hid h
  have HH := hid hh
  have HA := hid ha
  have Hfew := hid hfew
  unfold RV.val pval
  clear h ha hh hfew hW1 hW hx1 hx2 s1
  have hk0 : (r.kind.toList == [99, 111, 112, 121]) = false := by rw [eq_of_beq hkd]; rfl
  have hk1 : (r.kind.toList == [108, 111, 97, 100]) = false := by rw [eq_of_beq hkd]; rfl
  obtain ⟨K, hK⟩ := Int.eq_ofNat_of_zero_le hidx.1
  have hKl : K < has.length := by omega
  obtain ⟨y, l, bl, cl, hya, hl, hc, hI⟩ := (HH.out.old (HX.out.old n0)).at hKl
  subst hya
  have Hl : Hid (has.getD (r.b).toNat [] = l) := hid (by rw [hK, List.getD_eq_getElem?_getD]; show (has[K]?).getD [] = l; rw [hl]; rfl)
  have hll : l.length ≤ 10000 := Hfew.out l (List.mem_of_getElem? hl)
  have HI := hid hI
  have c0 : ∀ w1, Keep (fun _ => False) W w1 → w1.cell? (y.add K) = some (.slice bl l.length cl) := fun w1 k => k.ext.cellx hc
  obtain ⟨m, hm⟩ : ∃ m, m = P.nodesOf l := ⟨_, rfl⟩
  have hml : m.length ≤ 10000 := by rw [hm]; exact Nat.le_trans (List.length_filter_le _ _) hll
  have Hr : Hid (P.redges r has = m.map fun o => (r.a, o)) := hid (by unfold PP.redges kCopy kLoad kStore; rw [hk0, hk1, hkd, Hl.out, hm]; rfl)
  have HN := fun w1 (x : Ext W w1) => hid (consnodes_any a1 a2 a3 c1 c2 c3 P (.slice bl l.length cl) l w1 n0 ad (HPW.out.ext (HX.out.trans x)) (HI.out.old (x.old n0)) (by omega))
  unfold pval at HN
  rw [← hm] at HN
  rw [hK] at HB1 HWe
  have x0 := Ext.refl W
  have d0 := (HB0.out.ext x0).kc (X := fun _ => False) (fun e => e) 0 rfl
  have d1 := (HB0.out.ext x0).kc (X := fun _ => False) (fun e => e) 1 rfl
  have d2 := (HB0.out.ext x0).kc (X := fun _ => False) (fun e => e) 2 rfl
  have m0 := (HB1.out.ext x0).kc (X := fun _ => False) (fun e => e) 0 rfl
  have m1 := (HB1.out.ext x0).kc (X := fun _ => False) (fun e => e) 1 rfl
  have m2 := (HB1.out.ext x0).kc (X := fun _ => False) (fun e => e) 2 rfl
  have m3 := (HB1.out.ext x0).kc (X := fun _ => False) (fun e => e) 3 rfl
  have m4 := (HB1.out.ext x0).kc (X := fun _ => False) (fun e => e) 4 rfl
  simp only [pcells, List.getElem_toArray, List.getElem_cons_zero, List.getElem_cons_succ] at d0 d1 d2 m0 m1 m2 m3 m4
  clear x0 hl hc hI hidx hm
  go_enter Tryz.func37, Tryz.ntmps37
  rw [hK]
  clear hK
  go_wp2
  rw [← HWe.out]
  refine wp_flow (fun _ => False) (by kernel_rfl) (by kernel_rfl) ?_
  apply Flow.d 0 _ rfl (by simp) (by kernel_rfl)
  · intro w1 hk; unfold does; go_simp; (try go_ints); exact DetR.mk
  simp only [List.getElem_toArray, List.getElem_cons_zero, List.getElem_cons_succ, Act.put, List.setIfInBounds_toArray, List.set_cons_zero, List.set_cons_succ]
  apply Flow.d 1 _ rfl (by simp) (by kernel_rfl)
  · intro w1 hk; unfold does; go_simp; (try go_ints); exact DetR.mk
  simp only [List.getElem_toArray, List.getElem_cons_zero, List.getElem_cons_succ, Act.put, List.setIfInBounds_toArray, List.set_cons_zero, List.set_cons_succ]
  apply Flow.d 2 _ rfl (by simp) (by kernel_rfl)
  · intro w1 hk; unfold does; go_simp; (try go_ints); exact DetR.mk
  simp only [List.getElem_toArray, List.getElem_cons_zero, List.getElem_cons_succ, Act.put, List.setIfInBounds_toArray, List.set_cons_zero, List.set_cons_succ]
  apply Flow.d 3 _ rfl (by simp) (by kernel_rfl)
  · intro w1 hk; unfold does; go_simp; (try go_ints); exact DetR.mk
  simp only [List.getElem_toArray, List.getElem_cons_zero, List.getElem_cons_succ, Act.put, List.setIfInBounds_toArray, List.set_cons_zero, List.set_cons_succ]
  apply Flow.d 4 _ rfl (by simp) (by kernel_rfl)
  · intro w1 hk; unfold does; go_simp; (try go_ints); exact DetR.mk
  simp only [List.getElem_toArray, List.getElem_cons_zero, List.getElem_cons_succ, Act.put, List.setIfInBounds_toArray, List.set_cons_zero, List.set_cons_succ]
  apply Flow.d 5 _ rfl (by simp) (by kernel_rfl)
  · intro w1 hk; unfold does; go_simp; (try go_ints); exact DetR.mk
  simp only [List.getElem_toArray, List.getElem_cons_zero, List.getElem_cons_succ, Act.put, List.setIfInBounds_toArray, List.set_cons_zero, List.set_cons_succ]
  apply Flow.d 8 _ rfl (by simp) (by kernel_rfl)
  · intro w1 hk; unfold does; go_simp; (try go_ints); exact DetR.mk
  simp only [List.getElem_toArray, List.getElem_cons_zero, List.getElem_cons_succ, Act.put, List.setIfInBounds_toArray, List.set_cons_zero, List.set_cons_succ]
  refine Flow.one 6 _ rfl (by kernel_rfl) (fun v w' => (∃ a c, v = .slice a m.length c) ∧ IRow W.heap.size w' v m ∧ Ext W w') (fun _ _ _ ⟨h1, h2, h3⟩ y => ⟨h1, h2.ext y, h3.trans y⟩) (fun w1 hC hk => ?_) ?_
  · unfold does
    go_simp
    refine CallR.act ((HN w1 hC).out.mono ?_)
    rintro e w2 ⟨v, rfl, hr, hx⟩
    exact ⟨v, rfl, (hC.trans hx).keep _, hr.form, hr.base hC.size, hC.trans hx⟩
  rintro _ ⟨_, ⟨a9, c9, rfl⟩, _, _⟩
  simp only [List.getElem_toArray, List.getElem_cons_zero, List.getElem_cons_succ, Act.put, List.setIfInBounds_toArray, List.set_cons_zero, List.set_cons_succ]
  apply Flow.d 7 _ rfl (by simp) (by kernel_rfl)
  · intro w1 hk; unfold does; go_simp; (try go_ints); exact DetR.mk
  simp only [List.getElem_toArray, List.getElem_cons_zero, List.getElem_cons_succ, Act.put, List.setIfInBounds_toArray, List.set_cons_zero, List.set_cons_succ]
  refine Flow.fin (by kernel_rfl) fun w3 hC hk3 => ?_
  obtain ⟨_, hrm, hx3⟩ := hC
  have Hrm := hid hrm
  have Hx3 := hid hx3
  clear hrm hx3 hk3 HN c0 d0 d1 d2 m0 m1 m2 m3 m4
  go_wp2
  go_loopw [7, 57] (fun t7 ti wr => ∃ (k : Nat) (E : List (Int × Int)), ti = .int .i64 (k : Int) ∧ k ≤ m.length ∧ E = ((m.take k).map fun o => (r.a, o)) ∧ wr.ownsRow w3.heap.size 58 2 t7 k (E.flatMap eCells) ∧ Ext w3 wr) (fun _ ti _ => m.length - (intOf ti).toNat)
  case atStart => exact ⟨0, [], rfl, Nat.zero_le _, rfl, World.ownsRow_nil _ _ _ _, Ext.refl _⟩
  case round =>
    obtain ⟨k, E, rfl, hk, hE, hr, hx⟩ := hrel
    obtain ⟨a7, c7, rfl⟩ := row_form hr
    have Hr7 := hid hr
    have Hx := hid hx
    have HE := hid hE
    have HrmX := hid (Hrm.out.ext hx)
    clear hr hx hE
    by_cases hlt : k < m.length
    · obtain ⟨g9, cp9, he9⟩ : ∃ g cap, Value.slice a9 m.length c9 = .slice (some ⟨g, 0, none⟩) m.length cap := by
        rcases HrmX.out.case with ⟨_, h⟩ | h
        · rw [h] at hlt; simp at hlt
        · exact h
      simp only [Value.slice.injEq, true_and] at he9
      obtain ⟨rfl, rfl⟩ := he9
      obtain ⟨o, ho⟩ : ∃ o, m[k]? = some o := ⟨_, List.getElem?_eq_getElem hlt⟩
      have hco := own_i HrmX.out ho
      have Hn : Hid (((m.take (k + 1)).map fun o => (r.a, o)) = E ++ [((fun o => (r.a, o)) o)]) := hid (by rw [List.take_add_one, ho, HE.out, List.map_append]; rfl)
      have q2 := (HB1.out.ext (Hx3.out.trans Hx.out)).av 1 rfl
      simp only [List.getElem_toArray, List.getElem_cons_zero, List.getElem_cons_succ] at q2
      have hxa : Hid (Ext w3 (wr.alloc (.cells #[.int .i64 r.a, .int .i64 o] 58))) := hid (Hx.out.alloc _)
      have Hra := hid (own_ext Hr7.out ((Ext.refl wr).alloc (.cells #[.int .i64 r.a, .int .i64 o] 58)))
      clear ho
      go_wp2_with (at_builtin; refine wpList_append_el w3.heap.size hxa.out.size 49 58 (.agg #[.int .i64 0, .int .i64 0]) 2 16 Tryz.underlying49 edge_info rfl (by omega) (by omega) rfl _ _ rfl (.slice a7 k c7) k (E.flatMap eCells) rfl Hra.out wr.heap.size [.int .i64 r.a, .int .i64 o] rfl (by simp [Value.oneCell']) rfl (Blk.new _ _ _) (by omega) ?_; intro v' w' h1 h2 h4; obtain ⟨a', c', rfl⟩ := row_form h1; have h3 := hid (Keep.new hxa.out h2 (fun k hk => (World.ownsRow.lt Hra.out k hk).1)); have h1 := hid h1; clear h2 h4)
      go_roundw
      case rel =>
        refine ⟨k + 1, _, by go_num, by omega, Hn.out.symm, ?_, h3.out⟩
        rw [List.flatMap_append]
        simpa [eCells] using h1.out
      case measure => simp [intOf]; omega
    · obtain rfl : k = m.length := by omega
      have HEn : Hid (P.redges r has = E) := hid (by rw [Hr.out, HE.out, List.take_of_length_le (Nat.le_refl _)])
      have hEl : Hid (E.length = m.length) := hid (by rw [HE.out, List.length_map, List.length_take, Nat.min_self])
      go_wp2
      go_ret
      exact ⟨_, rfl, by unfold ERow; rw [HEn.out, hEl.out]; exact own_low Hr7.out (HX.out.trans Hx3.out).size, HX.out.trans (Hx3.out.trans Hx.out)⟩
end Go.Proofs.YtohfdecefikinaaGreatDoor
