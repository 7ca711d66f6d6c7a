/- Texts of one proof, put together: ZV T3 T4 T2 T5 T6 T1 T7 ZW ZX. -/
import Derived.Test.YtdppgcbekhabnaaGreatDoorSD06
import Derived.Test.YtdppgcbekhabnaaGreatDoorSD07
import Derived.Test.YtdppgcbekhabnaaGreatDoorSD10
import Derived.Test.YtdppgcbekhabnaaGreatDoorSD11
import Derived.Test.YtdppgcbekhabnaaGreatDoorSD12
import Derived.Test.YtdppgcbekhabnaaGreatDoorSD14
import Derived.Test.YtdppgcbekhabnaaGreatDoorSD16
import Derived.Test.YtdppgcbekhabnaaGreatDoorSD17
import Derived.Test.YtdppgcbekhabnaaGreatDoorSD19

/- The solver: an edge that is new. -/
namespace Go.Proofs.YtdppgcbekhabnaaGreatDoor
set_option linter.unusedSimpArgs false
set_option linter.unusedVariables false
open Go Go.RowKit

theorem fact_info : (Tryz.prog.info? 97).map (fun i => (i.zero, i.size, i.bytes)) = some (some (.agg #[.int .i64 0, .int .i64 0]), 2, 16) := by kernel_rfl
theorem int_info1 : (Tryz.prog.info? 3).map (fun i => (i.zero, i.size, i.bytes)) = some (some (.int .i64 0), 1, 8) := by kernel_rfl
theorem zero_bool (w : World) : (zeroValue 4).run Tryz.prog w = .ok (.bool false) w := by kernel_rfl
theorem zero_ints (w : World) : (zeroValue 27).run Tryz.prog w = .ok (.slice none 0 0) w := by kernel_rfl
/-- The objects of a row below k. -/
def objsUp (l : List Bool) (k : Nat) : List Int := ((List.range k).filter fun o => l.getD o false).map fun o : Nat => (o : Int)
theorem objsUp_succ (l : List Bool) (k : Nat) : objsUp l (k + 1) = objsUp l k ++ if l.getD k false = true then [(k : Int)] else [] := by
  unfold objsUp
  rw [List.range_succ, List.filter_append, List.map_append]
  congr 1
  cases h : l.getD k false with
  | false => rw [List.filter_cons, h]; rfl
  | true => rw [List.filter_cons, h]; rfl
theorem objs_up (s : SV) {n : Nat} {l : List Bool} (h : s.has[n]? = some l) : s.objs (n : Int) = objsUp l l.length := by
  unfold SV.objs objsUp
  have e : s.has.getD (n : Int).toNat [] = l := by rw [Int.toNat_natCast, List.getD_eq_getElem?_getD, h]; rfl
  rw [e]
theorem objsUp_len (l : List Bool) (k : Nat) : (objsUp l k).length ≤ k := by
  unfold objsUp
  rw [List.length_map]
  refine Nat.le_trans (List.length_filter_le _ _) (by rw [List.length_range]; exact Nat.le_refl _)
theorem look_seen {w : World} {m2 : Nat} {l : List (Int × Int)} (h : KMap Tryz.prog 127 twoV w m2 (seenF l)) {e : Int × Int} (h1 : 0 ≤ e.1 ∧ e.1 < 1000000) (h2 : 0 ≤ e.2 ∧ e.2 < 1000000) :
    (Instr.lookup 79 (.map (some m2)) (.agg #[.int .i64 e.1, .int .i64 e.2]) false).run Tryz.prog w = .ok (.bool (decide (e ∈ l))) w := by
  obtain ⟨k, hk⟩ := key_edge h1 h2
  have := run_kmap_lookup edge_keyed twoV_inj Tryz.underlying79 h hk (zero_bool w) false
  unfold twoV at this
  rw [this]
  unfold seenF
  by_cases he : e ∈ l
  · rw [if_pos he, decide_eq_true he]; rfl
  · rw [if_neg he, decide_eq_false he]; rfl
theorem look_succ {w : World} {m1 : Nat} {f1 : Int → Option Value} (h : KMap Tryz.prog 3 (Value.int .i64) w m1 f1) {n : Int} (hn : 0 ≤ n ∧ n < 1000000) :
    (Instr.lookup 78 (.map (some m1)) (.int .i64 n) false).run Tryz.prog w = .ok (rowOf f1 n) w := by
  obtain ⟨k, hk⟩ := key_int hn
  have := run_kmap_lookup int_keyed64 intV_inj Tryz.underlying78 h hk (zero_ints w) false
  rw [this]; rfl
set_option maxRecDepth 100000 in
set_option maxHeartbeats 3200000 in
theorem solveedge_bare (P : PP) (S : List (List Int)) (s : SV) (e : Int × Int) (w : World) (G F : Nat → Prop) (g : Nat) (ad : Nat → Addr) {vr : Value} {rs : List R2} {vh : Value} {hs : List Value} (hS : SolvAt w G F g ad P vr rs vh hs s) (hC : Core P S { s with rules := [] }) (hB : s.Bnd P) (he1 : 0 ≤ e.1 ∧ e.1 < P.nodesV) (he2 : 0 ≤ e.2 ∧ e.2 < P.nodesV) :
    Calls Tryz.prog 71 #[.pointer (some ⟨g, 0, none⟩), .agg #[.int .i64 e.1, .int .i64 e.2]] w fun x w' => x = .returned (.tuple #[]) ∧ SolvAt w' G F g ad P vr rs vh hs (s.edge e) ∧ Keep (fun b => ¬ F b) w w' := by
  obtain ⟨a1, a2, a3, c1, c2, c3, m1, m2, f1, vw, h⟩ := hS
  obtain ⟨e1, e2⟩ := e
  simp only at he1 he2
  obtain ⟨i, rfl⟩ := Int.eq_ofNat_of_zero_le he1.1
  obtain ⟨j, rfl⟩ := Int.eq_ofNat_of_zero_le he2.1
  have hw := h.pw.well
  obtain ⟨hn1, hn2⟩ := hw.nodes
  have hin : i < P.nodesV := by omega
  have hjn : j < P.nodesV := by omega
  have hon : P.nodesV ≤ P.objectsV := by unfold PP.objectsV; omega
  have hwl := hB.wait_few0 hw hC
  have hel : s.edges.length ≤ 14400 := Core.edges_few (s := { s with rules := [] }) hw hC hB.nd
  have hlen : s.has.length = P.nodesV := hC.len
  obtain ⟨gh, ch, rfl⟩ := own_some h.hrow (by omega)
  obtain ⟨vb, lb, hvb, hlb, hrb⟩ := h.hbag.at (i := i) (by omega)
  have hll : lb.length = P.objectsV := hC.row lb (List.mem_of_getElem? hlb)
  unfold TrRow at hrb
  rw [hll] at hrb
  obtain ⟨gb, cb, rfl⟩ := own_some hrb (by omega)
  obtain ⟨W, hW⟩ : ∃ W, W = w.alloc (.cells #[.int .i64 (i : Int), .int .i64 (j : Int)] 127) := ⟨_, rfl⟩
  have HX : Hid (Ext w W) := hid (by rw [hW]; exact (Ext.refl _).alloc _)
  have HBx : Hid (Blk W w.heap.size #[.int .i64 (i : Int), .int .i64 (j : Int)] 127) := hid (by rw [hW]; exact Blk.new _ _ _)
  have HWe : Hid (W = w.alloc (.cells #[.int .i64 (i : Int), .int .i64 (j : Int)] 127)) := hid hW
  have HS := hid (h.ext HX.out)
  have HC := hid hC
  have HB := hid hB
  have Hhb := hid (own_ext hrb HX.out)
  have Hvb := hid hvb
  have Hlb := hid hlb
  have Hll := hid hll
  have Hlen := hid hlen
  have Hon := hid hon
  have Hwl := hid hwl
  have Hel := hid hel
  have Hob := hid (show (s.objs (i : Int)).length ≤ P.objectsV from objs_few (s := { s with rules := [] }) hC (i : Int))
  have Hsf := hid (succ_few s (i : Int))
  have d0 := HBx.out.kc (X := fun _ => False) (fun e => e) 0 rfl
  have d1 := HBx.out.kc (X := fun _ => False) (fun e => e) 1 rfl
  have b4 := HS.out.blk.kc (X := fun _ => False) (fun e => e) 4 rfl
  have b5 := HS.out.blk.kc (X := fun _ => False) (fun e => e) 5 rfl
  have b6 := HS.out.blk.kc (X := fun _ => False) (fun e => e) 6 rfl
  have b8 := HS.out.blk.kc (X := fun _ => False) (fun e => e) 8 rfl
  simp only [solvCells, List.getElem_toArray, List.getElem_cons_zero, List.getElem_cons_succ] at d0 d1 b4 b5 b6 b8
  have HLs := fun w1 (x : Ext W w1) => look_seen (HS.out.map2.ext x) (e := ((i : Int), (j : Int))) (by simp only; omega) (by simp only; omega)
  simp only at HLs
  clear h hC hB hW hrb hvb hlb hll hlen hwl hel hon
  generalize P.nodesV = NN at *
  generalize P.objectsV = OO at *
  by_cases hij : (i : Int) = j
  · have Hr : Hid (s.edge ((i : Int), (j : Int)) = s) := hid (by unfold SV.edge; rw [if_pos (.inl hij)])
    rw [Hr.out]
    obtain rfl : i = j := by omega
    clear hij Hr HLs
    go_enter Tryz.func71, Tryz.ntmps71
    go_wp2
    rw [← HWe.out]
    refine wp_flowT (fun _ => False) (by kernel_rfl) (by kernel_rfl) ?_
    repeat (apply FlowT.d; (intro w1 hk; unfold does; go_simp; (try go_ints); (first | exact DetR.mk | (simp only [↓IntWalk.iteOmega, Oper.doesUpon_value]; exact DetR.mk) | (simp only [↓IntWalk.iteOmega]; go_simp; (try go_ints); exact DetR.mk))); simp only [Act.put, List.setIfInBounds_toArray, List.set_cons_zero, List.set_cons_succ])
    refine FlowT.fin fun w2 hx2 hk2 => ?_
    have Hx2 := hid hx2
    clear hx2 hk2 d0 d1 b4 b5 b6 b8
    go_wp2
    refine bodyPost_ret (v := .tuple #[]) (results_none (by kernel_rfl) _ _ _) rfl ?_
    exact ⟨rfl, ⟨_, _, _, _, _, _, _, _, _, _, HS.out.ext Hx2.out⟩, (HX.out.trans Hx2.out).keep _⟩
  have e0 : ((i : Int) == (j : Int)) = false := by simpa using hij
  have He0 := hid hij
  by_cases hm : ((i : Int), (j : Int)) ∈ s.edges
  · have Hr : Hid (s.edge ((i : Int), (j : Int)) = s) := hid (by unfold SV.edge; rw [if_pos (.inr hm)])
    rw [Hr.out]
    have HL : Hid (∀ w1, Ext W w1 → (Instr.lookup 79 (.map (some m2)) (.agg #[.int .i64 (i : Int), .int .i64 (j : Int)]) false).run Tryz.prog w1 = .ok (.bool true) w1) := hid fun w1 x => by rw [HLs w1 x, decide_eq_true hm]
    clear hij Hr hm HLs
    go_enter Tryz.func71, Tryz.ntmps71
    go_wp2
    rw [← HWe.out]
    refine wp_flowT (fun _ => False) (by kernel_rfl) (by kernel_rfl) ?_
    repeat (apply FlowT.d; (intro w1 hk; unfold does; go_simp; (try go_ints); (first | exact DetR.mk | (simp only [↓IntWalk.iteOmega, Oper.doesUpon_value]; exact DetR.mk) | (simp only [↓IntWalk.iteOmega]; go_simp; (try go_ints); exact DetR.mk))); simp only [Act.put, List.setIfInBounds_toArray, List.set_cons_zero, List.set_cons_succ])
    apply FlowT.d
    · intro w1 hk
      unfold does
      go_simp
      rw [HL.out w1 hk.ext]
      go_simp
      exact DetR.mk
    simp only [Act.put, List.setIfInBounds_toArray, List.set_cons_zero, List.set_cons_succ]
    repeat (apply FlowT.d; (intro w1 hk; unfold does; go_simp; (try go_ints); (first | exact DetR.mk | (simp only [↓IntWalk.iteOmega, Oper.doesUpon_value]; exact DetR.mk) | (simp only [↓IntWalk.iteOmega]; go_simp; (try go_ints); exact DetR.mk))); simp only [Act.put, List.setIfInBounds_toArray, List.set_cons_zero, List.set_cons_succ])
    refine FlowT.fin fun w2 hx2 hk2 => ?_
    have Hx2 := hid hx2
    clear hx2 hk2 d0 d1 b4 b5 b6 b8
    go_wp2
    refine bodyPost_ret (v := .tuple #[]) (results_none (by kernel_rfl) _ _ _) rfl ?_
    exact ⟨rfl, ⟨_, _, _, _, _, _, _, _, _, _, HS.out.ext Hx2.out⟩, (HX.out.trans Hx2.out).keep _⟩
  have HL : Hid (∀ w1, Ext W w1 → (Instr.lookup 79 (.map (some m2)) (.agg #[.int .i64 (i : Int), .int .i64 (j : Int)]) false).run Tryz.prog w1 = .ok (.bool false) w1) := hid fun w1 x => by rw [HLs w1 x, decide_eq_false hm]
  have Hm := hid hm
  clear hij hm HLs
  go_enter Tryz.func71, Tryz.ntmps71
  go_wp2
  rw [← HWe.out]
  refine wp_flowT (fun _ => False) (by kernel_rfl) (by kernel_rfl) ?_
  repeat (apply FlowT.d; (intro w1 hk; unfold does; go_simp; (try go_ints); (first | exact DetR.mk | (simp only [↓IntWalk.iteOmega, Oper.doesUpon_value]; exact DetR.mk) | (simp only [↓IntWalk.iteOmega]; go_simp; (try go_ints); exact DetR.mk))); simp only [Act.put, List.setIfInBounds_toArray, List.set_cons_zero, List.set_cons_succ])
  apply FlowT.d
  · intro w1 hk
    unfold does
    go_simp
    rw [HL.out w1 hk.ext]
    go_simp
    exact DetR.mk
  simp only [Act.put, List.setIfInBounds_toArray, List.set_cons_zero, List.set_cons_succ]
  repeat (apply FlowT.d; (intro w1 hk; unfold does; go_simp; (try go_ints); (first | exact DetR.mk | (simp only [↓IntWalk.iteOmega, Oper.doesUpon_value]; exact DetR.mk) | (simp only [↓IntWalk.iteOmega]; go_simp; (try go_ints); exact DetR.mk))); simp only [Act.put, List.setIfInBounds_toArray, List.set_cons_zero, List.set_cons_succ])
  refine FlowT.fin fun w2 hx2 hk2 => ?_
  have HS2 := hid (HS.out.ext hx2)
  have Hx2 := hid hx2
  have Hhb2 := hid (own_ext Hhb.out hx2)
  have HBx2 := hid (HBx.out.ext hx2)
  clear hx2 hk2 d0 d1 b4 b5 b6 b8 e0 HL
  have d0 := HBx2.out.kc (X := fun _ => False) (fun e => e) 0 rfl
  have d1 := HBx2.out.kc (X := fun _ => False) (fun e => e) 1 rfl
  have b6 := HS2.out.blk.kc (X := fun _ => False) (fun e => e) 6 rfl
  simp only [solvCells, List.getElem_toArray, List.getElem_cons_zero, List.getElem_cons_succ] at d0 d1 b6
  obtain ⟨lk, hlk⟩ := key_edge (e := ((i : Int), (j : Int))) (by simp only; omega) (by simp only; omega)
  have Hlk := hid hlk
  clear hlk
  go_wp2
  refine wp_flowT (fun _ => False) (by kernel_rfl) (by kernel_rfl) ?_
  repeat (apply FlowT.d; (intro w1 hk; unfold does; go_simp; (try go_ints); (first | exact DetR.mk | (simp only [↓IntWalk.iteOmega, Oper.doesUpon_value]; exact DetR.mk) | (simp only [↓IntWalk.iteOmega]; go_simp; (try go_ints); exact DetR.mk))); simp only [Act.put, List.setIfInBounds_toArray, List.set_cons_zero, List.set_cons_succ])
  refine FlowT.last (fun _ w' => KMap Tryz.prog 127 twoV w' m2 (fun q => if q = ((i : Int), (j : Int)) then some (.bool true) else seenF s.edges q) ∧ Keep (fun q => q = m2) w2 w') 5 rfl (by kernel_rfl) (by kernel_rfl) (fun w3 hC hk => ?_) (fun _ w3 hR => ?_)
  · exact does_kmap_put rfl _ _ _ 79 4 rfl edge_keyed twoV_inj Tryz.underlying79 (HS2.out.map2.ext hk.ext) rfl ((i : Int), (j : Int)) rfl Hlk.out (.bool true) rfl fun w' k1 k2 => ⟨k1, (hk.ext.keep _).trans k2⟩
  simp only [Act.put]
  have HR := hid hR
  clear hR d0 d1 b6 Hlk
  have HR3 := hid (own_off (HS2.out.row1 (i : Int)) HR.out.2 fun b e => by rintro ⟨c, hc⟩; exact HS2.out.map2.not_blk (e ▸ hc))
  have HM3 := hid (HS2.out.map1.keep HR.out.2 HS2.out.m12)
  have HB3 := hid (HS2.out.blk.keep HR.out.2 (HS2.out.map2.ne HS2.out.blk))
  have HBx3 := hid (HBx2.out.keep HR.out.2 (HS2.out.map2.ne HBx2.out))
  obtain ⟨ar, cr, hro⟩ := row_form HR3.out
  have hX : ∀ (b : Nat) (e : TypeId), (rowOf f1 (i : Int)).ownBlock = some b → 3 ≠ e → ∀ c, ¬ Blk w3 b c e := fun _ _ hb he c hc => by
    obtain ⟨c', hc'⟩ := own_ty HR3.out hb
    exact off_of hc' he ⟨_, hc⟩
  have hXm : ¬ (rowOf f1 (i : Int)).ownBlock = some m1 := fun hb => by
    obtain ⟨c', hc'⟩ := own_ty HR3.out hb
    exact HM3.out.not_blk hc'
  have b5 := HB3.out.kc (X := fun q => (rowOf f1 (i : Int)).ownBlock = some q) (fun hb => hX _ _ hb (by decide) _ HB3.out) 5 rfl
  have d0 := HBx3.out.kc (X := fun q => (rowOf f1 (i : Int)).ownBlock = some q) (fun hb => hX _ _ hb (by decide) _ HBx3.out) 0 rfl
  have d1 := HBx3.out.kc (X := fun q => (rowOf f1 (i : Int)).ownBlock = some q) (fun hb => hX _ _ hb (by decide) _ HBx3.out) 1 rfl
  simp only [solvCells, List.getElem_toArray, List.getElem_cons_zero, List.getElem_cons_succ] at b5 d0 d1
  have HLu : Hid (∀ w1, Keep (fun q => (rowOf f1 (i : Int)).ownBlock = some q) w3 w1 → (Instr.lookup 78 (.map (some m1)) (.int .i64 (i : Int)) false).run Tryz.prog w1 = .ok (.slice ar (s.succ (i : Int)).length cr) w1) := hid fun w1 k => by
    rw [look_succ (HM3.out.keep k hXm) (by omega), hro]
  obtain ⟨lk, hlk⟩ := key_int (a := (i : Int)) (by omega)
  have Hlk := hid hlk
  have Hro := hid hro
  have HX3 := hid hX
  have HXm := hid hXm
  clear hlk hro hX hXm
  go_wp2
  refine wp_flowT (fun q => (rowOf f1 (i : Int)).ownBlock = some q) (by kernel_rfl) (by kernel_rfl) ?_
  repeat (apply FlowT.d; (intro w1 hk; unfold does; go_simp; (try go_ints); (first | exact DetR.mk | (simp only [↓IntWalk.iteOmega, Oper.doesUpon_value]; exact DetR.mk) | (simp only [↓IntWalk.iteOmega]; go_simp; (try go_ints); exact DetR.mk))); simp only [Act.put, List.setIfInBounds_toArray, List.set_cons_zero, List.set_cons_succ])
  apply FlowT.d
  · intro w1 hk
    unfold does
    go_simp
    rw [HLu.out w1 hk]
    go_simp
    exact DetR.mk
  simp only [Act.put, List.setIfInBounds_toArray, List.set_cons_zero, List.set_cons_succ]
  repeat (apply FlowT.d; (intro w1 hk; unfold does; go_simp; (try go_ints); (first | exact DetR.mk | (simp only [↓IntWalk.iteOmega, Oper.doesUpon_value]; exact DetR.mk) | (simp only [↓IntWalk.iteOmega]; go_simp; (try go_ints); exact DetR.mk))); simp only [Act.put, List.setIfInBounds_toArray, List.set_cons_zero, List.set_cons_succ])
  refine FlowT.s (fun v' w' => ∃ q, v' = .slice (some ⟨q, 0, none⟩) 1 1 ∧ Blk w' q #[.int .i64 (j : Int)] 3 ∧ Ext w3 w') 15 rfl (by kernel_rfl) (fun _ _ _ ⟨q, h1, h2, h3⟩ he => ⟨q, h1, h2.ext he, h3.trans he⟩) (fun w4 hC hk => ?_) ?_
  · unfold does
    go_simp
    exact ⟨hk.alloc _, _, rfl, Blk.new _ _ _, hC.alloc _⟩
  rintro _ ⟨_, q3, rfl, _, _⟩
  simp only [Act.put, List.setIfInBounds_toArray, List.set_cons_zero, List.set_cons_succ]
  refine FlowT.s (fun v' w' => (∃ a c, v' = .slice a ((s.succ (i : Int)).length + 1) c) ∧ w'.ownsRow 0 3 1 v' ((s.succ (i : Int)).length + 1) (icells (s.succ (i : Int)) ++ [.int .i64 (j : Int)]) ∧ ∀ b, v'.ownBlock = some b → (rowOf f1 (i : Int)).ownBlock = some b ∨ w3.heap.size ≤ b) 16 rfl (by kernel_rfl) (fun _ _ _ ⟨h1, h2, h3⟩ he => ⟨h1, own_ext h2 he, h3⟩) (fun w4 hC hk => ?_) ?_
  · obtain ⟨q', e, hg, hE⟩ := hC
    obtain rfl : q3 = q' := by simpa using e
    have hI : w4.ownsRow 0 3 1 (.slice ar (s.succ (i : Int)).length cr) (s.succ (i : Int)).length (icells (s.succ (i : Int))) := by rw [← Hro.out]; exact own_ext HR3.out hE
    refine does_append_el 0 (Nat.zero_le _) 27 3 (.int .i64 0) 1 8 Tryz.underlying27 int_info1 rfl (by omega) (by omega) rfl _ _ rfl _ _ _ rfl hI q3 [.int .i64 (j : Int)] rfl (by simp [Value.oneCell']) rfl hg (by have := Hsf.out; have := Hel.out; omega) fun v' w' h1 h2 h3 => ?_
    rw [← Hro.out] at h2 h3
    refine ⟨hk.trans h2, row_form h1, h1, fun b hb => ?_⟩
    rcases h3 with k | k
    · exact .inl (k ▸ hb)
    · rw [k] at hb
      obtain rfl := Option.some.inj hb
      exact .inr hE.size
  rintro _ ⟨_, ⟨a6, c6, rfl⟩, _, _⟩
  simp only [Act.put, List.setIfInBounds_toArray, List.set_cons_zero, List.set_cons_succ]
  refine FlowT.last (fun _ w' => SolvB w' G F g ad a1 a2 a3 c1 c2 c3 P vr rs (.slice (some ⟨gh, 0, none⟩) s.has.length ch) hs m1 m2 (fun q => if q = (i : Int) then some (.slice a6 ((s.succ (i : Int)).length + 1) c6) else f1 q) vw { s with edges := s.edges ++ [((i : Int), (j : Int))] } ∧ Blk w' w.heap.size #[.int .i64 (i : Int), .int .i64 (j : Int)] 127 ∧ Keep (fun b => ¬ F b) w w') 17 rfl (by kernel_rfl) (by kernel_rfl) (fun w5 hC hk => ?_) (fun _ w6 hR => ?_)
  · obtain ⟨_, hrw, hob⟩ := hC
    refine does_kmap_put rfl _ _ _ 78 27 rfl int_keyed64 intV_inj Tryz.underlying78 (HM3.out.keep hk HXm.out) rfl (i : Int) rfl Hlk.out (.slice a6 ((s.succ (i : Int)).length + 1) c6) rfl fun w' k1 k2 => ?_
    refine ⟨HS2.out.joined (e := ((i : Int), (j : Int))) Hm.out HR.out.1 HR.out.2 (v' := .slice a6 ((s.succ (i : Int)).length + 1) c6) ?_ hk (fun b hb => (hob b hb).imp id fun h => Nat.le_trans HR.out.2.size h) k1 k2, ?_, ?_⟩
    · unfold IRow
      rw [List.length_append, icells_append]
      exact hrw
    · refine (HBx3.out.keep hk fun hb => HX3.out _ _ hb (by decide) _ HBx3.out).keep k2 ?_
      rintro e
      exact HM3.out.ne HBx3.out e
    · exact ((HX.out.trans Hx2.out).keep _).trans ((HR.out.2.mono fun b _ e => by rw [e]; exact HS2.out.mf2).trans ((hk.mono fun b _ e => HS2.out.rf1 _ b e).trans (k2.mono fun b _ e => by rw [e]; exact HS2.out.mf1)))
  simp only [Act.put]
  obtain ⟨hS6, hBx6, hK6⟩ := hR
  have HS6 := hid hS6
  have HBx6 := hid hBx6
  have HK6 := hid hK6
  clear hS6 hBx6 hK6 d0 d1 b5 HLu HR3 HM3 HB3 HBx3 HX3 HXm HR Hlk HS2 HBx2 Hro
  have hil : i < s.has.length := by rw [Hlen.out]; exact hin
  have b4 := HS6.out.blk.kc (X := fun _ => False) (fun e => e) 4 rfl
  have d0 := HBx6.out.kc (X := fun _ => False) (fun e => e) 0 rfl
  simp only [solvCells, List.getElem_toArray, List.getElem_cons_zero, List.getElem_cons_succ] at b4 d0
  have h4 : ∀ w1, Keep (fun _ => False) w6 w1 → w1.cell? ⟨gh, i, none⟩ = some (.slice (some ⟨gb, 0, none⟩) OO cb) := fun w1 x => own_get (own_ext HS6.out.hrow x.ext) i Hvb.out
  go_wp2
  refine wp_flowT (fun _ => False) (by kernel_rfl) (by kernel_rfl) ?_
  repeat (apply FlowT.d; (intro w1 hk; unfold does; go_simp; (try go_ints); (first | exact DetR.mk | (simp only [↓IntWalk.iteOmega, Oper.doesUpon_value]; exact DetR.mk) | (simp only [↓IntWalk.iteOmega]; go_simp; (try go_ints); exact DetR.mk))); simp only [Act.put, List.setIfInBounds_toArray, List.set_cons_zero, List.set_cons_succ])
  refine FlowT.fin fun w7 hx7 hk7 => ?_
  have HS7 := hid (HS6.out.ext hx7)
  have HBx7 := hid (HBx6.out.ext hx7)
  have HK7 := hid (HK6.out.ext_r hx7)
  clear hx7 hk7 b4 d0 h4 HS6 HBx6 HK6
  have hoo : OO ≤ 126 := hn2
  go_wp2
  go_loopw [50] (fun t50 wr => ∃ (k : Nat) (vw' : Value) (L : List (Int × Int)), t50 = .int .i64 (k : Int) ∧ k ≤ OO ∧ L = s.wait ++ (objsUp lb k).map (fun o => ((j : Int), o)) ∧ SolvB wr G F g ad a1 a2 a3 c1 c2 c3 P vr rs (.slice (some ⟨gh, 0, none⟩) s.has.length ch) hs m1 m2 (fun q => if q = (i : Int) then some (.slice a6 ((s.succ (i : Int)).length + 1) c6) else f1 q) vw' { s with edges := s.edges ++ [((i : Int), (j : Int))], wait := L } ∧ Blk wr w.heap.size #[.int .i64 (i : Int), .int .i64 (j : Int)] 127 ∧ Keep (fun b => ¬ F b) w wr) (fun t50 _ => OO - (intOf t50).toNat)
  case atStart => exact ⟨0, vw, s.wait, rfl, Nat.zero_le _, by simp [objsUp], HS7.out, HBx7.out, HK7.out⟩
  case round =>
    obtain ⟨k, vw', L, rfl, hk, hL, hS8, hBx8, hK8⟩ := hrel
    have HS8 := hid hS8
    have HBx8 := hid hBx8
    have HK8 := hid hK8
    have HLe := hid hL
    have hLl : L.length ≤ 600000000 := by
      rw [hL, List.length_append, List.length_map]
      have := objsUp_len lb k
      have := Hwl.out
      omega
    obtain ⟨aw, cw, rfl⟩ := HS8.out.wrow.form
    simp only at HS8
    clear hS8 hBx8 hK8 hL
    by_cases hlt : k < OO
    · have r0 : wr.cell? ⟨gb, k, none⟩ = some (.bool (lb.getD k false)) := by
        have := HS8.out.hbag.row i _ lb Hvb.out Hlb.out
        unfold TrRow at this
        rw [Hll.out] at this
        exact own_get this k (trCells_at (by rw [Hll.out]; exact hlt))
      have Hsu := hid (objsUp_succ lb k)
      generalize lb.getD k false = bt at r0 Hsu
      cases bt with
      | false =>
        go_wp2
        go_roundw
        case rel =>
          refine ⟨k + 1, _, L, by go_num, by omega, ?_, HS8.out, HBx8.out, HK8.out⟩
          rw [Hsu.out, HLe.out]; simp
        case measure => simp [intOf]; omega
      | true =>
        have hXq : ∀ (b : Nat) (e : TypeId), (Value.slice aw L.length cw).ownBlock = some b → 97 ≠ e → ∀ c, ¬ Blk wr b c e := fun _ _ hb he c hc => by
          obtain ⟨_, c', hc'⟩ := HS8.out.wrow.ty hb
          exact off_of hc' he ⟨_, hc⟩
        have b8 := HS8.out.blk.kc (X := fun q => (Value.slice aw L.length cw).ownBlock = some q) (fun hb => hXq _ _ hb (by decide) _ HS8.out.blk) 8 rfl
        have d1 := HBx8.out.kc (X := fun q => (Value.slice aw L.length cw).ownBlock = some q) (fun hb => hXq _ _ hb (by decide) _ HBx8.out) 1 rfl
        simp only [solvCells, List.getElem_toArray, List.getElem_cons_zero, List.getElem_cons_succ] at b8 d1
        have HXq := hid hXq
        clear hXq
        go_wp2
        refine wp_flowT (fun q => (Value.slice aw L.length cw).ownBlock = some q) (by kernel_rfl) (by kernel_rfl) ?_
        repeat (apply FlowT.d; (intro w1 hk; unfold does; go_simp; (try go_ints); (first | exact DetR.mk | (simp only [↓IntWalk.iteOmega, Oper.doesUpon_value]; exact DetR.mk) | (simp only [↓IntWalk.iteOmega]; go_simp; (try go_ints); exact DetR.mk))); simp only [Act.put, List.setIfInBounds_toArray, List.set_cons_zero, List.set_cons_succ])
        refine FlowT.s (fun v' w' => ∃ q, v' = .slice (some ⟨q, 0, none⟩) 1 1 ∧ Blk w' q #[.int .i64 (j : Int), .int .i64 (k : Int)] 97 ∧ Ext wr w') 9 rfl (by kernel_rfl) (fun _ _ _ ⟨q, h1, h2, h3⟩ he => ⟨q, h1, h2.ext he, h3.trans he⟩) (fun w4 hC hk => ?_) ?_
        · unfold does
          go_simp
          exact ⟨hk.alloc _, _, rfl, Blk.new _ _ _, hC.alloc _⟩
        rintro _ ⟨_, q3, rfl, _, _⟩
        simp only [Act.put, List.setIfInBounds_toArray, List.set_cons_zero, List.set_cons_succ]
        refine FlowT.s (fun v' w' => (∃ a c, v' = .slice a (L.length + 1) c) ∧ OwnsQ w' 0 97 2 v' (L.length + 1) (L.flatMap fCells ++ fCells ((j : Int), (k : Int))) ∧ ∀ b, v'.ownBlock = some b → (Value.slice aw L.length cw).ownBlock = some b ∨ wr.heap.size ≤ b) 10 rfl (by kernel_rfl) (fun _ _ _ ⟨h1, h2, h3⟩ he => ⟨h1, h2.ext he, h3⟩) (fun w4 hC hk => ?_) ?_
        · obtain ⟨q', e, hg, hE⟩ := hC
          obtain rfl : q3 = q' := by simpa using e
          exact does_append_q 0 (Nat.zero_le _) 81 97 (.agg #[.int .i64 0, .int .i64 0]) 2 16 Tryz.underlying81 fact_info rfl (by omega) (by omega) rfl _ _ rfl _ _ _ rfl (HS8.out.wrow.ext hE) q3 (fCells ((j : Int), (k : Int))) rfl (by simp [fCells, Value.oneCell']) rfl hg (by simp only; omega) fun v' w' h1 h2 h3 => ⟨hk.trans h2, h1.form, h1, fun b hb => (h3 b hb).imp id fun h => Nat.le_trans hE.size h⟩
        rintro _ ⟨_, ⟨a9, c9, rfl⟩, _, _⟩
        simp only [Act.put, List.setIfInBounds_toArray, List.set_cons_zero, List.set_cons_succ]
        repeat (apply FlowT.d; (intro w1 hk; unfold does; go_simp; (try go_ints); (first | exact DetR.mk | (simp only [↓IntWalk.iteOmega, Oper.doesUpon_value]; exact DetR.mk) | (simp only [↓IntWalk.iteOmega]; go_simp; (try go_ints); exact DetR.mk))); simp only [Act.put, List.setIfInBounds_toArray, List.set_cons_zero, List.set_cons_succ])
        refine FlowT.last (fun _ w' => SolvB w' G F g ad a1 a2 a3 c1 c2 c3 P vr rs (.slice (some ⟨gh, 0, none⟩) s.has.length ch) hs m1 m2 (fun q => if q = (i : Int) then some (.slice a6 ((s.succ (i : Int)).length + 1) c6) else f1 q) (.slice a9 (L.length + 1) c9) { s with edges := s.edges ++ [((i : Int), (j : Int))], wait := L ++ [((j : Int), (k : Int))] } ∧ Blk w' w.heap.size #[.int .i64 (i : Int), .int .i64 (j : Int)] 127 ∧ Keep (fun b => ¬ F b) w w') 13 rfl (by kernel_rfl) (by kernel_rfl) (fun w5 hC hk => ?_) (fun _ w6 hR => ?_)
        · obtain ⟨_, hq, hob⟩ := hC
          have q8 := b8 w5 hk
          have f8 := (HS8.out.blk.keep hk fun hb => HXq.out _ _ hb (by decide) _ HS8.out.blk).free 8
          unfold does
          go_simp
          refine ⟨?_, ?_, ?_⟩
          · refine HS8.out.setWait hk (l := L ++ [((j : Int), (k : Int))]) ?_ hob
            rw [List.length_append, List.flatMap_append]
            simpa using hq
          · exact (HBx8.out.keep hk fun hb => HXq.out _ _ hb (by decide) _ HBx8.out).set_ne (fun e => HS8.out.blk.ty_ne HBx8.out (by decide) e) _
          · exact HK8.out.trans ((hk.mono fun b _ e => HS8.out.wf b e).set HS8.out.fg _)
        simp only [Act.put]
        obtain ⟨hS9, hBx9, hK9⟩ := hR
        have HS9 := hid hS9
        have HBx9 := hid hBx9
        have HK9 := hid hK9
        clear hS9 hBx9 hK9 b8 d1 HXq r0
        go_wp2
        go_roundw
        case rel =>
          refine ⟨k + 1, _, _, by go_num, by omega, ?_, HS9.out, HBx9.out, HK9.out⟩
          rw [Hsu.out, HLe.out]; simp
        case measure => simp [intOf]; omega
    · obtain rfl : k = OO := by omega
      go_wp2
      go_end0
      have Hr : s.edge ((i : Int), (j : Int)) = { s with edges := s.edges ++ [((i : Int), (j : Int))], wait := L } := by
        unfold SV.edge
        rw [if_neg (fun h => h.elim He0.out Hm.out), HLe.out, objs_up s Hlb.out, Hll.out]
      rw [Hr]
      exact ⟨rfl, ⟨_, _, _, _, _, _, _, _, _, _, HS8.out⟩, HK8.out⟩
theorem solveedge_any (P : PP) (S : List (List Int)) (s : SV) (e : Int × Int) (w : World) (G F : Nat → Prop) (g : Nat) (ad : Nat → Addr) {vr : Value} {rs : List R2} {vh : Value} {hs : List Value} (hS : SolvAt w G F g ad P vr rs vh hs s) (hC : Core P S s) (hB : s.Bnd P) (he1 : 0 ≤ e.1 ∧ e.1 < P.nodesV) (he2 : 0 ≤ e.2 ∧ e.2 < P.nodesV) :
    Calls Tryz.prog 71 #[.pointer (some ⟨g, 0, none⟩), .agg #[.int .i64 e.1, .int .i64 e.2]] w fun x w' => x = .returned (.tuple #[]) ∧ SolvAt w' G F g ad P vr rs vh hs (s.edge e) ∧ Keep (fun b => ¬ F b) w w' :=
  solveedge_bare P S s e w G F g ad hS hC.bare hB he1 he2
end Go.Proofs.YtdppgcbekhabnaaGreatDoor



/- The reference: does a rule make an edge (IsEdge): copies, loads, stores. -/
namespace Go.Proofs.YtdppgcbekhabnaaGreatDoor
set_option linter.unusedSimpArgs false
set_option linter.unusedVariables false
open Go Go.RowKit

end Go.Proofs.YtdppgcbekhabnaaGreatDoor



/- The reference: does a rule make an edge (IsEdge): calls; any rule. -/
namespace Go.Proofs.YtdppgcbekhabnaaGreatDoor
set_option linter.unusedSimpArgs false
set_option linter.unusedVariables false
open Go Go.RowKit

end Go.Proofs.YtdppgcbekhabnaaGreatDoor



/- The reference: the rule of a statement (RuleOf). -/
namespace Go.Proofs.YtdppgcbekhabnaaGreatDoor
set_option linter.unusedSimpArgs false
set_option linter.unusedVariables false
open Go Go.RowKit

/-- The rule of a statement as the reference tells it. -/
def PP.ruleR (P : PP) (k : Nat) (x : PS) : RV :=
  bif x.isK kAddr then ⟨bBase, x.x, x.y, k, []⟩ else
  bif x.isK kNew then ⟨bBase, x.x, P.placeV k, k, []⟩ else
  bif x.isK kFun then ⟨bBase, x.x, (P.nodesV : Int) + x.y, k, []⟩ else ⟨x.kind, x.y, x.x, k, x.args⟩
end Go.Proofs.YtdppgcbekhabnaaGreatDoor



/- The reference: rules that make edges; does any of them make an edge (IsEdge). -/
namespace Go.Proofs.YtdppgcbekhabnaaGreatDoor
set_option linter.unusedSimpArgs false
set_option linter.unusedVariables false
open Go Go.RowKit

/-- Rules as the reference tells them; those that make edges. -/
def PP.rulesRUp (P : PP) (n : Nat) : List RV := ((List.range n).map fun k => P.ruleR k (P.stAt k)).filter fun r => !(r.kind.toList == bBase.toList)
/-- A rule that makes edges, among so many nodes. -/
structure REdge (n : Nat) (r : RV) : Prop where
  kd : (r.kind.toList == kCopy) = true ∨ (r.kind.toList == kLoad) = true ∨ (r.kind.toList == kStore) = true ∨ (r.kind.toList == kCall) = true
  a : 0 ≤ r.a ∧ r.a < n
  b : 0 ≤ r.b ∧ r.b < n
/-- Rows of edges that the reference makes. -/
def RERow (base : Nat) (w : World) (v : Value) (l : List (Int × Int)) : Prop := w.ownsRow base 138 2 v l.length (l.flatMap eCells)
end Go.Proofs.YtdppgcbekhabnaaGreatDoor



/- The reference: edges of a program (EdgesOf). -/
namespace Go.Proofs.YtdppgcbekhabnaaGreatDoor
set_option linter.unusedSimpArgs false
set_option linter.unusedVariables false
open Go Go.RowKit

end Go.Proofs.YtdppgcbekhabnaaGreatDoor



/- The reference: is a list a set (SetError); is each of one list one of another (within). -/
namespace Go.Proofs.YtdppgcbekhabnaaGreatDoor
set_option linter.unusedSimpArgs false
set_option linter.unusedVariables false
open Go Go.RowKit

end Go.Proofs.YtdppgcbekhabnaaGreatDoor



/- The reference: are sets an answer (IsClosed). -/
namespace Go.Proofs.YtdppgcbekhabnaaGreatDoor
set_option linter.unusedSimpArgs false
set_option linter.unusedVariables false
open Go Go.RowKit

theorem own_e2 {w : World} {base g n cap : Nat} {t : TypeId} {R : List (Int × Int)} (h : w.ownsRow base t 2 (.slice (some ⟨g, 0, none⟩) n cap) n (R.flatMap eCells)) {i : Nat} {x : Int × Int} (hx : R[i]? = some x) :
    w.cell? ⟨g, i * 2, none⟩ = some (.int .i64 x.1) ∧ w.cell? ⟨g, i * 2 + 1, none⟩ = some (.int .i64 x.2) := own_e h hx
end Go.Proofs.YtdppgcbekhabnaaGreatDoor



/- The solver: a rule's pivot; a rule is fired. -/
namespace Go.Proofs.YtdppgcbekhabnaaGreatDoor
set_option linter.unusedSimpArgs false
set_option linter.unusedVariables false
open Go Go.RowKit

set_option maxRecDepth 100000 in
theorem solvepivot_any (r : RV) (aa : Option Addr) (na ca : Nat) (w : World) : Calls Tryz.prog 72 #[r.val (.slice aa na ca)] w fun e w' => e = .returned (.int .i64 r.pivot) ∧ Ext w w' := by
  have HX : Hid (Ext w (w.alloc (.cells #[.string r.kind, .int .i64 r.a, .int .i64 r.b, .int .i64 r.k, .slice aa na ca] 86))) := hid ((Ext.refl _).alloc _)
  unfold RV.val
  cases hk : (r.kind.toList == [115, 116, 111, 114, 101]) with
  | true =>
    have Hr : Hid (r.pivot = r.b) := hid (by unfold RV.pivot kStore; rw [hk]; rfl)
    go_enter Tryz.func72, Tryz.ntmps72
    go_wp2
    go_ret
    exact ⟨by rw [Hr.out]; rfl, HX.out⟩
  | false =>
    have Hr : Hid (r.pivot = r.a) := hid (by unfold RV.pivot kStore; rw [hk]; rfl)
    go_enter Tryz.func72, Tryz.ntmps72
    go_wp2
    go_ret
    exact ⟨by rw [Hr.out]; rfl, HX.out⟩
set_option maxRecDepth 100000 in
set_option maxHeartbeats 3200000 in
theorem solvefire_out (P : PP) (S : List (List Int)) (s : SV) (r : RV) (aa : Option Addr) (ca : Nat) (o : Int) (w : World) (G F : Nat → Prop) (g : Nat) (ad : Nat → Addr) {vr : Value} {rs : List R2} {vh : Value} {hs : List Value} (hS : SolvAt w G F g ad P vr rs vh hs s) (hC : Core P S s) (hB : s.Bnd P) (hg : P.GoodS S) (hc : ClosedP P S) (hr : r ∈ P.rulesV) (hf : r.fired = true) (ho : o ∈ S.getD r.pivot.toNat []) (h0 : 0 ≤ o ∧ o < P.objectsV) (ha : IntsF w F (.slice aa r.args.length ca) r.args) (hkd : (r.kind.toList == [99, 97, 108, 108]) = false) (hout : (P.nodesV : Int) ≤ o) :
    Calls Tryz.prog 73 #[.pointer (some ⟨g, 0, none⟩), r.val (.slice aa r.args.length ca), .int .i64 o] w fun x w' => x = .returned (.tuple #[]) ∧ SolvAt w' G F g ad P vr rs vh hs (s.fire P r o) ∧ Keep (fun b => ¬ F b) w w' := by
  obtain ⟨a1, a2, a3, c1, c2, c3, m1, m2, f1, vw, h⟩ := hS
  have hw := h.pw.well
  obtain ⟨hn1, hn2⟩ := hw.nodes
  obtain ⟨W, hW⟩ : ∃ W, W = w.alloc (.cells #[.string r.kind, .int .i64 r.a, .int .i64 r.b, .int .i64 r.k, .slice aa r.args.length ca] 86) := ⟨_, rfl⟩
  have HX : Hid (Ext w W) := hid (by rw [hW]; exact (Ext.refl _).alloc _)
  have HBx : Hid (Blk W w.heap.size #[.string r.kind, .int .i64 r.a, .int .i64 r.b, .int .i64 r.k, .slice aa r.args.length ca] 86) := hid (by rw [hW]; exact Blk.new _ _ _)
  have HWe : Hid (W = w.alloc (.cells #[.string r.kind, .int .i64 r.a, .int .i64 r.b, .int .i64 r.k, .slice aa r.args.length ca] 86)) := hid hW
  have HSn : ∀ e ∈ P.fires r o, SndE P S e := fun e he => sndE_of hg hc hr (fires_in hf ho he)
  obtain ⟨ah, ch, rfl⟩ := row_form h.hrow
  have HS := hid (h.ext HX.out)
  have Hw := hid hw
  have HC := hid hC
  have HB := hid hB
  have HSn := hid HSn
  have HA := hid (ha.keep (HX.out.keep fun _ => False) (fun _ _ h => h) fun _ h => h)
  have Hlen := hid hC.len
  have al := ha.form
  have hal : (r.args.length : Int) ≤ 9223372036854775807 := by obtain ⟨a, cap, h1, h2, h3, _⟩ := al; omega
  have hsl : s.has.length ≤ 120 := by rw [hC.len]; exact hn1
  unfold RV.val
  clear h hC hB hW ha al hw hr hf ho hg hc
  have Hr : Hid (s.fire P r o = s) := hid (by unfold SV.fire PP.fires kCall; rw [hkd, cond_false, if_pos hout]; rfl)
  rw [Hr.out]
  rw [← Hlen.out] at hout
  have m0 := HBx.out.av 0 rfl
  have b4 := HS.out.blk.av 4 rfl
  simp only [solvCells, List.getElem_toArray, List.getElem_cons_zero, List.getElem_cons_succ] at m0 b4
  generalize P.objectsV = OO at *
  go_enter Tryz.func73, Tryz.ntmps73
  rw [HWe.out] at m0 b4
  go_wp2
  rw [← HWe.out]
  refine bodyPost_ret (v := .tuple #[]) (results_none (by kernel_rfl) _ _ _) rfl ?_
  exact ⟨rfl, ⟨_, _, _, _, _, _, _, _, _, _, HS.out⟩, HX.out.keep _⟩
set_option maxRecDepth 100000 in
set_option maxHeartbeats 3200000 in
theorem solvefire_load (P : PP) (S : List (List Int)) (s : SV) (r : RV) (aa : Option Addr) (ca : Nat) (o : Int) (w : World) (G F : Nat → Prop) (g : Nat) (ad : Nat → Addr) {vr : Value} {rs : List R2} {vh : Value} {hs : List Value} (hS : SolvAt w G F g ad P vr rs vh hs s) (hC : Core P S s) (hB : s.Bnd P) (hg : P.GoodS S) (hc : ClosedP P S) (hr : r ∈ P.rulesV) (hf : r.fired = true) (ho : o ∈ S.getD r.pivot.toNat []) (h0 : 0 ≤ o ∧ o < P.objectsV) (ha : IntsF w F (.slice aa r.args.length ca) r.args) (hkd : (r.kind.toList == [99, 97, 108, 108]) = false) (hkl : (r.kind.toList == [108, 111, 97, 100]) = true) (hin : ¬ (P.nodesV : Int) ≤ o) :
    Calls Tryz.prog 73 #[.pointer (some ⟨g, 0, none⟩), r.val (.slice aa r.args.length ca), .int .i64 o] w fun x w' => x = .returned (.tuple #[]) ∧ SolvAt w' G F g ad P vr rs vh hs (s.fire P r o) ∧ Keep (fun b => ¬ F b) w w' := by
  obtain ⟨a1, a2, a3, c1, c2, c3, m1, m2, f1, vw, h⟩ := hS
  have hw := h.pw.well
  obtain ⟨hn1, hn2⟩ := hw.nodes
  obtain ⟨W, hW⟩ : ∃ W, W = w.alloc (.cells #[.string r.kind, .int .i64 r.a, .int .i64 r.b, .int .i64 r.k, .slice aa r.args.length ca] 86) := ⟨_, rfl⟩
  have HX : Hid (Ext w W) := hid (by rw [hW]; exact (Ext.refl _).alloc _)
  have HBx : Hid (Blk W w.heap.size #[.string r.kind, .int .i64 r.a, .int .i64 r.b, .int .i64 r.k, .slice aa r.args.length ca] 86) := hid (by rw [hW]; exact Blk.new _ _ _)
  have HWe : Hid (W = w.alloc (.cells #[.string r.kind, .int .i64 r.a, .int .i64 r.b, .int .i64 r.k, .slice aa r.args.length ca] 86)) := hid hW
  have HSn : ∀ e ∈ P.fires r o, SndE P S e := fun e he => sndE_of hg hc hr (fires_in hf ho he)
  obtain ⟨ah, ch, rfl⟩ := row_form h.hrow
  have HS := hid (h.ext HX.out)
  have Hw := hid hw
  have HC := hid hC
  have HB := hid hB
  have HSn := hid HSn
  have HA := hid (ha.keep (HX.out.keep fun _ => False) (fun _ _ h => h) fun _ h => h)
  have Hlen := hid hC.len
  have al := ha.form
  have hal : (r.args.length : Int) ≤ 9223372036854775807 := by obtain ⟨a, cap, h1, h2, h3, _⟩ := al; omega
  have hsl : s.has.length ≤ 120 := by rw [hC.len]; exact hn1
  unfold RV.val
  clear h hC hB hW ha al hw hr hf ho hg hc
  have Hfr : Hid (P.fires r o = [(o, r.b)]) := hid (by unfold PP.fires kCall kLoad; rw [hkd, cond_false, if_neg hin, hkl]; rfl)
  have hmem : ((o, r.b) : Int × Int) ∈ P.fires r o := by rw [Hfr.out]; exact List.mem_singleton.2 rfl
  obtain ⟨k1, k2, _⟩ := HSn.out _ hmem
  have HE := hid (solveedge_any P S s (o, r.b) W G F g ad ⟨_, _, _, _, _, _, _, _, _, _, HS.out⟩ HC.out HB.out k1 k2)
  simp only at HE
  have Hr : Hid (s.fire P r o = s.edge (o, r.b)) := hid (by unfold SV.fire; rw [Hfr.out]; rfl)
  rw [Hr.out]
  have hnn : ¬ (s.has.length : Int) ≤ o := by rw [Hlen.out]; exact hin
  have m0 := HBx.out.av 0 rfl
  have m1 := HBx.out.av 1 rfl
  have m2 := HBx.out.av 2 rfl
  have b4 := HS.out.blk.av 4 rfl
  simp only [solvCells, List.getElem_toArray, List.getElem_cons_zero, List.getElem_cons_succ] at m0 m1 m2 b4
  rw [HWe.out] at m0 m1 m2 b4
  clear hmem k1 k2 hin
  generalize P.objectsV = OO at *
  go_enter Tryz.func73, Tryz.ntmps73
  go_wp2_with fail
  rw [← HWe.out]
  refine HE.out.mono ?_
  intro x w1 hx
  obtain ⟨rfl, hS1, hK1⟩ := hx
  have HS1 := hid hS1
  have HK1 := hid hK1
  clear hS1 hK1 HE m0 m1 m2 b4
  go_wp2
  go_end0
  exact ⟨rfl, HS1.out, (HX.out.keep _).trans HK1.out⟩
set_option maxRecDepth 100000 in
set_option maxHeartbeats 3200000 in
theorem solvefire_store (P : PP) (S : List (List Int)) (s : SV) (r : RV) (aa : Option Addr) (ca : Nat) (o : Int) (w : World) (G F : Nat → Prop) (g : Nat) (ad : Nat → Addr) {vr : Value} {rs : List R2} {vh : Value} {hs : List Value} (hS : SolvAt w G F g ad P vr rs vh hs s) (hC : Core P S s) (hB : s.Bnd P) (hg : P.GoodS S) (hc : ClosedP P S) (hr : r ∈ P.rulesV) (hf : r.fired = true) (ho : o ∈ S.getD r.pivot.toNat []) (h0 : 0 ≤ o ∧ o < P.objectsV) (ha : IntsF w F (.slice aa r.args.length ca) r.args) (hkd : (r.kind.toList == [99, 97, 108, 108]) = false) (hkl : (r.kind.toList == [108, 111, 97, 100]) = false) (hin : ¬ (P.nodesV : Int) ≤ o) :
    Calls Tryz.prog 73 #[.pointer (some ⟨g, 0, none⟩), r.val (.slice aa r.args.length ca), .int .i64 o] w fun x w' => x = .returned (.tuple #[]) ∧ SolvAt w' G F g ad P vr rs vh hs (s.fire P r o) ∧ Keep (fun b => ¬ F b) w w' := by
  obtain ⟨a1, a2, a3, c1, c2, c3, m1, m2, f1, vw, h⟩ := hS
  have hw := h.pw.well
  obtain ⟨hn1, hn2⟩ := hw.nodes
  obtain ⟨W, hW⟩ : ∃ W, W = w.alloc (.cells #[.string r.kind, .int .i64 r.a, .int .i64 r.b, .int .i64 r.k, .slice aa r.args.length ca] 86) := ⟨_, rfl⟩
  have HX : Hid (Ext w W) := hid (by rw [hW]; exact (Ext.refl _).alloc _)
  have HBx : Hid (Blk W w.heap.size #[.string r.kind, .int .i64 r.a, .int .i64 r.b, .int .i64 r.k, .slice aa r.args.length ca] 86) := hid (by rw [hW]; exact Blk.new _ _ _)
  have HWe : Hid (W = w.alloc (.cells #[.string r.kind, .int .i64 r.a, .int .i64 r.b, .int .i64 r.k, .slice aa r.args.length ca] 86)) := hid hW
  have HSn : ∀ e ∈ P.fires r o, SndE P S e := fun e he => sndE_of hg hc hr (fires_in hf ho he)
  obtain ⟨ah, ch, rfl⟩ := row_form h.hrow
  have HS := hid (h.ext HX.out)
  have Hw := hid hw
  have HC := hid hC
  have HB := hid hB
  have HSn := hid HSn
  have HA := hid (ha.keep (HX.out.keep fun _ => False) (fun _ _ h => h) fun _ h => h)
  have Hlen := hid hC.len
  have al := ha.form
  have hal : (r.args.length : Int) ≤ 9223372036854775807 := by obtain ⟨a, cap, h1, h2, h3, _⟩ := al; omega
  have hsl : s.has.length ≤ 120 := by rw [hC.len]; exact hn1
  unfold RV.val
  clear h hC hB hW ha al hw hr hf ho hg hc
  have Hfr : Hid (P.fires r o = [(r.a, o)]) := hid (by unfold PP.fires kCall kLoad; rw [hkd, cond_false, if_neg hin, hkl]; rfl)
  have hmem : ((r.a, o) : Int × Int) ∈ P.fires r o := by rw [Hfr.out]; exact List.mem_singleton.2 rfl
  obtain ⟨k1, k2, _⟩ := HSn.out _ hmem
  have HE := hid (solveedge_any P S s (r.a, o) W G F g ad ⟨_, _, _, _, _, _, _, _, _, _, HS.out⟩ HC.out HB.out k1 k2)
  simp only at HE
  have Hr : Hid (s.fire P r o = s.edge (r.a, o)) := hid (by unfold SV.fire; rw [Hfr.out]; rfl)
  rw [Hr.out]
  have hnn : ¬ (s.has.length : Int) ≤ o := by rw [Hlen.out]; exact hin
  have m0 := HBx.out.av 0 rfl
  have m1 := HBx.out.av 1 rfl
  have m2 := HBx.out.av 2 rfl
  have b4 := HS.out.blk.av 4 rfl
  simp only [solvCells, List.getElem_toArray, List.getElem_cons_zero, List.getElem_cons_succ] at m0 m1 m2 b4
  rw [HWe.out] at m0 m1 m2 b4
  clear hmem k1 k2 hin
  generalize P.objectsV = OO at *
  go_enter Tryz.func73, Tryz.ntmps73
  go_wp2_with fail
  rw [← HWe.out]
  refine HE.out.mono ?_
  intro x w1 hx
  obtain ⟨rfl, hS1, hK1⟩ := hx
  have HS1 := hid hS1
  have HK1 := hid hK1
  clear hS1 hK1 HE m0 m1 m2 b4
  go_wp2
  go_end0
  exact ⟨rfl, HS1.out, (HX.out.keep _).trans HK1.out⟩
end Go.Proofs.YtdppgcbekhabnaaGreatDoor



/- The solver: a call's rule is fired. -/
namespace Go.Proofs.YtdppgcbekhabnaaGreatDoor
set_option linter.unusedSimpArgs false
set_option linter.unusedVariables false
open Go Go.RowKit

set_option maxRecDepth 100000 in
set_option maxHeartbeats 3200000 in
theorem solvefire_call (P : PP) (S : List (List Int)) (s : SV) (r : RV) (aa : Option Addr) (ca : Nat) (o : Int) (w : World) (G F : Nat → Prop) (g : Nat) (ad : Nat → Addr) {vr : Value} {rs : List R2} {vh : Value} {hs : List Value} (hS : SolvAt w G F g ad P vr rs vh hs s) (hC : Core P S s) (hB : s.Bnd P) (hg : P.GoodS S) (hc : ClosedP P S) (hr : r ∈ P.rulesV) (hf : r.fired = true) (ho : o ∈ S.getD r.pivot.toNat []) (h0 : 0 ≤ o ∧ o < P.objectsV) (ha : IntsF w F (.slice aa r.args.length ca) r.args) (hkd : (r.kind.toList == [99, 97, 108, 108]) = true) :
    Calls Tryz.prog 73 #[.pointer (some ⟨g, 0, none⟩), r.val (.slice aa r.args.length ca), .int .i64 o] w fun x w' => x = .returned (.tuple #[]) ∧ SolvAt w' G F g ad P vr rs vh hs (s.fire P r o) ∧ Keep (fun b => ¬ F b) w w' := by
  obtain ⟨a1, a2, a3, c1, c2, c3, m1, m2, f1, vw, h⟩ := hS
  have hw := h.pw.well
  obtain ⟨hn1, hn2⟩ := hw.nodes
  obtain ⟨W, hW⟩ : ∃ W, W = w.alloc (.cells #[.string r.kind, .int .i64 r.a, .int .i64 r.b, .int .i64 r.k, .slice aa r.args.length ca] 86) := ⟨_, rfl⟩
  have HX : Hid (Ext w W) := hid (by rw [hW]; exact (Ext.refl _).alloc _)
  have HBx : Hid (Blk W w.heap.size #[.string r.kind, .int .i64 r.a, .int .i64 r.b, .int .i64 r.k, .slice aa r.args.length ca] 86) := hid (by rw [hW]; exact Blk.new _ _ _)
  have HWe : Hid (W = w.alloc (.cells #[.string r.kind, .int .i64 r.a, .int .i64 r.b, .int .i64 r.k, .slice aa r.args.length ca] 86)) := hid hW
  have HSn : ∀ e ∈ P.fires r o, SndE P S e := fun e he => sndE_of hg hc hr (fires_in hf ho he)
  obtain ⟨ah, ch, rfl⟩ := row_form h.hrow
  have HS := hid (h.ext HX.out)
  have Hw := hid hw
  have HC := hid hC
  have HB := hid hB
  have HSn := hid HSn
  have HA := hid (ha.keep (HX.out.keep fun _ => False) (fun _ _ h => h) fun _ h => h)
  have Hlen := hid hC.len
  have al := ha.form
  have hal : (r.args.length : Int) ≤ 9223372036854775807 := by obtain ⟨a, cap, h1, h2, h3, _⟩ := al; omega
  have hsl : s.has.length ≤ 120 := by rw [hC.len]; exact hn1
  unfold RV.val
  clear h hC hB hW ha al hw hr hf ho hg hc
  have Hfr : Hid (P.fires r o = P.callsOf r o) := hid (by unfold PP.fires kCall; rw [hkd, cond_true])
  have HF := hid (progfun_any a1 a2 a3 c1 c2 c3 P o W W.heap.size ad HS.out.pw.pw (by have := hn2; omega))
  unfold pval at HF
  obtain ⟨Fn, hFn⟩ : ∃ Fn, Fn = P.funV o := ⟨_, rfl⟩
  rw [← hFn] at HF
  have HFe := hid hFn
  have m0 := HBx.out.av 0 rfl
  have b0 := HS.out.blk.av 0 rfl
  have b1 := HS.out.blk.av 1 rfl
  have b2 := HS.out.blk.av 2 rfl
  simp only [solvCells, List.getElem_toArray, List.getElem_cons_zero, List.getElem_cons_succ] at m0 b0 b1 b2
  rw [HWe.out] at m0 b0 b1 b2
  clear hFn
  generalize P.objectsV = OO at *
  go_enter Tryz.func73, Tryz.ntmps73
  go_wp2_with fail
  rw [← HWe.out]
  refine HF.out.mono ?_
  intro x w1 hx
  obtain ⟨rfl, hx1⟩ := hx
  have Hx1 := hid hx1
  have HS1 := hid (HS.out.ext hx1)
  have HBx1 := hid (HBx.out.ext hx1)
  have HA1 := hid (HA.out.keep (hx1.keep fun _ => False) (fun _ _ h => h) fun _ h => h)
  clear HF hx1 m0 b0 b1 b2
  by_cases hF0 : 0 ≤ Fn
  · obtain ⟨N, rfl⟩ := Int.eq_ofNat_of_zero_le hF0
    have hN : N < P.funs.length := by have := funV_lt (P := P) (o := o) (by rw [← HFe.out]; exact hF0); rw [← HFe.out] at this; omega
    obtain ⟨yf, f, afp, cfp, hyf, hfk, e0, e1, e2, hIp⟩ := HS1.out.pw.pw.prog.funs.at hN
    subst hyf
    have hfm : f ∈ P.funs := List.mem_of_getElem? hfk
    have hq4 := called_few Hw.out hfm r
    have hpf := (PP.goodF (PP.funs_ok Hw.out.1) hfm).few
    obtain ⟨q, hq⟩ : ∃ q, q = calledV f r := ⟨_, rfl⟩
    have Hq : Hid (P.fires r o = q) := hid (by
      rw [Hfr.out]
      unfold PP.callsOf
      rw [if_pos (by rw [← HFe.out]; omega), ← HFe.out, hq]
      show calledV ((P.funs.getD N _)) r = _
      rw [List.getD_eq_getElem?_getD, hfk]; rfl)
    have HSq : Hid (∀ e ∈ q, SndE P S e) := hid fun e he => HSn.out e (by rw [Hq.out]; exact he)
    have Hr : Hid (s.fire P r o = q.foldl SV.edge s) := hid (by unfold SV.fire; rw [Hq.out])
    have hlt1 := HS1.out.flt
    have HCl := fun wx (x : Ext w1 wx) => hid (conscalled_any f r (.slice afp f.params.length cfp) (.slice aa r.args.length ca) wx w1.heap.size (hIp.old (x.old _)) ((HA1.out.toR hlt1).old (x.old _)) (by omega))
    rw [← hq] at HCl hq4
    unfold RV.val at HCl
    have f0 : ∀ wx, Keep (fun _ => False) w1 wx → wx.cell? (yf.add (N * 3)) = some (.string f.name) := fun wx kk => kk.ext.cellx e0
    have f1' : ∀ wx, Keep (fun _ => False) w1 wx → wx.cell? ⟨(yf.add (N * 3)).block, (yf.add (N * 3)).off + 1, none⟩ = some (.slice afp f.params.length cfp) := fun wx kk => kk.ext.cellx e1
    have f2 : ∀ wx, Keep (fun _ => False) w1 wx → wx.cell? ⟨(yf.add (N * 3)).block, (yf.add (N * 3)).off + 2, none⟩ = some (.int .i64 f.ret) := fun wx kk => kk.ext.cellx e2
    have b1 := HS1.out.blk.kc (X := fun _ => False) (fun e => e) 1 rfl
    have m0 := HBx1.out.kc (X := fun _ => False) (fun e => e) 0 rfl
    have m1' := HBx1.out.kc (X := fun _ => False) (fun e => e) 1 rfl
    have m2' := HBx1.out.kc (X := fun _ => False) (fun e => e) 2 rfl
    have m3 := HBx1.out.kc (X := fun _ => False) (fun e => e) 3 rfl
    have m4 := HBx1.out.kc (X := fun _ => False) (fun e => e) 4 rfl
    simp only [solvCells, List.getElem_toArray, List.getElem_cons_zero, List.getElem_cons_succ] at b1 m0 m1' m2' m3 m4
    clear hfk e0 e1 e2 hIp hfm hq hlt1
    go_wp2
    refine wp_flow (fun _ => False) (by kernel_rfl) (by kernel_rfl) ?_
    apply Flow.d 0 _ rfl (by simp) (by kernel_rfl)
    · intro w1 hk; unfold does; go_simp; (try go_ints); exact DetR.mk
    simp only [List.getElem_toArray, List.getElem_cons_zero, List.getElem_cons_succ, Act.put, List.setIfInBounds_toArray, List.set_cons_zero, List.set_cons_succ]
    apply Flow.d 1 _ rfl (by simp) (by kernel_rfl)
    · intro w1 hk; unfold does; go_simp; (try go_ints); exact DetR.mk
    simp only [List.getElem_toArray, List.getElem_cons_zero, List.getElem_cons_succ, Act.put, List.setIfInBounds_toArray, List.set_cons_zero, List.set_cons_succ]
    apply Flow.d 2 _ rfl (by simp) (by kernel_rfl)
    · intro w1 hk; unfold does; go_simp; (try go_ints); exact DetR.mk
    simp only [List.getElem_toArray, List.getElem_cons_zero, List.getElem_cons_succ, Act.put, List.setIfInBounds_toArray, List.set_cons_zero, List.set_cons_succ]
    apply Flow.d 3 _ rfl (by simp) (by kernel_rfl)
    · intro w1 hk; unfold does; go_simp; (try go_ints); exact DetR.mk
    simp only [List.getElem_toArray, List.getElem_cons_zero, List.getElem_cons_succ, Act.put, List.setIfInBounds_toArray, List.set_cons_zero, List.set_cons_succ]
    apply Flow.d 4 _ rfl (by simp) (by kernel_rfl)
    · intro w1 hk; unfold does; go_simp; (try go_ints); exact DetR.mk
    simp only [List.getElem_toArray, List.getElem_cons_zero, List.getElem_cons_succ, Act.put, List.setIfInBounds_toArray, List.set_cons_zero, List.set_cons_succ]
    apply Flow.d 5 _ rfl (by simp) (by kernel_rfl)
    · intro w1 hk; unfold does; go_simp; (try go_ints); exact DetR.mk
    simp only [List.getElem_toArray, List.getElem_cons_zero, List.getElem_cons_succ, Act.put, List.setIfInBounds_toArray, List.set_cons_zero, List.set_cons_succ]
    apply Flow.d 6 _ rfl (by simp) (by kernel_rfl)
    · intro w1 hk; unfold does; go_simp; (try go_ints); exact DetR.mk
    simp only [List.getElem_toArray, List.getElem_cons_zero, List.getElem_cons_succ, Act.put, List.setIfInBounds_toArray, List.set_cons_zero, List.set_cons_succ]
    apply Flow.d 7 _ rfl (by simp) (by kernel_rfl)
    · intro w1 hk; unfold does; go_simp; (try go_ints); exact DetR.mk
    simp only [List.getElem_toArray, List.getElem_cons_zero, List.getElem_cons_succ, Act.put, List.setIfInBounds_toArray, List.set_cons_zero, List.set_cons_succ]
    apply Flow.d 8 _ rfl (by simp) (by kernel_rfl)
    · intro w1 hk; unfold does; go_simp; (try go_ints); exact DetR.mk
    simp only [List.getElem_toArray, List.getElem_cons_zero, List.getElem_cons_succ, Act.put, List.setIfInBounds_toArray, List.set_cons_zero, List.set_cons_succ]
    apply Flow.d 11 _ rfl (by simp) (by kernel_rfl)
    · intro w1 hk; unfold does; go_simp; (try go_ints); exact DetR.mk
    simp only [List.getElem_toArray, List.getElem_cons_zero, List.getElem_cons_succ, Act.put, List.setIfInBounds_toArray, List.set_cons_zero, List.set_cons_succ]
    refine Flow.one 9 _ rfl (by kernel_rfl) (fun v w' => (∃ a c, v = .slice a q.length c) ∧ ERow w.heap.size w' v q ∧ Ext w1 w') (fun _ _ _ ⟨h1, h2, h3⟩ y => ⟨h1, h2.ext y, h3.trans y⟩) (fun w2 hC hk2 => ?_) ?_
    · unfold does
      go_simp
      refine CallR.act ((HCl w2 hC).out.mono ?_)
      rintro e w3 ⟨v, rfl, hr, hx⟩
      exact ⟨v, rfl, hk2.trans (hx.keep _), row_form hr, hr.low (HX.out.trans (Hx1.out.trans hC)).size, hC.trans hx⟩
    rintro _ ⟨_, ⟨a8, c8, rfl⟩, _, _⟩
    simp only [List.getElem_toArray, List.getElem_cons_zero, List.getElem_cons_succ, Act.put, List.setIfInBounds_toArray, List.set_cons_zero, List.set_cons_succ]
    apply Flow.d 10 _ rfl (by simp) (by kernel_rfl)
    · intro w1 hk; unfold does; go_simp; (try go_ints); exact DetR.mk
    simp only [List.getElem_toArray, List.getElem_cons_zero, List.getElem_cons_succ, Act.put, List.setIfInBounds_toArray, List.set_cons_zero, List.set_cons_succ]
    refine Flow.fin (by kernel_rfl) fun w4 hC4 hk4 => ?_
    obtain ⟨_, h5, h6⟩ := hC4
    have Hx4 := hid (HX.out.trans (Hx1.out.trans h6))
    have H5 := hid h5
    have HS4 : Hid (SolvAt w4 G (fun b => F b ∨ (W.heap.size ≤ b ∧ b < w4.heap.size)) g ad P vr rs (.slice ah s.has.length ch) hs s) := hid (SolvAt.frz ⟨_, _, _, _, _, _, _, _, _, _, HS.out⟩ (Hx1.out.trans h6))
    have Hrf : Hid (∀ b, (Value.slice a8 q.length c8).ownBlock = some b → F b ∨ (W.heap.size ≤ b ∧ b < w4.heap.size)) := hid fun b hb => by
      have h1 := World.ownsRow.lt h5 b hb
      rcases Nat.lt_or_ge b W.heap.size with g1 | g1
      · exact .inr ⟨by
          have h2 : W.heap.size = w.heap.size + 1 := by rw [HWe.out, heap_size_alloc]
          have h3 : b ≠ w.heap.size := by
            rintro rfl
            obtain ⟨c, hc⟩ := own_ty h5 hb
            exact (HBx1.out.ext h6).ty_ne hc (by decide) rfl
          omega, h1.2⟩
      · exact .inr ⟨g1, h1.2⟩
    clear h5 h6 hk4 HCl f0 f1' f2 b1 m0 m1' m2' m3 m4
    generalize hF' : (fun b => F b ∨ (W.heap.size ≤ b ∧ b < w4.heap.size)) = F' at HS4
    have HF1 : Hid (∀ b, F b → F' b) := hid fun b hb => by rw [← hF']; exact .inl hb
    have HrF : Hid (∀ b, (Value.slice a8 q.length c8).ownBlock = some b → F' b) := hid fun b hb => by rw [← hF']; exact Hrf.out b hb
    have HGF := hid HS1.out.gf
    clear hF' Hrf
    go_wp2
    go_loopw [31] (fun t31 wr => ∃ k : Nat, t31 = .int .i64 (k : Int) ∧ k ≤ q.length ∧ SolvAt wr G F' g ad P vr rs (.slice ah s.has.length ch) hs ((q.take k).foldl SV.edge s) ∧ Core P S ((q.take k).foldl SV.edge s) ∧ ((q.take k).foldl SV.edge s).Bnd P ∧ ERow w.heap.size wr (.slice a8 q.length c8) q ∧ Keep (fun b => ¬ F b) w wr) (fun t31 _ => q.length - (intOf t31).toNat)
    case atStart => exact ⟨0, rfl, Nat.zero_le _, HS4.out, HC.out, HB.out, H5.out, Hx4.out.keep _⟩
    case round =>
      obtain ⟨k, rfl, hk, hS, hC, hB, hR, hK⟩ := hrel
      have HR := hid hR
      have HK := hid hK
      by_cases hlt : k < q.length
      · obtain ⟨x, hqx⟩ : ∃ x, q[k]? = some x := ⟨_, List.getElem?_eq_getElem hlt⟩
        obtain ⟨g8, cp8, hge⟩ := own_some hR (by omega)
        simp only [Value.slice.injEq] at hge
        obtain ⟨rfl, -, rfl⟩ := hge
        obtain ⟨q0, q1⟩ := own_e2 hR hqx
        obtain ⟨k1, k2, k3⟩ := HSq.out x (List.mem_of_getElem? hqx)
        obtain ⟨wA, hwA⟩ : ∃ wA, wA = wr.alloc (.cells #[.int .i64 x.1, .int .i64 x.2] 127) := ⟨_, rfl⟩
        have hxA : Ext wr wA := by rw [hwA]; exact (Ext.refl _).alloc _
        have HxA := hid hxA
        have HE := hid (solveedge_any P S ((q.take k).foldl SV.edge s) x wA G F' g ad (hS.ext hxA) hC hB k1 k2)
        have Hn : Hid ((q.take (k + 1)).foldl SV.edge s = ((q.take k).foldl SV.edge s).edge x) := hid (by rw [List.take_add_one, hqx, List.foldl_append]; rfl)
        have HC2 := hid (hC.edgeTo ⟨k1, k2, k3⟩)
        have HB2 := hid (hB.edgeTo hC x)
        have HwA := hid hwA
        clear hS hC hB hR hK hqx k1 k2 k3 hxA hwA
        go_wp2_with fail
        rw [← HwA.out]
        refine HE.out.mono ?_
        intro z w5 hx
        obtain ⟨rfl, hS5, hK5⟩ := hx
        have HS5 := hid hS5
        have HK5 := hid hK5
        clear hS5 hK5 HE q0 q1
        go_wp2
        go_roundw
        case rel =>
          refine ⟨k + 1, by go_num, by omega, ?_, ?_, ?_, ?_, ?_⟩
          · rw [Hn.out]; exact HS5.out
          · rw [Hn.out]; exact HC2.out
          · rw [Hn.out]; exact HB2.out
          · exact row_keep (HR.out.ext HxA.out) HK5.out fun b hb hx => hx (HrF.out b hb)
          · exact (HK.out.ext_r HxA.out).trans (HK5.out.mono fun b _ hx hF => hx (HF1.out b hF))
        case measure => simp [intOf]; omega
      · obtain rfl : k = q.length := by omega
        rw [List.take_length] at hS
        have HSz := hid (hS.less HGF.out HF1.out)
        clear hS hC hB hR hK
        go_wp2
        refine bodyPost_ret (v := .tuple #[]) (results_none (by kernel_rfl) _ _ _) rfl ?_
        exact ⟨rfl, by rw [Hr.out]; exact HSz.out, HK.out⟩
  · have Hr : Hid (s.fire P r o = s) := hid (by
      unfold SV.fire
      rw [Hfr.out]
      unfold PP.callsOf
      rw [if_neg (by rw [← HFe.out]; exact hF0)]; rfl)
    go_wp2
    refine bodyPost_ret (v := .tuple #[]) (results_none (by kernel_rfl) _ _ _) rfl ?_
    exact ⟨rfl, by rw [Hr.out]; exact ⟨_, _, _, _, _, _, _, _, _, _, HS1.out⟩, (HX.out.trans Hx1.out).keep _⟩
/-- A rule is fired. -/
theorem solvefire_any (P : PP) (S : List (List Int)) (s : SV) (r : RV) (aa : Option Addr) (ca : Nat) (o : Int) (w : World) (G F : Nat → Prop) (g : Nat) (ad : Nat → Addr) {vr : Value} {rs : List R2} {vh : Value} {hs : List Value} (hS : SolvAt w G F g ad P vr rs vh hs s) (hC : Core P S s) (hB : s.Bnd P) (hg : P.GoodS S) (hc : ClosedP P S) (hr : r ∈ P.rulesV) (hf : r.fired = true) (ho : o ∈ S.getD r.pivot.toNat []) (h0 : 0 ≤ o ∧ o < P.objectsV) (ha : IntsF w F (.slice aa r.args.length ca) r.args) :
    Calls Tryz.prog 73 #[.pointer (some ⟨g, 0, none⟩), r.val (.slice aa r.args.length ca), .int .i64 o] w fun x w' => x = .returned (.tuple #[]) ∧ SolvAt w' G F g ad P vr rs vh hs (s.fire P r o) ∧ Keep (fun b => ¬ F b) w w' := by
  cases hk : (r.kind.toList == [99, 97, 108, 108]) with
  | true => exact solvefire_call P S s r aa ca o w G F g ad hS hC hB hg hc hr hf ho h0 ha hk
  | false =>
    by_cases hn : (P.nodesV : Int) ≤ o
    · exact solvefire_out P S s r aa ca o w G F g ad hS hC hB hg hc hr hf ho h0 ha hk hn
    · cases hl : (r.kind.toList == [108, 111, 97, 100]) with
      | true => exact solvefire_load P S s r aa ca o w G F g ad hS hC hB hg hc hr hf ho h0 ha hk hl hn
      | false => exact solvefire_store P S s r aa ca o w G F g ad hS hC hB hg hc hr hf ho h0 ha hk hl hn
end Go.Proofs.YtdppgcbekhabnaaGreatDoor

