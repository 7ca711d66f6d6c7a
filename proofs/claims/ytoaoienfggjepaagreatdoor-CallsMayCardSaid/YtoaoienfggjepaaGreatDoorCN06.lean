/- Texts of one proof, put together: UX W6 W1 W2 W3 Par2 UY. -/
import Derived.Test.YtoaoienfggjepaaGreatDoorCN01
import Derived.Test.YtoaoienfggjepaaGreatDoorCN03
import Derived.Test.YtoaoienfggjepaaGreatDoorCN04
import Derived.Test.YtoaoienfggjepaaGreatDoorCN05

/- Runs: a call that is done. -/
namespace Go.Proofs.YtoaoienfggjepaaGreatDoor
set_option linter.unusedSimpArgs false
set_option linter.unusedVariables false
open Go Go.RowKit

theorem Rn.give_len : ∀ (ps : List Int) (vs : List Vl) (s : Rn), (s.give ps vs).vars.length = s.vars.length
  | [], _, _ => rfl
  | _ :: _, [], _ => rfl
  | p :: ps, v :: vs, s => by
    have h := give_len ps vs (s.set p v)
    simp only [Rn.give]
    rw [h]
    simp [Rn.set]
theorem Rn.give_snoc : ∀ (ps : List Int) (vs : List Vl) (s : Rn) (k : Nat) (p : Int) (v : Vl), ps[k]? = some p → vs[k]? = some v → s.give (ps.take (k + 1)) (vs.take (k + 1)) = (s.give (ps.take k) (vs.take k)).set p v
  | [], _, _, _, _, _, h, _ => by simp at h
  | _ :: _, [], _, _, _, _, _, h => by simp at h
  | p :: ps, v :: vs, s, 0, q, u, h1, h2 => by
    simp at h1 h2
    subst h1 h2
    simp [Rn.give]
  | p :: ps, v :: vs, s, k + 1, q, u, h1, h2 => by
    simp only [List.getElem?_cons_succ] at h1 h2
    simp only [List.take_succ_cons, Rn.give]
    exact give_snoc ps vs (s.set p v) k q u h1 h2

theorem RnAt.vn {w : World} {n0 sb g cap n : Nat} {tv pv : Value} {s : Rn} (h : RnAt w n0 sb (.slice (some ⟨g, 0, none⟩) n cap) tv pv s) : w.ownsRow n0 57 2 (.slice (some ⟨g, 0, none⟩) n cap) n (s.vars.flatMap Vl.cells) := by
  have hn : n = s.vars.length := by
    rcases h.vars.2 with ⟨h2, _⟩ | ⟨_, _, _, h2, _⟩
    · simp at h2
    · simp only [Value.slice.injEq] at h2; exact h2.2.1
  subst hn
  exact h.vars
theorem flat_snoc (l : List Vl) (u : Vl) : (l ++ [u]).flatMap Vl.cells = l.flatMap Vl.cells ++ Vl.cells u := by simp
set_option maxRecDepth 100000 in
set_option maxHeartbeats 12800000 in
theorem stcall_yes (a1 a2 a3 : Option Addr) (c1 c2 c3 : Nat) (P : PP) (x : PS) (av : Option Addr) (cv : Nat) (hg : P.Good x) (hkx : x.isK kCall = true) (hF : ∀ f ∈ P.funs, P.GoodF f) (s : Rn) (hs : s.Ok P) (w : World) (n0 sb : Nat) (vv tv pv : Value) (hR : RnAt w n0 sb vv tv pv s) (hP : ProgR w n0 (.slice a1 P.vars.length c1) (.slice a2 P.funs.length c2) (.slice a3 P.stmts.length c3) P) (hI : IntsR w n0 (.slice av x.args.length cv) x.args) (hn0 : n0 ≤ w.heap.size) (n : Nat) (f0 : PF) (hvn : s.at x.y = .fn n) (hfk0 : P.funs[n]? = some f0) (hlen : f0.params.length = x.args.length) :
    Calls Tryz.prog 112 #[.pointer (some ⟨sb, 0, none⟩), pval a1 a2 a3 c1 c2 c3 P, .agg #[.string x.kind, .int .i64 x.x, .int .i64 x.y, .slice av x.args.length cv]] w fun e w' => e = .returned (.tuple #[]) ∧ (∃ vv' tv' pv', RnAt w' n0 sb vv' tv' pv' (s.callF x f0)) ∧ Old n0 w w' := by
  obtain ⟨W1, hW1⟩ : ∃ W1, W1 = w.alloc (.cells (pcells a1 a2 a3 c1 c2 c3 P) 39) := ⟨_, rfl⟩
  have hx1 : Ext w W1 := by rw [hW1]; exact (Ext.refl _).alloc _
  obtain ⟨W2, hW2⟩ : ∃ W2, W2 = W1.alloc (.cells (scells x av cv) 48) := ⟨_, rfl⟩
  have hx2 : Ext W1 W2 := by rw [hW2]; exact (Ext.refl _).alloc _
  have HW2 := hid (hx1.trans hx2)
  have HB1 : Hid (Blk W2 w.heap.size (pcells a1 a2 a3 c1 c2 c3 P) 39) := hid (by
    have : Blk W1 w.heap.size (pcells a1 a2 a3 c1 c2 c3 P) 39 := by rw [hW1]; exact Blk.new _ _ _
    exact this.ext hx2)
  have hs1 : W1.heap.size = w.heap.size + 1 := by rw [hW1, heap_size_alloc]
  have HB2 : Hid (Blk W2 (w.heap.size + 1) (scells x av cv) 48) := hid (by
    rw [← hs1, hW2]; exact Blk.new _ _ _)
  have HR2 := hid (hR.ext HW2.out)
  have HP2 := hid (hP.ext HW2.out)
  have HI := hid (hI.old (HW2.out.old n0))
  have Hs := hid hs
  have HF := hid hF
  have Hn0 := hid hn0
  have hgx := hg.gx
  have HW2e : Hid (W2 = (w.alloc (.cells #[.slice a1 P.vars.length c1, .slice a2 P.funs.length c2, .slice a3 P.stmts.length c3] 39)).alloc (.cells #[.string x.kind, .int .i64 x.x, .int .i64 x.y, .slice av x.args.length cv] 48)) := hid (by rw [hW2, hW1]; rfl)
  obtain ⟨X, hX⟩ := Int.eq_ofNat_of_zero_le hgx.1
  have HX : Hid (X < s.vars.length) := hid (by rw [hs.lv]; omega)
  have HXe := hid hX
  obtain ⟨g, cap, hvv⟩ := own_some hR.vars (by have := HX.out; omega)
  subst hvv
  have hnv : s.vars.length = P.vars.length := hs.lv
  have d0 := HR2.out.blk.kc (X := fun _ => False) (fun e => e) 0 rfl
  have m2 := HB2.out.kc (X := fun _ => False) (fun e => e) 2 rfl
  have m3 := HB2.out.kc (X := fun _ => False) (fun e => e) 3 rfl
  have p1 := HB1.out.kc (X := fun _ => False) (fun e => e) 1 rfl
  simp only [scells, pcells, List.getElem_toArray, List.getElem_cons_zero, List.getElem_cons_succ] at d0 m2 m3 p1
  have Hg := hid hg
  have hf : x.isK kFun = false := isK_ne hkx rfl
  have hn : x.isK kNew = false := isK_ne hkx rfl
  have hyv := Hg.out.yv hf hn
  obtain ⟨Y, hY⟩ := Int.eq_ofNat_of_zero_le hyv.1
  have HYl : Hid (Y < s.vars.length) := hid (by rw [hnv]; omega)
  have HY := hid hY
  rw [hY] at m2
  obtain ⟨v, hv⟩ : ∃ v, v = s.vars.getD Y .none := ⟨_, rfl⟩
  have HVy := hid (at_some HYl.out)
  rw [← hv] at HVy
  have HVat : Hid (s.at x.y = v) := hid (by unfold Rn.at; rw [hY, hv]; rfl)
  clear hY hyv hv
  have v0 : ∀ w1, Keep (fun _ => False) W2 w1 → w1.cell? ⟨g, Y * 2, none⟩ = some (.string v.kind) := fun w1 k => (own_v (HR2.out.ext k.ext).vars HVy.out).1
  have v1 : ∀ w1, Keep (fun _ => False) W2 w1 → w1.cell? ⟨g, Y * 2 + 1, none⟩ = some (.int .i64 (v.num : Int)) := fun w1 k => (own_v (HR2.out.ext k.ext).vars HVy.out).2
  have hYl := HYl.out
  have hsbl := hR.blk.lt
  have Hgw := hid (World.ownsRow.lt hR.vars g rfl).2
  clear hW1 hW2 hx1 hx2 hs1 hR hP hI hs hg hX hgx hkx hn0 hF hf hn
  unfold pval
  obtain rfl : v = .fn n := HVat.out.symm.trans hvn
  have Hlen := hid hlen
  have HFk0 := hid hfk0
  clear hlen hvn hfk0
  have hnf : n < P.funs.length := by have := Hs.out.at x.y; rw [HVat.out] at this; exact this
  simp only [Vl.kind, Vl.num] at v0 v1
  obtain ⟨yf, f, pa, pc, rfl, hfk, f0, f1, f2, hIp⟩ := HP2.out.funs.at hnf
  have HFk := hid hfk
  have HGf := hid (HF.out f (List.mem_of_getElem? hfk))
  have HIp := hid hIp
  have HF1 := hid f1
  have HF2 := hid f2
  have HF0 := hid f0
  clear hfk hIp f0 f1 f2
  go_enter Tryz.func112, Tryz.ntmps112
  go_wp2
  rw [← HW2e.out]
  refine wp_flowT (fun _ => False) (by kernel_rfl) (by kernel_rfl) ?_
  repeat (apply FlowT.d; (intro w1 hk; unfold does; go_simp; (try go_ints); (first | exact DetR.mk | (simp only [↓IntWalk.iteOmega, Oper.doesUpon_value]; exact DetR.mk) | (simp only [↓IntWalk.iteOmega]; go_simp; (try go_ints); exact DetR.mk))); simp only [Act.put, List.setIfInBounds_toArray, List.set_cons_zero, List.set_cons_succ])
  refine FlowT.s (fun t w' => ∃ b, t = .pointer (some ⟨b, 0, none⟩) ∧ Blk w' b #[.string ⟨#[]⟩, .int .i64 0] 57 ∧ Ext W2 w' ∧ W2.heap.size ≤ b) 8 rfl (by kernel_rfl) (fun _ _ _ ⟨b, e, h1, h2, h3⟩ y => ⟨b, e, h1.ext y, h2.trans y, h3⟩) (fun w1 hC hk => ?_) (fun _ ⟨_, hb⟩ => ?_)
  · unfold does
    go_simp
    exact ⟨hk.alloc _, _, rfl, Blk.new _ _ _, hC.alloc _, hC.size⟩
  obtain ⟨b, rfl, _, _, hbs⟩ := hb
  simp only [Act.put, List.setIfInBounds_toArray, List.set_cons_zero, List.set_cons_succ]
  have Hbs := hid hbs
  clear hbs
  refine FlowT.last (fun _ w' => Blk w' b #[.string ⟨#[102, 117, 110]⟩, .int .i64 (n : Int)] 57 ∧ Ext W2 w') 9 rfl (by kernel_rfl) (by kernel_rfl) (fun w1 hC hk => ?_) (fun _ w3 hR3 => ?_)
  · obtain ⟨b', eb, hB, hx, _⟩ := hC
    obtain rfl : b = b' := by simpa using eb
    have z0 := hB.av 0 rfl
    have z1 := hB.av 1 rfl
    have f0 := hB.free 0
    have f1 := hB.free 1
    have hB2 := (hB.set 0 (.string ⟨#[102, 117, 110]⟩)).set 1 (.int .i64 (n : Int))
    have hx2 : Ext W2 ((w1.setCell ⟨b, 0, none⟩ (.string ⟨#[102, 117, 110]⟩)).setCell ⟨b, 1, none⟩ (.int .i64 (n : Int))) := Keep.new hx ((Keep.set (X := fun g => g = b) (Keep.refl _ _) rfl _).set rfl _) fun g e => by subst e; exact Hbs.out
    simp only [List.setIfInBounds_toArray, List.set_cons_zero, List.set_cons_succ] at hB2
    clear hk
    unfold does
    go_simp
  obtain ⟨hB3, hx3⟩ := hR3
  simp only [Act.put, List.setIfInBounds_toArray, List.set_cons_zero, List.set_cons_succ]
  have HB3 := hid hB3
  have HR3 := hid (HR2.out.ext hx3)
  have HW3 := hid (HW2.out.trans hx3)
  have Hx3 := hid hx3
  have b0 := hB3.kc (X := fun _ => False) (fun e => e) 0 rfl
  have b1 := hB3.kc (X := fun _ => False) (fun e => e) 1 rfl
  simp only [List.getElem_toArray, List.getElem_cons_zero, List.getElem_cons_succ] at b0 b1
  replace p1 := fun w1 (k : Keep (fun _ => False) w3 w1) => p1 w1 ((hx3.keep _).trans k)
  replace m3 := fun w1 (k : Keep (fun _ => False) w3 w1) => m3 w1 ((hx3.keep _).trans k)
  clear v0 v1 m2 d0
  have f1 : ∀ w1, Keep (fun _ => False) w3 w1 → w1.cell? ⟨(yf.add (n * 3)).block, (yf.add (n * 3)).off + 1, none⟩ = some (.slice pa f.params.length pc) := fun w1 k => (hx3.trans k.ext).cellx HF1.out
  obtain rfl := Option.some.inj (HFk0.out.symm.trans HFk.out)
  rw [Hlen.out] at f1 HIp HF1
  have f2 : ∀ w1, Keep (fun _ => False) w3 w1 → w1.cell? ⟨(yf.add (n * 3)).block, (yf.add (n * 3)).off + 2, none⟩ = some (.int .i64 f0.ret) := fun w1 k => (hx3.trans k.ext).cellx HF2.out
  have fn0 : ∀ w1, Keep (fun _ => False) w3 w1 → w1.cell? (yf.add (n * 3)) = some (.string f0.name) := fun w1 k => (hx3.trans k.ext).cellx HF0.out
  have hlf : (x.args.length : Int) ≤ 9223372036854775807 := by have := HGf.out.few; have := Hlen.out; omega
  clear hB3 hx3
  go_wp2
  refine wp_flowT (fun _ => False) (by kernel_rfl) (by kernel_rfl) ?_
  repeat (apply FlowT.d; (intro w1 hk; unfold does; go_simp; (try go_ints); (first | exact DetR.mk | (simp only [↓IntWalk.iteOmega, Oper.doesUpon_value]; exact DetR.mk) | (simp only [↓IntWalk.iteOmega]; go_simp; (try go_ints); exact DetR.mk))); simp only [Act.put, List.setIfInBounds_toArray, List.set_cons_zero, List.set_cons_succ])
  refine FlowT.fin fun w4 hx4 hk4 => ?_
  have g0 := fn0 w4 hk4
  have g1 := f1 w4 hk4
  have g2 := f2 w4 hk4
  have g3 := b1 w4 hk4
  have g4 := p1 w4 hk4
  have g5 := m3 w4 hk4
  obtain ⟨W5, hW5⟩ : ∃ W5, W5 = w4.alloc (.cells #[.string f0.name, .slice pa x.args.length pc, .int .i64 f0.ret] 100) := ⟨_, rfl⟩
  have hx5 : Ext w4 W5 := by rw [hW5]; exact (Ext.refl _).alloc _
  have HR5 := hid (HR3.out.ext (hx4.trans hx5))
  have HW5 := hid (HW3.out.trans (hx4.trans hx5))
  have Hx5 := hid (Hx3.out.trans (hx4.trans hx5))
  have HB7 : Hid (Blk W5 w4.heap.size #[.string f0.name, .slice pa x.args.length pc, .int .i64 f0.ret] 100) := hid (by rw [hW5]; exact Blk.new _ _ _)
  have g6 : (w4.alloc (.cells #[.string f0.name, .slice pa x.args.length pc, .int .i64 f0.ret] 100)).cell? ⟨w.heap.size + 1, 3, none⟩ = some (.slice av x.args.length cv) := ((Ext.refl _).alloc _).cellx g5
  have HW5e := hid hW5
  have hpl : (P.vars.length : Int) ≤ 9223372036854775807 := by
    obtain ⟨_, _, _, h2, h3, _⟩ := HP2.out.vars
    omega
  have HIn : Hid (Ints W5 av x.args.length x.args) := hid (IntsR.ints (HI.out.old (Hx5.out.old n0)) fun i => by
    rw [List.getD_eq_getElem?_getD]
    cases h : x.args[i]? with
    | none => simp
    | some a => have := (Hg.out.args a (List.mem_of_getElem? h)).2; simp; omega)
  have HPn : Hid (Ints W5 pa f0.params.length f0.params) := hid (IntsR.ints (HIp.out.old (Hx5.out.old n0)) fun i => by
    rw [List.getD_eq_getElem?_getD]
    cases h : f0.params[i]? with
    | none => simp
    | some a => have := (HGf.out.params a (List.mem_of_getElem? h)).2; simp; omega)
  have hgw : g < w.heap.size := Hgw.out
  clear hx4 hk4 hx5 hW5 f1 f2 fn0 b0 b1 p1 m3
  go_wp2
  rw [← HW5e.out]
  clear g0 g1 g2 g3 g4 g5 g6 HF0 HF1 HF2 HB3 HR3 HB1
  have Hb7 := hid HB7.out.lt
  generalize w4.heap.size = b7 at *
  clear HW5e
  go_loopw [8, 47] (fun t8 t47 wr => ∃ k : Nat, t47 = .int .i64 (k : Int) ∧ k ≤ x.args.length ∧ Ext W5 wr ∧ wr.ownsRow W5.heap.size 57 2 t8 k (((x.args.take k).map s.at).flatMap Vl.cells)) (fun _ t47 _ => x.args.length - (intOf t47).toNat)
  case atStart => exact ⟨0, rfl, Nat.zero_le _, Ext.refl _, World.ownsRow_nil _ _ _ _⟩
  case round =>
    obtain ⟨k, rfl, hk, hx, hrow⟩ := hrel
    obtain ⟨al, cl, rfl⟩ := row_form hrow
    have Hx := hid hx
    have Hrow := hid hrow
    clear hx hrow
    by_cases hlt : k < x.args.length
    · obtain ⟨ya, rfl⟩ := HIn.out.sm (by omega)
      obtain ⟨q, hq⟩ : ∃ q, q = x.args.getD k 0 := ⟨_, rfl⟩
      have hqk : x.args[k]? = some q := by rw [hq]; simp [List.getD_eq_getElem?_getD, hlt]
      have hc := Hx.out.cellx (HIn.out.cl ya rfl k hlt)
      rw [← hq] at hc
      have hqa := Hg.out.args q (List.mem_of_getElem? hqk)
      obtain ⟨A, rfl⟩ := Int.eq_ofNat_of_zero_le hqa.1
      have hAl : A < P.vars.length := by omega
      obtain ⟨u, hu⟩ : ∃ u, u = s.vars.getD A .none := ⟨_, rfl⟩
      have HUa := hid (at_some (l := s.vars) (n := A) (by omega))
      rw [← hu] at HUa
      have hRr := HR5.out.ext Hx.out
      obtain ⟨u0, u1⟩ := own_v hRr.vars HUa.out
      have d0 := hRr.blk.av 0 rfl
      simp only [List.getElem_toArray, List.getElem_cons_zero, List.getElem_cons_succ] at d0
      have Htk : Hid ((x.args.take (k + 1)).map s.at = (x.args.take k).map s.at ++ [u]) := hid (by
        rw [List.take_add_one, hqk, List.map_append, hu]; rfl)
      have Hbs5 : Hid (W5.heap.size ≤ wr.heap.size) := hid Hx.out.size
      have Hol : Hid (k ≤ 1000000) := hid (by have := HGf.out.few; have := Hlen.out; omega)
      clear hq hqk hqa hu hRr
      go_wp2_with (at_builtin; refine wpList_append_el W5.heap.size (Nat.le_trans Hbs5.out ((Ext.refl _).alloc _).size) 50 57 (.agg #[.string ⟨#[]⟩, .int .i64 0]) 2 24 Tryz.underlying50 rval_info rfl (by omega) (by omega) rfl _ _ rfl (.slice al k cl) k (((x.args.take k).map s.at).flatMap Vl.cells) rfl (own_ext Hrow.out ((Ext.refl _).alloc _)) wr.heap.size (Vl.cells u) rfl (by simp [Vl.cells, Value.oneCell']) rfl (Blk.new _ _ _) Hol.out ?_; intro v6 w6 ho6 hk6 hl6; obtain ⟨a6, c6, rfl⟩ := row_form ho6)
      have hx6 : Ext W5 w6 := Keep.new (Hx.out.alloc _) hk6 fun q hq => (World.ownsRow.lt Hrow.out q hq).1
      rw [← flat_snoc, ← Htk.out] at ho6
      go_roundw
      case rel => exact ⟨k + 1, by go_num, by omega, hx6, ho6⟩
      case measure => simp [intOf]; omega
    · obtain rfl : k = x.args.length := by omega
      have hrl : ((x.args.take x.args.length).map s.at) = x.args.map s.at := by rw [List.take_of_length_le (Nat.le_refl _)]
      rw [hrl] at Hrow
      have h71 := (HB7.out.ext Hx.out).av 1 rfl
      simp only [List.getElem_toArray, List.getElem_cons_zero, List.getElem_cons_succ] at h71
      have HRr := hid (HR5.out.ext Hx.out)
      have HB7r := hid (HB7.out.ext Hx.out)
      have HPr := hid (HPn.out.ext Hx.out)
      have HWr := hid (HW5.out.trans Hx.out)
      have HIr := hid (HIp.out.old ((Hx5.out.trans Hx.out).old n0))
      have HB2r := hid (HB2.out.ext (Hx5.out.trans Hx.out))
      have Hglo := hid (HRr.out.vlo (b := g) rfl)
      have Hgb : Hid (g < W5.heap.size ∧ g < w.heap.size) := hid ⟨(World.ownsRow.lt HR5.out.vars g rfl).2, hgw⟩
      have hml : (f0.params.length : Int) ≤ 9223372036854775807 := by rw [Hlen.out]; exact hlf
      clear hlt hrl HR5 HB7 HPn HIn
      go_wp2
      clear h71
      rename World => w7
      go_loopw [65] (fun t65 wr => ∃ k : Nat, t65 = .int .i64 (k : Int) ∧ k ≤ x.args.length ∧ Keep (fun q => q = g) w7 wr ∧ RnAt wr n0 sb (.slice (some ⟨g, 0, none⟩) s.vars.length cap) tv pv (s.give (f0.params.take k) ((x.args.map s.at).take k))) (fun t65 _ => x.args.length - (intOf t65).toNat)
      case atStart => exact ⟨0, rfl, Nat.zero_le _, Keep.refl _ _, HRr.out⟩
      case round =>
        obtain ⟨k, rfl, hk, hkp, hr⟩ := hrel
        have Hk8 := hid hkp
        have Hr8 := hid hr
        have HO8 : Hid (Old n0 w7 wr) := hid (hkp.mono fun q _ e => by rw [e]; exact Hglo.out)
        have Hgx : Hid (∀ (c : Array Value) (t : TypeId) (b' : Nat), Blk w7 b' c t → t ≠ 57 → Blk wr b' c t) := hid fun c t b' hb hne => hb.keep Hk8.out fun e => by
          obtain ⟨c', hc'⟩ := own_ty HRr.out.vars (k := g) rfl
          exact Blk.ty_ne hb hc' hne e
        clear hkp hr
        by_cases hlt : k < x.args.length
        · have HI8 := hid (IntsR.ints (HIr.out.old HO8.out) HPr.out.hi)
          obtain ⟨yp, rfl⟩ := HI8.out.sm (by have := Hlen.out; omega)
          obtain ⟨q, hq⟩ : ∃ q, q = f0.params.getD k 0 := ⟨_, rfl⟩
          have hqk : f0.params[k]? = some q := by rw [hq]; simp [List.getD_eq_getElem?_getD, show k < f0.params.length by have := Hlen.out; omega]
          have hc := HI8.out.cl yp rfl k (by have := Hlen.out; omega)
          rw [← hq] at hc
          have hqa := HGf.out.params q (List.mem_of_getElem? hqk)
          obtain ⟨Q, rfl⟩ := Int.eq_ofNat_of_zero_le hqa.1
          have hQl : Q < P.vars.length := by omega
          obtain ⟨gl, cl', hal⟩ := own_some Hrow.out (by omega)
          obtain ⟨rfl, rfl⟩ : al = some ⟨gl, 0, none⟩ ∧ cl = cl' := by simpa using hal
          obtain ⟨u, hu⟩ : ∃ u, u = (x.args.map s.at).getD k .none := ⟨_, rfl⟩
          have HUk := hid (at_some (l := x.args.map s.at) (n := k) (by simpa using hlt))
          rw [← hu] at HUk
          have Hro8 := hid (row_keep Hrow.out Hk8.out fun i hi e => by
            have := (World.ownsRow.lt Hrow.out i hi).1
            have := Hgb.out.1
            omega)
          have d0 := Hr8.out.blk.kc (X := fun _ => False) (fun e => e) 0 rfl
          have v0 : ∀ w1, Keep (fun _ => False) wr w1 → w1.cell? ⟨gl, k * 2, none⟩ = some (.string u.kind) := fun w1 k => (own_v (own_ext Hro8.out k.ext) HUk.out).1
          have v1 : ∀ w1, Keep (fun _ => False) wr w1 → w1.cell? ⟨gl, k * 2 + 1, none⟩ = some (.int .i64 (u.num : Int)) := fun w1 k => (own_v (own_ext Hro8.out k.ext) HUk.out).2
          simp only [List.getElem_toArray, List.getElem_cons_zero, List.getElem_cons_succ] at d0
          obtain ⟨s8, hs8⟩ : ∃ s8, s8 = s.give (f0.params.take k) ((x.args.map s.at).take k) := ⟨_, rfl⟩
          have Hnext : Hid (s.give (f0.params.take (k + 1)) ((x.args.map s.at).take (k + 1)) = { s8 with vars := s8.vars.set Q u }) := hid (by
            rw [Rn.give_snoc _ _ _ _ _ _ hqk HUk.out, ← hs8]; rfl)
          have HQ : Hid (Q < s8.vars.length) := hid (by rw [hs8, Rn.give_len]; omega)
          rw [← hs8] at Hr8
          clear hq hqk hqa hu hs8 HI8 HPr hal
          go_wp2
          refine wp_flowT (fun _ => False) (by kernel_rfl) (by kernel_rfl) ?_
          repeat (apply FlowT.d; (intro w1 hk; unfold does; go_simp; (try go_ints); (first | exact DetR.mk | (simp only [↓IntWalk.iteOmega, Oper.doesUpon_value]; exact DetR.mk) | (simp only [↓IntWalk.iteOmega]; go_simp; (try go_ints); exact DetR.mk))); simp only [Act.put, List.setIfInBounds_toArray, List.set_cons_zero, List.set_cons_succ])
          refine FlowT.last (fun _ w' => ∃ w2, Ext wr w2 ∧ w' = store2 w2 g (Q * 2) u) 10 rfl (by kernel_rfl) (by kernel_rfl) (fun w2 hx hk => ?_) (fun _ w4 hR4 => ?_)
          · have hV := (Hr8.out.ext hx).vn
            obtain ⟨q0, q1⟩ := own_v hV (at_some HQ.out)
            have f0 := own_free hV (Q * 2)
            have f1 := own_free hV (Q * 2 + 1)
            unfold does
            go_simp
            exact ⟨w2, hx, rfl⟩
          obtain ⟨w2, hx2, rfl⟩ := hR4
          simp only [Act.put]
          have HR9 := hid ((Hr8.out.ext hx2).putV Q HQ.out u)
          have Hk9 := hid ((Hk8.out.trans (hx2.keep _)).trans (store2_keep w2 g (Q * 2) u))
          clear hx2
          go_wp2
          go_roundw
          case rel => exact ⟨k + 1, by go_num, by omega, Hk9.out, by rw [Hnext.out]; exact HR9.out⟩
          case measure => simp [intOf]; omega
        · obtain rfl : k = x.args.length := by omega
          have hfp : f0.params.take x.args.length = f0.params := by rw [← Hlen.out, List.take_of_length_le (Nat.le_refl _)]
          have hfm : (x.args.map s.at).take x.args.length = x.args.map s.at := by rw [List.take_of_length_le (by simp)]
          rw [hfp, hfm] at Hr8
          obtain ⟨s8, hs8⟩ : ∃ s8, s8 = s.give f0.params (x.args.map s.at) := ⟨_, rfl⟩
          have Hs8 := hid hs8
          have HX8 : Hid (X < s8.vars.length) := hid (by rw [hs8, Rn.give_len]; exact HX.out)
          obtain ⟨Rr, hRr⟩ := Int.eq_ofNat_of_zero_le HGf.out.ret.1
          have HRl : Hid (Rr < s8.vars.length) := hid (by rw [hs8, Rn.give_len]; have := HGf.out.ret.2; omega)
          have hRl : Rr < P.vars.length := by have := HGf.out.ret.2; omega
          obtain ⟨u, hu⟩ : ∃ u, u = s8.vars.getD Rr .none := ⟨_, rfl⟩
          have HUr := hid (at_some HRl.out)
          rw [← hu] at HUr
          have HE : Hid (s.callF x f0 = { s8 with vars := s8.vars.set X u }) := hid (by
            unfold Rn.callF
            rw [if_pos Hlen.out, ← hs8]
            simp only [Rn.set, Rn.at, hRr, HXe.out, hu, Int.toNat_natCast])
          rw [← hs8] at Hr8
          have d0 := Hr8.out.blk.kc (X := fun _ => False) (fun e => e) 0 rfl
          have b2 := (Hgx.out _ _ _ HB7r.out (by decide)).kc (X := fun _ => False) (fun e => e) 2 rfl
          have m1 := (Hgx.out _ _ _ HB2r.out (by decide)).kc (X := fun _ => False) (fun e => e) 1 rfl
          have v0 : ∀ w1, Keep (fun _ => False) wr w1 → w1.cell? ⟨g, Rr * 2, none⟩ = some (.string u.kind) := fun w1 k => (own_v (Hr8.out.ext k.ext).vn HUr.out).1
          have v1 : ∀ w1, Keep (fun _ => False) wr w1 → w1.cell? ⟨g, Rr * 2 + 1, none⟩ = some (.int .i64 (u.num : Int)) := fun w1 k => (own_v (Hr8.out.ext k.ext).vn HUr.out).2
          simp only [scells, List.getElem_toArray, List.getElem_cons_zero, List.getElem_cons_succ] at d0 b2 m1
          rw [hRr] at b2
          rw [HXe.out] at m1
          have HOx : Hid (Old n0 w wr) := hid ((HWr.out.old n0).trans HO8.out)
          have hXl : X < P.vars.length := by have := HX.out; omega
          clear hfp hfm hs8 hRr hu hlt
          go_wp2
          refine wp_flowT (fun _ => False) (by kernel_rfl) (by kernel_rfl) ?_
          repeat (apply FlowT.d; (intro w1 hk; unfold does; go_simp; (try go_ints); (first | exact DetR.mk | (simp only [↓IntWalk.iteOmega, Oper.doesUpon_value]; exact DetR.mk) | (simp only [↓IntWalk.iteOmega]; go_simp; (try go_ints); exact DetR.mk))); simp only [Act.put, List.setIfInBounds_toArray, List.set_cons_zero, List.set_cons_succ])
          refine FlowT.last (fun _ w' => ∃ w2, Ext wr w2 ∧ w' = store2 w2 g (X * 2) u) 15 rfl (by kernel_rfl) (by kernel_rfl) (fun w2 hx hk => ?_) (fun _ w4 hR4 => ?_)
          · have hV := (Hr8.out.ext hx).vn
            obtain ⟨q0, q1⟩ := own_v hV (at_some HX8.out)
            have f0 := own_free hV (X * 2)
            have f1 := own_free hV (X * 2 + 1)
            unfold does
            go_simp
            exact ⟨w2, hx, rfl⟩
          obtain ⟨w2, hx2, rfl⟩ := hR4
          simp only [Act.put]
          have HR9 := hid ((Hr8.out.ext hx2).putV X HX8.out u)
          have HO := hid ((HOx.out.trans (hx2.old n0)).trans (store2_old (y := u) (i := X * 2) Hglo.out))
          clear hx2
          go_wp2
          go_end0
          exact ⟨rfl, ⟨_, _, _, by rw [HE.out]; exact HR9.out⟩, HO.out⟩
end Go.Proofs.YtoaoienfggjepaaGreatDoor



/- The reference's runs: a state in memory; statements that set one variable. -/
namespace Go.Proofs.YtoaoienfggjepaaGreatDoor
set_option linter.unusedSimpArgs false
set_option linter.unusedVariables false
open Go Go.RowKit

end Go.Proofs.YtoaoienfggjepaaGreatDoor



/- The reference's programs: variables, lists, names. -/
namespace Go.Proofs.YtoaoienfggjepaaGreatDoor
set_option linter.unusedSimpArgs false
set_option linter.unusedVariables false
open Go Go.RowKit

end Go.Proofs.YtoaoienfggjepaaGreatDoor



/- The reference's names. -/
namespace Go.Proofs.YtoaoienfggjepaaGreatDoor
set_option linter.unusedSimpArgs false
set_option linter.unusedVariables false
open Go Go.RowKit Go.Shelf
open Go.Lib (trimS trimLeftS trimRightS toList_data)

def okAt (b k : Nat) : Bool := (decide (97 ≤ b) && decide (b ≤ 122)) || (decide (48 ≤ b) && decide (b ≤ 57) && !decide (k = 0))
end Go.Proofs.YtoaoienfggjepaaGreatDoor



/- The reference's statements. -/
namespace Go.Proofs.YtoaoienfggjepaaGreatDoor
set_option linter.unusedSimpArgs false
set_option linter.unusedVariables false
open Go Go.RowKit

end Go.Proofs.YtoaoienfggjepaaGreatDoor


/- One that acts floats beside two that act in a row. -/
namespace Go.Proofs.YtoaoienfggjepaaGreatDoor
set_option linter.unusedSimpArgs false
set_option linter.unusedVariables false
open Go Go.RowKit
section
variable {P : Program} {ops : Array Oper} {X : Nat → Prop} {w0 : World} {Q : Act → World → Prop} {L : List Nat}

/-- j, then m; i whenever. -/
theorem Flow.par3g {listed : Array Bool} {C : World → Prop} {a : Act} (j m i : Nat) (oj om oi : Oper) (hoj : ops[j]? = some oj) (hom : ops[m]? = some om) (hoi : ops[i]? = some oi) (hij : i ≠ j) (him : i ≠ m)
    (hsi : ∀ cs b, oi.op ≠ .select cs b) (hsj : ∀ cs b, oj.op ≠ .select cs b) (hsm : ∀ cs b, om.op ≠ .select cs b) (hap : oi.apart ops oj = true) (hap2 : oi.apart ops om = true)
    (r0 : (Region.ready .any ops listed == [j, i]) = true) (r1 : (Region.ready .any ops (listed.setIfInBounds i true) == [j]) = true) (r2 : (Region.ready .any ops ((listed.setIfInBounds i true).setIfInBounds j true) == [m]) = true)
    (r3 : (Region.ready .any ops (listed.setIfInBounds j true) == [m, i]) = true)
    (A B : Value → World → Prop) (AB D : Value → Value → World → Prop) (F : Value → Value → Value → World → Prop)
    (sA : ∀ v w w', A v w → Ext w w' → A v w') (sB : ∀ v w w', B v w → Ext w w' → B v w') (sAB : ∀ u v w w', AB u v w → Ext w w' → AB u v w') (sD : ∀ u v w w', D u v w → Ext w w' → D u v w') (sF : ∀ t u v w w', F t u v w → Ext w w' → F t u v w')
    (i0 : ∀ w, C w → Keep X w0 w → does P ops oi a w (ActR X w0 A))
    (j0 : ∀ w, C w → Keep X w0 w → does P ops oj a w (ActR X w0 B))
    (i1 : ∀ vj w, B vj w → Keep X w0 w → does P ops oi a w (ActR X w0 fun v => AB v vj))
    (j1 : ∀ vi w, A vi w → Keep X w0 w → does P ops oj a w (ActR X w0 (AB vi)))
    (m1 : ∀ vj w, B vj w → Keep X w0 w → does P ops om (a.put oj.dst vj) w (ActR X w0 (D vj)))
    (m2 : ∀ vi vj w, AB vi vj w → Keep X w0 w → does P ops om (a.put oj.dst vj) w (ActR X w0 (F vi vj)))
    (k1 : ∀ vi vj vm, (∃ w, F vi vj vm w) → Flow P ops w0 Q X L (((listed.setIfInBounds i true).setIfInBounds j true).setIfInBounds m true) (F vi vj vm) (((a.put oi.dst vi).put oj.dst vj).put om.dst vm))
    (k2 : ∀ vj vm, (∃ w, D vj vm w) → Flow P ops w0 Q X L ((listed.setIfInBounds j true).setIfInBounds m true) (D vj vm) ((a.put oj.dst vj).put om.dst vm)) :
    Flow P ops w0 Q X L listed C a := by
  have hs := Oper.apart_spec hap
  have hs2 := Oper.apart_spec hap2
  -- both done, then m
  have both : ∀ vi vj, Flow P ops w0 Q X L ((listed.setIfInBounds i true).setIfInBounds j true) (AB vi vj) ((a.put oi.dst vi).put oj.dst vj) := by
    intro vi vj
    refine Flow.acts [m] r2 (by simp) (fun _ => om) (fun _ u w => F vi vj u w) (fun _ u w w' h hx => sF _ _ _ _ _ h hx) ?_ ?_
    · intro n hn
      obtain rfl : n = m := by simpa using hn
      refine ⟨hom, fun w h h4 => ?_⟩
      rw [Act.put_comm a vi vj hs.2.1, does_put hsm hs2.1]
      exact m2 vi vj w h h4
    · intro n hn u hu
      obtain rfl : n = m := by simpa using hn
      exact k1 vi vj u hu
  refine Flow.acts [j, i] r0 (by simp) (fun n => if n = i then oi else oj) (fun n v w => if n = i then A v w else B v w) ?_ ?_ ?_
  · intro n v w w' h2 hx
    try simp only at h2 ⊢
    split
    · rename_i e; rw [if_pos e] at h2; exact sA _ _ _ h2 hx
    · rename_i e; rw [if_neg e] at h2; exact sB _ _ _ h2 hx
  · intro n hn
    rcases (by simpa using hn : n = j ∨ n = i) with rfl | rfl
    · refine ⟨by simpa [Ne.symm hij] using hoj, fun w h1 h2 => ?_⟩
      simp only [Ne.symm hij, if_false]
      exact j0 w h1 h2
    · refine ⟨by simpa using hoi, fun w h1 h2 => ?_⟩
      simp only [if_true]
      exact i0 w h1 h2
  · intro n hn v hv
    rcases (by simpa using hn : n = j ∨ n = i) with rfl | rfl
    · simp only [Ne.symm hij, if_false] at hv ⊢
      refine Flow.acts [m, i] r3 (by simp) (fun q => if q = i then oi else om) (fun q u w => if q = i then AB u v w else D v u w) ?_ ?_ ?_
      · intro q u w w' h3 hx
        try simp only at h3 ⊢
        split
        · rename_i e; rw [if_pos e] at h3; exact sAB _ _ _ _ h3 hx
        · rename_i e; rw [if_neg e] at h3; exact sD _ _ _ _ h3 hx
      · intro q hq
        rcases (by simpa using hq : q = m ∨ q = i) with rfl | rfl
        · refine ⟨by simpa [Ne.symm him] using hom, fun w h1 h3 => ?_⟩
          simp only [Ne.symm him, if_false]
          exact m1 v w h1 h3
        · refine ⟨by simpa using hoi, fun w h1 h3 => ?_⟩
          simp only [if_true]
          rw [does_put hsi hs.2.2]
          exact i1 v w h1 h3
      · intro q hq u hu
        rcases (by simpa using hq : q = m ∨ q = i) with rfl | rfl
        · simp only [Ne.symm him, if_false] at hu ⊢
          exact k2 v u hu
        · simp only [if_true] at hu ⊢
          have := both u v
          rw [Array.setIfInBounds_comm _ _ hij, Act.put_comm a u v hs.2.1] at this
          exact this
    · simp only [if_true] at hv ⊢
      refine Flow.acts [j] r1 (by simp) (fun _ => oj) (fun _ u w => AB v u w) (fun _ u w w' h hx => sAB _ _ _ _ h hx) ?_ ?_
      · intro n hn
        obtain rfl : n = j := by simpa using hn
        refine ⟨hoj, fun w h2 h3 => ?_⟩
        rw [does_put hsj hs.1]
        exact j1 v w h2 h3
      · intro n hn u hu
        obtain rfl : n = j := by simpa using hn
        exact both v u
end
end Go.Proofs.YtoaoienfggjepaaGreatDoor



/- Runs: what a new thing does. -/
namespace Go.Proofs.YtoaoienfggjepaaGreatDoor
set_option linter.unusedSimpArgs false
set_option linter.unusedVariables false
open Go Go.RowKit

set_option maxRecDepth 100000 in
theorem runnone_any (w : World) : Calls Tryz.prog 69 #[] w fun e w' => e = .returned (.agg #[.string ⟨#[110, 111, 110, 101]⟩, .int .i64 0]) ∧ Ext w w' := by
  have hB := Blk.new w #[.string ⟨#[]⟩, .int .i64 0] 57
  have z0 := hB.av 0 rfl
  have z1 := hB.av 1 rfl
  have f0 := hB.free 0
  have f1 := hB.free 1
  have hx : Ext w (((w.alloc (.cells #[.string ⟨#[]⟩, .int .i64 0] 57)).setCell ⟨w.heap.size, 0, none⟩ (.string ⟨#[110, 111, 110, 101]⟩)).setCell ⟨w.heap.size, 1, none⟩ (.int .i64 0)) :=
    Keep.new ((Ext.refl w).alloc _) ((Keep.set (X := fun g => g = w.heap.size) (Keep.refl _ _) rfl _).set rfl _) fun g e => by subst e; exact Nat.le_refl _
  have c0 := ((hB.set 0 (.string ⟨#[110, 111, 110, 101]⟩)).set 1 (.int .i64 0)).av 0 rfl
  have c1 := ((hB.set 0 (.string ⟨#[110, 111, 110, 101]⟩)).set 1 (.int .i64 0)).av 1 rfl
  simp only [List.setIfInBounds_toArray, List.set_cons_zero, List.set_cons_succ, List.getElem_toArray, List.getElem_cons_zero, List.getElem_cons_succ] at z0 z1 c0 c1
  go_enter Tryz.func69, Tryz.ntmps69
  go_wp2
  refine bodyPost_ret (v := .agg #[.string ⟨#[110, 111, 110, 101]⟩, .int .i64 0]) ?_ rfl ?_
  · simp [results, Tryz.results69, go_sem, c0, c1]
  exact ⟨rfl, (Ext.refl w).alloc _⟩

/-- append of one element to a row of one's own, where the order is left open. -/
theorem does_append_el {ops : Array Oper} {o : Oper} {a : Act} {w : World} {R : Value → World → Prop} (base : Nat) (hbase : base ≤ w.heap.size) (t e : TypeId) (z : Value) (size bytes : Nat) (ht : Tryz.prog.underlying t = some (.slice e)) (hinf : (Tryz.prog.info? e).map (fun i => (i.zero, i.size, i.bytes)) = some (some z, size, bytes)) (hz1 : z.cells.size = size) (hsz : 0 < size)
    (hb8 : bytes ≤ 64) (hg : o.guard = none) (s x : Operand) (ho : o.op = .call { callee := .builtin .append, args := #[s, x], argTypes := #[t, t] })
    (v : Value) (n : Nat) (xs : List Value) (hs : a.eval s = v) (hown : w.ownsRow base e size v n xs) (g : Nat) (us : List Value) (hul : us.length = size) (hu : ∀ u ∈ us, u.oneCell' = true) (hx : a.eval x = .slice (some ⟨g, 0, none⟩) 1 1) (hb : Blk w g us.toArray e) (hl : n ≤ 1000000)
    (h : ∀ v' w', w'.ownsRow base e size v' (n + 1) (xs ++ us) → Keep (fun k => v.ownBlock = some k) w w' → (v'.ownBlock = v.ownBlock ∨ v'.ownBlock = some w.heap.size) → R v' w') : does Tryz.prog ops o a w R := by
  obtain ⟨ti, hi, hz0, hz, hz2⟩ := info_parts hinf
  obtain ⟨v', w', hr, h2, h3, _, h4⟩ := run_append_own_at (P := Tryz.prog) w base t o.type e ti z size bytes ht hi hz0 hz hz2 hz1 hsz v n xs hown ⟨g, 0, none⟩ 1 1 us (by rw [hul]; omega) (fun j q hq => by
    rw [show (⟨g, 0, none⟩ : Addr).add j = ⟨g, j, none⟩ from by by_cases h0 : j = 0 <;> simp [Addr.add, h0], hb.cell j]
    simpa using hq) hu (by simp only [maxLen]; omega) (by
      have : (n + 1) * bytes ≤ (n + 1) * 64 := Nat.mul_le_mul_left _ hb8
      omega) hbase
  exact does_of_run hg (run_exec_append s x t ho hs hx hr) (h v' w' h2 (grown_keep h3) h4)

/-- The state while a thing is being made: the words of the state, its rows. -/
structure RnMid (w : World) (n0 sb : Nat) (vv tb pb tv pv : Value) (s : Rn) : Prop where
  blk : Blk w sb #[vv, tb, pb] 52
  lo : n0 ≤ sb
  vars : w.ownsRow n0 57 2 vv s.vars.length (s.vars.flatMap Vl.cells)
  things : w.ownsRow n0 57 2 tv s.things.length (s.things.flatMap Vl.cells)
  places : w.ownsRow n0 3 1 pv s.places.length (icells s.pl)
  ne : ∀ b, vv.ownBlock = some b → tv.ownBlock ≠ some b
theorem RnAt.mid {w : World} {n0 sb : Nat} {vv tv pv : Value} {s : Rn} (h : RnAt w n0 sb vv tv pv s) : RnMid w n0 sb vv tv pv tv pv s := ⟨h.blk, h.lo, h.vars, h.things, h.places, h.ne⟩
theorem RnMid.at {w : World} {n0 sb : Nat} {vv tv pv : Value} {s : Rn} (h : RnMid w n0 sb vv tv pv tv pv s) : RnAt w n0 sb vv tv pv s := ⟨h.blk, h.lo, h.vars, h.things, h.places, h.ne⟩
theorem RnMid.ext {w w' : World} {n0 sb : Nat} {vv tb pb tv pv : Value} {s : Rn} (h : RnMid w n0 sb vv tb pb tv pv s) (x : Ext w w') : RnMid w' n0 sb vv tb pb tv pv s :=
  ⟨h.blk.ext x, h.lo, own_ext h.vars x, own_ext h.things x, own_ext h.places x, h.ne⟩
theorem RnMid.grow {w w' : World} {n0 sb : Nat} {vv tb pb tv pv : Value} {s : Rn} (h : RnMid w n0 sb vv tb pb tv pv s) {t' : Value} (ho : w'.ownsRow n0 57 2 t' (s.things.length + 1) (s.things.flatMap Vl.cells ++ Vl.cells .none)) (k : Keep (fun q => tv.ownBlock = some q) w w') (hl : t'.ownBlock = tv.ownBlock ∨ t'.ownBlock = some w.heap.size) : RnMid w' n0 sb vv tb pb t' pv { s with things := s.things ++ [.none] } := by
  refine ⟨h.blk.keep k fun e => ?_, h.lo, row_keep h.vars k fun b hb e => h.ne b hb e, ?_, row_keep h.places k fun b hb e => ?_, fun b hb e => ?_⟩
  · obtain ⟨c, hc⟩ := own_ty h.things e
    exact Blk.ty_ne hc h.blk (by decide) rfl
  · have e : (s.things ++ [Vl.none]).flatMap Vl.cells = s.things.flatMap Vl.cells ++ Vl.cells .none := flat_snoc _ _
    simp only [List.length_append, List.length_singleton]
    rw [e]; exact ho
  · obtain ⟨c, hc⟩ := own_ty h.things e
    obtain ⟨d, hd⟩ := own_ty h.places hb
    exact Blk.ty_ne hc hd (by decide) rfl
  · rcases hl with hl | hl
    · exact h.ne b hb (hl ▸ e)
    · rw [hl] at e
      have := (World.ownsRow.lt h.vars b hb).2
      have : w.heap.size = b := by simpa using e
      omega
theorem RnMid.place {w w' : World} {n0 sb k : Nat} {vv tb pb tv pv : Value} {s : Rn} (h : RnMid w n0 sb vv tb pb tv pv s) {p' : Value} (ho : w'.ownsRow n0 3 1 p' (s.places.length + 1) (icells s.pl ++ [.int .i64 (k : Int)])) (kp : Keep (fun q => pv.ownBlock = some q) w w') : RnMid w' n0 sb vv tb pb tv p' { s with places := s.places ++ [k] } := by
  refine ⟨h.blk.keep kp fun e => ?_, h.lo, row_keep h.vars kp fun b hb e => ?_, row_keep h.things kp fun b hb e => ?_, ?_, h.ne⟩
  · obtain ⟨c, hc⟩ := own_ty h.places e
    exact Blk.ty_ne hc h.blk (by decide) rfl
  · obtain ⟨c, hc⟩ := own_ty h.vars hb
    obtain ⟨d, hd⟩ := own_ty h.places e
    exact Blk.ty_ne hc hd (by decide) rfl
  · obtain ⟨c, hc⟩ := own_ty h.things hb
    obtain ⟨d, hd⟩ := own_ty h.places e
    exact Blk.ty_ne hc hd (by decide) rfl
  · have e : icells (Rn.pl { s with places := s.places ++ [k] }) = icells s.pl ++ [.int .i64 (k : Int)] := by simp [Rn.pl, icells]
    simp only [List.length_append, List.length_singleton]
    rw [e]; exact ho
theorem RnMid.sets {w : World} {n0 sb : Nat} {vv tb pb tv pv : Value} {s : Rn} (h : RnMid w n0 sb vv tb pb tv pv s) : RnMid (w.setCell ⟨sb, 1, none⟩ tv) n0 sb vv tv pb tv pv s := by
  have k : Keep (fun q => q = sb) w (w.setCell ⟨sb, 1, none⟩ tv) := Keep.set (X := fun q => q = sb) (Keep.refl _ _) rfl _
  have hb := h.blk.set 1 tv
  simp only [List.setIfInBounds_toArray, List.set_cons_zero, List.set_cons_succ] at hb
  refine ⟨hb, h.lo, row_keep h.vars k fun b hb e => ?_, row_keep h.things k fun b hb e => ?_, row_keep h.places k fun b hb e => ?_, h.ne⟩
  · subst e; obtain ⟨c, hc⟩ := own_ty h.vars (by assumption); exact Blk.ty_ne hc h.blk (by decide) rfl
  · subst e; obtain ⟨c, hc⟩ := own_ty h.things (by assumption); exact Blk.ty_ne hc h.blk (by decide) rfl
  · subst e; obtain ⟨c, hc⟩ := own_ty h.places (by assumption); exact Blk.ty_ne hc h.blk (by decide) rfl
theorem RnMid.setp {w : World} {n0 sb : Nat} {vv tb pb tv pv : Value} {s : Rn} (h : RnMid w n0 sb vv tb pb tv pv s) : RnMid (w.setCell ⟨sb, 2, none⟩ pv) n0 sb vv tb pv tv pv s := by
  have k : Keep (fun q => q = sb) w (w.setCell ⟨sb, 2, none⟩ pv) := Keep.set (X := fun q => q = sb) (Keep.refl _ _) rfl _
  have hb := h.blk.set 2 pv
  simp only [List.setIfInBounds_toArray, List.set_cons_zero, List.set_cons_succ] at hb
  refine ⟨hb, h.lo, row_keep h.vars k fun b hb e => ?_, row_keep h.things k fun b hb e => ?_, row_keep h.places k fun b hb e => ?_, h.ne⟩
  · subst e; obtain ⟨c, hc⟩ := own_ty h.vars (by assumption); exact Blk.ty_ne hc h.blk (by decide) rfl
  · subst e; obtain ⟨c, hc⟩ := own_ty h.things (by assumption); exact Blk.ty_ne hc h.blk (by decide) rfl
  · subst e; obtain ⟨c, hc⟩ := own_ty h.places (by assumption); exact Blk.ty_ne hc h.blk (by decide) rfl

section
variable {P : Program} {ops : Array Oper} {X : Nat → Prop} {w0 : World} {Q : Act → World → Prop} {L : List Nat}
/-- From here on other blocks may be written, by number. -/
theorem Flow.turn1 {listed : Array Bool} {C : World → Prop} {a : Act} (Y : Nat → Prop) (i : Nat) (o : Oper) (ho : ops[i]? = some o) (hr : (Region.ready .any ops listed == [i]) = true)
    (hw : ((List.range listed.size).all fun j => !listed.getD j false || (L.contains j || waits2B ops i j)) = true) (R : Value → World → Prop)
    (hR : ∀ v w w', R v w → Ext w w' → R v w') (h : ∀ w, C w → Keep X w0 w → does P ops o a w (ActR Y w0 R))
    (k : ∀ v, (∃ w, R v w) → Flow P ops w0 Q Y L (listed.setIfInBounds i true) (R v) (a.put o.dst v)) : Flow P ops w0 Q X L listed C a :=
  Flow.turn Y i o R ho (by simpa using hr) (fun j hj => by
    have hjs : j < listed.size := by
      rcases Nat.lt_or_ge j listed.size with h | h
      · exact h
      · rw [Array.getD_eq_getD_getElem?, Array.getElem?_eq_none h] at hj; cases hj
    have h1 := List.all_eq_true.1 hw j (List.mem_range.2 hjs)
    rw [hj] at h1
    simp only [Bool.not_true, Bool.false_or, Bool.or_eq_true] at h1
    exact h1.imp (fun h => by simpa using h) waits2_of) h (fun v hv => Flow.mono (k v hv) fun _ ⟨_, hw, he⟩ => hR _ _ _ hw he)
theorem Flow.l {listed : Array Bool} {C : World → Prop} {a : Act} {v : Value} (i : Nat) (o : Oper) (ho : ops[i]? = some o) (hr : (Region.ready .any ops listed).contains i = true)
    (h : ∀ w, does P ops o a w (DetR v w)) (k : Flow P ops w0 Q X (i :: L) (listed.setIfInBounds i true) C (a.put o.dst v)) : Flow P ops w0 Q X L listed C a :=
  Flow.loose i o v ho (by simpa using hr) h k
end
/-- One number in a new block; one value that is none. -/
def IntOne (k : Nat) (u : Value) (w : World) : Prop := ∃ b, u = .slice (some ⟨b, 0, none⟩) 1 1 ∧ Blk w b #[.int .i64 (k : Int)] 3
theorem IntOne.ext {k : Nat} {u : Value} {w w' : World} (h : IntOne k u w) (x : Ext w w') : IntOne k u w' := by
  obtain ⟨b, e, hb⟩ := h
  exact ⟨b, e, hb.ext x⟩
theorem IntOne.mk (k : Nat) (w : World) : IntOne k (.slice (some ⟨w.heap.size, 0, none⟩) 1 1) (w.alloc (.cells #[.int .i64 (k : Int)] 3)) := ⟨_, rfl, Blk.new _ _ _⟩
theorem IntOne.keep {X : Nat → Prop} {k : Nat} {u : Value} {w w' : World} (h : IntOne k u w) (x : Keep X w w') (hX : ∀ i, X i → ∃ c, Blk w i c 57) : IntOne k u w' := by
  obtain ⟨b, e, hb⟩ := h
  refine ⟨b, e, hb.keep x fun hx => ?_⟩
  obtain ⟨c, hc⟩ := hX b hx
  exact Blk.ty_ne hb hc (by decide) rfl
def NoneOne (u : Value) (w : World) : Prop := ∃ b, u = .slice (some ⟨b, 0, none⟩) 1 1 ∧ Blk w b (Vl.cells .none).toArray 57
theorem NoneOne.ext {u : Value} {w w' : World} (h : NoneOne u w) (x : Ext w w') : NoneOne u w' := by
  obtain ⟨b, e, hb⟩ := h
  exact ⟨b, e, hb.ext x⟩
theorem NoneOne.mk (w : World) : NoneOne (.slice (some ⟨w.heap.size, 0, none⟩) 1 1) (w.alloc (.cells #[.string ⟨#[110, 111, 110, 101]⟩, .int .i64 0] 57)) := ⟨_, rfl, Blk.new _ _ _⟩
set_option maxRecDepth 100000 in
set_option maxHeartbeats 12800000 in
theorem stdo_new (a1 a2 a3 : Option Addr) (c1 c2 c3 : Nat) (P : PP) (k : Nat) (x : PS) (hxk : P.stmts[k]? = some x) (hg : P.Good x) (hkx : x.isK kNew = true)  (s : Rn) (hs : s.Ok P) (w : World) (n0 sb : Nat) (vv tv pv : Value) (hR : RnAt w n0 sb vv tv pv s) (hP : ProgR w n0 (.slice a1 P.vars.length c1) (.slice a2 P.funs.length c2) (.slice a3 P.stmts.length c3) P) (hn0 : n0 ≤ w.heap.size) (hsm : s.things.length ≤ 100000) :
    Calls Tryz.prog 70 #[.pointer (some ⟨sb, 0, none⟩), pval a1 a2 a3 c1 c2 c3 P, .int .i64 (k : Int)] w fun e w' => e = .returned (.tuple #[]) ∧ (∃ vv' tv' pv', RnAt w' n0 sb vv' tv' pv' (s.stmt P k x)) ∧ Old n0 w w' := by
  have hk : k < P.stmts.length := by
    rcases Nat.lt_or_ge k P.stmts.length with h | h
    · exact h
    · rw [List.getElem?_eq_none h] at hxk; cases hxk
  have hml := hP.stmts.len
  obtain ⟨W1, hW1⟩ : ∃ W1, W1 = w.alloc (.cells (pcells a1 a2 a3 c1 c2 c3 P) 39) := ⟨_, rfl⟩
  have hx1 : Ext w W1 := by rw [hW1]; exact (Ext.refl _).alloc _
  obtain ⟨y, x', av, cv, rfl, hxk', e0, e1, e2, e3, hI⟩ := (hP.ext hx1).stmts.at hk
  obtain rfl := Option.some.inj (hxk.symm.trans hxk')
  obtain ⟨W2, hW2⟩ : ∃ W2, W2 = W1.alloc (.cells (scells x av cv) 48) := ⟨_, rfl⟩
  have hx2 : Ext W1 W2 := by rw [hW2]; exact (Ext.refl _).alloc _
  have HW2 := hid (hx1.trans hx2)
  have HB1 : Hid (Blk W2 w.heap.size (pcells a1 a2 (some y) c1 c2 c3 P) 39) := hid (by
    have : Blk W1 w.heap.size (pcells a1 a2 (some y) c1 c2 c3 P) 39 := by rw [hW1]; exact Blk.new _ _ _
    exact this.ext hx2)
  have hs1 : W1.heap.size = w.heap.size + 1 := by rw [hW1, heap_size_alloc]
  have HB2 : Hid (Blk W2 (w.heap.size + 1) (scells x av cv) 48) := hid (by
    rw [← hs1, hW2]; exact Blk.new _ _ _)
  have HR2 := hid (hR.ext HW2.out)
  have HP2 := hid (hP.ext HW2.out)
  have HI := hid (hI.old (hx2.old n0))
  have Hs := hid hs
  have Hg := hid hg
  have Hn0 := hid hn0
  have hgx := hg.gx
  rw [hW1] at e0 e1 e2 e3
  have HW2e : Hid (W2 = (w.alloc (.cells #[.slice a1 P.vars.length c1, .slice a2 P.funs.length c2, .slice (some y) P.stmts.length c3] 39)).alloc (.cells #[.string x.kind, .int .i64 x.x, .int .i64 x.y, .slice av x.args.length cv] 48)) := hid (by rw [hW2, hW1]; rfl)
  unfold pcells at e0 e1 e2 e3
  obtain ⟨X, hX⟩ := Int.eq_ofNat_of_zero_le hgx.1
  have HX : Hid (X < s.vars.length) := hid (by rw [hs.lv]; omega)
  have HXe := hid hX
  have hXl := HX.out
  obtain ⟨g, cap, hvv⟩ := own_some hR.vars (by have := HX.out; omega)
  subst hvv
  have hnv : s.vars.length = P.vars.length := hs.lv
  have d0 := HR2.out.blk.kc (X := fun _ => False) (fun e => e) 0 rfl
  have d1 := HR2.out.blk.kc (X := fun _ => False) (fun e => e) 1 rfl
  have d2 := HR2.out.blk.kc (X := fun _ => False) (fun e => e) 2 rfl
  have m1 := HB2.out.kc (X := fun _ => False) (fun e => e) 1 rfl
  have m2 := HB2.out.kc (X := fun _ => False) (fun e => e) 2 rfl
  have m3 := HB2.out.kc (X := fun _ => False) (fun e => e) 3 rfl
  simp only [scells, List.getElem_toArray, List.getElem_cons_zero, List.getElem_cons_succ] at d0 d1 d2 m1 m2 m3
  rw [hX] at m1
  have hsbl := hR.blk.lt
  have Hkx := hid hkx
  have hkk := hkx
  unfold PS.isK kNew at hkk
  clear hxk hxk' hW1 hW2 hx1 hx2 hs1 hR hP hI hs hg hX hgx hkx hn0
  unfold pval
  have h1 : (x.kind.toList == [97, 100, 100, 114]) = false := isK_ne Hkx.out (k' := kAddr) rfl
  have h2 : (x.kind.toList == [99, 111, 112, 121]) = false := isK_ne Hkx.out (k' := kCopy) rfl
  have h3 : (x.kind.toList == [108, 111, 97, 100]) = false := isK_ne Hkx.out (k' := kLoad) rfl
  have h4 : (x.kind.toList == [115, 116, 111, 114, 101]) = false := isK_ne Hkx.out (k' := kStore) rfl
  obtain ⟨ta, tc, rfl⟩ := row_form HR2.out.things
  obtain ⟨pa, pc, rfl⟩ := row_form HR2.out.places
  have hsN : Hid (¬ ((Value.slice ta s.things.length tc).ownBlock = some sb ∨ (Value.slice pa s.places.length pc).ownBlock = some sb)) := hid (by
    rintro (e | e)
    · exact HR2.out.tb e rfl
    · exact HR2.out.pb e rfl)
  have e1 := HR2.out.blk.kc (X := fun q => (Value.slice ta s.things.length tc).ownBlock = some q ∨ (Value.slice pa s.places.length pc).ownBlock = some q) hsN.out 1 rfl
  have e2 := HR2.out.blk.kc (X := fun q => (Value.slice ta s.things.length tc).ownBlock = some q ∨ (Value.slice pa s.places.length pc).ownBlock = some q) hsN.out 2 rfl
  simp only [List.getElem_toArray, List.getElem_cons_zero, List.getElem_cons_succ] at e1 e2
  have Hsm := hid hsm
  have Hsp : Hid (s.places.length ≤ 1000000) := hid (by rw [Hs.out.lp]; omega)
  have Hnb : Hid (n0 ≤ W2.heap.size) := hid (Nat.le_trans Hn0.out HW2.out.size)
  have HYo : Hid (∀ q, q < W2.heap.size → (((Value.slice ta s.things.length tc).ownBlock = some q ∨ (Value.slice pa s.places.length pc).ownBlock = some q) ∨ q = sb) → n0 ≤ q) := hid fun q _ h => h.elim (fun h => h.elim (fun e => HR2.out.tlo e) (fun e => (World.ownsRow.lt HR2.out.places q e).1)) (fun e => e ▸ HR2.out.lo)
  have HNb2 : Hid (¬ (((Value.slice ta s.things.length tc).ownBlock = some (w.heap.size + 1) ∨ (Value.slice pa s.places.length pc).ownBlock = some (w.heap.size + 1)) ∨ w.heap.size + 1 = sb)) := hid (by
    rintro ((e | e) | e)
    · obtain ⟨c, hc⟩ := own_ty HR2.out.things e
      exact Blk.ty_ne hc HB2.out (by decide) rfl
    · obtain ⟨c, hc⟩ := own_ty HR2.out.places e
      exact Blk.ty_ne hc HB2.out (by decide) rfl
    · omega)
  have HNo : ∀ w1, Hid (Calls Tryz.prog 69 #[] w1 fun e w' => e = .returned (.agg #[.string ⟨#[110, 111, 110, 101]⟩, .int .i64 0]) ∧ Ext w1 w') := fun w1 => hid (runnone_any w1)
  have Hnv := hid hnv
  clear d0 d1 d2 m2 m3 hnv
  go_enter Tryz.func70, Tryz.ntmps70
  go_wp2
  rw [← HW2e.out]
  refine wp_flow (fun q => (Value.slice ta s.things.length tc).ownBlock = some q ∨ (Value.slice pa s.places.length pc).ownBlock = some q) (by kernel_rfl) (by kernel_rfl) ?_
  apply Flow.d 0 _ rfl (by simp) (by kernel_rfl)
  · intro w1 hk; unfold does; go_simp; (try go_ints); exact DetR.mk
  simp only [List.getElem_toArray, List.getElem_cons_zero, List.getElem_cons_succ, Act.put, List.setIfInBounds_toArray, List.set_cons_zero, List.set_cons_succ]
  apply Flow.l 1 _ rfl (by kernel_rfl)
  · intro w1; unfold does; go_simp; exact DetR.mk
  simp only [List.getElem_toArray, List.getElem_cons_zero, List.getElem_cons_succ, Act.put, List.setIfInBounds_toArray, List.set_cons_zero, List.set_cons_succ]
  apply Flow.d 2 _ rfl (by simp) (by kernel_rfl)
  · intro w1 hk; unfold does; go_simp; (try go_ints); exact DetR.mk
  simp only [List.getElem_toArray, List.getElem_cons_zero, List.getElem_cons_succ, Act.put, List.setIfInBounds_toArray, List.set_cons_zero, List.set_cons_succ]
  apply Flow.d 3 _ rfl (by simp) (by kernel_rfl)
  · intro w1 hk; unfold does; go_simp; (try go_ints); exact DetR.mk
  simp only [List.getElem_toArray, List.getElem_cons_zero, List.getElem_cons_succ, Act.put, List.setIfInBounds_toArray, List.set_cons_zero, List.set_cons_succ]
  apply Flow.d 4 _ rfl (by simp) (by kernel_rfl)
  · intro w1 hk; unfold does; go_simp; (try go_ints); exact DetR.mk
  simp only [List.getElem_toArray, List.getElem_cons_zero, List.getElem_cons_succ, Act.put, List.setIfInBounds_toArray, List.set_cons_zero, List.set_cons_succ]
  apply Flow.d 5 _ rfl (by simp) (by kernel_rfl)
  · intro w1 hk; unfold does; go_simp; (try go_ints); exact DetR.mk
  simp only [List.getElem_toArray, List.getElem_cons_zero, List.getElem_cons_succ, Act.put, List.setIfInBounds_toArray, List.set_cons_zero, List.set_cons_succ]
  apply Flow.d 6 _ rfl (by simp) (by kernel_rfl)
  · intro w1 hk
    unfold does
    go_simp
    exact CallR.det (HNo w1).out
  simp only [List.getElem_toArray, List.getElem_cons_zero, List.getElem_cons_succ, Act.put, List.setIfInBounds_toArray, List.set_cons_zero, List.set_cons_succ]
  apply Flow.l 9 _ rfl (by kernel_rfl)
  · intro w1; unfold does; go_simp; exact DetR.mk
  simp only [List.getElem_toArray, List.getElem_cons_zero, List.getElem_cons_succ, Act.put, List.setIfInBounds_toArray, List.set_cons_zero, List.set_cons_succ]
  apply Flow.l 10 _ rfl (by kernel_rfl)
  · intro w1; unfold does; go_simp; exact DetR.mk
  simp only [List.getElem_toArray, List.getElem_cons_zero, List.getElem_cons_succ, Act.put, List.setIfInBounds_toArray, List.set_cons_zero, List.set_cons_succ]
  apply Flow.l 11 _ rfl (by kernel_rfl)
  · intro w1; unfold does; go_simp; exact DetR.mk
  simp only [List.getElem_toArray, List.getElem_cons_zero, List.getElem_cons_succ, Act.put, List.setIfInBounds_toArray, List.set_cons_zero, List.set_cons_succ]
  apply Flow.d 12 _ rfl (by simp) (by kernel_rfl)
  · intro w1 hk; unfold does; go_simp; (try go_ints); exact DetR.mk
  simp only [List.getElem_toArray, List.getElem_cons_zero, List.getElem_cons_succ, Act.put, List.setIfInBounds_toArray, List.set_cons_zero, List.set_cons_succ]
  apply Flow.l 13 _ rfl (by kernel_rfl)
  · intro w1; unfold does; go_simp; exact DetR.mk
  simp only [List.getElem_toArray, List.getElem_cons_zero, List.getElem_cons_succ, Act.put, List.setIfInBounds_toArray, List.set_cons_zero, List.set_cons_succ]
  refine Flow.par3g 7 8 14 _ _ _ rfl rfl rfl (by decide) (by decide) (fun _ _ h => by cases h) (fun _ _ h => by cases h) (fun _ _ h => by cases h) (by kernel_rfl) (by kernel_rfl) (by kernel_rfl) (by kernel_rfl) (by kernel_rfl) (by kernel_rfl)
    (fun u w' => IntOne k u w' ∧ RnMid w' n0 sb (.slice (some ⟨g, 0, none⟩) s.vars.length cap) (.slice ta s.things.length tc) (.slice pa s.places.length pc) (.slice ta s.things.length tc) (.slice pa s.places.length pc) s ∧ n0 ≤ w'.heap.size)
    (fun v w' => NoneOne v w' ∧ RnMid w' n0 sb (.slice (some ⟨g, 0, none⟩) s.vars.length cap) (.slice ta s.things.length tc) (.slice pa s.places.length pc) (.slice ta s.things.length tc) (.slice pa s.places.length pc) s ∧ n0 ≤ w'.heap.size)
    (fun u v w' => IntOne k u w' ∧ NoneOne v w' ∧ RnMid w' n0 sb (.slice (some ⟨g, 0, none⟩) s.vars.length cap) (.slice ta s.things.length tc) (.slice pa s.places.length pc) (.slice ta s.things.length tc) (.slice pa s.places.length pc) s ∧ n0 ≤ w'.heap.size)
    (fun _ t w' => (∃ a c, t = .slice a (s.things.length + 1) c) ∧ RnMid w' n0 sb (.slice (some ⟨g, 0, none⟩) s.vars.length cap) (.slice ta s.things.length tc) (.slice pa s.places.length pc) t (.slice pa s.places.length pc) { s with things := s.things ++ [.none] } ∧ n0 ≤ w'.heap.size)
    (fun u _ t w' => IntOne k u w' ∧ (∃ a c, t = .slice a (s.things.length + 1) c) ∧ RnMid w' n0 sb (.slice (some ⟨g, 0, none⟩) s.vars.length cap) (.slice ta s.things.length tc) (.slice pa s.places.length pc) t (.slice pa s.places.length pc) { s with things := s.things ++ [.none] } ∧ n0 ≤ w'.heap.size)
    (fun _ _ _ h y => ⟨h.1.ext y, h.2.1.ext y, Nat.le_trans h.2.2 y.size⟩) (fun _ _ _ h y => ⟨h.1.ext y, h.2.1.ext y, Nat.le_trans h.2.2 y.size⟩)
    (fun _ _ _ _ h y => ⟨h.1.ext y, h.2.1.ext y, h.2.2.1.ext y, Nat.le_trans h.2.2.2 y.size⟩) (fun _ _ _ _ h y => ⟨h.1, h.2.1.ext y, Nat.le_trans h.2.2 y.size⟩) (fun _ _ _ _ _ h y => ⟨h.1.ext y, h.2.1, h.2.2.1.ext y, Nat.le_trans h.2.2.2 y.size⟩) ?_ ?_ ?_ ?_ ?_ ?_ ?_ ?_
  · intro wa hC hk
    unfold does
    go_simp
    exact ⟨hk.alloc _, IntOne.mk k wa, (HR2.out.mid.ext hC).ext ((Ext.refl _).alloc _), Nat.le_trans Hnb.out (hC.alloc _).size⟩
  · intro wa hC hk
    unfold does
    go_simp
    exact ⟨hk.alloc _, NoneOne.mk wa, (HR2.out.mid.ext hC).ext ((Ext.refl _).alloc _), Nat.le_trans Hnb.out (hC.alloc _).size⟩
  · rintro _ wa ⟨hN, hM, hn⟩ hk
    unfold does
    go_simp
    exact ⟨hk.alloc _, IntOne.mk k wa, hN.ext ((Ext.refl _).alloc _), hM.ext ((Ext.refl _).alloc _), Nat.le_trans hn ((Ext.refl _).alloc _).size⟩
  · rintro _ wa ⟨hI, hM, hn⟩ hk
    unfold does
    go_simp
    exact ⟨hk.alloc _, hI.ext ((Ext.refl _).alloc _), NoneOne.mk wa, hM.ext ((Ext.refl _).alloc _), Nat.le_trans hn ((Ext.refl _).alloc _).size⟩
  · rintro _ wa ⟨⟨b, rfl, hb⟩, hM, hn⟩ hk
    refine does_append_el n0 hn 50 57 (.agg #[.string ⟨#[]⟩, .int .i64 0]) 2 24 Tryz.underlying50 rval_info rfl (by omega) (by omega) rfl _ _ rfl (.slice ta s.things.length tc) s.things.length (s.things.flatMap Vl.cells) rfl hM.things b (Vl.cells .none) rfl (by simp [Vl.cells, Value.oneCell']) rfl hb (by have := Hsm.out; omega) ?_
    intro v' w' ho hk' hl
    exact ⟨hk.trans (hk'.mono fun q _ e => .inl e), row_form ho, hM.grow ho hk' hl, Nat.le_trans hn hk'.size⟩
  · rintro u _ wa ⟨hI, ⟨b, rfl, hb⟩, hM, hn⟩ hk
    refine does_append_el n0 hn 50 57 (.agg #[.string ⟨#[]⟩, .int .i64 0]) 2 24 Tryz.underlying50 rval_info rfl (by omega) (by omega) rfl _ _ rfl (.slice ta s.things.length tc) s.things.length (s.things.flatMap Vl.cells) rfl hM.things b (Vl.cells .none) rfl (by simp [Vl.cells, Value.oneCell']) rfl hb (by have := Hsm.out; omega) ?_
    intro v' w' ho hk' hl
    exact ⟨hk.trans (hk'.mono fun q _ e => .inl e), hI.keep hk' (fun i hi => by
      obtain ⟨c, hc⟩ := own_ty hM.things hi
      exact ⟨c, hc⟩), row_form ho, hM.grow ho hk' hl, Nat.le_trans hn hk'.size⟩
  · rintro _ _ _ ⟨_, ⟨b, rfl, _⟩, ⟨at', ct', rfl⟩, _, _⟩
    simp only [List.getElem_toArray, List.getElem_cons_zero, List.getElem_cons_succ, Act.put, List.setIfInBounds_toArray, List.set_cons_zero, List.set_cons_succ]
    refine Flow.one 15 _ rfl (by kernel_rfl) (fun u w' => (∃ a c, u = .slice a (s.places.length + 1) c) ∧ RnMid w' n0 sb (.slice (some ⟨g, 0, none⟩) s.vars.length cap) (.slice ta s.things.length tc) (.slice pa s.places.length pc) (.slice at' (s.things.length + 1) ct') u { s with things := s.things ++ [.none], places := s.places ++ [k] }) (fun _ _ _ h y => ⟨h.1, h.2.ext y⟩) ?_ ?_
    · rintro wa ⟨⟨b', eb, hb⟩, hC⟩ hk
      obtain rfl : b = b' := by simpa using eb
      obtain ⟨hM, hn⟩ : RnMid wa n0 sb (.slice (some ⟨g, 0, none⟩) s.vars.length cap) (.slice ta s.things.length tc) (.slice pa s.places.length pc) (.slice at' (s.things.length + 1) ct') (.slice pa s.places.length pc) { s with things := s.things ++ [.none] } ∧ n0 ≤ wa.heap.size := by first | exact hC.2 | exact hC
      refine does_append_el n0 hn 22 3 (.int .i64 0) 1 8 Tryz.underlying22 ints_info rfl (by omega) (by omega) rfl _ _ rfl (.slice pa s.places.length pc) s.places.length (icells s.pl) rfl hM.places b [.int .i64 (k : Int)] rfl (by simp [Value.oneCell']) rfl hb Hsp.out ?_
      intro v' w' ho hk' hl
      exact ⟨hk.trans (hk'.mono fun q _ e => .inr e), row_form ho, hM.place ho hk'⟩
    rintro _ ⟨_, ⟨ap, cp, rfl⟩, _⟩
    simp only [List.getElem_toArray, List.getElem_cons_zero, List.getElem_cons_succ, Act.put, List.setIfInBounds_toArray, List.set_cons_zero, List.set_cons_succ]
    apply Flow.d 16 _ rfl (by simp) (by kernel_rfl)
    · intro w1 hk; unfold does; go_simp; (try go_ints); exact DetR.mk
    simp only [List.getElem_toArray, List.getElem_cons_zero, List.getElem_cons_succ, Act.put, List.setIfInBounds_toArray, List.set_cons_zero, List.set_cons_succ]
    apply Flow.d 17 _ rfl (by simp) (by kernel_rfl)
    · intro w1 hk; unfold does; go_simp; (try go_ints); exact DetR.mk
    simp only [List.getElem_toArray, List.getElem_cons_zero, List.getElem_cons_succ, Act.put, List.setIfInBounds_toArray, List.set_cons_zero, List.set_cons_succ]
    refine Flow.turn1 (fun q => ((Value.slice ta s.things.length tc).ownBlock = some q ∨ (Value.slice pa s.places.length pc).ownBlock = some q) ∨ q = sb) 18 _ rfl (by kernel_rfl) (by kernel_rfl) (fun _ w' => RnMid w' n0 sb (.slice (some ⟨g, 0, none⟩) s.vars.length cap) (.slice at' (s.things.length + 1) ct') (.slice pa s.places.length pc) (.slice at' (s.things.length + 1) ct') (.slice ap (s.places.length + 1) cp) { s with things := s.things ++ [.none], places := s.places ++ [k] }) (fun _ _ _ h y => h.ext y) ?_ ?_
    · rintro wa ⟨_, hM⟩ hk
      have z1 := hM.blk.av 1 rfl
      have f1 := hM.blk.free 1
      have hM2 := hM.sets
      have hk3 : Keep (fun q => ((Value.slice ta s.things.length tc).ownBlock = some q ∨ (Value.slice pa s.places.length pc).ownBlock = some q) ∨ q = sb) W2 (wa.setCell ⟨sb, 1, none⟩ (.slice at' (s.things.length + 1) ct')) := (hk.mono fun _ _ h => .inl h).trans (Keep.set (X := fun q => ((Value.slice ta s.things.length tc).ownBlock = some q ∨ (Value.slice pa s.places.length pc).ownBlock = some q) ∨ q = sb) (Keep.refl _ _) (.inr rfl) _)
      clear hk
      unfold does
      go_simp
      exact ⟨hk3, hM2⟩
    rintro _ ⟨_, _⟩
    simp only [List.getElem_toArray, List.getElem_cons_zero, List.getElem_cons_succ, Act.put, List.setIfInBounds_toArray, List.set_cons_zero, List.set_cons_succ]
    apply Flow.d 19 _ rfl (by simp) (by kernel_rfl)
    · intro w1 hk; unfold does; go_simp; (try go_ints); exact DetR.mk
    simp only [List.getElem_toArray, List.getElem_cons_zero, List.getElem_cons_succ, Act.put, List.setIfInBounds_toArray, List.set_cons_zero, List.set_cons_succ]
    apply Flow.d 20 _ rfl (by simp) (by kernel_rfl)
    · intro w1 hk; unfold does; go_simp; (try go_ints); exact DetR.mk
    simp only [List.getElem_toArray, List.getElem_cons_zero, List.getElem_cons_succ, Act.put, List.setIfInBounds_toArray, List.set_cons_zero, List.set_cons_succ]
    refine Flow.one 21 _ rfl (by kernel_rfl) (fun _ w' => RnMid w' n0 sb (.slice (some ⟨g, 0, none⟩) s.vars.length cap) (.slice at' (s.things.length + 1) ct') (.slice ap (s.places.length + 1) cp) (.slice at' (s.things.length + 1) ct') (.slice ap (s.places.length + 1) cp) { s with things := s.things ++ [.none], places := s.places ++ [k] }) (fun _ _ _ h y => h.ext y) ?_ ?_
    · rintro wa hM hk
      have z1 := hM.blk.av 2 rfl
      have f1 := hM.blk.free 2
      have hM2 := hM.setp
      have hk3 : Keep (fun q => ((Value.slice ta s.things.length tc).ownBlock = some q ∨ (Value.slice pa s.places.length pc).ownBlock = some q) ∨ q = sb) W2 (wa.setCell ⟨sb, 2, none⟩ (.slice ap (s.places.length + 1) cp)) := hk.trans (Keep.set (X := fun q => ((Value.slice ta s.things.length tc).ownBlock = some q ∨ (Value.slice pa s.places.length pc).ownBlock = some q) ∨ q = sb) (Keep.refl _ _) (.inr rfl) _)
      clear hk
      unfold does
      go_simp
      exact ⟨hk3, hM2⟩
    rintro _ ⟨_, _⟩
    simp only [List.getElem_toArray, List.getElem_cons_zero, List.getElem_cons_succ, Act.put, List.setIfInBounds_toArray, List.set_cons_zero, List.set_cons_succ]
    refine Flow.fin (by kernel_rfl) fun w9 hM9 hk9 => ?_
    have HR9 := hid hM9.at
    have HB9 := hid (HB2.out.keep hk9 HNb2.out)
    have HW9 := hid ((HW2.out.old n0).trans (hk9.mono HYo.out))
    have d0 := HR9.out.blk.kc (X := fun _ => False) (fun e => e) 0 rfl
    have d1 := HR9.out.blk.kc (X := fun _ => False) (fun e => e) 1 rfl
    have m1' := HB9.out.kc (X := fun _ => False) (fun e => e) 1 rfl
    simp only [scells, List.getElem_toArray, List.getElem_cons_zero, List.getElem_cons_succ] at d0 d1 m1'
    rw [HXe.out] at m1'
    clear hM9 hk9 m1 e1 e2
    go_wp2
    refine wp_flowT (fun _ => False) (by kernel_rfl) (by kernel_rfl) ?_
    repeat (apply FlowT.d; (intro w1 hk; unfold does; go_simp; (try go_ints); (first | exact DetR.mk | (simp only [↓IntWalk.iteOmega, Oper.doesUpon_value]; exact DetR.mk) | (simp only [↓IntWalk.iteOmega]; go_simp; (try go_ints); exact DetR.mk))); simp only [Act.put, List.setIfInBounds_toArray, List.set_cons_zero, List.set_cons_succ])
    refine FlowT.last (fun _ w' => ∃ w2, Ext w9 w2 ∧ w' = store2 w2 g (X * 2) (.thing s.things.length)) 14 rfl (by kernel_rfl) (by kernel_rfl) (fun w2 hx hk => ?_) (fun _ w4 hR4 => ?_)
    · have hV : w2.ownsRow n0 57 2 (.slice (some ⟨g, 0, none⟩) s.vars.length cap) s.vars.length (s.vars.flatMap Vl.cells) := (HR9.out.ext hx).vars
      obtain ⟨q0, q1⟩ := own_v hV (at_some HX.out)
      have f0 := own_free hV (X * 2)
      have f1 := own_free hV (X * 2 + 1)
      unfold does
      go_simp
      exact ⟨w2, hx, rfl⟩
    obtain ⟨w2, hx2, rfl⟩ := hR4
    simp only [Act.put]
    have HS : Hid (s.stmt P k x = { s with vars := s.vars.set X (.thing s.things.length), things := s.things ++ [.none], places := s.places ++ [k] }) := hid (by
      unfold Rn.stmt; rw [isK_ne Hkx.out (k' := kAddr) rfl, isK_ne Hkx.out (k' := kCopy) rfl, isK_ne Hkx.out (k' := kLoad) rfl, isK_ne Hkx.out (k' := kStore) rfl, Hkx.out]; simp only [cond_true, cond_false, Rn.set, HXe.out, Int.toNat_natCast])
    have HR10 := hid ((HR9.out.ext hx2).putV X HX.out (.thing s.things.length))
    have HO := hid ((HW9.out.trans (hx2.old n0)).trans (store2_old (y := .thing s.things.length) (i := X * 2) (HR9.out.vlo (b := g) rfl)))
    clear hx2
    go_wp2
    go_end0
    exact ⟨rfl, ⟨_, _, _, by rw [HS.out]; exact HR10.out⟩, HO.out⟩
  · rintro _ _ ⟨_, ⟨at', ct', rfl⟩, _, _⟩
    simp only [List.getElem_toArray, List.getElem_cons_zero, List.getElem_cons_succ, Act.put, List.setIfInBounds_toArray, List.set_cons_zero, List.set_cons_succ]
    refine Flow.one 14 _ rfl (by kernel_rfl) (fun u w' => IntOne k u w' ∧ RnMid w' n0 sb (.slice (some ⟨g, 0, none⟩) s.vars.length cap) (.slice ta s.things.length tc) (.slice pa s.places.length pc) (.slice at' (s.things.length + 1) ct') (.slice pa s.places.length pc) { s with things := s.things ++ [.none] } ∧ n0 ≤ w'.heap.size) (fun _ _ _ h y => ⟨h.1.ext y, h.2.1.ext y, Nat.le_trans h.2.2 y.size⟩) ?_ ?_
    · rintro wa ⟨_, hM, hn⟩ hk
      unfold does
      go_simp
      exact ⟨hk.alloc _, IntOne.mk k wa, hM.ext ((Ext.refl _).alloc _), Nat.le_trans hn ((Ext.refl _).alloc _).size⟩
    rintro _ ⟨_, ⟨b, rfl, _⟩, _, _⟩
    simp only [List.getElem_toArray, List.getElem_cons_zero, List.getElem_cons_succ, Act.put, List.setIfInBounds_toArray, List.set_cons_zero, List.set_cons_succ]
    refine Flow.one 15 _ rfl (by kernel_rfl) (fun u w' => (∃ a c, u = .slice a (s.places.length + 1) c) ∧ RnMid w' n0 sb (.slice (some ⟨g, 0, none⟩) s.vars.length cap) (.slice ta s.things.length tc) (.slice pa s.places.length pc) (.slice at' (s.things.length + 1) ct') u { s with things := s.things ++ [.none], places := s.places ++ [k] }) (fun _ _ _ h y => ⟨h.1, h.2.ext y⟩) ?_ ?_
    · rintro wa ⟨⟨b', eb, hb⟩, hC⟩ hk
      obtain rfl : b = b' := by simpa using eb
      obtain ⟨hM, hn⟩ : RnMid wa n0 sb (.slice (some ⟨g, 0, none⟩) s.vars.length cap) (.slice ta s.things.length tc) (.slice pa s.places.length pc) (.slice at' (s.things.length + 1) ct') (.slice pa s.places.length pc) { s with things := s.things ++ [.none] } ∧ n0 ≤ wa.heap.size := by first | exact hC.2 | exact hC
      refine does_append_el n0 hn 22 3 (.int .i64 0) 1 8 Tryz.underlying22 ints_info rfl (by omega) (by omega) rfl _ _ rfl (.slice pa s.places.length pc) s.places.length (icells s.pl) rfl hM.places b [.int .i64 (k : Int)] rfl (by simp [Value.oneCell']) rfl hb Hsp.out ?_
      intro v' w' ho hk' hl
      exact ⟨hk.trans (hk'.mono fun q _ e => .inr e), row_form ho, hM.place ho hk'⟩
    rintro _ ⟨_, ⟨ap, cp, rfl⟩, _⟩
    simp only [List.getElem_toArray, List.getElem_cons_zero, List.getElem_cons_succ, Act.put, List.setIfInBounds_toArray, List.set_cons_zero, List.set_cons_succ]
    apply Flow.d 16 _ rfl (by simp) (by kernel_rfl)
    · intro w1 hk; unfold does; go_simp; (try go_ints); exact DetR.mk
    simp only [List.getElem_toArray, List.getElem_cons_zero, List.getElem_cons_succ, Act.put, List.setIfInBounds_toArray, List.set_cons_zero, List.set_cons_succ]
    apply Flow.d 17 _ rfl (by simp) (by kernel_rfl)
    · intro w1 hk; unfold does; go_simp; (try go_ints); exact DetR.mk
    simp only [List.getElem_toArray, List.getElem_cons_zero, List.getElem_cons_succ, Act.put, List.setIfInBounds_toArray, List.set_cons_zero, List.set_cons_succ]
    refine Flow.turn1 (fun q => ((Value.slice ta s.things.length tc).ownBlock = some q ∨ (Value.slice pa s.places.length pc).ownBlock = some q) ∨ q = sb) 18 _ rfl (by kernel_rfl) (by kernel_rfl) (fun _ w' => RnMid w' n0 sb (.slice (some ⟨g, 0, none⟩) s.vars.length cap) (.slice at' (s.things.length + 1) ct') (.slice pa s.places.length pc) (.slice at' (s.things.length + 1) ct') (.slice ap (s.places.length + 1) cp) { s with things := s.things ++ [.none], places := s.places ++ [k] }) (fun _ _ _ h y => h.ext y) ?_ ?_
    · rintro wa ⟨_, hM⟩ hk
      have z1 := hM.blk.av 1 rfl
      have f1 := hM.blk.free 1
      have hM2 := hM.sets
      have hk3 : Keep (fun q => ((Value.slice ta s.things.length tc).ownBlock = some q ∨ (Value.slice pa s.places.length pc).ownBlock = some q) ∨ q = sb) W2 (wa.setCell ⟨sb, 1, none⟩ (.slice at' (s.things.length + 1) ct')) := (hk.mono fun _ _ h => .inl h).trans (Keep.set (X := fun q => ((Value.slice ta s.things.length tc).ownBlock = some q ∨ (Value.slice pa s.places.length pc).ownBlock = some q) ∨ q = sb) (Keep.refl _ _) (.inr rfl) _)
      clear hk
      unfold does
      go_simp
      exact ⟨hk3, hM2⟩
    rintro _ ⟨_, _⟩
    simp only [List.getElem_toArray, List.getElem_cons_zero, List.getElem_cons_succ, Act.put, List.setIfInBounds_toArray, List.set_cons_zero, List.set_cons_succ]
    apply Flow.d 19 _ rfl (by simp) (by kernel_rfl)
    · intro w1 hk; unfold does; go_simp; (try go_ints); exact DetR.mk
    simp only [List.getElem_toArray, List.getElem_cons_zero, List.getElem_cons_succ, Act.put, List.setIfInBounds_toArray, List.set_cons_zero, List.set_cons_succ]
    apply Flow.d 20 _ rfl (by simp) (by kernel_rfl)
    · intro w1 hk; unfold does; go_simp; (try go_ints); exact DetR.mk
    simp only [List.getElem_toArray, List.getElem_cons_zero, List.getElem_cons_succ, Act.put, List.setIfInBounds_toArray, List.set_cons_zero, List.set_cons_succ]
    refine Flow.one 21 _ rfl (by kernel_rfl) (fun _ w' => RnMid w' n0 sb (.slice (some ⟨g, 0, none⟩) s.vars.length cap) (.slice at' (s.things.length + 1) ct') (.slice ap (s.places.length + 1) cp) (.slice at' (s.things.length + 1) ct') (.slice ap (s.places.length + 1) cp) { s with things := s.things ++ [.none], places := s.places ++ [k] }) (fun _ _ _ h y => h.ext y) ?_ ?_
    · rintro wa hM hk
      have z1 := hM.blk.av 2 rfl
      have f1 := hM.blk.free 2
      have hM2 := hM.setp
      have hk3 : Keep (fun q => ((Value.slice ta s.things.length tc).ownBlock = some q ∨ (Value.slice pa s.places.length pc).ownBlock = some q) ∨ q = sb) W2 (wa.setCell ⟨sb, 2, none⟩ (.slice ap (s.places.length + 1) cp)) := hk.trans (Keep.set (X := fun q => ((Value.slice ta s.things.length tc).ownBlock = some q ∨ (Value.slice pa s.places.length pc).ownBlock = some q) ∨ q = sb) (Keep.refl _ _) (.inr rfl) _)
      clear hk
      unfold does
      go_simp
      exact ⟨hk3, hM2⟩
    rintro _ ⟨_, _⟩
    simp only [List.getElem_toArray, List.getElem_cons_zero, List.getElem_cons_succ, Act.put, List.setIfInBounds_toArray, List.set_cons_zero, List.set_cons_succ]
    refine Flow.fin (by kernel_rfl) fun w9 hM9 hk9 => ?_
    have HR9 := hid hM9.at
    have HB9 := hid (HB2.out.keep hk9 HNb2.out)
    have HW9 := hid ((HW2.out.old n0).trans (hk9.mono HYo.out))
    have d0 := HR9.out.blk.kc (X := fun _ => False) (fun e => e) 0 rfl
    have d1 := HR9.out.blk.kc (X := fun _ => False) (fun e => e) 1 rfl
    have m1' := HB9.out.kc (X := fun _ => False) (fun e => e) 1 rfl
    simp only [scells, List.getElem_toArray, List.getElem_cons_zero, List.getElem_cons_succ] at d0 d1 m1'
    rw [HXe.out] at m1'
    clear hM9 hk9 m1 e1 e2
    go_wp2
    refine wp_flowT (fun _ => False) (by kernel_rfl) (by kernel_rfl) ?_
    repeat (apply FlowT.d; (intro w1 hk; unfold does; go_simp; (try go_ints); (first | exact DetR.mk | (simp only [↓IntWalk.iteOmega, Oper.doesUpon_value]; exact DetR.mk) | (simp only [↓IntWalk.iteOmega]; go_simp; (try go_ints); exact DetR.mk))); simp only [Act.put, List.setIfInBounds_toArray, List.set_cons_zero, List.set_cons_succ])
    refine FlowT.last (fun _ w' => ∃ w2, Ext w9 w2 ∧ w' = store2 w2 g (X * 2) (.thing s.things.length)) 14 rfl (by kernel_rfl) (by kernel_rfl) (fun w2 hx hk => ?_) (fun _ w4 hR4 => ?_)
    · have hV : w2.ownsRow n0 57 2 (.slice (some ⟨g, 0, none⟩) s.vars.length cap) s.vars.length (s.vars.flatMap Vl.cells) := (HR9.out.ext hx).vars
      obtain ⟨q0, q1⟩ := own_v hV (at_some HX.out)
      have f0 := own_free hV (X * 2)
      have f1 := own_free hV (X * 2 + 1)
      unfold does
      go_simp
      exact ⟨w2, hx, rfl⟩
    obtain ⟨w2, hx2, rfl⟩ := hR4
    simp only [Act.put]
    have HS : Hid (s.stmt P k x = { s with vars := s.vars.set X (.thing s.things.length), things := s.things ++ [.none], places := s.places ++ [k] }) := hid (by
      unfold Rn.stmt; rw [isK_ne Hkx.out (k' := kAddr) rfl, isK_ne Hkx.out (k' := kCopy) rfl, isK_ne Hkx.out (k' := kLoad) rfl, isK_ne Hkx.out (k' := kStore) rfl, Hkx.out]; simp only [cond_true, cond_false, Rn.set, HXe.out, Int.toNat_natCast])
    have HR10 := hid ((HR9.out.ext hx2).putV X HX.out (.thing s.things.length))
    have HO := hid ((HW9.out.trans (hx2.old n0)).trans (store2_old (y := .thing s.things.length) (i := X * 2) (HR9.out.vlo (b := g) rfl)))
    clear hx2
    go_wp2
    go_end0
    exact ⟨rfl, ⟨_, _, _, by rw [HS.out]; exact HR10.out⟩, HO.out⟩
end Go.Proofs.YtoaoienfggjepaaGreatDoor

