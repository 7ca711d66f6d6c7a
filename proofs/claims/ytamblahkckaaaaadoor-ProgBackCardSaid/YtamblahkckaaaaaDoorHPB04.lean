/- Texts of one proof, put together: U7 MP L1 LM L3 L7 U8. -/
import Derived.Test.YtamblahkckaaaaaDoorHPB01
import Derived.Test.YtamblahkckaaaaaDoorHPB02
import Derived.Test.YtamblahkckaaaaaDoorHPB03
import Derived.MapKept
import Derived.Maps.OwnSet
import Derived.Lib.SliceRun
import Derived.Carry
import Derived.Maps.AppendAt
set_option linter.unusedSimpArgs false
set_option linter.unusedVariables false
namespace Go.Proofs.YtamblahkckaaaaaDoor
open Go Go.RowKit
theorem add_posU (a : Addr) (j : Nat) (h : j ≠ 0) : a.add j = ⟨a.block, a.off + j, none⟩ := by simp [Addr.add, h]
def bad9 (f : PF) : Bool := decide (3 < f.params.length)
def PP.bad2 (P : PP) (f : PF) : Bool := !P.allV f.params || !P.inV f.ret
def bad7 (f : PF) : Bool := dupI f.params
def PP.funsErr (P : PP) : Nat := bif P.funs.any bad9 then 9 else bif P.funs.any P.bad2 then 2 else bif P.funs.any bad7 then 7 else 0
theorem any_at {α : Type} {l : List α} {p : α → Bool} {k : Nat} {x : α} (hx : l[k]? = some x) (hp : p x = true) : l.any p = true := List.any_eq_true.2 ⟨x, List.mem_of_getElem? hx, hp⟩
theorem any_no {α : Type} {l : List α} {p : α → Bool} (h : ∀ j x, j < l.length → l[j]? = some x → p x = false) : l.any p = false :=
  List.any_eq_false.2 fun x hx => by
    obtain ⟨j, hj⟩ := List.getElem?_of_mem hx
    have h3 : j < l.length := by
      rcases Nat.lt_or_ge j l.length with h | h
      · exact h
      · rw [List.getElem?_eq_none h] at hj; cases hj
    simp [h j x h3 hj]
theorem all_step {α : Type} {l : List α} {p : α → Bool} {k : Nat} {x : α} (hne : ∀ j t, j < k → l[j]? = some t → p t = false) (hx : l[k]? = some x) (hp : p x = false) : ∀ j t, j < k + 1 → l[j]? = some t → p t = false := fun j t hj ht => by
  by_cases hjk : j = k
  · subst hjk
    obtain rfl := Option.some.inj (hx.symm.trans ht)
    exact hp
  · exact hne j t (by omega) ht
theorem FunsR.at {w : World} {n0 : Nat} {a : Option Addr} {n cap : Nat} {l : List PF} (h : FunsR w n0 (.slice a n cap) l) {k : Nat} (hk : k < l.length) : ∃ (y : Addr) (f : PF) (av : Option Addr) (cv : Nat), a = some y ∧ l[k]? = some f ∧ w.cell? (y.add (k * 3)) = some (.string f.name) ∧ w.cell? ⟨(y.add (k * 3)).block, (y.add (k * 3)).off + 1, none⟩ = some (.slice av f.params.length cv) ∧ w.cell? ⟨(y.add (k * 3)).block, (y.add (k * 3)).off + 2, none⟩ = some (.int .i64 f.ret) ∧ IntsR w n0 (.slice av f.params.length cv) f.params := by
  obtain ⟨a', cap', h1, _, _, h4, h5⟩ := h
  obtain ⟨rfl, rfl, rfl⟩ : a = a' ∧ n = l.length ∧ cap = cap' := by simpa using h1
  obtain ⟨y, hy⟩ := h4 (by omega)
  obtain ⟨pv, e0, e1, e2, e3⟩ := (h5 y hy (by omega)).2 k hk (l[k]'hk) (List.getElem?_eq_getElem hk)
  obtain ⟨av, cv, rfl, _⟩ := id e3
  rw [add_posU _ _ (by decide)] at e1 e2
  exact ⟨y, _, av, cv, hy, List.getElem?_eq_getElem hk, e0, e1, e2, e3⟩
theorem StmtsR.at {w : World} {n0 : Nat} {a : Option Addr} {n cap : Nat} {l : List PS} (h : StmtsR w n0 (.slice a n cap) l) {k : Nat} (hk : k < l.length) : ∃ (y : Addr) (s : PS) (av : Option Addr) (cv : Nat), a = some y ∧ l[k]? = some s ∧ w.cell? (y.add (k * 4)) = some (.string s.kind) ∧ w.cell? ⟨(y.add (k * 4)).block, (y.add (k * 4)).off + 1, none⟩ = some (.int .i64 s.x) ∧ w.cell? ⟨(y.add (k * 4)).block, (y.add (k * 4)).off + 2, none⟩ = some (.int .i64 s.y) ∧ w.cell? ⟨(y.add (k * 4)).block, (y.add (k * 4)).off + 3, none⟩ = some (.slice av s.args.length cv) ∧ IntsR w n0 (.slice av s.args.length cv) s.args := by
  obtain ⟨a', cap', h1, _, _, h4, h5⟩ := h
  obtain ⟨rfl, rfl, rfl⟩ : a = a' ∧ n = l.length ∧ cap = cap' := by simpa using h1
  obtain ⟨y, hy⟩ := h4 (by omega)
  obtain ⟨pv, e0, e1, e2, e3, e4⟩ := (h5 y hy (by omega)).2 k hk (l[k]'hk) (List.getElem?_eq_getElem hk)
  obtain ⟨av, cv, rfl, _⟩ := id e4
  rw [add_posU _ _ (by decide)] at e1 e2 e3
  exact ⟨y, _, av, cv, hy, List.getElem?_eq_getElem hk, e0, e1, e2, e3, e4⟩
theorem FunsR.len {w : World} {n0 : Nat} {a : Option Addr} {n cap : Nat} {l : List PF} (h : FunsR w n0 (.slice a n cap) l) : (l.length : Int) ≤ 9223372036854775807 := by
  obtain ⟨_, _, _, h2, h3, _⟩ := h
  omega
theorem StmtsR.len {w : World} {n0 : Nat} {a : Option Addr} {n cap : Nat} {l : List PS} (h : StmtsR w n0 (.slice a n cap) l) : (l.length : Int) ≤ 9223372036854775807 := by
  obtain ⟨_, _, _, h2, h3, _⟩ := h
  omega
set_option maxRecDepth 100000 in
set_option maxHeartbeats 6400000 in
theorem pfuns_any (a1 a2 a3 : Option Addr) (c1 c2 c3 : Nat) (P : PP) (w : World) (n0 : Nat) (ad : Nat → Addr) (hE : ErrsP w ad) (h : FunsR w n0 (.slice a2 P.funs.length c2) P.funs) :
    Calls Tryd.prog 18 #[pval a1 a2 a3 c1 c2 c3 P] w fun e w' => e = .returned (errv (evOf ad) P.funsErr) ∧ Ext w w' := by
  have HF := hid h
  have HE := hid hE
  have hml := h.len
  clear h hE
  obtain ⟨W, hW⟩ : ∃ W, W = w.alloc (.cells (pcells a1 a2 a3 c1 c2 c3 P) 26) := ⟨_, rfl⟩
  have HW : Hid (Ext w W) := hid (by rw [hW]; exact (Ext.refl _).alloc _)
  have HB : Hid (Blk W w.heap.size (pcells a1 a2 a3 c1 c2 c3 P) 26) := hid (by rw [hW]; exact Blk.new _ _ _)
  unfold pval
  unfold pcells at hW
  have HWe := hid hW
  clear hW
  go_enter Tryd.func18, Tryd.ntmps18
  go_wp2
  rw [← HWe.out]
  go_loopw [12] (fun t12 wr => ∃ k : Nat, t12 = .int .i64 (k : Int) ∧ k ≤ P.funs.length ∧ (∀ j f, j < k → P.funs[j]? = some f → bad9 f = false) ∧ Ext W wr) (fun t12 _ => P.funs.length - (intOf t12).toNat)
  case atStart => exact ⟨0, rfl, Nat.zero_le _, fun j t h => by omega, Ext.refl _⟩
  case round =>
    obtain ⟨k, rfl, hk, hne, hx⟩ := hrel
    have Hne := hid hne
    have Hx := hid hx
    clear hne hx
    by_cases hlt : k < P.funs.length
    · obtain ⟨y, f, av, cv, rfl, hfk, e0, e1, e2, _⟩ := (HF.out.old ((HW.out.trans Hx.out).old n0)).at hlt
      have Hfk := hid hfk
      clear hfk
      have g9 := (HE.out.ext ((HW.out.trans Hx.out).alloc (.cells #[.string f.name, .slice av f.params.length cv, .int .i64 f.ret] 43))).at9
      unfold evOf at g9
      by_cases hb : 3 < f.params.length
      · have Hb := hid (show bad9 f = true from decide_eq_true hb)
        have Hr := hid (show P.funsErr = 9 by unfold PP.funsErr; rw [any_at Hfk.out Hb.out]; rfl)
        go_wp2
        go_ret
        exact ⟨by rw [Hr.out]; rfl, HW.out.trans (Hx.out.alloc _)⟩
      · have Hb := hid (show bad9 f = false from decide_eq_false hb)
        go_wp2
        go_roundw
        case rel => exact ⟨k + 1, by go_num, by omega, all_step Hne.out Hfk.out Hb.out, Hx.out.alloc _⟩
        case measure => simp [intOf]; omega
    · obtain rfl : k = P.funs.length := by omega
      have H9 := hid (show P.funs.any bad9 = false from any_no Hne.out)
      clear Hne
      have d0 := (HB.out.ext Hx.out).av 0 rfl
      have d1 := (HB.out.ext Hx.out).av 1 rfl
      have d2 := (HB.out.ext Hx.out).av 2 rfl
      simp only [pcells, qA0, qA1, qA2] at d0 d1 d2
      go_wp2
      clear d0 d1 d2
      generalize wr = wA at *
      have HxA := Hx
      clear Hx
      go_loopw [25] (fun t25 wr => ∃ k : Nat, t25 = .int .i64 (k : Int) ∧ k ≤ P.funs.length ∧ (∀ j f, j < k → P.funs[j]? = some f → P.bad2 f = false) ∧ Ext W wr) (fun t25 _ => P.funs.length - (intOf t25).toNat)
      case atStart => exact ⟨0, rfl, Nat.zero_le _, fun j t h => by omega, HxA.out⟩
      case round =>
        obtain ⟨k, rfl, hk, hne, hx⟩ := hrel
        have Hne := hid hne
        have Hx := hid hx
        clear hne hx HxA
        have d0 := (HB.out.ext Hx.out).av 0 rfl
        have d1 := (HB.out.ext Hx.out).av 1 rfl
        have d2 := (HB.out.ext Hx.out).av 2 rfl
        simp only [pcells, qA0, qA1, qA2] at d0 d1 d2
        by_cases hlt : k < P.funs.length
        · obtain ⟨y, f, av, cv, rfl, hfk, e0, e1, e2, hI⟩ := (HF.out.old ((HW.out.trans Hx.out).old n0)).at hlt
          have Hfk := hid hfk
          obtain ⟨W3, hW3⟩ : ∃ W3, W3 = wr.alloc (.cells #[.string f.name, .slice av f.params.length cv, .int .i64 f.ret] 43) := ⟨_, rfl⟩
          have hx3 : Ext wr W3 := by rw [hW3]; exact (Ext.refl _).alloc _
          have HB3 : Hid (Blk W3 wr.heap.size #[.string f.name, .slice av f.params.length cv, .int .i64 f.ret] 43) := hid (by rw [hW3]; exact Blk.new _ _ _)
          have HV := hid (pvars_any a1 (some y) a3 c1 c2 c3 P _ f.params W3 n0 (hI.old (hx3.old n0)))
          unfold pval at HV
          have Hx3 := hid (Hx.out.trans hx3)
          have HW3 := hid hW3
          have q0 := (HB.out.ext Hx3.out).av 0 rfl
          have q1 := (HB.out.ext Hx3.out).av 1 rfl
          have q2 := (HB.out.ext Hx3.out).av 2 rfl
          simp only [pcells, qA0, qA1, qA2] at q0 q1 q2
          rw [hW3] at q0 q1 q2
          clear hfk hI hW3 hx3
          go_wp2_with fail
          rw [← HW3.out]
          refine HV.out.mono ?_
          intro e w4 hx4
          obtain ⟨rfl, hx4⟩ := hx4
          have Hx4 := hid (Hx3.out.trans hx4)
          have HB4 := hid (HB3.out.ext hx4)
          clear HV hx4 d0 d1 d2 q0 q1 q2
          have d0 := (HB.out.ext Hx4.out).av 0 rfl
          have d1 := (HB.out.ext Hx4.out).av 1 rfl
          have d2 := (HB.out.ext Hx4.out).av 2 rfl
          have m0 := HB4.out.av 0 rfl
          have m1 := HB4.out.av 1 rfl
          have m2 := HB4.out.av 2 rfl
          simp only [pcells, qA0, qA1, qA2] at d0 d1 d2 m0 m1 m2
          have g2 := (HE.out.ext (HW.out.trans Hx4.out)).at2
          unfold evOf at g2
          cases hA : P.allV f.params with
          | false =>
            have Hb := hid (show P.bad2 f = true by unfold PP.bad2; rw [hA]; rfl)
            have Hr := hid (show P.funsErr = 2 by unfold PP.funsErr; rw [H9.out, any_at Hfk.out Hb.out]; rfl)
            go_wp2
            go_ret
            exact ⟨by rw [Hr.out]; rfl, HW.out.trans Hx4.out⟩
          | true =>
            have HA := hid hA
            have HV2 := hid (pvars_one a1 (some y) a3 c1 c2 c3 P f.ret w4)
            clear hA g2
            go_wp2_with fail
            refine HV2.out.mono ?_
            intro e w5 hx5
            obtain ⟨rfl, hx5⟩ := hx5
            have Hx5 := hid (Hx4.out.trans hx5)
            have g2 := (HE.out.ext (HW.out.trans Hx5.out)).at2
            unfold evOf at g2
            clear HV2 hx5 d0 d1 d2 m0 m1 m2
            cases hA2 : P.inV f.ret with
            | false =>
              have Hb := hid (show P.bad2 f = true by unfold PP.bad2; rw [hA2]; simp)
              have Hr := hid (show P.funsErr = 2 by unfold PP.funsErr; rw [H9.out, any_at Hfk.out Hb.out]; rfl)
              go_wp2
              go_ret
              exact ⟨by rw [Hr.out]; rfl, HW.out.trans Hx5.out⟩
            | true =>
              have Hb := hid (show P.bad2 f = false by unfold PP.bad2; rw [HA.out, hA2]; rfl)
              clear hA2 g2
              go_wp2
              go_roundw
              case rel => exact ⟨k + 1, by go_num, by omega, all_step Hne.out Hfk.out Hb.out, Hx5.out⟩
              case measure => simp [intOf]; omega
        · obtain rfl : k = P.funs.length := by omega
          have H2 := hid (show P.funs.any P.bad2 = false from any_no Hne.out)
          clear Hne
          go_wp2
          clear d0 d1 d2
          generalize wr = wA at *
          have HxA := Hx
          clear Hx
          go_loopw [47] (fun t47 wr => ∃ k : Nat, t47 = .int .i64 (k : Int) ∧ k ≤ P.funs.length ∧ (∀ j f, j < k → P.funs[j]? = some f → bad7 f = false) ∧ Ext W wr) (fun t47 _ => P.funs.length - (intOf t47).toNat)
          case atStart => exact ⟨0, rfl, Nat.zero_le _, fun j t h => by omega, HxA.out⟩
          case round =>
            obtain ⟨k, rfl, hk, hne, hx⟩ := hrel
            have Hne := hid hne
            have Hx := hid hx
            clear hne hx HxA
            by_cases hlt : k < P.funs.length
            · obtain ⟨y, f, av, cv, rfl, hfk, e0, e1, e2, hI⟩ := (HF.out.old ((HW.out.trans Hx.out).old n0)).at hlt
              have Hfk := hid hfk
              have HT := hid (twice_any _ f.params (wr.alloc (.cells #[.string f.name, .slice av f.params.length cv, .int .i64 f.ret] 43)) n0 (hI.old (((Ext.refl wr).alloc _).old n0)))
              have g7 := (HE.out.ext ((HW.out.trans Hx.out).alloc (.cells #[.string f.name, .slice av f.params.length cv, .int .i64 f.ret] 43))).at7
              unfold evOf at g7
              clear hfk hI
              go_wp2_with fail
              refine HT.out.mono ?_
              intro e w2 hx2
              obtain ⟨rfl, rfl⟩ := hx2
              clear HT
              cases hb : dupI f.params with
              | true =>
                have Hb := hid (show bad7 f = true from hb)
                clear hb
                have Hr := hid (show P.funsErr = 7 by unfold PP.funsErr; rw [H9.out, H2.out, any_at Hfk.out Hb.out]; rfl)
                go_wp2
                go_ret
                exact ⟨by rw [Hr.out]; rfl, HW.out.trans (Hx.out.alloc _)⟩
              | false =>
                have Hb := hid (show bad7 f = false from hb)
                clear hb
                go_wp2
                go_roundw
                case rel => exact ⟨k + 1, by go_num, by omega, all_step Hne.out Hfk.out Hb.out, Hx.out.alloc _⟩
                case measure => simp [intOf]; omega
            · obtain rfl : k = P.funs.length := by omega
              have H7 := hid (show P.funs.any bad7 = false from any_no Hne.out)
              have Hr := hid (show P.funsErr = 0 by unfold PP.funsErr; rw [H9.out, H2.out, H7.out]; rfl)
              go_wp2
              go_ret
              exact ⟨by rw [Hr.out]; rfl, HW.out.trans Hx.out⟩
end Go.Proofs.YtamblahkckaaaaaDoor
namespace Go.Proofs.YtamblahkckaaaaaDoor
open Go Go.RowKit Go.MapKept
def MapAt (w : World) (b : Nat) (m : List (Int × Value)) : Prop := ∃ es clock, w.heap[b]? = some (.map es clock) ∧ es.toList.map (fun x => (x.key, x.val)) = m.map fun x => (Value.int .i64 x.1, x.2)
theorem MapAt.ext {w w' : World} {b : Nat} {m : List (Int × Value)} (h : MapAt w b m) (x : Ext w w') : MapAt w' b m := by
  obtain ⟨es, c, hb, he⟩ := h
  exact ⟨es, c, Ext.get x hb, he⟩
theorem MapAt.keep {X : Nat → Prop} {w w' : World} {b : Nat} {m : List (Int × Value)} (h : MapAt w b m) (x : Keep X w w') (hx : ¬ X b) : MapAt w' b m := by
  obtain ⟨es, c, hb, he⟩ := h
  exact ⟨es, c, Keep.get x hb hx, he⟩
theorem MapAt.lt {w : World} {b : Nat} {m : List (Int × Value)} (h : MapAt w b m) : b < w.heap.size := by
  obtain ⟨es, c, hb, he⟩ := h
  exact (Array.getElem?_eq_some_iff.1 hb).1
theorem MapAt.ne {w : World} {b g : Nat} {m : List (Int × Value)} (h : MapAt w b m) {c : Array Value} {e : TypeId} (hb : Blk w g c e) : g ≠ b := by
  rintro rfl
  obtain ⟨es, c, h1, _⟩ := h
  have := h1.symm.trans hb
  cases this
theorem MapAt.new (w : World) : MapAt (w.alloc (.map #[] 0)) w.heap.size [] := ⟨#[], 0, heap_alloc_new w _, rfl⟩
section
variable {P : Program} {w : World} {t kt et : TypeId} {b : Nat} {m : List (Int × Value)}
variable {ops : Array Oper} {Q : Exit → Act → World → Prop} {rest : List Oper} {o : Oper} {a : Act}
end
end Go.Proofs.YtamblahkckaaaaaDoor
namespace Go.Proofs.YtamblahkckaaaaaDoor
open Go Go.RowKit
section
variable {w : World} {base : Nat} {e : TypeId} {size g n cap : Nat} {xs : List Value}
theorem own_blk (h : w.ownsRow base e size (.slice (some ⟨g, 0, none⟩) n cap) n xs) : ∃ cur, Blk w g cur e ∧ base ≤ g ∧ n ≤ cap ∧ cap ≤ maxLen ∧ cur.size = cap * size ∧ cur.toList.take (n * size) = xs := by
  rcases h.2 with ⟨h1, _⟩ | ⟨g', cap', cur, h1, h2, h3, h4, h5, h6, h7⟩
  · cases h1
  · simp only [Value.slice.injEq, Option.some.injEq, Addr.mk.injEq, and_true] at h1
    obtain ⟨rfl, _, rfl⟩ := h1
    exact ⟨cur, h3, h2, h4, h5, h6, h7⟩
theorem own_of_blk {cur : Array Value} (hb : Blk w g cur e) (h2 : base ≤ g) (h4 : n ≤ cap) (h5 : cap ≤ maxLen) (h6 : cur.size = cap * size) (h7 : cur.toList.take (n * size) = xs) : w.ownsRow base e size (.slice (some ⟨g, 0, none⟩) n cap) n xs := by
  refine ⟨?_, .inr ⟨g, cap, cur, rfl, h2, hb, h4, h5, h6, h7⟩⟩
  rw [← h7, List.length_take, Array.length_toList, h6]
  exact Nat.min_eq_left (Nat.mul_le_mul_right _ h4)
theorem own_get (h : w.ownsRow base e size (.slice (some ⟨g, 0, none⟩) n cap) n xs) (i : Nat) {u : Value} (hu : xs[i]? = some u) : w.cell? ⟨g, i, none⟩ = some u := by
  have := h.cells (g := g) rfl i u hu
  rwa [show (⟨g, 0, none⟩ : Addr).add i = ⟨g, i, none⟩ from by by_cases h0 : i = 0 <;> simp [Addr.add, h0]] at this
theorem own_free (h : w.ownsRow base e size (.slice (some ⟨g, 0, none⟩) n cap) n xs) (i : Nat) : w.frozen? ⟨g, i, none⟩ = false := by
  obtain ⟨cur, hb, _⟩ := own_blk h
  exact hb.free i
theorem own_set (h : w.ownsRow base e size (.slice (some ⟨g, 0, none⟩) n cap) n xs) (i : Nat) (hi : i < xs.length) (v : Value) : (w.setCell ⟨g, i, none⟩ v).ownsRow base e size (.slice (some ⟨g, 0, none⟩) n cap) n (xs.set i v) := by
  obtain ⟨cur, hb, h2, h4, h5, h6, h7⟩ := own_blk h
  refine own_of_blk (hb.set i v) h2 h4 h5 (by simpa using h6) ?_
  rw [Array.toList_setIfInBounds, List.take_set, h7]
theorem row_form {v : Value} (h : w.ownsRow base e size v n xs) : ∃ a c, v = .slice a n c := by
  rcases h.2 with ⟨h2, h3⟩ | ⟨g, cap, cur, h2, _⟩
  · exact ⟨none, 0, by rw [h2, h3]⟩
  · exact ⟨_, _, h2⟩
theorem row_keep {w' : World} {v : Value} {X : Nat → Prop} (h : w.ownsRow base e size v n xs) (k : Keep X w w') (hx : ∀ i, v.ownBlock = some i → ¬ X i) : w'.ownsRow base e size v n xs := by
  obtain ⟨h1, h2⟩ := h
  refine ⟨h1, h2.imp id ?_⟩
  rintro ⟨g, cap, cur, rfl, hb, hg, h3⟩
  exact ⟨g, cap, cur, rfl, hb, Keep.get k hg (hx g rfl), h3⟩
theorem own_some {v : Value} (h : w.ownsRow base e size v n xs) (hn : 0 < n) : ∃ g cap, v = .slice (some ⟨g, 0, none⟩) n cap := by
  rcases h.2 with ⟨_, h1⟩ | ⟨g', cap', cur, h1, _⟩
  · omega
  · exact ⟨g', cap', h1⟩
theorem own_ty {v : Value} (h : w.ownsRow base e size v n xs) {k : Nat} (hk : v.ownBlock = some k) : ∃ c, Blk w k c e := by
  rcases h.2 with ⟨rfl, _⟩ | ⟨g, cap, cur, rfl, _, hg, _⟩
  · simp [Value.ownBlock] at hk
  · simp only [Value.ownBlock, Option.some.injEq] at hk
    subst hk
    exact ⟨cur, hg⟩
end
theorem Blk.inj {w : World} {b : Nat} {c c' : Array Value} {e e' : TypeId} (h : Blk w b c e) (h' : Blk w b c' e') : c = c' ∧ e = e' := by
  unfold Blk at h h'
  rw [h] at h'
  simp only [Option.some.injEq, Obj.cells.injEq, and_true] at h'
  exact h'
theorem Blk.ty_ne {w : World} {a b : Nat} {c c' : Array Value} {e e' : TypeId} (h : Blk w a c e) (h' : Blk w b c' e') (hne : e ≠ e') : a ≠ b := fun q => hne (by subst q; exact (h.inj h').2)
theorem fm_len {α : Type} (f : α → List Value) (m : Nat) (hf : ∀ x, (f x).length = m) (l : List α) : (l.flatMap f).length = l.length * m := by
  induction l with
  | nil => simp
  | cons x l ih => simp only [List.flatMap_cons, List.length_append, hf, ih, List.length_cons, Nat.add_mul]; omega
theorem fm_get {α : Type} (f : α → List Value) (m : Nat) (hf : ∀ x, (f x).length = m) : ∀ (l : List α) (i j : Nat) (x : α), l[i]? = some x → j < m → (l.flatMap f)[i * m + j]? = (f x)[j]?
  | [], i, j, x, h, _ => by simp at h
  | y :: l, 0, j, x, h, hj => by
    simp only [List.getElem?_cons_zero, Option.some.injEq] at h
    subst h
    rw [List.flatMap_cons, Nat.zero_mul, Nat.zero_add, List.getElem?_append_left (by rw [hf]; exact hj)]
  | y :: l, i + 1, j, x, h, hj => by
    have ih := fm_get f m hf l i j x (by simpa using h) hj
    rw [List.flatMap_cons, List.getElem?_append_right (by rw [hf, Nat.add_mul]; omega), hf, ← ih]
    congr 1
    rw [Nat.add_mul]; omega
theorem fm_take {α : Type} (f : α → List Value) (m : Nat) (hf : ∀ x, (f x).length = m) : ∀ (l : List α) (k : Nat), (l.flatMap f).take (k * m) = (l.take k).flatMap f
  | l, 0 => by simp
  | [], k + 1 => by simp
  | y :: l, k + 1 => by
    rw [List.take_succ_cons, List.flatMap_cons, List.flatMap_cons, List.take_append, hf, List.take_of_length_le (by rw [hf, Nat.add_mul]; omega), ← fm_take f m hf l k]
    congr 2
    rw [Nat.add_mul]; omega
theorem fm_drop {α : Type} (f : α → List Value) (m : Nat) (hf : ∀ x, (f x).length = m) : ∀ (l : List α) (k : Nat), (l.flatMap f).drop (k * m) = (l.drop k).flatMap f
  | l, 0 => by simp
  | [], k + 1 => by simp
  | y :: l, k + 1 => by
    rw [List.drop_succ_cons, List.flatMap_cons, List.drop_append, hf, List.drop_of_length_le (by rw [hf, Nat.add_mul]; omega), ← fm_drop f m hf l k, List.nil_append]
    congr 1
    rw [Nat.add_mul]; omega
def IsInt (w : World) (b : Nat) : Prop := ∃ c z, w.heap[b]? = some (.cells c 3 z)
theorem IsInt.keep {X : Nat → Prop} {w w' : World} {b : Nat} (h : IsInt w b) (k : Keep X w w') (hx : ¬ X b) : IsInt w' b := by
  obtain ⟨c, z, h⟩ := h
  exact ⟨c, z, Keep.get k h hx⟩
theorem IsInt.not {w : World} {b : Nat} {c : Array Value} {e : TypeId} (h : Blk w b c e) (hne : e ≠ 3) : ¬ IsInt w b := by
  rintro ⟨c', z, h'⟩
  unfold Blk at h
  rw [h] at h'
  simp only [Option.some.injEq, Obj.cells.injEq] at h'
  exact hne h'.2.1
structure NumsAt (w : World) (n0 : Nat) (t : Option Nat) (v : Value) (l : List Int) : Prop where
  form : ∃ a cap, v = .slice a l.length cap ∧ Ints w a l.length l ∧ ∀ x, a = some x → 0 < l.length → x.block < n0 ∨ (IsInt w x.block ∧ t ≠ some x.block)
def Wr (w : World) (n0 : Nat) (t : Option Nat) (X : Nat → Prop) : Prop := ∀ b, X b → b < w.heap.size → n0 ≤ b ∧ (IsInt w b → t = some b)
theorem Ints.keep {X : Nat → Prop} {w w' : World} {a : Option Addr} {len : Nat} {vs : List Int} (h : Ints w a len vs) (k : Keep X w w') (hx : ∀ x, a = some x → 0 < len → ¬ X x.block) : Ints w' a len vs :=
  ⟨h.ln, h.sm, fun y hy i hi => k.cellx (h.cl y hy i hi) (by rw [add_block]; exact hx y hy (by omega)), h.hi⟩
theorem Ints.blt {w : World} {a : Option Addr} {len : Nat} {vs : List Int} (h : Ints w a len vs) {x : Addr} (hx : a = some x) (hl : 0 < len) : x.block < w.heap.size := by
  have := cell_lt (h.cl x hx 0 hl)
  rwa [add_block] at this
section
variable {w w' : World} {n0 : Nat} {t : Option Nat} {v : Value} {l : List Int}
theorem NumsAt.keep {X : Nat → Prop} (h : NumsAt w n0 t v l) (k : Keep X w w') (hx : Wr w n0 t X) : NumsAt w' n0 t v l := by
  obtain ⟨a, cap, rfl, hi, hb⟩ := h
  have hne : ∀ x, a = some x → 0 < l.length → ¬ X x.block := fun x hx' hl hX => by
    obtain ⟨h1, h2⟩ := hx _ hX (hi.blt hx' hl)
    rcases hb x hx' hl with h3 | h3
    · omega
    · exact h3.2 (h2 h3.1)
  exact ⟨a, cap, rfl, hi.keep k hne, fun x hx' hl => (hb x hx' hl).imp id fun h => ⟨h.1.keep k (hne x hx' hl), h.2⟩⟩
theorem Wr.none {w : World} {n0 : Nat} {t : Option Nat} : Wr w n0 t fun _ => False := fun _ h => h.elim
theorem NumsAt.ext (h : NumsAt w n0 t v l) (x : Ext w w') : NumsAt w' n0 t v l := h.keep (x.keep fun _ => False) Wr.none
theorem NumsAt.turn (h : NumsAt w n0 t v l) {t' : Option Nat} (ht : ∀ b, t' = some b → t = some b ∨ w.heap.size ≤ b) : NumsAt w n0 t' v l := by
  obtain ⟨a, cap, rfl, hi, hb⟩ := h
  refine ⟨a, cap, rfl, hi, fun x hx hl => (hb x hx hl).imp id fun h => ⟨h.1, fun e => ?_⟩⟩
  rcases ht _ e with h1 | h1
  · exact h.2 h1
  · have := hi.blt hx hl; omega
theorem NumsAt.of_row {base : Nat} (h : IRow base w v l) (hi : ∀ i, l.getD i 0 ≤ 9223372036854775807) (ht : ∀ b, v.ownBlock = some b → t ≠ some b) : NumsAt w n0 t v l := by
  obtain ⟨a, cap, rfl⟩ := h.form
  refine ⟨a, cap, rfl, h.ints hi, fun x hx hl => .inr ⟨?_, ht _ (by subst hx; rfl)⟩⟩
  subst hx
  obtain ⟨c, hc⟩ := own_ty (show w.ownsRow base 3 1 _ l.length (icells l) from h) (k := x.block) rfl
  exact ⟨c, _, hc⟩
theorem NumsAt.hi (h : NumsAt w n0 t v l) : ∀ i, l.getD i 0 ≤ 9223372036854775807 := by
  obtain ⟨a, cap, rfl, hi, hb⟩ := h
  exact hi.hi
end
structure FV where
  f : Fr
  v : Value
def FV.cells (x : FV) : List Value := [.int .u8 (x.f.kind.toNat : Int), .int .i64 x.f.fr, .int .i64 x.f.to, .int .i64 x.f.seq, x.v]
def FV.val (x : FV) : Value := .agg #[.int .u8 (x.f.kind.toNat : Int), .int .i64 x.f.fr, .int .i64 x.f.to, .int .i64 x.f.seq, x.v]
def FV.At (w : World) (n0 : Nat) (t : Option Nat) (x : FV) : Prop := NumsAt w n0 t x.v x.f.nums
theorem FV.cells_len (x : FV) : x.cells.length = 5 := rfl
theorem FV.At.form {w : World} {n0 : Nat} {t : Option Nat} {x : FV} (h : x.At w n0 t) : ∃ a cap, x.val = frv x.f a cap ∧ x.v = .slice a x.f.nums.length cap ∧ Ints w a x.f.nums.length x.f.nums := by
  obtain ⟨a, cap, hv, hi, _⟩ := NumsAt.form h
  exact ⟨a, cap, by unfold FV.val frv; rw [hv], hv, hi⟩
structure FRow (w : World) (n0 : Nat) (t : Option Nat) (base : Nat) (e : TypeId) (v : Value) (fs : List FV) : Prop where
  row : w.ownsRow base e 5 v fs.length (fs.flatMap FV.cells)
  nums : ∀ x ∈ fs, x.At w n0 t
theorem FRow.nil (w : World) (n0 : Nat) (t : Option Nat) (base : Nat) (e : TypeId) : FRow w n0 t base e (.slice none 0 0) [] := ⟨World.ownsRow_nil _ _ _ _, fun _ h => by cases h⟩
theorem FRow.keep {w w' : World} {n0 : Nat} {t : Option Nat} {base : Nat} {e : TypeId} {v : Value} {fs : List FV} {X : Nat → Prop} (h : FRow w n0 t base e v fs) (k : Keep X w w') (hx : Wr w n0 t X) (hr : ∀ b, v.ownBlock = some b → ¬ X b) : FRow w' n0 t base e v fs :=
  ⟨row_keep h.row k hr, fun x hm => NumsAt.keep (h.nums x hm) k hx⟩
theorem FRow.ext {w w' : World} {n0 : Nat} {t : Option Nat} {base : Nat} {e : TypeId} {v : Value} {fs : List FV} (h : FRow w n0 t base e v fs) (x : Ext w w') : FRow w' n0 t base e v fs := h.keep (x.keep fun _ => False) Wr.none fun _ _ h => h
theorem FRow.form {w : World} {n0 : Nat} {t : Option Nat} {base : Nat} {e : TypeId} {v : Value} {fs : List FV} (h : FRow w n0 t base e v fs) : ∃ a cap, v = .slice a fs.length cap := row_form h.row
end Go.Proofs.YtamblahkckaaaaaDoor
namespace Go.Proofs.YtamblahkckaaaaaDoor
structure Snd where
  fr : Int
  to : Int
  next : Int
  now : Int
  l : List (Fr × Int)
namespace Snd
def new (fr to : Int) : Snd := ⟨fr, to, 0, 0, []⟩
def frame (s : Snd) (kind : UInt8) (nums : List Int) : Fr := ⟨kind, s.fr, s.to, s.next, nums⟩
def err (s : Snd) (kind : UInt8) (nums : List Int) : Nat := if (s.frame kind nums).code ≠ 0 then (s.frame kind nums).code else if kind = 97 then 4 else if 200 ≤ s.l.length then 8 else 0
def sent (s : Snd) (kind : UInt8) (nums : List Int) : Snd := { s with next := s.next + 1, l := s.l ++ [(s.frame kind nums, s.now)] }
def late (s : Snd) (k : Fr × Int) : Bool := decide (s.now + 1 - k.2 = 3)
def stamp (s : Snd) (k : Fr × Int) : Fr × Int := if s.late k then (k.1, s.now + 1) else k
def tick (s : Snd) : Snd := { s with now := s.now + 1, l := s.l.map s.stamp }
def again (s : Snd) : List Fr := (s.l.filter s.late).map (·.1)
structure Ok (s : Snd) (m : Nat) : Prop where
  next : 0 ≤ s.next ∧ s.next ≤ m
  now : 0 ≤ s.now ∧ s.now ≤ m
  at_ : ∀ k ∈ s.l, 0 ≤ k.2 ∧ k.2 ≤ s.now
  len : s.l.length ≤ 200
theorem Ok.new (fr to : Int) : (new fr to).Ok 0 := ⟨by simp [Snd.new], by simp [Snd.new], by simp [Snd.new], by simp [Snd.new]⟩
theorem Ok.mono {s : Snd} {m k : Nat} (h : s.Ok m) (hk : m ≤ k) : s.Ok k := ⟨by have := h.next; omega, by have := h.now; omega, h.at_, h.len⟩
theorem Ok.sent {s : Snd} {m : Nat} (h : s.Ok m) {kind : UInt8} {nums : List Int} (hl : s.l.length < 200) : (s.sent kind nums).Ok (m + 1) := by
  have h1 := h.next
  have h2 := h.now
  refine ⟨by simp only [Snd.sent]; omega, by simp only [Snd.sent]; omega, fun k hk => ?_, by simp only [Snd.sent, List.length_append, List.length_cons, List.length_nil]; omega⟩
  simp only [Snd.sent, List.mem_append, List.mem_singleton] at hk ⊢
  rcases hk with hk | rfl
  · exact h.at_ k hk
  · exact ⟨h2.1, Int.le_refl _⟩
theorem Ok.tick {s : Snd} {m : Nat} (h : s.Ok m) : s.tick.Ok (m + 1) := by
  have h1 := h.next
  have h2 := h.now
  refine ⟨by simp only [Snd.tick]; omega, by simp only [Snd.tick]; omega, fun k hk => ?_, by simpa [Snd.tick] using h.len⟩
  simp only [Snd.tick, List.mem_map] at hk ⊢
  obtain ⟨x, hx, rfl⟩ := hk
  have := h.at_ x hx
  unfold stamp
  split
  · simp only; omega
  · omega
end Snd
structure Rcv where
  fr : Int
  to : Int
  due : Int
  wait : List Fr
namespace Rcv
def new (fr to : Int) : Rcv := ⟨fr, to, 0, []⟩
def find (l : List Fr) (q : Int) : Option Nat := l.findIdx? fun f => decide (f.seq = q)
def run : Nat → Rcv → List Fr → List Fr × Rcv
  | 0, r, out => (out, r)
  | n + 1, r, out => match find r.wait r.due with
    | none => (out, r)
    | some k => run n { r with due := r.due + 1, wait := r.wait.eraseIdx k } (out ++ (r.wait[k]?).toList)
def err (r : Rcv) (f : Fr) : Nat := if f.code ≠ 0 then f.code else if f.fr ≠ r.fr ∨ f.to ≠ r.to ∨ f.kind = 97 then 3 else 0
def took (r : Rcv) (f : Fr) : List Fr × Rcv :=
  if f.seq < r.due ∨ (find r.wait f.seq).isSome then ([], r)
  else if r.due < f.seq then ([], if r.wait.length < 8 then { r with wait := r.wait ++ [f] } else r)
  else run (r.wait.length + 1) { r with due := r.due + 1 } [f]
def take (r : Rcv) (f : Fr) : List Fr × Rcv := if r.err f = 0 then r.took f else ([], r)
end Rcv
end Go.Proofs.YtamblahkckaaaaaDoor
namespace Go.Proofs.YtamblahkckaaaaaDoor
open Go Go.RowKit
section
variable {w : World} {n0 : Nat} {t : Option Nat}
theorem Wr.blk {b : Nat} {c : Array Value} {e : TypeId} (hb : Blk w b c e) (hne : e ≠ 3) (hl : n0 ≤ b) : Wr w n0 t fun k => k = b :=
  fun k hk _ => ⟨by omega, fun hi => absurd hi (by subst hk; exact IsInt.not hb hne)⟩
theorem Wr.or {X Y : Nat → Prop} (h1 : Wr w n0 t X) (h2 : Wr w n0 t Y) : Wr w n0 t fun b => X b ∨ Y b := fun b hb hl => hb.elim (fun h => h1 b h hl) fun h => h2 b h hl
theorem Wr.row {v : Value} {e : TypeId} {size n : Nat} {xs : List Value} (h : w.ownsRow n0 e size v n xs) (hne : e ≠ 3) : Wr w n0 t fun k => v.ownBlock = some k :=
  fun k hk _ => ⟨(World.ownsRow.lt h k hk).1, fun hi => by
    obtain ⟨c, hc⟩ := own_ty h hk
    exact absurd hi (IsInt.not hc hne)⟩
theorem Wr.sub {X Y : Nat → Prop} (h : Wr w n0 t Y) (hx : ∀ b, X b → b < w.heap.size → Y b) : Wr w n0 t X := fun b hb hl => h b (hx b hb hl) hl
end
theorem wpList_append_el {ops : Array Oper} {Q : Exit → Act → World → Prop} {rest : List Oper} {o : Oper} {a : Act} {w : World} (base : Nat) (hbase : base ≤ w.heap.size) (t e : TypeId) (z : Value) (size bytes : Nat) (ht : Tryd.prog.underlying t = some (.slice e)) (hinf : (Tryd.prog.info? e).map (fun i => (i.zero, i.size, i.bytes)) = some (some z, size, bytes)) (hz1 : z.cells.size = size) (hsz : 0 < size)
    (hb8 : bytes ≤ 64) (hg : o.guard = none) (s x : Operand) (ho : o.op = .call { callee := .builtin .append, args := #[s, x], argTypes := #[t, t] })
    (v : Value) (n : Nat) (xs : List Value) (hs : a.eval s = v) (hown : w.ownsRow base e size v n xs) (g : Nat) (us : List Value) (hul : us.length = size) (hu : ∀ u ∈ us, u.oneCell' = true) (hx : a.eval x = .slice (some ⟨g, 0, none⟩) 1 1) (hb : Blk w g us.toArray e) (hl : n ≤ 1000000)
    (h : ∀ v' w', w'.ownsRow base e size v' (n + 1) (xs ++ us) → Keep (fun k => v.ownBlock = some k) w w' → (v'.ownBlock = v.ownBlock ∨ v'.ownBlock = some w.heap.size) → wpList Tryd.prog ops Q rest (a.put o.dst v') w') : wpList Tryd.prog ops Q (o :: rest) a w := by
  obtain ⟨ti, hi, hz0, hz, hz2⟩ := info_parts hinf
  obtain ⟨v', w', hr, h2, h3, _, h4⟩ := run_append_own_at (P := Tryd.prog) w base t o.type e ti z size bytes ht hi hz0 hz hz2 hz1 hsz v n xs hown ⟨g, 0, none⟩ 1 1 us (by rw [hul]; omega) (fun j q hq => by
    rw [show (⟨g, 0, none⟩ : Addr).add j = ⟨g, j, none⟩ from by by_cases h0 : j = 0 <;> simp [Addr.add, h0], hb.cell j]
    simpa using hq) hu (by simp only [maxLen]; omega) (by
      have : (n + 1) * bytes ≤ (n + 1) * 64 := Nat.mul_le_mul_left _ hb8
      omega) hbase
  refine wpList_plain hg fun K hK => ?_
  unfold Oper.wp
  rw [run_exec_append s x t ho hs hx hr]
  exact hK _ _ (h v' w' h2 (grown_keep h3) h4)
theorem own_low {w : World} {base b2 : Nat} {e : TypeId} {size : Nat} {v : Value} {n : Nat} {xs : List Value} (h : w.ownsRow base e size v n xs) (hb : b2 ≤ base) : w.ownsRow b2 e size v n xs := by
  obtain ⟨h1, h2⟩ := h
  refine ⟨h1, h2.imp id ?_⟩
  rintro ⟨g, cap, cur, rfl, hg, h3⟩
  exact ⟨g, cap, cur, rfl, Nat.le_trans hb hg, h3⟩
theorem str_info : (Tryd.prog.info? 9).map (fun i => (i.zero, i.size, i.bytes)) = some (some (.string ⟨#[]⟩), 1, 16) := by kernel_rfl
theorem ElR.own {w : World} {base n0 : Nat} {e : TypeId} {size : Nat} {v : Value} {n : Nat} {xs : List Value} {E : Nat → Addr → Prop} (h : w.ownsRow base e size v n xs) (h0 : w.heap.size ≤ n0) (hE : ∀ g, (∀ i u, xs[i]? = some u → w.cell? ((⟨g, 0, none⟩ : Addr).add i) = some u) → ∀ i, i < n → E i ⟨g, 0, none⟩) : ElR n0 v n E := by
  obtain ⟨hl, h2⟩ := id h
  rcases h2 with ⟨rfl, rfl⟩ | ⟨g, cap, cur, rfl, hb, hg, hn, hc, hs, _⟩
  · exact ⟨none, 0, rfl, Nat.le_refl _, by omega, fun h => by omega, fun y hy => by cases hy⟩
  · have hml : maxLen = 9223372036854775807 := by decide
    refine ⟨_, cap, rfl, hn, by omega, fun _ => ⟨_, rfl⟩, fun y hy hp => ?_⟩
    obtain rfl := Option.some.inj hy
    refine ⟨Nat.lt_of_lt_of_le (Array.getElem?_eq_some_iff.1 hg).1 h0, hE g fun i u hu => h.cells (g := g) rfl i u hu⟩
theorem StrsR.own {w : World} {base n0 : Nat} {e : TypeId} {v : Value} {l : List ByteArray} (h : w.ownsRow base e 1 v l.length (l.map .string)) (h0 : w.heap.size ≤ n0) : StrsR w n0 v l :=
  ElR.own h h0 fun g hc i hi s hs => hc i _ (by rw [List.getElem?_map, hs]; rfl)
theorem IntsR.own {w : World} {base n0 : Nat} {e : TypeId} {v : Value} {l : List Int} (h : w.ownsRow base e 1 v l.length (icells l)) (h0 : w.heap.size ≤ n0) : IntsR w n0 v l :=
  ElR.own h h0 fun g hc i hi s hs => hc i _ (by unfold icells; rw [List.getElem?_map, hs]; rfl)
set_option maxRecDepth 100000 in
set_option maxHeartbeats 3200000 in
theorem pfunnames_any (a1 a2 a3 : Option Addr) (c1 c2 c3 : Nat) (P : PP) (w : World) (n0 : Nat) (h : FunsR w n0 (.slice a2 P.funs.length c2) P.funs) (hl : P.funs.length ≤ 1000) :
    Calls Tryd.prog 16 #[pval a1 a2 a3 c1 c2 c3 P] w fun e w' => ∃ v, e = .returned v ∧ w'.ownsRow w.heap.size 9 1 v P.funs.length ((P.funs.map PF.name).map .string) ∧ Ext w w' := by
  have HF := hid h
  clear h
  obtain ⟨W, hW⟩ : ∃ W, W = w.alloc (.cells (pcells a1 a2 a3 c1 c2 c3 P) 26) := ⟨_, rfl⟩
  have HW : Hid (Ext w W) := hid (by rw [hW]; exact (Ext.refl _).alloc _)
  have HB : Hid (Blk W w.heap.size (pcells a1 a2 a3 c1 c2 c3 P) 26) := hid (by rw [hW]; exact Blk.new _ _ _)
  unfold pval
  unfold pcells at hW
  have HWe := hid hW
  clear hW
  go_enter Tryd.func16, Tryd.ntmps16
  go_wp2
  rw [← HWe.out]
  go_loopw [3, 9] (fun t3 t9 wr => ∃ (k : Nat), t9 = .int .i64 (k : Int) ∧ k ≤ P.funs.length ∧ wr.ownsRow W.heap.size 9 1 t3 k (((P.funs.take k).map PF.name).map .string) ∧ Ext W wr) (fun _ t9 _ => P.funs.length - (intOf t9).toNat)
  case atStart => exact ⟨0, rfl, Nat.zero_le _, World.ownsRow_nil _ _ _ _, Ext.refl _⟩
  case round =>
    obtain ⟨k, rfl, hk, hrow, hx⟩ := hrel
    obtain ⟨ao, co, rfl⟩ := row_form hrow
    have Hrow := hid hrow
    have Hx := hid hx
    clear hrow hx
    by_cases hlt : k < P.funs.length
    · obtain ⟨y, f, av, cv, rfl, hfk, e0, e1, e2, _⟩ := (HF.out.old ((HW.out.trans Hx.out).old n0)).at hlt
      have Hfk := hid hfk
      obtain ⟨W2, hW2⟩ : ∃ W2, W2 = (wr.alloc (.cells #[.string f.name, .slice av f.params.length cv, .int .i64 f.ret] 43)).alloc (.cells #[.string f.name] 9) := ⟨_, rfl⟩
      have hx2 : Ext wr W2 := by rw [hW2]; exact ((Ext.refl _).alloc _).alloc _
      have HB2 : Hid (Blk W2 (wr.heap.size + 1) #[.string f.name] 9) := hid (by
        rw [hW2]
        have := Blk.new (wr.alloc (.cells #[.string f.name, .slice av f.params.length cv, .int .i64 f.ret] 43)) #[.string f.name] 9
        rwa [heap_size_alloc] at this)
      have Hq := hid (row_keep Hrow.out (hx2.keep fun _ => False) (fun _ _ h => h))
      have Hxw := hid (Hx.out.trans hx2)
      have Hbs : Hid (W.heap.size ≤ W2.heap.size) := hid Hxw.out.size
      have Hol : Hid (k ≤ 1000000) := hid (by omega)
      have HW2 := hid hW2
      clear hW2 hx2 hfk
      go_wp2_with (at_builtin; rw [← HW2.out]; refine wpList_append_el W.heap.size Hbs.out 22 9 (.string ⟨#[]⟩) 1 16 Tryd.underlying22 str_info rfl (by omega) (by omega) rfl _ _ rfl (.slice ao k co) k (((P.funs.take k).map PF.name).map .string) rfl Hq.out (wr.heap.size + 1) [.string f.name] rfl (by simp [Value.oneCell']) rfl HB2.out Hol.out ?_; intro v6 w6 ho6 hk6 hl6)
      go_roundw
      case rel =>
        refine ⟨k + 1, by go_num, by omega, ?_, ?_⟩
        · rw [List.take_add_one, Hfk.out]
          simpa using ho6
        · exact Keep.new Hxw.out hk6 fun b hb => (World.ownsRow.lt Hq.out b hb).1
      case measure => simp [intOf]; omega
    · obtain rfl : k = P.funs.length := by omega
      have Hr := hid (show wr.ownsRow w.heap.size 9 1 (.slice ao P.funs.length co) P.funs.length ((P.funs.map PF.name).map .string) by
        have := Hrow.out
        rw [List.take_length] at this
        exact own_low this HW.out.size)
      clear Hrow
      go_wp2
      go_ret
      exact ⟨_, rfl, Hr.out, HW.out.trans Hx.out⟩
end Go.Proofs.YtamblahkckaaaaaDoor
